/- The functions that this seat's laws reach, for the clean machine; each is what the translation makes of the given text. Conditions: none. Printed by program. -/
import Derived.Test.YtihoblfmhighpaaChecked
import Derived.KernelRfl
import Derived.Test.YtihoblfmhighpaaQsD
namespace Go.Proofs.Ytihoblfmhighpaa
open Go.Dp
def nums : List Nat := [3, 6, 7, 8, 9, 10, 11, 12, 16, 17, 18, 19, 20, 21, 22, 23, 24, 25, 26, 27, 29, 30, 31, 32, 33, 34, 35, 36, 37, 38, 39, 40, 41, 42, 44, 45, 46, 47, 48, 49, 50, 52, 53, 54, 55, 56, 57, 58, 59, 60, 61, 62, 63, 64, 65, 66, 67, 68, 69, 70, 71, 72, 74, 75, 76, 77, 78, 79, 80, 81, 82, 83, 84, 85]
abbrev n_depotlaw17_SlotRuns : Nat := 3
abbrev n_depotlaw17_SlotScans : Nat := 6
abbrev n_slot_New : Nat := 7
abbrev n_slot_Slot_Take : Nat := 8
abbrev n_depotlaw17_ask : Nat := 9
abbrev n_slot_Slot_Wipe : Nat := 10
abbrev n_slot_Slot_On : Nat := 11
abbrev n_slot_Slot_Inc : Nat := 12
abbrev n_pack_Read : Nat := 16
abbrev n_pack_Reader_At : Nat := 17
abbrev n_pack_Reader_Wrong : Nat := 18
abbrev n_pack_Reader_Text : Nat := 19
abbrev n_depotbook_Same_string : Nat := 20
abbrev n_item_New : Nat := 21
abbrev n_wire_Right : Nat := 22
abbrev n_slot_Slot_reset : Nat := 23
abbrev n_slices_DeleteFunc_slot_did_slot_did : Nat := 24
abbrev n_slot_Slot_do : Nat := 26
abbrev n_slot_Slot_clear : Nat := 27
abbrev n_pack_grown : Nat := 29
abbrev n_pack_Reader_count : Nat := 30
abbrev n_pack_Reader_fail : Nat := 31
abbrev n_slab_New : Nat := 32
abbrev n_chain_New : Nat := 33
abbrev n_wire_within : Nat := 34
abbrev n_wire_role : Nat := 35
abbrev n_slices_IndexFunc_slot_did_slot_did : Nat := 36
abbrev n_slot_Slot_scan : Nat := 37
abbrev n_slot_Slot_stands : Nat := 38
abbrev n_item_Store_Put : Nat := 39
abbrev n_slot_name : Nat := 40
abbrev n_pack_Num : Nat := 41
abbrev n_item_Store_Drop : Nat := 42
abbrev n_pack_Reader_Num : Nat := 44
abbrev n_item_Store_Keys : Nat := 45
abbrev n_slices_Sort_string_string : Nat := 46
abbrev n_pack_Text : Nat := 47
abbrev n_item_Store_Get : Nat := 48
abbrev n_slab_Slab_Class : Nat := 49
abbrev n_slab_Slab_Alloc : Nat := 50
abbrev n_item_Store_gone : Nat := 52
abbrev n_item_Store_in : Nat := 53
abbrev n_chain_Chain_Put : Nat := 54
abbrev n_pack_num : Nat := 55
abbrev n_chain_Chain_Get : Nat := 56
abbrev n_slices_pdqsortOrdered_string : Nat := 57
abbrev n_math_bits_Len : Nat := 58
abbrev n_item_Store_Peek : Nat := 59
abbrev n_item_Store_out : Nat := 60
abbrev n_slab_Slab_Free : Nat := 61
abbrev n_chain_Chain_Drop : Nat := 62
abbrev n_chain_Chain_step : Nat := 63
abbrev n_chain_Chain_bucket : Nat := 64
abbrev n_chain_find : Nat := 65
abbrev n_slices_insertionSortOrdered_string : Nat := 66
abbrev n_slices_heapSortOrdered_string : Nat := 67
abbrev n_slices_breakPatternsOrdered_string : Nat := 68
abbrev n_slices_choosePivotOrdered_string : Nat := 69
abbrev n_slices_reverseRangeOrdered_string : Nat := 70
abbrev n_slices_partialInsertionSortOrdered_string : Nat := 71
abbrev n_cmp_Less_string : Nat := 72
abbrev n_slices_partitionOrdered_string : Nat := 74
abbrev n_math_bits_Len32 : Nat := 75
abbrev n_math_bits_Len64 : Nat := 76
abbrev n_slab_Slab_Read : Nat := 77
abbrev n_chain_Hash : Nat := 78
abbrev n_slices_siftDownOrdered_string : Nat := 79
abbrev n_slices_nextPowerOfTwo : Nat := 80
abbrev n_slices_xorshift_Next : Nat := 81
abbrev n_slices_medianAdjacentOrdered_string : Nat := 82
abbrev n_slices_medianOrdered_string : Nat := 83
abbrev n_cmp_isNaN_string : Nat := 84
abbrev n_slices_order2Ordered_string : Nat := 85
noncomputable def cx : Cx := { P := Try.prog, fm := fmOf nums, gm := fun _ => none, ext := extOf [], bt := none }
def pf_depotlaw17_SlotRuns : PF := { ntmps := 131, results := [.tmp 0], body :=
  (.seq (.region [.op ⟨some 0, none, .r (.mv (.c (.bool false)))⟩])
  (.seq (.region [.op ⟨some 19, none, .e (.call n_slot_New [(.c (.int .i64 (.ofNat 1))), (.c (.int .i64 (.ofNat 4))), (.c (.int .i64 (.ofNat 1024)))])⟩, .op ⟨some 18, none, .r (.mv (.t 19))⟩, .op ⟨some 20, none, .r (.ext 0 (.t 18))⟩, .op ⟨some 21, none, .r (.ext 1 (.t 18))⟩, .op ⟨some 1, none, .r (.mv (.t 20))⟩, .op ⟨some 2, none, .r (.mv (.t 21))⟩])
  (.seq (.seq (.region [.op ⟨some 22, none, .r (.mv (.t 1))⟩, .op ⟨some 23, none, .r (.eqc false (.t 22) (.c .nilp))⟩, .op ⟨some 24, none, .r (.mv (.t 23))⟩, .op ⟨some 25, some (24, false), .r (.mv (.t 2))⟩, .op ⟨some 26, some (24, false), .r (.bin .neq (.t 25) (.c (.int .i64 (.ofNat 0))))⟩, .op ⟨some 27, none, .r (.pick (.t 24) (.c (.bool true)) (.t 26))⟩])
  (.cond (.t 27)
   (.seq (.region [.op ⟨some 0, none, .r (.mv (.c (.bool false)))⟩])
   .ret)
   .skip))
  (.seq (.region [.op ⟨some 29, none, .r (.mv (.t 1))⟩, .op ⟨some 30, none, .e (.call n_depotlaw17_ask [(.c (.int .i64 (.ofNat 5))), (.c (.int .i64 (.ofNat 1))), (.c (.str [])), (.c (.str [])), (.c (.int .i64 (.ofNat 0)))])⟩, .op ⟨some 31, none, .e (.call n_slot_Slot_Take [(.t 29), (.t 30)])⟩, .op ⟨some 28, none, .r (.mv (.t 31))⟩, .op ⟨some 32, none, .r (.ext 0 (.t 28))⟩, .op ⟨some 33, none, .r (.ext 1 (.t 28))⟩,
    .op ⟨some 3, none, .n (.new 0 [(.int .i64 (.ofNat 0)), (.int .i64 (.ofNat 0)), (.int .i64 (.ofNat 0)), (.int .i64 (.ofNat 0)), (.int .i64 (.ofNat 0)), (.int .i64 (.ofNat 0)), (.str []), (.int .i64 (.ofNat 0)), (.str [])])⟩, .op ⟨none, none, .e (.store 9 (.t 3) (.t 32))⟩, .op ⟨some 4, none, .r (.mv (.t 33))⟩])
  (.seq (.region [.op ⟨some 35, none, .r (.mv (.t 1))⟩, .op ⟨some 36, none, .e (.call n_depotlaw17_ask [(.c (.int .i64 (.ofNat 5))), (.c (.int .i64 (.ofNat 1))), (.c (.str [])), (.c (.str [])), (.c (.int .i64 (.ofNat 0)))])⟩, .op ⟨some 37, none, .e (.call n_slot_Slot_Take [(.t 35), (.t 36)])⟩, .op ⟨some 34, none, .r (.mv (.t 37))⟩, .op ⟨some 38, none, .r (.ext 0 (.t 34))⟩, .op ⟨some 39, none, .r (.ext 1 (.t 34))⟩,
    .op ⟨some 5, none, .n (.new 0 [(.int .i64 (.ofNat 0)), (.int .i64 (.ofNat 0)), (.int .i64 (.ofNat 0)), (.int .i64 (.ofNat 0)), (.int .i64 (.ofNat 0)), (.int .i64 (.ofNat 0)), (.str []), (.int .i64 (.ofNat 0)), (.str [])])⟩, .op ⟨none, none, .e (.store 9 (.t 5) (.t 38))⟩, .op ⟨some 6, none, .r (.mv (.t 39))⟩])
  (.seq (.region [.op ⟨some 40, none, .e (.call n_depotlaw17_ask [(.c (.int .i64 (.ofNat 5))), (.c (.int .i64 (.ofNat 1))), (.c (.str [])), (.c (.str [])), (.c (.int .i64 (.ofNat 0)))])⟩, .op ⟨some 7, none, .n (.new 0 [(.int .i64 (.ofNat 0)), (.int .i64 (.ofNat 0)), (.int .i64 (.ofNat 0)), (.int .i64 (.ofNat 0)), (.int .i64 (.ofNat 0)), (.int .i64 (.ofNat 0)), (.str []), (.int .i64 (.ofNat 0)), (.str [])])⟩,
    .op ⟨none, none, .e (.store 9 (.t 7) (.t 40))⟩])
  (.seq (.region [.op ⟨some 41, none, .r (.faddr 2 (.t 7))⟩, .op ⟨none, none, .e (.store 1 (.t 41) (.c (.int .i64 (.ofNat 2))))⟩])
  (.seq (.region [.op ⟨some 43, none, .r (.mv (.t 1))⟩, .op ⟨some 44, none, .r (.load true 9 (.t 7))⟩, .op ⟨some 45, none, .e (.call n_slot_Slot_Take [(.t 43), (.t 44)])⟩, .op ⟨some 42, none, .r (.mv (.t 45))⟩, .op ⟨some 46, none, .r (.ext 0 (.t 42))⟩, .op ⟨some 47, none, .r (.ext 1 (.t 42))⟩, .op ⟨some 8, none, .n (.new 0 [(.int .i64 (.ofNat 0)), (.int .i64 (.ofNat 0)), (.int .i64 (.ofNat 0)), (.int .i64 (.ofNat 0)), (.int .i64 (.ofNat 0)), (.int .i64 (.ofNat 0)), (.str []), (.int .i64 (.ofNat 0)), (.str [])])⟩,
    .op ⟨none, none, .e (.store 9 (.t 8) (.t 46))⟩, .op ⟨some 9, none, .r (.mv (.t 47))⟩])
  (.seq (.region [.op ⟨some 49, none, .r (.mv (.t 1))⟩, .op ⟨some 50, none, .e (.call n_depotlaw17_ask [(.c (.int .i64 (.ofNat 1))), (.c (.int .i64 (.ofNat 2))), (.c (.str [97])), (.c (.str [120])), (.c (.int .i64 (.ofNat 5)))])⟩, .op ⟨some 51, none, .e (.call n_slot_Slot_Take [(.t 49), (.t 50)])⟩, .op ⟨some 48, none, .r (.mv (.t 51))⟩, .op ⟨some 52, none, .r (.ext 0 (.t 48))⟩, .op ⟨some 53, none, .r (.ext 1 (.t 48))⟩,
    .op ⟨some 10, none, .n (.new 0 [(.int .i64 (.ofNat 0)), (.int .i64 (.ofNat 0)), (.int .i64 (.ofNat 0)), (.int .i64 (.ofNat 0)), (.int .i64 (.ofNat 0)), (.int .i64 (.ofNat 0)), (.str []), (.int .i64 (.ofNat 0)), (.str [])])⟩, .op ⟨none, none, .e (.store 9 (.t 10) (.t 52))⟩, .op ⟨some 11, none, .r (.mv (.t 53))⟩])
  (.seq (.region [.op ⟨some 55, none, .r (.mv (.t 1))⟩, .op ⟨some 56, none, .e (.call n_depotlaw17_ask [(.c (.int .i64 (.ofNat 2))), (.c (.int .i64 (.ofNat 3))), (.c (.str [97])), (.c (.str [])), (.c (.int .i64 (.ofNat 0)))])⟩, .op ⟨some 57, none, .e (.call n_slot_Slot_Take [(.t 55), (.t 56)])⟩, .op ⟨some 54, none, .r (.mv (.t 57))⟩, .op ⟨some 58, none, .r (.ext 0 (.t 54))⟩, .op ⟨some 59, none, .r (.ext 1 (.t 54))⟩,
    .op ⟨some 12, none, .n (.new 0 [(.int .i64 (.ofNat 0)), (.int .i64 (.ofNat 0)), (.int .i64 (.ofNat 0)), (.int .i64 (.ofNat 0)), (.int .i64 (.ofNat 0)), (.int .i64 (.ofNat 0)), (.str []), (.int .i64 (.ofNat 0)), (.str [])])⟩, .op ⟨none, none, .e (.store 9 (.t 12) (.t 58))⟩, .op ⟨some 13, none, .r (.mv (.t 59))⟩])
  (.seq (.region [.op ⟨some 60, none, .r (.mv (.t 1))⟩, .op ⟨some 61, none, .e (.call n_slot_Slot_Wipe [(.t 60)])⟩])
  (.seq (.region [.op ⟨some 63, none, .r (.mv (.t 1))⟩, .op ⟨some 64, none, .e (.call n_depotlaw17_ask [(.c (.int .i64 (.ofNat 2))), (.c (.int .i64 (.ofNat 4))), (.c (.str [97])), (.c (.str [])), (.c (.int .i64 (.ofNat 0)))])⟩, .op ⟨some 65, none, .e (.call n_slot_Slot_Take [(.t 63), (.t 64)])⟩, .op ⟨some 62, none, .r (.mv (.t 65))⟩, .op ⟨some 66, none, .r (.ext 0 (.t 62))⟩, .op ⟨some 67, none, .r (.ext 1 (.t 62))⟩,
    .op ⟨some 14, none, .n (.new 0 [(.int .i64 (.ofNat 0)), (.int .i64 (.ofNat 0)), (.int .i64 (.ofNat 0)), (.int .i64 (.ofNat 0)), (.int .i64 (.ofNat 0)), (.int .i64 (.ofNat 0)), (.str []), (.int .i64 (.ofNat 0)), (.str [])])⟩, .op ⟨none, none, .e (.store 9 (.t 14) (.t 66))⟩, .op ⟨some 15, none, .r (.mv (.t 67))⟩])
  (.seq (.region [.op ⟨some 69, none, .r (.mv (.t 1))⟩, .op ⟨some 70, none, .e (.call n_depotlaw17_ask [(.c (.int .i64 (.ofNat 5))), (.c (.int .i64 (.ofNat 5))), (.c (.str [])), (.c (.str [])), (.c (.int .i64 (.ofNat 0)))])⟩, .op ⟨some 71, none, .e (.call n_slot_Slot_Take [(.t 69), (.t 70)])⟩, .op ⟨some 68, none, .r (.mv (.t 71))⟩, .op ⟨some 72, none, .r (.ext 0 (.t 68))⟩, .op ⟨some 73, none, .r (.ext 1 (.t 68))⟩,
    .op ⟨some 16, none, .n (.new 0 [(.int .i64 (.ofNat 0)), (.int .i64 (.ofNat 0)), (.int .i64 (.ofNat 0)), (.int .i64 (.ofNat 0)), (.int .i64 (.ofNat 0)), (.int .i64 (.ofNat 0)), (.str []), (.int .i64 (.ofNat 0)), (.str [])])⟩, .op ⟨none, none, .e (.store 9 (.t 16) (.t 72))⟩, .op ⟨some 17, none, .r (.mv (.t 73))⟩])
  (.seq (.region [.op ⟨some 74, none, .r (.mv (.t 4))⟩, .op ⟨some 75, none, .r (.mv (.t 74))⟩, .op ⟨some 76, some (75, true), .r (.load true 9 (.t 3))⟩, .op ⟨some 77, some (75, true), .r (.build [(.int .i64 (.ofNat 0)), (.int .i64 (.ofNat 0)), (.int .i64 (.ofNat 0)), (.int .i64 (.ofNat 0)), (.int .i64 (.ofNat 0)), (.int .i64 (.ofNat 0)), (.str []), (.int .i64 (.ofNat 0)), (.str [])] [(0, 1, (.c (.int .i64 (.ofNat 6)))), (1, 1, (.c (.int .i64 (.ofNat 1)))), (2, 1, (.c (.int .i64 (.ofNat 3)))), (3, 1, (.c (.int .i64 (.ofNat 1))))])⟩,
    .op ⟨some 78, some (75, true), .r (.eqa false [(.i .i64), (.i .i64), (.i .i64), (.i .i64), (.i .i64), (.i .i64), .s, (.i .i64), .s] (.t 76) (.t 77))⟩, .op ⟨some 79, none, .r (.pick (.t 75) (.t 78) (.c (.bool false)))⟩, .op ⟨some 80, none, .r (.mv (.t 79))⟩, .op ⟨some 81, some (80, true), .r (.mv (.t 6))⟩, .op ⟨some 82, none, .r (.pick (.t 80) (.t 81) (.c (.bool false)))⟩, .op ⟨some 83, none, .r (.mv (.t 82))⟩,
    .op ⟨some 84, some (83, true), .r (.load true 9 (.t 5))⟩, .op ⟨some 85, some (83, true), .r (.load true 9 (.t 3))⟩, .op ⟨some 86, some (83, true), .r (.eqa false [(.i .i64), (.i .i64), (.i .i64), (.i .i64), (.i .i64), (.i .i64), .s, (.i .i64), .s] (.t 84) (.t 85))⟩, .op ⟨some 87, none, .r (.pick (.t 83) (.t 86) (.c (.bool false)))⟩, .op ⟨some 88, none, .r (.mv (.t 87))⟩, .op ⟨some 89, some (88, true), .r (.mv (.t 9))⟩,
    .op ⟨some 90, some (88, true), .r (.un .not (.t 89))⟩, .op ⟨some 91, none, .r (.pick (.t 88) (.t 90) (.c (.bool false)))⟩, .op ⟨some 92, none, .r (.mv (.t 91))⟩, .op ⟨some 93, some (92, true), .r (.mv (.t 11))⟩, .op ⟨some 94, none, .r (.pick (.t 92) (.t 93) (.c (.bool false)))⟩, .op ⟨some 95, none, .r (.mv (.t 94))⟩, .op ⟨some 96, some (95, true), .r (.faddr 7 (.t 10))⟩, .op ⟨some 97, some (95, true), .r (.load false 1 (.t 96))⟩,
    .op ⟨some 98, some (95, true), .r (.bin .eql (.t 97) (.c (.int .i64 (.ofNat 5))))⟩, .op ⟨some 99, none, .r (.pick (.t 95) (.t 98) (.c (.bool false)))⟩, .op ⟨some 100, none, .r (.mv (.t 99))⟩, .op ⟨some 101, some (100, true), .r (.mv (.t 13))⟩, .op ⟨some 102, none, .r (.pick (.t 100) (.t 101) (.c (.bool false)))⟩, .op ⟨some 103, none, .r (.mv (.t 102))⟩, .op ⟨some 104, some (103, true), .r (.faddr 7 (.t 12))⟩,
    .op ⟨some 105, some (103, true), .r (.load false 1 (.t 104))⟩, .op ⟨some 106, some (103, true), .r (.bin .eql (.t 105) (.c (.int .i64 (.ofNat 5))))⟩, .op ⟨some 107, none, .r (.pick (.t 103) (.t 106) (.c (.bool false)))⟩, .op ⟨some 108, none, .r (.mv (.t 107))⟩, .op ⟨some 109, some (108, true), .r (.faddr 8 (.t 12))⟩, .op ⟨some 110, some (108, true), .r (.load false 1 (.t 109))⟩, .op ⟨some 111, some (108, true), .r (.bin .eql (.t 110) (.c (.str [120])))⟩,
    .op ⟨some 112, none, .r (.pick (.t 108) (.t 111) (.c (.bool false)))⟩, .op ⟨some 113, none, .r (.mv (.t 112))⟩, .op ⟨some 114, some (113, true), .r (.mv (.t 15))⟩, .op ⟨some 115, some (113, true), .r (.un .not (.t 114))⟩, .op ⟨some 116, none, .r (.pick (.t 113) (.t 115) (.c (.bool false)))⟩, .op ⟨some 117, none, .r (.mv (.t 116))⟩, .op ⟨some 118, some (117, true), .r (.mv (.t 17))⟩, .op ⟨some 119, some (117, true), .r (.un .not (.t 118))⟩,
    .op ⟨some 120, none, .r (.pick (.t 117) (.t 119) (.c (.bool false)))⟩, .op ⟨some 121, none, .r (.mv (.t 120))⟩, .op ⟨some 122, some (121, true), .r (.mv (.t 1))⟩, .op ⟨some 123, some (121, true), .e (.call n_slot_Slot_On [(.t 122)])⟩, .op ⟨some 124, some (121, true), .r (.un .not (.t 123))⟩, .op ⟨some 125, none, .r (.pick (.t 121) (.t 124) (.c (.bool false)))⟩, .op ⟨some 126, none, .r (.mv (.t 125))⟩,
    .op ⟨some 127, some (126, true), .r (.mv (.t 1))⟩, .op ⟨some 128, some (126, true), .e (.call n_slot_Slot_Inc [(.t 127)])⟩, .op ⟨some 129, some (126, true), .r (.bin .eql (.t 128) (.c (.int .i64 (.ofNat 3))))⟩, .op ⟨some 130, none, .r (.pick (.t 126) (.t 129) (.c (.bool false)))⟩, .op ⟨some 0, none, .r (.mv (.t 130))⟩])
  .ret)))))))))))))) }
def l0_depotlaw17_SlotScans : PC :=
  (.seq (.seq (.region [.op ⟨some 69, none, .r (.mv (.t 11))⟩, .op ⟨some 70, none, .r (.mv (.t 5))⟩, .op ⟨some 71, none, .r (.lensl (.t 70))⟩, .op ⟨some 72, none, .r (.bin .lss (.t 69) (.t 71))⟩, .op ⟨some 73, none, .r (.mv (.t 72))⟩, .op ⟨some 74, some (73, true), .r (.mv (.t 5))⟩, .op ⟨some 75, some (73, true), .r (.mv (.t 11))⟩, .op ⟨some 76, some (73, true), .r (.iasl 1 (.t 74) (.t 75))⟩, .op ⟨some 77, some (73, true), .r (.load false 1 (.t 76))⟩,
    .op ⟨some 78, some (73, true), .r (.mv (.t 8))⟩, .op ⟨some 79, some (73, true), .r (.bin .lss (.t 77) (.t 78))⟩, .op ⟨some 80, none, .r (.pick (.t 73) (.t 79) (.c (.bool false)))⟩])
  (.cond (.t 80)
   .skip
   (.exit 2)))
  (.block 3 (.region [.op ⟨some 81, none, .r (.mv (.t 11))⟩, .op ⟨some 82, none, .r (.bin .add (.t 81) (.c (.int .i64 (.ofNat 1))))⟩, .op ⟨some 11, none, .r (.mv (.t 82))⟩])))
def l1_depotlaw17_SlotScans : PC :=
  (.seq (.seq (.region [.op ⟨some 31, none, .r (.mv (.t 7))⟩, .op ⟨some 32, none, .r (.mv (.t 0))⟩, .op ⟨some 33, none, .r (.lensl (.t 32))⟩, .op ⟨some 34, none, .r (.bin .lss (.t 31) (.t 33))⟩, .op ⟨some 35, none, .r (.mv (.t 34))⟩, .op ⟨some 36, some (35, true), .r (.mv (.t 7))⟩, .op ⟨some 37, some (35, true), .r (.bin .lss (.t 36) (.c (.int .i64 (.ofNat 40))))⟩, .op ⟨some 38, none, .r (.pick (.t 35) (.t 37) (.c (.bool false)))⟩])
  (.cond (.t 38)
   .skip
   (.exit 0)))
  (.seq (.block 1 (.seq (.region [.op ⟨some 41, none, .r (.mv (.t 0))⟩, .op ⟨some 42, none, .r (.mv (.t 7))⟩, .op ⟨some 43, none, .r (.iasl 1 (.t 41) (.t 42))⟩, .op ⟨some 44, none, .r (.load false 1 (.t 43))⟩, .op ⟨some 8, none, .r (.mv (.t 44))⟩])
   (.seq (.seq (.region [.op ⟨some 45, none, .r (.mv (.t 8))⟩, .op ⟨some 46, none, .r (.bin .eql (.t 45) (.c (.str [])))⟩, .op ⟨some 47, none, .r (.mv (.t 46))⟩, .op ⟨some 48, some (47, false), .r (.mv (.t 8))⟩, .op ⟨some 49, some (47, false), .r (.lens (.t 48))⟩, .op ⟨some 50, some (47, false), .r (.bin .gtr (.t 49) (.c (.int .i64 (.ofNat 40))))⟩, .op ⟨some 51, none, .r (.pick (.t 47) (.c (.bool true)) (.t 50))⟩])
   (.cond (.t 51)
    (.exit 1)
    .skip))
   (.seq (.region [.op ⟨some 52, none, .r (.mv (.t 6))⟩, .op ⟨some 53, none, .r (.bin .add (.t 52) (.c (.int .i64 (.ofNat 1))))⟩, .op ⟨some 6, none, .r (.mv (.t 53))⟩])
   (.seq (.seq (.region [.op ⟨some 55, none, .r (.mv (.t 3))⟩, .op ⟨some 56, none, .r (.mv (.t 6))⟩, .op ⟨some 57, none, .r (.mv (.t 8))⟩, .op ⟨some 58, none, .e (.call n_depotlaw17_ask [(.c (.int .i64 (.ofNat 1))), (.t 56), (.t 57), (.c (.str [])), (.c (.int .i64 (.ofNat 1)))])⟩, .op ⟨some 59, none, .e (.call n_slot_Slot_Take [(.t 55), (.t 58)])⟩, .op ⟨some 54, none, .r (.mv (.t 59))⟩, .op ⟨some 60, none, .r (.ext 0 (.t 54))⟩,
     .op ⟨some 61, none, .r (.ext 1 (.t 54))⟩, .op ⟨some 9, none, .n (.new 0 [(.int .i64 (.ofNat 0)), (.int .i64 (.ofNat 0)), (.int .i64 (.ofNat 0)), (.int .i64 (.ofNat 0)), (.int .i64 (.ofNat 0)), (.int .i64 (.ofNat 0)), (.str []), (.int .i64 (.ofNat 0)), (.str [])])⟩, .op ⟨none, none, .e (.store 9 (.t 9) (.t 60))⟩, .op ⟨some 10, none, .r (.mv (.t 61))⟩])
   (.seq (.region [.op ⟨some 62, none, .r (.mv (.t 10))⟩, .op ⟨some 63, none, .r (.un .not (.t 62))⟩, .op ⟨some 64, none, .r (.mv (.t 63))⟩, .op ⟨some 65, some (64, false), .r (.faddr 0 (.t 9))⟩, .op ⟨some 66, some (64, false), .r (.load false 1 (.t 65))⟩, .op ⟨some 67, some (64, false), .r (.bin .neq (.t 66) (.c (.int .i64 (.ofNat 6))))⟩, .op ⟨some 68, none, .r (.pick (.t 64) (.c (.bool true)) (.t 67))⟩])
   (.cond (.t 68)
    (.seq (.region [.op ⟨some 2, none, .r (.mv (.c (.bool false)))⟩])
    .ret)
    .skip)))
   (.seq (.region [.op ⟨some 11, none, .r (.mv (.c (.int .i64 (.ofNat 0))))⟩])
   (.seq (.block 2 (.loop l0_depotlaw17_SlotScans))
   (.seq (.region [.op ⟨some 83, none, .r (.mv (.t 11))⟩, .op ⟨some 84, none, .r (.mv (.t 5))⟩, .op ⟨some 85, none, .r (.lensl (.t 84))⟩, .op ⟨some 86, none, .r (.bin .eql (.t 83) (.t 85))⟩, .op ⟨some 87, none, .r (.mv (.t 86))⟩, .op ⟨some 88, some (87, false), .r (.mv (.t 5))⟩, .op ⟨some 89, some (87, false), .r (.mv (.t 11))⟩, .op ⟨some 90, some (87, false), .r (.iasl 1 (.t 88) (.t 89))⟩, .op ⟨some 91, some (87, false), .r (.load false 1 (.t 90))⟩,
     .op ⟨some 92, some (87, false), .r (.mv (.t 8))⟩, .op ⟨some 93, some (87, false), .r (.bin .neq (.t 91) (.t 92))⟩, .op ⟨some 94, none, .r (.pick (.t 87) (.c (.bool true)) (.t 93))⟩])
   (.cond (.t 94)
    (.region [.op ⟨some 95, none, .n (.bslice 0 1 0 [] [])⟩, .op ⟨some 96, none, .r (.mv (.t 5))⟩, .op ⟨some 97, none, .r (.mv (.t 11))⟩, .op ⟨some 98, none, .r (.slsl 1 (.t 96) none (some (.t 97)) none)⟩, .op ⟨some 100, none, .r (.mv (.t 8))⟩, .op ⟨some 101, none, .n (.bslice 0 1 1 [(.str [])] [(0, 1, (.t 100))])⟩, .op ⟨some 103, none, .r (.mv (.t 5))⟩, .op ⟨some 104, none, .r (.mv (.t 11))⟩, .op ⟨some 105, none, .r (.slsl 1 (.t 103) (some (.t 104)) none none)⟩,
      .op ⟨some 99, none, .e (.app 0 1 16 (.t 95) (.t 98))⟩, .again ⟨some 105, none, .r (.slsl 1 (.t 103) (some (.t 104)) none none)⟩, .op ⟨some 102, none, .e (.app 0 1 16 (.t 99) (.t 101))⟩, .again ⟨some 105, none, .r (.slsl 1 (.t 103) (some (.t 104)) none none)⟩, .op ⟨some 106, none, .e (.app 0 1 16 (.t 102) (.t 105))⟩, .op ⟨some 5, none, .r (.mv (.t 106))⟩])
    .skip)))))))))
  (.region [.op ⟨some 39, none, .r (.mv (.t 7))⟩, .op ⟨some 40, none, .r (.bin .add (.t 39) (.c (.int .i64 (.ofNat 1))))⟩, .op ⟨some 7, none, .r (.mv (.t 40))⟩])))
def l2_depotlaw17_SlotScans : PC :=
  (.seq (.seq (.region [.op ⟨some 132, none, .r (.mv (.t 17))⟩, .op ⟨some 134, none, .r (.faddr 8 (.t 15))⟩, .op ⟨some 135, none, .r (.load false 1 (.t 134))⟩, .op ⟨some 136, none, .r (.lens (.t 135))⟩, .op ⟨some 133, none, .e (.call n_pack_Reader_At [(.t 132)])⟩, .again ⟨some 135, none, .r (.load false 1 (.t 134))⟩, .op ⟨some 137, none, .r (.bin .lss (.t 133) (.t 136))⟩, .op ⟨some 138, none, .r (.mv (.t 137))⟩,
    .op ⟨some 139, some (138, true), .r (.mv (.t 17))⟩, .op ⟨some 140, some (138, true), .e (.call n_pack_Reader_Wrong [(.t 139)])⟩, .op ⟨some 141, some (138, true), .r (.bin .eql (.t 140) (.c (.int .i64 (.ofNat 0))))⟩, .op ⟨some 142, none, .r (.pick (.t 138) (.t 141) (.c (.bool false)))⟩])
  (.cond (.t 142)
   .skip
   (.exit 6)))
  (.block 7 (.seq (.region [.op ⟨some 143, none, .r (.mv (.t 17))⟩, .op ⟨some 144, none, .e (.call n_pack_Reader_Text [(.t 143), (.c (.int .i64 (.ofNat 250)))])⟩, .op ⟨some 13, none, .r (.mv (.t 144))⟩])
   (.region [.op ⟨some 145, none, .r (.mv (.t 12))⟩, .op ⟨some 146, none, .r (.mv (.t 13))⟩, .op ⟨some 147, none, .n (.bslice 0 1 1 [(.str [])] [(0, 1, (.t 146))])⟩, .op ⟨some 148, none, .e (.app 0 1 16 (.t 145) (.t 147))⟩, .op ⟨some 12, none, .r (.mv (.t 148))⟩]))))
def l3_depotlaw17_SlotScans : PC :=
  (.block 5 (.seq (.region [.op ⟨some 107, none, .r (.mv (.t 6))⟩, .op ⟨some 108, none, .r (.bin .add (.t 107) (.c (.int .i64 (.ofNat 1))))⟩, .op ⟨some 6, none, .r (.mv (.t 108))⟩])
   (.seq (.region [.op ⟨some 109, none, .r (.mv (.t 6))⟩, .op ⟨some 110, none, .r (.mv (.t 13))⟩, .op ⟨some 111, none, .r (.build [(.int .i64 (.ofNat 0)), (.int .i64 (.ofNat 0)), (.int .i64 (.ofNat 0)), (.int .i64 (.ofNat 0)), (.int .i64 (.ofNat 0)), (.int .i64 (.ofNat 0)), (.str []), (.int .i64 (.ofNat 0)), (.str [])] [(0, 1, (.c (.int .i64 (.ofNat 4)))), (1, 1, (.c (.int .i64 (.ofNat 1)))), (2, 1, (.c (.int .i64 (.ofNat 3)))), (3, 1, (.t 109)), (6, 1, (.t 110))])⟩,
     .op ⟨some 14, none, .n (.new 0 [(.int .i64 (.ofNat 0)), (.int .i64 (.ofNat 0)), (.int .i64 (.ofNat 0)), (.int .i64 (.ofNat 0)), (.int .i64 (.ofNat 0)), (.int .i64 (.ofNat 0)), (.str []), (.int .i64 (.ofNat 0)), (.str [])])⟩, .op ⟨none, none, .e (.store 9 (.t 14) (.t 111))⟩])
   (.seq (.region [.op ⟨some 113, none, .r (.mv (.t 3))⟩, .op ⟨some 114, none, .r (.load true 9 (.t 14))⟩, .op ⟨some 115, none, .e (.call n_slot_Slot_Take [(.t 113), (.t 114)])⟩, .op ⟨some 112, none, .r (.mv (.t 115))⟩, .op ⟨some 116, none, .r (.ext 0 (.t 112))⟩, .op ⟨some 117, none, .r (.ext 1 (.t 112))⟩, .op ⟨some 15, none, .n (.new 0 [(.int .i64 (.ofNat 0)), (.int .i64 (.ofNat 0)), (.int .i64 (.ofNat 0)), (.int .i64 (.ofNat 0)), (.int .i64 (.ofNat 0)), (.int .i64 (.ofNat 0)), (.str []), (.int .i64 (.ofNat 0)), (.str [])])⟩,
     .op ⟨none, none, .e (.store 9 (.t 15) (.t 116))⟩, .op ⟨some 16, none, .r (.mv (.t 117))⟩])
   (.seq (.seq (.region [.op ⟨some 118, none, .r (.mv (.t 16))⟩, .op ⟨some 119, none, .r (.un .not (.t 118))⟩, .op ⟨some 120, none, .r (.mv (.t 119))⟩, .op ⟨some 121, some (120, false), .r (.mv (.t 12))⟩, .op ⟨some 122, some (120, false), .r (.lensl (.t 121))⟩, .op ⟨some 123, some (120, false), .r (.bin .gtr (.t 122) (.c (.int .i64 (.ofNat 50))))⟩, .op ⟨some 124, none, .r (.pick (.t 120) (.c (.bool true)) (.t 123))⟩])
   (.cond (.t 124)
    (.seq (.region [.op ⟨some 2, none, .r (.mv (.c (.bool false)))⟩])
    .ret)
    .skip))
   (.seq (.seq (.region [.op ⟨some 125, none, .r (.faddr 8 (.t 15))⟩, .op ⟨some 126, none, .r (.load false 1 (.t 125))⟩, .op ⟨some 127, none, .r (.bin .eql (.t 126) (.c (.str [])))⟩])
   (.cond (.t 127)
    (.exit 4)
    .skip))
   (.seq (.region [.op ⟨some 128, none, .r (.faddr 8 (.t 15))⟩, .op ⟨some 129, none, .r (.load false 1 (.t 128))⟩, .op ⟨some 130, none, .n (.s2b (.t 129))⟩, .op ⟨some 131, none, .e (.call n_pack_Read [(.t 130)])⟩, .op ⟨some 17, none, .r (.mv (.t 131))⟩])
   (.block 6 (.loop l2_depotlaw17_SlotScans)))))))))
def pf_depotlaw17_SlotScans : PF := { ntmps := 155, results := [.tmp 2], body :=
  (.seq (.region [.op ⟨some 2, none, .r (.mv (.c (.bool false)))⟩])
  (.seq (.region [.op ⟨some 19, none, .e (.call n_slot_New [(.c (.int .i64 (.ofNat 1))), (.c (.int .i64 (.ofNat 16))), (.c (.int .i64 (.ofNat 8192)))])⟩, .op ⟨some 18, none, .r (.mv (.t 19))⟩, .op ⟨some 20, none, .r (.ext 0 (.t 18))⟩, .op ⟨some 21, none, .r (.ext 1 (.t 18))⟩, .op ⟨some 3, none, .r (.mv (.t 20))⟩, .op ⟨some 4, none, .r (.mv (.t 21))⟩])
  (.seq (.seq (.region [.op ⟨some 22, none, .r (.mv (.t 3))⟩, .op ⟨some 23, none, .r (.eqc false (.t 22) (.c .nilp))⟩, .op ⟨some 24, none, .r (.mv (.t 23))⟩, .op ⟨some 25, some (24, false), .r (.mv (.t 4))⟩, .op ⟨some 26, some (24, false), .r (.bin .neq (.t 25) (.c (.int .i64 (.ofNat 0))))⟩, .op ⟨some 27, none, .r (.pick (.t 24) (.c (.bool true)) (.t 26))⟩])
  (.cond (.t 27)
   (.seq (.region [.op ⟨some 2, none, .r (.mv (.c (.bool false)))⟩])
   .ret)
   .skip))
  (.seq (.region [.op ⟨some 28, none, .r (.mv (.t 3))⟩, .op ⟨some 29, none, .e (.call n_depotlaw17_ask [(.c (.int .i64 (.ofNat 5))), (.c (.int .i64 (.ofNat 1))), (.c (.str [])), (.c (.str [])), (.c (.int .i64 (.ofNat 0)))])⟩, .op ⟨some 30, none, .e (.call n_slot_Slot_Take [(.t 28), (.t 29)])⟩])
  (.seq (.region [.op ⟨some 5, none, .r (.mv (.c .nils))⟩])
  (.seq (.region [.op ⟨some 6, none, .r (.mv (.c (.int .i64 (.ofNat 1))))⟩])
  (.seq (.seq (.region [.op ⟨some 7, none, .r (.mv (.c (.int .i64 (.ofNat 0))))⟩])
  (.block 0 (.loop l1_depotlaw17_SlotScans)))
  (.seq (.region [.op ⟨some 12, none, .r (.mv (.c .nils))⟩])
  (.seq (.region [.op ⟨some 13, none, .r (.mv (.c (.str [])))⟩])
  (.seq (.block 4 (.loop l3_depotlaw17_SlotScans))
  (.seq (.region [.op ⟨some 149, none, .r (.mv (.t 12))⟩, .op ⟨some 150, none, .r (.mv (.t 5))⟩, .op ⟨some 151, none, .e (.call n_depotbook_Same_string [(.t 149), (.t 150)])⟩, .op ⟨some 152, none, .r (.mv (.t 151))⟩, .op ⟨some 153, some (152, true), .e (.call n_depotlaw17_SlotRuns [])⟩, .op ⟨some 154, none, .r (.pick (.t 152) (.t 153) (.c (.bool false)))⟩, .op ⟨some 2, none, .r (.mv (.t 154))⟩])
  .ret))))))))))) }
theorem tr_depotlaw17_SlotScans : trF cx Try.f6 = pf_depotlaw17_SlotScans := by kernel_rfl
def pf_slot_New : PF := { ntmps := 31, results := [.tmp 6, .tmp 7], body :=
  (.seq (.region [.op ⟨some 6, none, .r (.mv (.c .nilp))⟩, .op ⟨some 7, none, .r (.mv (.c (.int .i64 (.ofNat 0))))⟩])
  (.seq (.seq (.region [.op ⟨some 10, none, .r (.mv (.t 0))⟩, .op ⟨some 11, none, .r (.bin .lss (.t 10) (.c (.int .i64 (.ofNat 0))))⟩, .op ⟨some 12, none, .r (.mv (.t 11))⟩, .op ⟨some 13, some (12, false), .r (.mv (.t 0))⟩, .op ⟨some 14, some (12, false), .r (.bin .geq (.t 13) (.c (.int .i64 (.ofNat 12))))⟩, .op ⟨some 15, none, .r (.pick (.t 12) (.c (.bool true)) (.t 14))⟩])
  (.cond (.t 15)
   (.seq (.region [.op ⟨some 6, none, .r (.mv (.c .nilp))⟩, .op ⟨some 7, none, .r (.mv (.c (.int .i64 (.ofNat 1))))⟩])
   .ret)
   .skip))
  (.seq (.region [.op ⟨some 17, none, .r (.mv (.t 1))⟩, .op ⟨some 18, none, .r (.mv (.t 2))⟩, .op ⟨some 19, none, .e (.call n_item_New [(.t 17), (.t 18)])⟩, .op ⟨some 16, none, .r (.mv (.t 19))⟩, .op ⟨some 20, none, .r (.ext 0 (.t 16))⟩, .op ⟨some 21, none, .r (.ext 1 (.t 16))⟩, .op ⟨some 8, none, .r (.mv (.t 20))⟩, .op ⟨some 9, none, .r (.mv (.t 21))⟩])
  (.seq (.seq (.region [.op ⟨some 22, none, .r (.mv (.t 9))⟩, .op ⟨some 23, none, .r (.bin .neq (.t 22) (.c (.int .i64 (.ofNat 0))))⟩])
  (.cond (.t 23)
   (.seq (.region [.op ⟨some 24, none, .r (.mv (.t 9))⟩, .op ⟨some 6, none, .r (.mv (.c .nilp))⟩, .op ⟨some 7, none, .r (.mv (.t 24))⟩])
   .ret)
   .skip))
  (.seq (.region [.op ⟨some 25, none, .r (.mv (.t 0))⟩, .op ⟨some 26, none, .r (.mv (.t 1))⟩, .op ⟨some 27, none, .r (.mv (.t 2))⟩, .op ⟨some 28, none, .r (.mv (.t 8))⟩, .op ⟨some 29, none, .r (.build [(.int .i64 (.ofNat 0)), (.int .i64 (.ofNat 0)), (.int .i64 (.ofNat 0)), (.bool false), (.int .i64 (.ofNat 0)), (.int .i64 (.ofNat 0)), .nilp, .nils] [(0, 1, (.t 25)), (1, 1, (.t 26)), (2, 1, (.t 27)), (6, 1, (.t 28))])⟩,
    .op ⟨some 30, none, .n (.box (.t 29))⟩, .op ⟨some 6, none, .r (.mv (.t 30))⟩, .op ⟨some 7, none, .r (.mv (.c (.int .i64 (.ofNat 0))))⟩])
  .ret))))) }
theorem tr_slot_New : trF cx Try.f7 = pf_slot_New := by kernel_rfl
def l0_slot_Slot_Take : PC :=
  (.seq (.region [.op ⟨some 94, none, .r (.bin .lss (.t 93) (.t 92))⟩])
  (.seq (.cond (.t 94)
   .skip
   (.exit 0))
  (.seq (.block 1 (.seq (.region [.op ⟨some 95, none, .r (.iasl 10 (.t 91) (.t 93))⟩, .op ⟨some 96, none, .r (.load true 10 (.t 95))⟩, .op ⟨some 7, none, .n (.new 0 [(.int .i64 (.ofNat 0)), (.int .i64 (.ofNat 0)), (.int .i64 (.ofNat 0)), (.int .i64 (.ofNat 0)), (.int .i64 (.ofNat 0)), (.int .i64 (.ofNat 0)), (.int .i64 (.ofNat 0)), (.str []), (.int .i64 (.ofNat 0)), (.str [])])⟩, .op ⟨none, none, .e (.store 10 (.t 7) (.t 96))⟩])
   (.seq (.seq (.region [.op ⟨some 97, none, .r (.faddr 0 (.t 7))⟩, .op ⟨some 98, none, .r (.load false 1 (.t 97))⟩, .op ⟨some 99, none, .r (.faddr 3 (.t 3))⟩, .op ⟨some 100, none, .r (.load false 1 (.t 99))⟩, .op ⟨some 101, none, .r (.bin .neq (.t 98) (.t 100))⟩])
   (.cond (.t 101)
    (.exit 1)
    .skip))
   (.seq (.region [.op ⟨some 102, none, .r (.faddr 1 (.t 7))⟩, .op ⟨some 103, none, .r (.load true 9 (.t 102))⟩, .op ⟨none, none, .e (.store 9 (.t 4) (.t 103))⟩, .op ⟨some 5, none, .r (.mv (.c (.bool true)))⟩])
   .ret))))
  (.region [.op ⟨some 104, none, .r (.bin .add (.t 93) (.c (.int .i64 (.ofNat 1))))⟩, .op ⟨some 93, none, .r (.mv (.t 104))⟩]))))
def pf_slot_Slot_Take : PF := { ntmps := 122, results := [.cell 4 true 9, .tmp 5], body :=
  (.seq (.region [.op ⟨some 2, none, .n (.box (.t 0))⟩, .op ⟨some 3, none, .n (.box (.t 1))⟩, .op ⟨some 4, none, .n (.new 0 [(.int .i64 (.ofNat 0)), (.int .i64 (.ofNat 0)), (.int .i64 (.ofNat 0)), (.int .i64 (.ofNat 0)), (.int .i64 (.ofNat 0)), (.int .i64 (.ofNat 0)), (.str []), (.int .i64 (.ofNat 0)), (.str [])])⟩, .op ⟨some 5, none, .r (.mv (.c (.bool false)))⟩])
  (.scope (.seq (.seq (.region [.op ⟨some 9, none, .r (.load true 9 (.t 3))⟩, .op ⟨some 10, none, .e (.call n_wire_Right [(.t 9)])⟩, .op ⟨some 11, none, .r (.un .not (.t 10))⟩, .op ⟨some 12, none, .r (.mv (.t 11))⟩, .op ⟨some 13, some (12, false), .r (.faddr 0 (.t 3))⟩, .op ⟨some 14, some (12, false), .r (.load false 1 (.t 13))⟩, .op ⟨some 15, some (12, false), .r (.bin .geq (.t 14) (.c (.int .i64 (.ofNat 6))))⟩,
     .op ⟨some 16, none, .r (.pick (.t 12) (.c (.bool true)) (.t 15))⟩, .op ⟨some 17, none, .r (.mv (.t 16))⟩, .op ⟨some 18, some (17, false), .r (.faddr 1 (.t 3))⟩, .op ⟨some 19, some (17, false), .r (.load false 1 (.t 18))⟩, .op ⟨some 20, some (17, false), .r (.load false 1 (.t 2))⟩, .op ⟨some 21, some (17, false), .r (.nilck (.t 20))⟩, .op ⟨some 22, some (17, false), .r (.faddr 0 (.t 21))⟩, .op ⟨some 23, some (17, false), .r (.load false 1 (.t 22))⟩,
     .op ⟨some 24, some (17, false), .r (.bin .neq (.t 19) (.t 23))⟩, .op ⟨some 25, none, .r (.pick (.t 17) (.c (.bool true)) (.t 24))⟩])
   (.cond (.t 25)
    (.seq (.region [.op ⟨some 26, none, .r (.build [(.int .i64 (.ofNat 0)), (.int .i64 (.ofNat 0)), (.int .i64 (.ofNat 0)), (.int .i64 (.ofNat 0)), (.int .i64 (.ofNat 0)), (.int .i64 (.ofNat 0)), (.str []), (.int .i64 (.ofNat 0)), (.str [])] [])⟩, .op ⟨none, none, .e (.store 9 (.t 4) (.t 26))⟩, .op ⟨some 5, none, .r (.mv (.c (.bool false)))⟩])
    .ret)
    .skip))
   (.seq (.seq (.region [.op ⟨some 27, none, .r (.faddr 0 (.t 3))⟩, .op ⟨some 28, none, .r (.load false 1 (.t 27))⟩, .op ⟨some 29, none, .r (.bin .eql (.t 28) (.c (.int .i64 (.ofNat 5))))⟩])
   (.cond (.t 29)
    (.seq (.region [.op ⟨some 30, none, .r (.load false 1 (.t 2))⟩, .op ⟨some 31, none, .r (.load true 9 (.t 3))⟩, .op ⟨some 32, none, .e (.call n_slot_Slot_reset [(.t 30), (.t 31)])⟩, .op ⟨some 33, none, .r (.ext 0 (.t 32))⟩, .op ⟨some 34, none, .r (.ext 1 (.t 32))⟩, .op ⟨none, none, .e (.store 9 (.t 4) (.t 33))⟩, .op ⟨some 5, none, .r (.mv (.t 34))⟩])
    .ret)
    .skip))
   (.seq (.seq (.region [.op ⟨some 35, none, .r (.load false 1 (.t 2))⟩, .op ⟨some 36, none, .r (.nilck (.t 35))⟩, .op ⟨some 37, none, .r (.faddr 3 (.t 36))⟩, .op ⟨some 38, none, .r (.load false 1 (.t 37))⟩, .op ⟨some 39, none, .r (.un .not (.t 38))⟩, .op ⟨some 40, none, .r (.mv (.t 39))⟩, .op ⟨some 41, some (40, false), .r (.faddr 2 (.t 3))⟩, .op ⟨some 42, some (40, false), .r (.load false 1 (.t 41))⟩,
     .op ⟨some 43, some (40, false), .r (.load false 1 (.t 2))⟩, .op ⟨some 44, some (40, false), .r (.nilck (.t 43))⟩, .op ⟨some 45, some (40, false), .r (.faddr 4 (.t 44))⟩, .op ⟨some 46, some (40, false), .r (.load false 1 (.t 45))⟩, .op ⟨some 47, some (40, false), .r (.bin .neq (.t 42) (.t 46))⟩, .op ⟨some 48, none, .r (.pick (.t 40) (.c (.bool true)) (.t 47))⟩, .op ⟨some 49, none, .r (.mv (.t 48))⟩,
     .op ⟨some 50, some (49, false), .r (.faddr 3 (.t 3))⟩, .op ⟨some 51, some (49, false), .r (.load false 1 (.t 50))⟩, .op ⟨some 52, some (49, false), .r (.load false 1 (.t 2))⟩, .op ⟨some 53, some (49, false), .r (.nilck (.t 52))⟩, .op ⟨some 54, some (49, false), .r (.faddr 5 (.t 53))⟩, .op ⟨some 55, some (49, false), .r (.load false 1 (.t 54))⟩, .op ⟨some 56, some (49, false), .r (.bin .lss (.t 51) (.t 55))⟩,
     .op ⟨some 57, none, .r (.pick (.t 49) (.c (.bool true)) (.t 56))⟩])
   (.cond (.t 57)
    (.seq (.region [.op ⟨some 58, none, .r (.build [(.int .i64 (.ofNat 0)), (.int .i64 (.ofNat 0)), (.int .i64 (.ofNat 0)), (.int .i64 (.ofNat 0)), (.int .i64 (.ofNat 0)), (.int .i64 (.ofNat 0)), (.str []), (.int .i64 (.ofNat 0)), (.str [])] [])⟩, .op ⟨none, none, .e (.store 9 (.t 4) (.t 58))⟩, .op ⟨some 5, none, .r (.mv (.c (.bool false)))⟩])
    .ret)
    .skip))
   (.seq (.seq (.region [.op ⟨some 59, none, .r (.faddr 4 (.t 3))⟩, .op ⟨some 60, none, .r (.load false 1 (.t 59))⟩, .op ⟨some 61, none, .r (.load false 1 (.t 2))⟩, .op ⟨some 62, none, .r (.nilck (.t 61))⟩, .op ⟨some 63, none, .r (.faddr 5 (.t 62))⟩, .op ⟨some 64, none, .r (.load false 1 (.t 63))⟩, .op ⟨some 65, none, .r (.bin .gtr (.t 60) (.t 64))⟩])
   (.cond (.t 65)
    (.seq (.region [.op ⟨some 66, none, .r (.load false 1 (.t 2))⟩, .op ⟨some 67, none, .r (.faddr 4 (.t 3))⟩, .op ⟨some 68, none, .r (.load false 1 (.t 67))⟩, .op ⟨some 69, none, .r (.nilck (.t 66))⟩, .op ⟨some 70, none, .r (.faddr 5 (.t 69))⟩, .op ⟨none, none, .e (.store 1 (.t 70) (.t 68))⟩])
    (.region [.op ⟨some 71, none, .r (.load false 1 (.t 2))⟩, .op ⟨some 72, none, .r (.load false 1 (.t 2))⟩, .op ⟨some 73, none, .r (.nilck (.t 72))⟩, .op ⟨some 74, none, .r (.faddr 7 (.t 73))⟩, .op ⟨some 75, none, .r (.load false 1 (.t 74))⟩, .op ⟨some 76, none, .r (.mkfn 25 [(.t 2)])⟩, .op ⟨some 77, none, .e (.call n_slices_DeleteFunc_slot_did_slot_did [(.t 75), (.t 76)])⟩, .again ⟨some 71, none, .r (.load false 1 (.t 2))⟩,
      .op ⟨some 78, none, .r (.nilck (.t 71))⟩, .op ⟨some 79, none, .r (.faddr 7 (.t 78))⟩, .op ⟨none, none, .e (.store 1 (.t 79) (.t 77))⟩]))
    .skip))
   (.seq (.seq (.region [.op ⟨some 80, none, .r (.faddr 3 (.t 3))⟩, .op ⟨some 81, none, .r (.load false 1 (.t 80))⟩, .op ⟨some 82, none, .r (.load false 1 (.t 2))⟩, .op ⟨some 83, none, .r (.nilck (.t 82))⟩, .op ⟨some 84, none, .r (.faddr 5 (.t 83))⟩, .op ⟨some 85, none, .r (.load false 1 (.t 84))⟩, .op ⟨some 86, none, .r (.bin .lss (.t 81) (.t 85))⟩])
   (.cond (.t 86)
    (.seq (.region [.op ⟨some 87, none, .r (.build [(.int .i64 (.ofNat 0)), (.int .i64 (.ofNat 0)), (.int .i64 (.ofNat 0)), (.int .i64 (.ofNat 0)), (.int .i64 (.ofNat 0)), (.int .i64 (.ofNat 0)), (.str []), (.int .i64 (.ofNat 0)), (.str [])] [])⟩, .op ⟨none, none, .e (.store 9 (.t 4) (.t 87))⟩, .op ⟨some 5, none, .r (.mv (.c (.bool false)))⟩])
    .ret)
    .skip))
   (.seq .skip
   (.seq (.seq (.region [.op ⟨some 88, none, .r (.load false 1 (.t 2))⟩, .op ⟨some 89, none, .r (.nilck (.t 88))⟩, .op ⟨some 90, none, .r (.faddr 7 (.t 89))⟩, .op ⟨some 91, none, .r (.load false 1 (.t 90))⟩, .op ⟨some 92, none, .r (.lensl (.t 91))⟩, .op ⟨some 93, none, .r (.mv (.c (.int .i64 (.ofNat 0))))⟩])
   (.block 0 (.loop l0_slot_Slot_Take)))
   (.seq (.region [.op ⟨some 105, none, .r (.load false 1 (.t 2))⟩, .op ⟨some 106, none, .r (.load true 9 (.t 3))⟩, .op ⟨some 107, none, .e (.call n_slot_Slot_do [(.t 105), (.t 106)])⟩, .op ⟨some 8, none, .n (.new 0 [(.int .i64 (.ofNat 0)), (.int .i64 (.ofNat 0)), (.int .i64 (.ofNat 0)), (.int .i64 (.ofNat 0)), (.int .i64 (.ofNat 0)), (.int .i64 (.ofNat 0)), (.str []), (.int .i64 (.ofNat 0)), (.str [])])⟩,
     .op ⟨none, none, .e (.store 9 (.t 8) (.t 107))⟩])
   (.seq (.region [.op ⟨some 108, none, .r (.load false 1 (.t 2))⟩, .op ⟨some 109, none, .r (.load false 1 (.t 2))⟩, .op ⟨some 110, none, .r (.nilck (.t 109))⟩, .op ⟨some 111, none, .r (.faddr 7 (.t 110))⟩, .op ⟨some 112, none, .r (.load false 1 (.t 111))⟩, .op ⟨some 113, none, .r (.faddr 3 (.t 3))⟩, .op ⟨some 114, none, .r (.load false 1 (.t 113))⟩, .op ⟨some 115, none, .r (.load true 9 (.t 8))⟩,
     .op ⟨some 116, none, .r (.build [(.int .i64 (.ofNat 0)), (.int .i64 (.ofNat 0)), (.int .i64 (.ofNat 0)), (.int .i64 (.ofNat 0)), (.int .i64 (.ofNat 0)), (.int .i64 (.ofNat 0)), (.int .i64 (.ofNat 0)), (.str []), (.int .i64 (.ofNat 0)), (.str [])] [(0, 1, (.t 114)), (1, 9, (.t 115))])⟩, .op ⟨some 117, none, .n (.bslice 0 10 1 [(.int .i64 (.ofNat 0)), (.int .i64 (.ofNat 0)), (.int .i64 (.ofNat 0)), (.int .i64 (.ofNat 0)), (.int .i64 (.ofNat 0)), (.int .i64 (.ofNat 0)), (.int .i64 (.ofNat 0)), (.str []), (.int .i64 (.ofNat 0)), (.str [])] [(0, 10, (.t 116))])⟩,
     .op ⟨some 118, none, .e (.app 0 10 96 (.t 112) (.t 117))⟩, .again ⟨some 108, none, .r (.load false 1 (.t 2))⟩, .op ⟨some 119, none, .r (.nilck (.t 108))⟩, .op ⟨some 120, none, .r (.faddr 7 (.t 119))⟩, .op ⟨none, none, .e (.store 1 (.t 120) (.t 118))⟩])
   (.seq (.region [.op ⟨some 121, none, .r (.load true 9 (.t 8))⟩, .op ⟨none, none, .e (.store 9 (.t 4) (.t 121))⟩, .op ⟨some 5, none, .r (.mv (.c (.bool true)))⟩])
   .ret)))))))))))) }
theorem tr_slot_Slot_Take : trF cx Try.f8 = pf_slot_Slot_Take := by kernel_rfl
def pf_depotlaw17_ask : PF := { ntmps := 22, results := [.cell 10 true 9], body :=
  (.seq (.region [.op ⟨some 10, none, .n (.new 0 [(.int .i64 (.ofNat 0)), (.int .i64 (.ofNat 0)), (.int .i64 (.ofNat 0)), (.int .i64 (.ofNat 0)), (.int .i64 (.ofNat 0)), (.int .i64 (.ofNat 0)), (.str []), (.int .i64 (.ofNat 0)), (.str [])])⟩])
  (.seq (.region [.op ⟨some 12, none, .r (.mv (.t 0))⟩, .op ⟨some 13, none, .r (.mv (.t 1))⟩, .op ⟨some 14, none, .r (.mv (.t 2))⟩, .op ⟨some 15, none, .r (.mv (.t 3))⟩, .op ⟨some 16, none, .r (.mv (.t 4))⟩, .op ⟨some 17, none, .r (.build [(.int .i64 (.ofNat 0)), (.int .i64 (.ofNat 0)), (.int .i64 (.ofNat 0)), (.int .i64 (.ofNat 0)), (.int .i64 (.ofNat 0)), (.int .i64 (.ofNat 0)), (.str []), (.int .i64 (.ofNat 0)), (.str [])] [(0, 1, (.t 12)), (1, 1, (.c (.int .i64 (.ofNat 1)))), (2, 1, (.c (.int .i64 (.ofNat 3)))), (3, 1, (.t 13)), (6, 1, (.t 14)), (8, 1, (.t 15)), (7, 1, (.t 16))])⟩,
    .op ⟨some 11, none, .n (.new 0 [(.int .i64 (.ofNat 0)), (.int .i64 (.ofNat 0)), (.int .i64 (.ofNat 0)), (.int .i64 (.ofNat 0)), (.int .i64 (.ofNat 0)), (.int .i64 (.ofNat 0)), (.str []), (.int .i64 (.ofNat 0)), (.str [])])⟩, .op ⟨none, none, .e (.store 9 (.t 11) (.t 17))⟩])
  (.seq (.seq (.region [.op ⟨some 18, none, .r (.mv (.t 0))⟩, .op ⟨some 19, none, .r (.bin .neq (.t 18) (.c (.int .i64 (.ofNat 5))))⟩])
  (.cond (.t 19)
   (.region [.op ⟨some 20, none, .r (.faddr 5 (.t 11))⟩, .op ⟨none, none, .e (.store 1 (.t 20) (.c (.int .i64 (.ofNat 1))))⟩])
   .skip))
  (.seq (.region [.op ⟨some 21, none, .r (.load true 9 (.t 11))⟩, .op ⟨none, none, .e (.store 9 (.t 10) (.t 21))⟩])
  .ret)))) }
theorem tr_depotlaw17_ask : trF cx Try.f9 = pf_depotlaw17_ask := by kernel_rfl
def pf_slot_Slot_Wipe : PF := { ntmps := 7, results := [], body :=
  (.seq (.region [.op ⟨some 2, none, .r (.mv (.t 0))⟩, .op ⟨some 3, none, .e (.call n_slot_Slot_clear [(.t 2)])⟩])
  (.region [.op ⟨some 4, none, .r (.mv (.t 0))⟩, .op ⟨some 5, none, .r (.nilck (.t 4))⟩, .op ⟨some 6, none, .r (.faddr 3 (.t 5))⟩, .op ⟨none, none, .e (.store 1 (.t 6) (.c (.bool false)))⟩])) }
theorem tr_slot_Slot_Wipe : trF cx Try.f10 = pf_slot_Slot_Wipe := by kernel_rfl
def pf_slot_Slot_On : PF := { ntmps := 7, results := [.tmp 2], body :=
  (.seq (.region [.op ⟨some 2, none, .r (.mv (.c (.bool false)))⟩])
  (.seq (.region [.op ⟨some 3, none, .r (.mv (.t 0))⟩, .op ⟨some 4, none, .r (.nilck (.t 3))⟩, .op ⟨some 5, none, .r (.faddr 3 (.t 4))⟩, .op ⟨some 6, none, .r (.load false 1 (.t 5))⟩, .op ⟨some 2, none, .r (.mv (.t 6))⟩])
  .ret)) }
theorem tr_slot_Slot_On : trF cx Try.f11 = pf_slot_Slot_On := by kernel_rfl
def pf_slot_Slot_Inc : PF := { ntmps := 7, results := [.tmp 2], body :=
  (.seq (.region [.op ⟨some 2, none, .r (.mv (.c (.int .i64 (.ofNat 0))))⟩])
  (.seq (.region [.op ⟨some 3, none, .r (.mv (.t 0))⟩, .op ⟨some 4, none, .r (.nilck (.t 3))⟩, .op ⟨some 5, none, .r (.faddr 4 (.t 4))⟩, .op ⟨some 6, none, .r (.load false 1 (.t 5))⟩, .op ⟨some 2, none, .r (.mv (.t 6))⟩])
  .ret)) }
theorem tr_slot_Slot_Inc : trF cx Try.f12 = pf_slot_Slot_Inc := by kernel_rfl
def pf_pack_Read : PF := { ntmps := 7, results := [.tmp 2], body :=
  (.seq (.region [.op ⟨some 2, none, .r (.mv (.c .nilp))⟩])
  (.seq (.region [.op ⟨some 3, none, .r (.mv (.t 0))⟩, .op ⟨some 4, none, .e (.call n_pack_grown [(.t 3), (.c (.int .i64 (.ofNat 0)))])⟩, .op ⟨some 5, none, .r (.build [.nils, (.int .i64 (.ofNat 0)), (.int .i64 (.ofNat 0))] [(0, 1, (.t 4))])⟩, .op ⟨some 6, none, .n (.box (.t 5))⟩, .op ⟨some 2, none, .r (.mv (.t 6))⟩])
  .ret)) }
theorem tr_pack_Read : trF cx Try.f16 = pf_pack_Read := by kernel_rfl
def pf_pack_Reader_At : PF := { ntmps := 7, results := [.tmp 2], body :=
  (.seq (.region [.op ⟨some 2, none, .r (.mv (.c (.int .i64 (.ofNat 0))))⟩])
  (.seq (.region [.op ⟨some 3, none, .r (.mv (.t 0))⟩, .op ⟨some 4, none, .r (.nilck (.t 3))⟩, .op ⟨some 5, none, .r (.faddr 1 (.t 4))⟩, .op ⟨some 6, none, .r (.load false 1 (.t 5))⟩, .op ⟨some 2, none, .r (.mv (.t 6))⟩])
  .ret)) }
theorem tr_pack_Reader_At : trF cx Try.f17 = pf_pack_Reader_At := by kernel_rfl
def pf_pack_Reader_Wrong : PF := { ntmps := 7, results := [.tmp 2], body :=
  (.seq (.region [.op ⟨some 2, none, .r (.mv (.c (.int .i64 (.ofNat 0))))⟩])
  (.seq (.region [.op ⟨some 3, none, .r (.mv (.t 0))⟩, .op ⟨some 4, none, .r (.nilck (.t 3))⟩, .op ⟨some 5, none, .r (.faddr 2 (.t 4))⟩, .op ⟨some 6, none, .r (.load false 1 (.t 5))⟩, .op ⟨some 2, none, .r (.mv (.t 6))⟩])
  .ret)) }
theorem tr_pack_Reader_Wrong : trF cx Try.f18 = pf_pack_Reader_Wrong := by kernel_rfl
def pf_pack_Reader_Text : PF := { ntmps := 60, results := [.tmp 4], body :=
  (.seq (.region [.op ⟨some 4, none, .r (.mv (.c (.str [])))⟩])
  (.seq (.region [.op ⟨some 8, none, .r (.mv (.t 0))⟩, .op ⟨some 9, none, .r (.nilck (.t 8))⟩, .op ⟨some 10, none, .r (.faddr 1 (.t 9))⟩, .op ⟨some 11, none, .r (.load false 1 (.t 10))⟩, .op ⟨some 5, none, .r (.mv (.t 11))⟩])
  (.seq (.region [.op ⟨some 12, none, .r (.mv (.t 0))⟩, .op ⟨some 13, none, .r (.mv (.t 1))⟩, .op ⟨some 14, none, .e (.call n_pack_Reader_count [(.t 12), (.t 13)])⟩, .op ⟨some 6, none, .r (.mv (.t 14))⟩])
  (.seq (.seq (.region [.op ⟨some 15, none, .r (.mv (.t 0))⟩, .op ⟨some 16, none, .r (.nilck (.t 15))⟩, .op ⟨some 17, none, .r (.faddr 2 (.t 16))⟩, .op ⟨some 18, none, .r (.load false 1 (.t 17))⟩, .op ⟨some 19, none, .r (.bin .neq (.t 18) (.c (.int .i64 (.ofNat 0))))⟩])
  (.cond (.t 19)
   (.seq (.region [.op ⟨some 4, none, .r (.mv (.c (.str [])))⟩])
   .ret)
   .skip))
  (.seq (.seq (.region [.op ⟨some 20, none, .r (.mv (.t 6))⟩, .op ⟨some 21, none, .r (.mv (.t 0))⟩, .op ⟨some 22, none, .r (.nilck (.t 21))⟩, .op ⟨some 23, none, .r (.faddr 0 (.t 22))⟩, .op ⟨some 24, none, .r (.load false 1 (.t 23))⟩, .op ⟨some 25, none, .r (.lensl (.t 24))⟩, .op ⟨some 26, none, .r (.mv (.t 0))⟩, .op ⟨some 27, none, .r (.nilck (.t 26))⟩, .op ⟨some 28, none, .r (.faddr 1 (.t 27))⟩,
    .op ⟨some 29, none, .r (.load false 1 (.t 28))⟩, .op ⟨some 30, none, .r (.bin .sub (.t 25) (.t 29))⟩, .op ⟨some 31, none, .r (.bin .gtr (.t 20) (.t 30))⟩])
  (.cond (.t 31)
   (.seq (.region [.op ⟨some 32, none, .r (.mv (.t 0))⟩, .op ⟨some 33, none, .r (.mv (.t 5))⟩, .op ⟨some 34, none, .e (.call n_pack_Reader_fail [(.t 32), (.t 33), (.c (.int .i64 (.ofNat 3)))])⟩])
   (.seq (.region [.op ⟨some 4, none, .r (.mv (.c (.str [])))⟩])
   .ret))
   .skip))
  (.seq (.region [.op ⟨some 35, none, .r (.mv (.t 0))⟩, .op ⟨some 36, none, .r (.nilck (.t 35))⟩, .op ⟨some 37, none, .r (.faddr 0 (.t 36))⟩, .op ⟨some 38, none, .r (.load false 1 (.t 37))⟩, .op ⟨some 39, none, .r (.mv (.t 0))⟩, .op ⟨some 40, none, .r (.nilck (.t 39))⟩, .op ⟨some 41, none, .r (.faddr 1 (.t 40))⟩, .op ⟨some 42, none, .r (.load false 1 (.t 41))⟩, .op ⟨some 43, none, .r (.mv (.t 0))⟩,
    .op ⟨some 44, none, .r (.nilck (.t 43))⟩, .op ⟨some 45, none, .r (.faddr 1 (.t 44))⟩, .op ⟨some 46, none, .r (.load false 1 (.t 45))⟩, .op ⟨some 47, none, .r (.mv (.t 6))⟩, .op ⟨some 48, none, .r (.bin .add (.t 46) (.t 47))⟩, .op ⟨some 49, none, .r (.slsl 1 (.t 38) (some (.t 42)) (some (.t 48)) none)⟩, .op ⟨some 50, none, .r (.b2s (.t 49))⟩, .op ⟨some 7, none, .r (.mv (.t 50))⟩])
  (.seq (.region [.op ⟨some 51, none, .r (.mv (.t 0))⟩, .op ⟨some 52, none, .r (.nilck (.t 51))⟩, .op ⟨some 53, none, .r (.faddr 1 (.t 52))⟩, .op ⟨some 54, none, .r (.load false 1 (.t 53))⟩, .op ⟨some 55, none, .r (.mv (.t 6))⟩, .op ⟨some 56, none, .r (.bin .add (.t 54) (.t 55))⟩, .op ⟨some 57, none, .r (.nilck (.t 51))⟩, .op ⟨some 58, none, .r (.faddr 1 (.t 57))⟩, .op ⟨none, none, .e (.store 1 (.t 58) (.t 56))⟩])
  (.seq (.region [.op ⟨some 59, none, .r (.mv (.t 7))⟩, .op ⟨some 4, none, .r (.mv (.t 59))⟩])
  .ret)))))))) }
theorem tr_pack_Reader_Text : trF cx Try.f19 = pf_pack_Reader_Text := by kernel_rfl
def l0_depotbook_Same_string : PC :=
  (.seq (.seq (.region [.op ⟨some 11, none, .r (.mv (.t 5))⟩, .op ⟨some 12, none, .r (.mv (.t 0))⟩, .op ⟨some 13, none, .r (.lensl (.t 12))⟩, .op ⟨some 14, none, .r (.bin .lss (.t 11) (.t 13))⟩])
  (.cond (.t 14)
   .skip
   (.exit 0)))
  (.seq (.block 1 (.seq (.region [.op ⟨some 17, none, .r (.mv (.t 0))⟩, .op ⟨some 18, none, .r (.mv (.t 5))⟩, .op ⟨some 19, none, .r (.iasl 1 (.t 17) (.t 18))⟩, .op ⟨some 20, none, .r (.load false 1 (.t 19))⟩, .op ⟨some 21, none, .r (.mv (.t 1))⟩, .op ⟨some 22, none, .r (.mv (.t 5))⟩, .op ⟨some 23, none, .r (.iasl 1 (.t 21) (.t 22))⟩, .op ⟨some 24, none, .r (.load false 1 (.t 23))⟩, .op ⟨some 25, none, .r (.bin .neq (.t 20) (.t 24))⟩])
   (.cond (.t 25)
    (.seq (.region [.op ⟨some 4, none, .r (.mv (.c (.bool false)))⟩])
    .ret)
    .skip)))
  (.region [.op ⟨some 15, none, .r (.mv (.t 5))⟩, .op ⟨some 16, none, .r (.bin .add (.t 15) (.c (.int .i64 (.ofNat 1))))⟩, .op ⟨some 5, none, .r (.mv (.t 16))⟩])))
def pf_depotbook_Same_string : PF := { ntmps := 26, results := [.tmp 4], body :=
  (.seq (.region [.op ⟨some 4, none, .r (.mv (.c (.bool false)))⟩])
  (.seq (.seq (.region [.op ⟨some 6, none, .r (.mv (.t 0))⟩, .op ⟨some 7, none, .r (.lensl (.t 6))⟩, .op ⟨some 8, none, .r (.mv (.t 1))⟩, .op ⟨some 9, none, .r (.lensl (.t 8))⟩, .op ⟨some 10, none, .r (.bin .neq (.t 7) (.t 9))⟩])
  (.cond (.t 10)
   (.seq (.region [.op ⟨some 4, none, .r (.mv (.c (.bool false)))⟩])
   .ret)
   .skip))
  (.seq (.seq (.region [.op ⟨some 5, none, .r (.mv (.c (.int .i64 (.ofNat 0))))⟩])
  (.block 0 (.loop l0_depotbook_Same_string)))
  (.seq (.region [.op ⟨some 4, none, .r (.mv (.c (.bool true)))⟩])
  .ret)))) }
theorem tr_depotbook_Same_string : trF cx Try.f20 = pf_depotbook_Same_string := by kernel_rfl
def pf_item_New : PF := { ntmps := 22, results := [.tmp 4, .tmp 5], body :=
  (.seq (.region [.op ⟨some 4, none, .r (.mv (.c .nilp))⟩, .op ⟨some 5, none, .r (.mv (.c (.int .i64 (.ofNat 0))))⟩])
  (.seq (.region [.op ⟨some 9, none, .r (.mv (.t 0))⟩, .op ⟨some 10, none, .r (.mv (.t 1))⟩, .op ⟨some 11, none, .e (.call n_slab_New [(.t 9), (.t 10)])⟩, .op ⟨some 8, none, .r (.mv (.t 11))⟩, .op ⟨some 12, none, .r (.ext 0 (.t 8))⟩, .op ⟨some 13, none, .r (.ext 1 (.t 8))⟩, .op ⟨some 6, none, .r (.mv (.t 12))⟩, .op ⟨some 7, none, .r (.mv (.t 13))⟩])
  (.seq (.seq (.region [.op ⟨some 14, none, .r (.mv (.t 7))⟩, .op ⟨some 15, none, .r (.bin .neq (.t 14) (.c (.int .i64 (.ofNat 0))))⟩])
  (.cond (.t 15)
   (.seq (.region [.op ⟨some 16, none, .r (.mv (.t 7))⟩, .op ⟨some 4, none, .r (.mv (.c .nilp))⟩, .op ⟨some 5, none, .r (.mv (.t 16))⟩])
   .ret)
   .skip))
  (.seq (.region [.op ⟨some 17, none, .r (.mv (.t 6))⟩, .op ⟨some 19, none, .n (.mksl 0 6 56 [(.str []), (.int .i64 (.ofNat 0)), (.int .i64 (.ofNat 0)), (.bool false), (.int .i64 (.ofNat 0)), (.int .i64 (.ofNat 0))] (.c (.int .i64 (.ofNat 1))) (.c (.int .i64 (.ofNat 1))))⟩, .op ⟨some 18, none, .e (.call n_chain_New [])⟩, .op ⟨some 20, none, .r (.build [.nilp, .nilp, .nils, .nils] [(0, 1, (.t 17)), (1, 1, (.t 18)), (2, 1, (.t 19))])⟩,
    .op ⟨some 21, none, .n (.box (.t 20))⟩, .op ⟨some 4, none, .r (.mv (.t 21))⟩, .op ⟨some 5, none, .r (.mv (.c (.int .i64 (.ofNat 0))))⟩])
  .ret)))) }
theorem tr_item_New : trF cx Try.f21 = pf_item_New := by kernel_rfl
def pf_wire_Right : PF := { ntmps := 57, results := [.tmp 2], body :=
  (.seq (.region [.op ⟨some 1, none, .n (.box (.t 0))⟩, .op ⟨some 2, none, .r (.mv (.c (.bool false)))⟩])
  (.seq (.seq (.region [.op ⟨some 4, none, .r (.faddr 0 (.t 1))⟩, .op ⟨some 5, none, .r (.load false 1 (.t 4))⟩, .op ⟨some 6, none, .r (.bin .lss (.t 5) (.c (.int .i64 (.ofNat 1))))⟩, .op ⟨some 7, none, .r (.mv (.t 6))⟩, .op ⟨some 8, some (7, false), .r (.faddr 0 (.t 1))⟩, .op ⟨some 9, some (7, false), .r (.load false 1 (.t 8))⟩, .op ⟨some 10, some (7, false), .r (.bin .gtr (.t 9) (.c (.int .i64 (.ofNat 7))))⟩,
    .op ⟨some 11, none, .r (.pick (.t 7) (.c (.bool true)) (.t 10))⟩, .op ⟨some 12, none, .r (.mv (.t 11))⟩, .op ⟨some 13, some (12, false), .r (.faddr 1 (.t 1))⟩, .op ⟨some 14, some (12, false), .r (.load false 1 (.t 13))⟩, .op ⟨some 15, some (12, false), .e (.call n_wire_within [(.t 14), (.c (.int .i64 (.ofNat 11)))])⟩, .op ⟨some 16, some (12, false), .r (.un .not (.t 15))⟩, .op ⟨some 17, none, .r (.pick (.t 12) (.c (.bool true)) (.t 16))⟩,
    .op ⟨some 18, none, .r (.mv (.t 17))⟩, .op ⟨some 19, some (18, false), .r (.faddr 0 (.t 1))⟩, .op ⟨some 20, some (18, false), .r (.load false 1 (.t 19))⟩, .op ⟨some 21, some (18, false), .r (.faddr 5 (.t 1))⟩, .op ⟨some 22, some (18, false), .r (.load false 1 (.t 21))⟩, .op ⟨some 23, some (18, false), .e (.call n_wire_role [(.t 20), (.t 22)])⟩, .op ⟨some 24, some (18, false), .r (.un .not (.t 23))⟩,
    .op ⟨some 25, none, .r (.pick (.t 18) (.c (.bool true)) (.t 24))⟩])
  (.cond (.t 25)
   (.seq (.region [.op ⟨some 2, none, .r (.mv (.c (.bool false)))⟩])
   .ret)
   .skip))
  (.seq (.region [.op ⟨some 26, none, .r (.faddr 2 (.t 1))⟩, .op ⟨some 27, none, .r (.load false 1 (.t 26))⟩, .op ⟨some 28, none, .e (.call n_wire_within [(.t 27), (.c (.int .i64 (.ofNat 1099511627776)))])⟩, .op ⟨some 29, none, .r (.mv (.t 28))⟩, .op ⟨some 30, some (29, true), .r (.faddr 3 (.t 1))⟩, .op ⟨some 31, some (29, true), .r (.load false 1 (.t 30))⟩, .op ⟨some 32, some (29, true), .e (.call n_wire_within [(.t 31), (.c (.int .i64 (.ofNat 1099511627776)))])⟩,
    .op ⟨some 33, none, .r (.pick (.t 29) (.t 32) (.c (.bool false)))⟩, .op ⟨some 34, none, .r (.mv (.t 33))⟩, .op ⟨some 35, some (34, true), .r (.faddr 4 (.t 1))⟩, .op ⟨some 36, some (34, true), .r (.load false 1 (.t 35))⟩, .op ⟨some 37, some (34, true), .e (.call n_wire_within [(.t 36), (.c (.int .i64 (.ofNat 1099511627776)))])⟩, .op ⟨some 38, none, .r (.pick (.t 34) (.t 37) (.c (.bool false)))⟩,
    .op ⟨some 39, none, .r (.mv (.t 38))⟩, .op ⟨some 40, some (39, true), .r (.faddr 7 (.t 1))⟩, .op ⟨some 41, some (39, true), .r (.load false 1 (.t 40))⟩, .op ⟨some 42, some (39, true), .e (.call n_wire_within [(.t 41), (.c (.int .i64 (.ofNat 1099511627776)))])⟩, .op ⟨some 43, none, .r (.pick (.t 39) (.t 42) (.c (.bool false)))⟩, .op ⟨some 3, none, .r (.mv (.t 43))⟩])
  (.seq (.region [.op ⟨some 44, none, .r (.mv (.t 3))⟩, .op ⟨some 45, none, .r (.mv (.t 44))⟩, .op ⟨some 46, some (45, true), .r (.faddr 6 (.t 1))⟩, .op ⟨some 47, some (45, true), .r (.load false 1 (.t 46))⟩, .op ⟨some 48, some (45, true), .r (.lens (.t 47))⟩, .op ⟨some 49, some (45, true), .r (.bin .leq (.t 48) (.c (.int .i64 (.ofNat 250))))⟩, .op ⟨some 50, none, .r (.pick (.t 45) (.t 49) (.c (.bool false)))⟩,
    .op ⟨some 51, none, .r (.mv (.t 50))⟩, .op ⟨some 52, some (51, true), .r (.faddr 8 (.t 1))⟩, .op ⟨some 53, some (51, true), .r (.load false 1 (.t 52))⟩, .op ⟨some 54, some (51, true), .r (.lens (.t 53))⟩, .op ⟨some 55, some (51, true), .r (.bin .leq (.t 54) (.c (.int .i64 (.ofNat 1049600))))⟩, .op ⟨some 56, none, .r (.pick (.t 51) (.t 55) (.c (.bool false)))⟩, .op ⟨some 2, none, .r (.mv (.t 56))⟩])
  .ret)))) }
theorem tr_wire_Right : trF cx Try.f22 = pf_wire_Right := by kernel_rfl
def pf_slot_Slot_reset : PF := { ntmps := 49, results := [.cell 4 true 9, .tmp 5], body :=
  (.seq (.region [.op ⟨some 3, none, .n (.box (.t 1))⟩, .op ⟨some 4, none, .n (.new 0 [(.int .i64 (.ofNat 0)), (.int .i64 (.ofNat 0)), (.int .i64 (.ofNat 0)), (.int .i64 (.ofNat 0)), (.int .i64 (.ofNat 0)), (.int .i64 (.ofNat 0)), (.str []), (.int .i64 (.ofNat 0)), (.str [])])⟩, .op ⟨some 5, none, .r (.mv (.c (.bool false)))⟩])
  (.seq (.seq (.region [.op ⟨some 6, none, .r (.faddr 2 (.t 3))⟩, .op ⟨some 7, none, .r (.load false 1 (.t 6))⟩, .op ⟨some 8, none, .r (.mv (.t 0))⟩, .op ⟨some 9, none, .r (.nilck (.t 8))⟩, .op ⟨some 10, none, .r (.faddr 4 (.t 9))⟩, .op ⟨some 11, none, .r (.load false 1 (.t 10))⟩, .op ⟨some 12, none, .r (.bin .gtr (.t 7) (.t 11))⟩])
  (.cond (.t 12)
   (.seq (.region [.op ⟨some 13, none, .r (.mv (.t 0))⟩, .op ⟨some 14, none, .e (.call n_slot_Slot_clear [(.t 13)])⟩])
   (.region [.op ⟨some 15, none, .r (.mv (.t 0))⟩, .op ⟨some 16, none, .r (.mv (.t 0))⟩, .op ⟨some 17, none, .r (.faddr 2 (.t 3))⟩, .op ⟨some 18, none, .r (.load false 1 (.t 17))⟩, .op ⟨some 19, none, .r (.nilck (.t 15))⟩, .op ⟨some 20, none, .r (.faddr 3 (.t 19))⟩, .op ⟨none, none, .e (.store 1 (.t 20) (.c (.bool true)))⟩, .again ⟨some 18, none, .r (.load false 1 (.t 17))⟩, .op ⟨some 21, none, .r (.nilck (.t 16))⟩,
     .op ⟨some 22, none, .r (.faddr 4 (.t 21))⟩, .op ⟨none, none, .e (.store 1 (.t 22) (.t 18))⟩]))
   .skip))
  (.seq (.seq (.region [.op ⟨some 23, none, .r (.mv (.t 0))⟩, .op ⟨some 24, none, .r (.nilck (.t 23))⟩, .op ⟨some 25, none, .r (.faddr 3 (.t 24))⟩, .op ⟨some 26, none, .r (.load false 1 (.t 25))⟩, .op ⟨some 27, none, .r (.un .not (.t 26))⟩, .op ⟨some 28, none, .r (.mv (.t 27))⟩, .op ⟨some 29, some (28, false), .r (.faddr 2 (.t 3))⟩, .op ⟨some 30, some (28, false), .r (.load false 1 (.t 29))⟩, .op ⟨some 31, some (28, false), .r (.mv (.t 0))⟩,
    .op ⟨some 32, some (28, false), .r (.nilck (.t 31))⟩, .op ⟨some 33, some (28, false), .r (.faddr 4 (.t 32))⟩, .op ⟨some 34, some (28, false), .r (.load false 1 (.t 33))⟩, .op ⟨some 35, some (28, false), .r (.bin .neq (.t 30) (.t 34))⟩, .op ⟨some 36, none, .r (.pick (.t 28) (.c (.bool true)) (.t 35))⟩])
  (.cond (.t 36)
   (.seq (.region [.op ⟨some 37, none, .r (.build [(.int .i64 (.ofNat 0)), (.int .i64 (.ofNat 0)), (.int .i64 (.ofNat 0)), (.int .i64 (.ofNat 0)), (.int .i64 (.ofNat 0)), (.int .i64 (.ofNat 0)), (.str []), (.int .i64 (.ofNat 0)), (.str [])] [])⟩, .op ⟨none, none, .e (.store 9 (.t 4) (.t 37))⟩, .op ⟨some 5, none, .r (.mv (.c (.bool false)))⟩])
   .ret)
   .skip))
  (.seq (.region [.op ⟨some 38, none, .r (.mv (.t 0))⟩, .op ⟨some 39, none, .r (.nilck (.t 38))⟩, .op ⟨some 40, none, .r (.faddr 0 (.t 39))⟩, .op ⟨some 41, none, .r (.load false 1 (.t 40))⟩, .op ⟨some 42, none, .r (.mv (.t 0))⟩, .op ⟨some 43, none, .r (.nilck (.t 42))⟩, .op ⟨some 44, none, .r (.faddr 4 (.t 43))⟩, .op ⟨some 45, none, .r (.load false 1 (.t 44))⟩, .op ⟨some 46, none, .r (.faddr 3 (.t 3))⟩,
    .op ⟨some 47, none, .r (.load false 1 (.t 46))⟩, .op ⟨some 48, none, .r (.build [(.int .i64 (.ofNat 0)), (.int .i64 (.ofNat 0)), (.int .i64 (.ofNat 0)), (.int .i64 (.ofNat 0)), (.int .i64 (.ofNat 0)), (.int .i64 (.ofNat 0)), (.str []), (.int .i64 (.ofNat 0)), (.str [])] [(0, 1, (.c (.int .i64 (.ofNat 6)))), (1, 1, (.t 41)), (2, 1, (.t 45)), (3, 1, (.t 47))])⟩, .op ⟨none, none, .e (.store 9 (.t 4) (.t 48))⟩,
    .op ⟨some 5, none, .r (.mv (.c (.bool true)))⟩])
  .ret)))) }
theorem tr_slot_Slot_reset : trF cx Try.f23 = pf_slot_Slot_reset := by kernel_rfl
def l0_slices_DeleteFunc_slot_did_slot_did : PC :=
  (.seq (.seq (.region [.op ⟨some 16, none, .r (.mv (.t 6))⟩, .op ⟨some 17, none, .r (.mv (.t 0))⟩, .op ⟨some 18, none, .r (.lensl (.t 17))⟩, .op ⟨some 19, none, .r (.bin .lss (.t 16) (.t 18))⟩])
  (.cond (.t 19)
   .skip
   (.exit 0)))
  (.seq (.block 1 (.seq (.region [.op ⟨some 22, none, .r (.mv (.t 0))⟩, .op ⟨some 23, none, .r (.mv (.t 6))⟩, .op ⟨some 24, none, .r (.iasl 10 (.t 22) (.t 23))⟩, .op ⟨some 25, none, .r (.load true 10 (.t 24))⟩, .op ⟨some 7, none, .n (.new 0 [(.int .i64 (.ofNat 0)), (.int .i64 (.ofNat 0)), (.int .i64 (.ofNat 0)), (.int .i64 (.ofNat 0)), (.int .i64 (.ofNat 0)), (.int .i64 (.ofNat 0)), (.int .i64 (.ofNat 0)), (.str []), (.int .i64 (.ofNat 0)), (.str [])])⟩,
     .op ⟨none, none, .e (.store 10 (.t 7) (.t 25))⟩])
   (.seq (.region [.op ⟨some 26, none, .r (.mv (.t 1))⟩, .op ⟨some 27, none, .r (.load true 10 (.t 7))⟩, .op ⟨some 28, none, .e (.callv (.t 26) [(.t 27)])⟩, .op ⟨some 29, none, .r (.un .not (.t 28))⟩])
   (.cond (.t 29)
    (.seq (.region [.op ⟨some 30, none, .r (.mv (.t 0))⟩, .op ⟨some 31, none, .r (.mv (.t 5))⟩, .op ⟨some 32, none, .r (.load true 10 (.t 7))⟩, .op ⟨some 33, none, .r (.iasl 10 (.t 30) (.t 31))⟩, .op ⟨none, none, .e (.store 10 (.t 33) (.t 32))⟩])
    (.region [.op ⟨some 34, none, .r (.mv (.t 5))⟩, .op ⟨some 35, none, .r (.bin .add (.t 34) (.c (.int .i64 (.ofNat 1))))⟩, .op ⟨some 5, none, .r (.mv (.t 35))⟩]))
    .skip))))
  (.region [.op ⟨some 20, none, .r (.mv (.t 6))⟩, .op ⟨some 21, none, .r (.bin .add (.t 20) (.c (.int .i64 (.ofNat 1))))⟩, .op ⟨some 6, none, .r (.mv (.t 21))⟩])))
def pf_slices_DeleteFunc_slot_did_slot_did : PF := { ntmps := 42, results := [.tmp 4], body :=
  (.seq (.region [.op ⟨some 4, none, .r (.mv (.c .nils))⟩])
  (.seq (.region [.op ⟨some 8, none, .r (.mv (.t 0))⟩, .op ⟨some 9, none, .r (.mv (.t 1))⟩, .op ⟨some 10, none, .e (.call n_slices_IndexFunc_slot_did_slot_did [(.t 8), (.t 9)])⟩, .op ⟨some 5, none, .r (.mv (.t 10))⟩])
  (.seq (.seq (.region [.op ⟨some 11, none, .r (.mv (.t 5))⟩, .op ⟨some 12, none, .r (.bin .eql (.t 11) (.c (.int .i64 (.negSucc 0))))⟩])
  (.cond (.t 12)
   (.seq (.region [.op ⟨some 13, none, .r (.mv (.t 0))⟩, .op ⟨some 4, none, .r (.mv (.t 13))⟩])
   .ret)
   .skip))
  (.seq (.seq (.region [.op ⟨some 14, none, .r (.mv (.t 5))⟩, .op ⟨some 15, none, .r (.bin .add (.t 14) (.c (.int .i64 (.ofNat 1))))⟩, .op ⟨some 6, none, .r (.mv (.t 15))⟩])
  (.block 0 (.loop l0_slices_DeleteFunc_slot_did_slot_did)))
  (.seq (.region [.op ⟨some 36, none, .r (.mv (.t 0))⟩, .op ⟨some 37, none, .r (.mv (.t 5))⟩, .op ⟨some 38, none, .r (.slsl 10 (.t 36) (some (.t 37)) none none)⟩, .op ⟨none, none, .e (.clear [(.int .i64 (.ofNat 0)), (.int .i64 (.ofNat 0)), (.int .i64 (.ofNat 0)), (.int .i64 (.ofNat 0)), (.int .i64 (.ofNat 0)), (.int .i64 (.ofNat 0)), (.int .i64 (.ofNat 0)), (.str []), (.int .i64 (.ofNat 0)), (.str [])] (.t 38))⟩])
  (.seq (.region [.op ⟨some 39, none, .r (.mv (.t 0))⟩, .op ⟨some 40, none, .r (.mv (.t 5))⟩, .op ⟨some 41, none, .r (.slsl 10 (.t 39) none (some (.t 40)) none)⟩, .op ⟨some 4, none, .r (.mv (.t 41))⟩])
  .ret)))))) }
theorem tr_slices_DeleteFunc_slot_did_slot_did : trF cx Try.f24 = pf_slices_DeleteFunc_slot_did_slot_did := by kernel_rfl
def pf_slot_Slot_Take_1 : PF := { ntmps := 11, results := [.tmp 3], body :=
  (.seq (.region [.op ⟨some 2, none, .n (.box (.t 0))⟩, .op ⟨some 3, none, .r (.mv (.c (.bool false)))⟩])
  (.seq (.region [.op ⟨some 4, none, .r (.faddr 0 (.t 2))⟩, .op ⟨some 5, none, .r (.load false 1 (.t 4))⟩, .op ⟨some 6, none, .r (.load false 1 (.t 1))⟩, .op ⟨some 7, none, .r (.nilck (.t 6))⟩, .op ⟨some 8, none, .r (.faddr 5 (.t 7))⟩, .op ⟨some 9, none, .r (.load false 1 (.t 8))⟩, .op ⟨some 10, none, .r (.bin .lss (.t 5) (.t 9))⟩, .op ⟨some 3, none, .r (.mv (.t 10))⟩])
  .ret)) }
theorem tr_slot_Slot_Take_1 : trF cx Try.f25 = pf_slot_Slot_Take_1 := by kernel_rfl
def pf_slot_Slot_do : PF := { ntmps := 115, results := [.cell 4 true 9], body :=
  (.seq (.region [.op ⟨some 3, none, .n (.box (.t 1))⟩, .op ⟨some 4, none, .n (.new 0 [(.int .i64 (.ofNat 0)), (.int .i64 (.ofNat 0)), (.int .i64 (.ofNat 0)), (.int .i64 (.ofNat 0)), (.int .i64 (.ofNat 0)), (.int .i64 (.ofNat 0)), (.str []), (.int .i64 (.ofNat 0)), (.str [])])⟩])
  (.seq (.region [.op ⟨some 11, none, .r (.mv (.t 0))⟩, .op ⟨some 12, none, .r (.nilck (.t 11))⟩, .op ⟨some 13, none, .r (.faddr 0 (.t 12))⟩, .op ⟨some 14, none, .r (.load false 1 (.t 13))⟩, .op ⟨some 15, none, .r (.mv (.t 0))⟩, .op ⟨some 16, none, .r (.nilck (.t 15))⟩, .op ⟨some 17, none, .r (.faddr 4 (.t 16))⟩, .op ⟨some 18, none, .r (.load false 1 (.t 17))⟩, .op ⟨some 19, none, .r (.faddr 3 (.t 3))⟩,
    .op ⟨some 20, none, .r (.load false 1 (.t 19))⟩, .op ⟨some 21, none, .r (.faddr 5 (.t 3))⟩, .op ⟨some 22, none, .r (.load false 1 (.t 21))⟩, .op ⟨some 23, none, .r (.faddr 6 (.t 3))⟩, .op ⟨some 24, none, .r (.load false 1 (.t 23))⟩, .op ⟨some 25, none, .r (.build [(.int .i64 (.ofNat 0)), (.int .i64 (.ofNat 0)), (.int .i64 (.ofNat 0)), (.int .i64 (.ofNat 0)), (.int .i64 (.ofNat 0)), (.int .i64 (.ofNat 0)), (.str []), (.int .i64 (.ofNat 0)), (.str [])] [(0, 1, (.c (.int .i64 (.ofNat 6)))), (1, 1, (.t 14)), (2, 1, (.t 18)), (3, 1, (.t 20)), (5, 1, (.t 22)), (6, 1, (.t 24))])⟩,
    .op ⟨some 5, none, .n (.new 0 [(.int .i64 (.ofNat 0)), (.int .i64 (.ofNat 0)), (.int .i64 (.ofNat 0)), (.int .i64 (.ofNat 0)), (.int .i64 (.ofNat 0)), (.int .i64 (.ofNat 0)), (.str []), (.int .i64 (.ofNat 0)), (.str [])])⟩, .op ⟨none, none, .e (.store 9 (.t 5) (.t 25))⟩])
  (.seq (.seq (.region [.op ⟨some 26, none, .r (.faddr 0 (.t 3))⟩, .op ⟨some 27, none, .r (.load false 1 (.t 26))⟩, .op ⟨some 28, none, .r (.bin .eql (.t 27) (.c (.int .i64 (.ofNat 4))))⟩])
  (.cond (.t 28)
   (.seq (.region [.op ⟨some 29, none, .r (.mv (.t 0))⟩, .op ⟨some 30, none, .r (.faddr 6 (.t 3))⟩, .op ⟨some 31, none, .r (.load false 1 (.t 30))⟩, .op ⟨some 32, none, .e (.call n_slot_Slot_scan [(.t 29), (.t 31)])⟩, .op ⟨some 33, none, .r (.faddr 8 (.t 5))⟩, .op ⟨none, none, .e (.store 1 (.t 33) (.t 32))⟩])
   (.seq (.region [.op ⟨some 34, none, .r (.load true 9 (.t 5))⟩, .op ⟨none, none, .e (.store 9 (.t 4) (.t 34))⟩])
   .ret))
   .skip))
  (.seq (.region [.op ⟨some 36, none, .r (.mv (.t 0))⟩, .op ⟨some 37, none, .r (.load true 9 (.t 3))⟩, .op ⟨some 38, none, .e (.call n_slot_Slot_stands [(.t 36), (.t 37)])⟩, .op ⟨some 35, none, .r (.mv (.t 38))⟩, .op ⟨some 39, none, .r (.ext 0 (.t 35))⟩, .op ⟨some 40, none, .r (.ext 1 (.t 35))⟩, .op ⟨some 41, none, .r (.ext 2 (.t 35))⟩, .op ⟨some 6, none, .r (.mv (.t 39))⟩, .op ⟨some 7, none, .r (.mv (.t 40))⟩,
    .op ⟨some 8, none, .r (.mv (.t 41))⟩])
  (.seq (.seq (.region [.op ⟨some 42, none, .r (.faddr 0 (.t 3))⟩, .op ⟨some 43, none, .r (.load false 1 (.t 42))⟩])
  (.block 0 (.seq (.region [.op ⟨some 45, none, .r (.bin .eql (.t 43) (.c (.int .i64 (.ofNat 1))))⟩, .op ⟨some 44, none, .r (.mv (.t 45))⟩])
   (.cond (.t 44)
    (.seq (.seq (.region [.op ⟨some 46, none, .r (.mv (.t 8))⟩, .op ⟨some 47, none, .r (.mv (.t 46))⟩, .op ⟨some 48, some (47, true), .r (.mv (.t 6))⟩, .op ⟨some 49, some (47, true), .r (.faddr 7 (.t 3))⟩, .op ⟨some 50, some (47, true), .r (.load false 1 (.t 49))⟩, .op ⟨some 51, some (47, true), .r (.bin .gtr (.t 48) (.t 50))⟩, .op ⟨some 52, none, .r (.pick (.t 47) (.t 51) (.c (.bool false)))⟩])
    (.cond (.t 52)
     (.seq (.region [.op ⟨some 53, none, .r (.mv (.t 6))⟩, .op ⟨some 54, none, .r (.faddr 7 (.t 5))⟩, .op ⟨none, none, .e (.store 1 (.t 54) (.t 53))⟩])
     (.seq (.region [.op ⟨some 55, none, .r (.load true 9 (.t 5))⟩, .op ⟨none, none, .e (.store 9 (.t 4) (.t 55))⟩])
     .ret))
     .skip))
    (.seq (.region [.op ⟨some 56, none, .r (.faddr 7 (.t 3))⟩, .op ⟨some 57, none, .r (.load false 1 (.t 56))⟩, .op ⟨some 58, none, .r (.faddr 7 (.t 5))⟩, .op ⟨none, none, .e (.store 1 (.t 58) (.t 57))⟩])
    (.seq (.region [.op ⟨some 60, none, .r (.mv (.t 0))⟩, .op ⟨some 61, none, .r (.nilck (.t 60))⟩, .op ⟨some 62, none, .r (.faddr 6 (.t 61))⟩, .op ⟨some 63, none, .r (.load false 1 (.t 62))⟩, .op ⟨some 64, none, .r (.load true 9 (.t 3))⟩, .op ⟨some 66, none, .r (.faddr 7 (.t 3))⟩, .op ⟨some 67, none, .r (.load false 1 (.t 66))⟩, .op ⟨some 70, none, .r (.faddr 8 (.t 3))⟩, .op ⟨some 71, none, .r (.load false 1 (.t 70))⟩,
      .op ⟨some 65, none, .e (.call n_slot_name [(.t 64)])⟩, .again ⟨some 71, none, .r (.load false 1 (.t 70))⟩, .again ⟨some 67, none, .r (.load false 1 (.t 66))⟩, .again ⟨some 63, none, .r (.load false 1 (.t 62))⟩, .op ⟨some 68, none, .e (.call n_pack_Num [(.c .nils), (.t 67)])⟩, .again ⟨some 71, none, .r (.load false 1 (.t 70))⟩, .again ⟨some 63, none, .r (.load false 1 (.t 62))⟩, .op ⟨some 69, none, .r (.b2s (.t 68))⟩,
      .op ⟨some 72, none, .r (.bin .add (.t 69) (.t 71))⟩, .op ⟨some 73, none, .e (.call n_item_Store_Put [(.t 63), (.t 65), (.t 72), (.c (.bool false))])⟩, .op ⟨some 59, none, .r (.mv (.t 73))⟩, .op ⟨some 74, none, .r (.ext 0 (.t 59))⟩, .op ⟨some 75, none, .r (.ext 1 (.t 59))⟩, .op ⟨some 9, none, .r (.mv (.t 74))⟩, .op ⟨some 10, none, .r (.mv (.t 75))⟩])
    (.seq (.region [.op ⟨some 76, none, .r (.mv (.t 10))⟩, .op ⟨some 77, none, .r (.bin .neq (.t 76) (.c (.int .i64 (.ofNat 0))))⟩])
    (.cond (.t 77)
     (.seq (.region [.op ⟨some 78, none, .r (.mv (.t 0))⟩, .op ⟨some 79, none, .r (.nilck (.t 78))⟩, .op ⟨some 80, none, .r (.faddr 0 (.t 79))⟩, .op ⟨some 81, none, .r (.load false 1 (.t 80))⟩, .op ⟨some 82, none, .r (.mv (.t 0))⟩, .op ⟨some 83, none, .r (.nilck (.t 82))⟩, .op ⟨some 84, none, .r (.faddr 4 (.t 83))⟩, .op ⟨some 85, none, .r (.load false 1 (.t 84))⟩, .op ⟨some 86, none, .r (.faddr 3 (.t 3))⟩,
       .op ⟨some 87, none, .r (.load false 1 (.t 86))⟩, .op ⟨some 88, none, .r (.build [(.int .i64 (.ofNat 0)), (.int .i64 (.ofNat 0)), (.int .i64 (.ofNat 0)), (.int .i64 (.ofNat 0)), (.int .i64 (.ofNat 0)), (.int .i64 (.ofNat 0)), (.str []), (.int .i64 (.ofNat 0)), (.str [])] [(0, 1, (.c (.int .i64 (.ofNat 7)))), (1, 1, (.t 81)), (2, 1, (.t 85)), (3, 1, (.t 87))])⟩, .op ⟨none, none, .e (.store 9 (.t 4) (.t 88))⟩])
     .ret)
     .skip)))))
    (.seq (.region [.op ⟨some 90, none, .r (.bin .eql (.t 43) (.c (.int .i64 (.ofNat 2))))⟩, .op ⟨some 89, none, .r (.mv (.t 90))⟩])
    (.cond (.t 89)
     (.region [.op ⟨some 91, none, .r (.mv (.t 6))⟩, .op ⟨some 92, none, .r (.mv (.t 7))⟩, .op ⟨some 93, none, .r (.faddr 7 (.t 5))⟩, .op ⟨none, none, .e (.store 1 (.t 93) (.t 91))⟩, .op ⟨some 94, none, .r (.faddr 8 (.t 5))⟩, .op ⟨none, none, .e (.store 1 (.t 94) (.t 92))⟩])
     (.seq (.region [.op ⟨some 96, none, .r (.bin .eql (.t 43) (.c (.int .i64 (.ofNat 3))))⟩, .op ⟨some 95, none, .r (.mv (.t 96))⟩])
     (.cond (.t 95)
      (.seq (.region [.op ⟨some 97, none, .r (.faddr 7 (.t 3))⟩, .op ⟨some 98, none, .r (.load false 1 (.t 97))⟩, .op ⟨some 99, none, .r (.faddr 7 (.t 5))⟩, .op ⟨none, none, .e (.store 1 (.t 99) (.t 98))⟩])
      (.seq (.region [.op ⟨some 100, none, .r (.mv (.t 8))⟩, .op ⟨some 101, none, .r (.mv (.t 100))⟩, .op ⟨some 102, some (101, true), .r (.mv (.t 6))⟩, .op ⟨some 103, some (101, true), .r (.faddr 7 (.t 3))⟩, .op ⟨some 104, some (101, true), .r (.load false 1 (.t 103))⟩, .op ⟨some 105, some (101, true), .r (.bin .leq (.t 102) (.t 104))⟩, .op ⟨some 106, none, .r (.pick (.t 101) (.t 105) (.c (.bool false)))⟩])
      (.cond (.t 106)
       (.region [.op ⟨some 107, none, .r (.mv (.t 0))⟩, .op ⟨some 108, none, .r (.nilck (.t 107))⟩, .op ⟨some 109, none, .r (.faddr 6 (.t 108))⟩, .op ⟨some 110, none, .r (.load false 1 (.t 109))⟩, .op ⟨some 111, none, .r (.load true 9 (.t 3))⟩, .op ⟨some 112, none, .e (.call n_slot_name [(.t 111)])⟩, .again ⟨some 110, none, .r (.load false 1 (.t 109))⟩, .op ⟨some 113, none, .e (.call n_item_Store_Drop [(.t 110), (.t 112)])⟩])
       .skip)))
      .skip))))))))
  (.seq (.region [.op ⟨some 114, none, .r (.load true 9 (.t 5))⟩, .op ⟨none, none, .e (.store 9 (.t 4) (.t 114))⟩])
  .ret)))))) }
theorem tr_slot_Slot_do : trF cx Try.f26 = pf_slot_Slot_do := by kernel_rfl
def pf_slot_Slot_clear : PF := { ntmps := 23, results := [], body :=
  (.seq (.region [.op ⟨some 3, none, .r (.mv (.t 0))⟩, .op ⟨some 4, none, .r (.mv (.t 0))⟩, .op ⟨some 5, none, .r (.nilck (.t 4))⟩, .op ⟨some 6, none, .r (.faddr 1 (.t 5))⟩, .op ⟨some 7, none, .r (.load false 1 (.t 6))⟩, .op ⟨some 8, none, .r (.mv (.t 0))⟩, .op ⟨some 9, none, .r (.nilck (.t 8))⟩, .op ⟨some 10, none, .r (.faddr 2 (.t 9))⟩, .op ⟨some 11, none, .r (.load false 1 (.t 10))⟩, .op ⟨some 12, none, .e (.call n_item_New [(.t 7), (.t 11)])⟩,
    .op ⟨some 2, none, .r (.mv (.t 12))⟩, .op ⟨some 13, none, .r (.ext 0 (.t 2))⟩, .op ⟨some 14, none, .r (.ext 1 (.t 2))⟩, .op ⟨some 15, none, .r (.nilck (.t 3))⟩, .op ⟨some 16, none, .r (.faddr 6 (.t 15))⟩, .op ⟨none, none, .e (.store 1 (.t 16) (.t 13))⟩])
  (.region [.op ⟨some 17, none, .r (.mv (.t 0))⟩, .op ⟨some 18, none, .r (.mv (.t 0))⟩, .op ⟨some 19, none, .r (.nilck (.t 17))⟩, .op ⟨some 20, none, .r (.faddr 7 (.t 19))⟩, .op ⟨none, none, .e (.store 1 (.t 20) (.c .nils))⟩, .op ⟨some 21, none, .r (.nilck (.t 18))⟩, .op ⟨some 22, none, .r (.faddr 5 (.t 21))⟩, .op ⟨none, none, .e (.store 1 (.t 22) (.c (.int .i64 (.ofNat 0))))⟩])) }
theorem tr_slot_Slot_clear : trF cx Try.f27 = pf_slot_Slot_clear := by kernel_rfl
def pf_pack_grown : PF := { ntmps := 12, results := [.tmp 4], body :=
  (.seq (.region [.op ⟨some 4, none, .r (.mv (.c .nils))⟩])
  (.seq (.region [.op ⟨some 5, none, .r (.mv (.t 0))⟩, .op ⟨some 6, none, .r (.lensl (.t 5))⟩, .op ⟨some 7, none, .r (.mv (.t 1))⟩, .op ⟨some 8, none, .r (.bin .add (.t 6) (.t 7))⟩, .op ⟨some 9, none, .n (.mksl 2 1 1 [(.int .u8 (.ofNat 0))] (.c (.int .i64 (.ofNat 0))) (.t 8))⟩, .op ⟨some 10, none, .r (.mv (.t 0))⟩, .op ⟨some 11, none, .e (.app 2 1 1 (.t 9) (.t 10))⟩, .op ⟨some 4, none, .r (.mv (.t 11))⟩])
  .ret)) }
theorem tr_pack_grown : trF cx Try.f29 = pf_pack_grown := by kernel_rfl
def pf_pack_Reader_count : PF := { ntmps := 31, results := [.tmp 4], body :=
  (.seq (.region [.op ⟨some 4, none, .r (.mv (.c (.int .i64 (.ofNat 0))))⟩])
  (.seq (.region [.op ⟨some 7, none, .r (.mv (.t 0))⟩, .op ⟨some 8, none, .r (.nilck (.t 7))⟩, .op ⟨some 9, none, .r (.faddr 1 (.t 8))⟩, .op ⟨some 10, none, .r (.load false 1 (.t 9))⟩, .op ⟨some 5, none, .r (.mv (.t 10))⟩])
  (.seq (.region [.op ⟨some 11, none, .r (.mv (.t 0))⟩, .op ⟨some 12, none, .e (.call n_pack_Reader_Num [(.t 11)])⟩, .op ⟨some 6, none, .r (.mv (.t 12))⟩])
  (.seq (.seq (.region [.op ⟨some 13, none, .r (.mv (.t 0))⟩, .op ⟨some 14, none, .r (.nilck (.t 13))⟩, .op ⟨some 15, none, .r (.faddr 2 (.t 14))⟩, .op ⟨some 16, none, .r (.load false 1 (.t 15))⟩, .op ⟨some 17, none, .r (.bin .eql (.t 16) (.c (.int .i64 (.ofNat 0))))⟩, .op ⟨some 18, none, .r (.mv (.t 17))⟩, .op ⟨some 19, some (18, true), .r (.mv (.t 6))⟩, .op ⟨some 20, some (18, true), .r (.bin .lss (.t 19) (.c (.int .i64 (.ofNat 0))))⟩,
    .op ⟨some 21, some (18, true), .r (.mv (.t 20))⟩, .op ⟨some 22, some (21, false), .r (.mv (.t 6))⟩, .op ⟨some 23, some (21, false), .r (.mv (.t 1))⟩, .op ⟨some 24, some (21, false), .r (.bin .gtr (.t 22) (.t 23))⟩, .op ⟨some 25, some (18, true), .r (.pick (.t 21) (.c (.bool true)) (.t 24))⟩, .op ⟨some 26, none, .r (.pick (.t 18) (.t 25) (.c (.bool false)))⟩])
  (.cond (.t 26)
   (.seq (.region [.op ⟨some 27, none, .r (.mv (.t 0))⟩, .op ⟨some 28, none, .r (.mv (.t 5))⟩, .op ⟨some 29, none, .e (.call n_pack_Reader_fail [(.t 27), (.t 28), (.c (.int .i64 (.ofNat 2)))])⟩])
   (.seq (.region [.op ⟨some 4, none, .r (.mv (.c (.int .i64 (.ofNat 0))))⟩])
   .ret))
   .skip))
  (.seq (.region [.op ⟨some 30, none, .r (.mv (.t 6))⟩, .op ⟨some 4, none, .r (.mv (.t 30))⟩])
  .ret))))) }
theorem tr_pack_Reader_count : trF cx Try.f30 = pf_pack_Reader_count := by kernel_rfl
def pf_pack_Reader_fail : PF := { ntmps := 14, results := [], body :=
  (.region [.op ⟨some 6, none, .r (.mv (.t 0))⟩, .op ⟨some 7, none, .r (.mv (.t 0))⟩, .op ⟨some 8, none, .r (.mv (.t 1))⟩, .op ⟨some 9, none, .r (.mv (.t 2))⟩, .op ⟨some 10, none, .r (.nilck (.t 6))⟩, .op ⟨some 11, none, .r (.faddr 1 (.t 10))⟩, .op ⟨none, none, .e (.store 1 (.t 11) (.t 8))⟩, .op ⟨some 12, none, .r (.nilck (.t 7))⟩, .op ⟨some 13, none, .r (.faddr 2 (.t 12))⟩, .op ⟨none, none, .e (.store 1 (.t 13) (.t 9))⟩]) }
theorem tr_pack_Reader_fail : trF cx Try.f31 = pf_pack_Reader_fail := by kernel_rfl
def l0_slab_New : PC :=
  (.seq (.seq (.region [.op ⟨some 26, none, .r (.mv (.t 7))⟩, .op ⟨some 27, none, .r (.mv (.t 1))⟩, .op ⟨some 28, none, .r (.bin .leq (.t 26) (.t 27))⟩])
  (.cond (.t 28)
   .skip
   (.exit 0)))
  (.seq (.block 1 (.region [.op ⟨some 31, none, .r (.mv (.t 6))⟩, .op ⟨some 32, none, .r (.mv (.t 6))⟩, .op ⟨some 33, none, .r (.nilck (.t 32))⟩, .op ⟨some 34, none, .r (.faddr 3 (.t 33))⟩, .op ⟨some 35, none, .r (.load false 1 (.t 34))⟩, .op ⟨some 36, none, .r (.mv (.t 7))⟩, .op ⟨some 37, none, .n (.mkmap)⟩, .op ⟨some 38, none, .r (.build [(.int .i64 (.ofNat 0)), .nils, .nilm, (.int .i64 (.ofNat 0))] [(0, 1, (.t 36)), (2, 1, (.t 37))])⟩,
     .op ⟨some 39, none, .n (.bslice 0 4 1 [(.int .i64 (.ofNat 0)), .nils, .nilm, (.int .i64 (.ofNat 0))] [(0, 4, (.t 38))])⟩, .op ⟨some 40, none, .e (.app 0 4 48 (.t 35) (.t 39))⟩, .op ⟨some 41, none, .r (.nilck (.t 31))⟩, .op ⟨some 42, none, .r (.faddr 3 (.t 41))⟩, .op ⟨none, none, .e (.store 1 (.t 42) (.t 40))⟩]))
  (.region [.op ⟨some 29, none, .r (.mv (.t 7))⟩, .op ⟨some 30, none, .r (.bin .mul (.t 29) (.c (.int .i64 (.ofNat 2))))⟩, .op ⟨some 7, none, .r (.mv (.t 30))⟩])))
def pf_slab_New : PF := { ntmps := 44, results := [.tmp 4, .tmp 5], body :=
  (.seq (.region [.op ⟨some 4, none, .r (.mv (.c .nilp))⟩, .op ⟨some 5, none, .r (.mv (.c (.int .i64 (.ofNat 0))))⟩])
  (.seq (.seq (.region [.op ⟨some 8, none, .r (.mv (.t 0))⟩, .op ⟨some 9, none, .r (.bin .lss (.t 8) (.c (.int .i64 (.ofNat 1))))⟩, .op ⟨some 10, none, .r (.mv (.t 9))⟩, .op ⟨some 11, some (10, false), .r (.mv (.t 0))⟩, .op ⟨some 12, some (10, false), .r (.bin .gtr (.t 11) (.c (.int .i64 (.ofNat 64))))⟩, .op ⟨some 13, none, .r (.pick (.t 10) (.c (.bool true)) (.t 12))⟩, .op ⟨some 14, none, .r (.mv (.t 13))⟩,
    .op ⟨some 15, some (14, false), .r (.mv (.t 1))⟩, .op ⟨some 16, some (14, false), .r (.bin .lss (.t 15) (.c (.int .i64 (.ofNat 64))))⟩, .op ⟨some 17, none, .r (.pick (.t 14) (.c (.bool true)) (.t 16))⟩, .op ⟨some 18, none, .r (.mv (.t 17))⟩, .op ⟨some 19, some (18, false), .r (.mv (.t 1))⟩, .op ⟨some 20, some (18, false), .r (.bin .gtr (.t 19) (.c (.int .i64 (.ofNat 65536))))⟩, .op ⟨some 21, none, .r (.pick (.t 18) (.c (.bool true)) (.t 20))⟩])
  (.cond (.t 21)
   (.seq (.region [.op ⟨some 4, none, .r (.mv (.c .nilp))⟩, .op ⟨some 5, none, .r (.mv (.c (.int .i64 (.ofNat 1))))⟩])
   .ret)
   .skip))
  (.seq (.region [.op ⟨some 22, none, .r (.mv (.t 1))⟩, .op ⟨some 23, none, .r (.mv (.t 0))⟩, .op ⟨some 24, none, .r (.build [(.int .i64 (.ofNat 0)), (.int .i64 (.ofNat 0)), (.int .i64 (.ofNat 0)), .nils] [(0, 1, (.t 22)), (1, 1, (.t 23))])⟩, .op ⟨some 25, none, .n (.box (.t 24))⟩, .op ⟨some 6, none, .r (.mv (.t 25))⟩])
  (.seq (.seq (.region [.op ⟨some 7, none, .r (.mv (.c (.int .i64 (.ofNat 64))))⟩])
  (.block 0 (.loop l0_slab_New)))
  (.seq (.region [.op ⟨some 43, none, .r (.mv (.t 6))⟩, .op ⟨some 4, none, .r (.mv (.t 43))⟩, .op ⟨some 5, none, .r (.mv (.c (.int .i64 (.ofNat 0))))⟩])
  .ret))))) }
theorem tr_slab_New : trF cx Try.f32 = pf_slab_New := by kernel_rfl
def pf_chain_New : PF := { ntmps := 4, results := [.tmp 0], body :=
  (.seq (.region [.op ⟨some 0, none, .r (.mv (.c .nilp))⟩])
  (.seq (.region [.op ⟨some 1, none, .n (.mksl 0 1 24 [.nils] (.c (.int .i64 (.ofNat 4))) (.c (.int .i64 (.ofNat 4))))⟩, .op ⟨some 2, none, .r (.build [.nils, .nils, (.int .i64 (.ofNat 0)), (.int .i64 (.ofNat 0))] [(0, 1, (.t 1))])⟩, .op ⟨some 3, none, .n (.box (.t 2))⟩, .op ⟨some 0, none, .r (.mv (.t 3))⟩])
  .ret)) }
theorem tr_chain_New : trF cx Try.f33 = pf_chain_New := by kernel_rfl
def pf_wire_within : PF := { ntmps := 12, results := [.tmp 4], body :=
  (.seq (.region [.op ⟨some 4, none, .r (.mv (.c (.bool false)))⟩])
  (.seq (.region [.op ⟨some 5, none, .r (.mv (.t 0))⟩, .op ⟨some 6, none, .r (.bin .geq (.t 5) (.c (.int .i64 (.ofNat 0))))⟩, .op ⟨some 7, none, .r (.mv (.t 6))⟩, .op ⟨some 8, some (7, true), .r (.mv (.t 0))⟩, .op ⟨some 9, some (7, true), .r (.mv (.t 1))⟩, .op ⟨some 10, some (7, true), .r (.bin .leq (.t 8) (.t 9))⟩, .op ⟨some 11, none, .r (.pick (.t 7) (.t 10) (.c (.bool false)))⟩, .op ⟨some 4, none, .r (.mv (.t 11))⟩])
  .ret)) }
theorem tr_wire_within : trF cx Try.f34 = pf_wire_within := by kernel_rfl
def pf_wire_role : PF := { ntmps := 30, results := [.tmp 4], body :=
  (.seq (.region [.op ⟨some 4, none, .r (.mv (.c (.bool false)))⟩])
  (.seq (.seq (.region [.op ⟨some 5, none, .r (.mv (.t 0))⟩])
  (.block 0 (.seq (.seq (.region [.op ⟨some 7, none, .r (.bin .eql (.t 5) (.c (.int .i64 (.ofNat 4))))⟩, .op ⟨some 6, none, .r (.mv (.t 7))⟩])
   (.cond (.t 6)
    .skip
    (.seq (.region [.op ⟨some 8, none, .r (.bin .eql (.t 5) (.c (.int .i64 (.ofNat 5))))⟩, .op ⟨some 6, none, .r (.mv (.t 8))⟩])
    (.cond (.t 6)
     .skip
     (.region [.op ⟨some 9, none, .r (.bin .eql (.t 5) (.c (.int .i64 (.ofNat 7))))⟩, .op ⟨some 6, none, .r (.mv (.t 9))⟩])))))
   (.cond (.t 6)
    (.seq (.region [.op ⟨some 10, none, .r (.mv (.t 1))⟩, .op ⟨some 11, none, .r (.bin .eql (.t 10) (.c (.int .i64 (.ofNat 0))))⟩, .op ⟨some 4, none, .r (.mv (.t 11))⟩])
    .ret)
    (.seq (.region [.op ⟨some 13, none, .r (.bin .eql (.t 5) (.c (.int .i64 (.ofNat 6))))⟩, .op ⟨some 12, none, .r (.mv (.t 13))⟩])
    (.cond (.t 12)
     (.seq (.region [.op ⟨some 14, none, .r (.mv (.t 1))⟩, .op ⟨some 15, none, .r (.bin .eql (.t 14) (.c (.int .i64 (.ofNat 0))))⟩, .op ⟨some 16, none, .r (.mv (.t 15))⟩, .op ⟨some 17, some (16, false), .r (.mv (.t 1))⟩, .op ⟨some 18, some (16, false), .r (.bin .eql (.t 17) (.c (.int .i64 (.ofNat 1))))⟩, .op ⟨some 19, none, .r (.pick (.t 16) (.c (.bool true)) (.t 18))⟩, .op ⟨some 20, none, .r (.mv (.t 19))⟩,
       .op ⟨some 21, some (20, false), .r (.mv (.t 1))⟩, .op ⟨some 22, some (20, false), .r (.bin .eql (.t 21) (.c (.int .i64 (.ofNat 2))))⟩, .op ⟨some 23, none, .r (.pick (.t 20) (.c (.bool true)) (.t 22))⟩, .op ⟨some 4, none, .r (.mv (.t 23))⟩])
     .ret)
     .skip))))))
  (.seq (.region [.op ⟨some 24, none, .r (.mv (.t 1))⟩, .op ⟨some 25, none, .r (.bin .eql (.t 24) (.c (.int .i64 (.ofNat 1))))⟩, .op ⟨some 26, none, .r (.mv (.t 25))⟩, .op ⟨some 27, some (26, false), .r (.mv (.t 1))⟩, .op ⟨some 28, some (26, false), .r (.bin .eql (.t 27) (.c (.int .i64 (.ofNat 2))))⟩, .op ⟨some 29, none, .r (.pick (.t 26) (.c (.bool true)) (.t 28))⟩, .op ⟨some 4, none, .r (.mv (.t 29))⟩])
  .ret))) }
theorem tr_wire_role : trF cx Try.f35 = pf_wire_role := by kernel_rfl
def l0_slices_IndexFunc_slot_did_slot_did : PC :=
  (.seq (.region [.op ⟨some 9, none, .r (.bin .lss (.t 8) (.t 7))⟩])
  (.seq (.cond (.t 9)
   .skip
   (.exit 0))
  (.seq (.block 1 (.seq (.region [.op ⟨some 10, none, .r (.mv (.t 8))⟩, .op ⟨some 5, none, .r (.mv (.t 10))⟩])
   (.seq (.region [.op ⟨some 11, none, .r (.mv (.t 1))⟩, .op ⟨some 12, none, .r (.mv (.t 0))⟩, .op ⟨some 13, none, .r (.mv (.t 5))⟩, .op ⟨some 14, none, .r (.iasl 10 (.t 12) (.t 13))⟩, .op ⟨some 15, none, .r (.load true 10 (.t 14))⟩, .op ⟨some 16, none, .e (.callv (.t 11) [(.t 15)])⟩])
   (.cond (.t 16)
    (.seq (.region [.op ⟨some 17, none, .r (.mv (.t 5))⟩, .op ⟨some 4, none, .r (.mv (.t 17))⟩])
    .ret)
    .skip))))
  (.region [.op ⟨some 18, none, .r (.bin .add (.t 8) (.c (.int .i64 (.ofNat 1))))⟩, .op ⟨some 8, none, .r (.mv (.t 18))⟩]))))
def pf_slices_IndexFunc_slot_did_slot_did : PF := { ntmps := 19, results := [.tmp 4], body :=
  (.seq (.region [.op ⟨some 4, none, .r (.mv (.c (.int .i64 (.ofNat 0))))⟩])
  (.seq (.seq (.region [.op ⟨some 6, none, .r (.mv (.t 0))⟩, .op ⟨some 7, none, .r (.lensl (.t 6))⟩, .op ⟨some 8, none, .r (.mv (.c (.int .i64 (.ofNat 0))))⟩])
  (.block 0 (.loop l0_slices_IndexFunc_slot_did_slot_did)))
  (.seq (.region [.op ⟨some 4, none, .r (.mv (.c (.int .i64 (.negSucc 0))))⟩])
  .ret))) }
theorem tr_slices_IndexFunc_slot_did_slot_did : trF cx Try.f36 = pf_slices_IndexFunc_slot_did_slot_did := by kernel_rfl
def l0_slot_Slot_scan : PC :=
  (.seq (.region [.op ⟨some 18, none, .r (.bin .lss (.t 17) (.t 16))⟩])
  (.seq (.cond (.t 18)
   .skip
   (.exit 0))
  (.seq (.block 1 (.seq (.region [.op ⟨some 19, none, .r (.iasl 1 (.t 15) (.t 17))⟩, .op ⟨some 20, none, .r (.load false 1 (.t 19))⟩, .op ⟨some 7, none, .r (.mv (.t 20))⟩])
   (.seq (.region [.op ⟨some 21, none, .r (.mv (.t 7))⟩, .op ⟨some 22, none, .r (.ixstr (.t 21) (.c (.int .i64 (.ofNat 0))))⟩, .op ⟨some 23, none, .r (.bin .eql (.t 22) (.c (.int .u8 (.ofNat 109))))⟩, .op ⟨some 24, none, .r (.mv (.t 23))⟩, .op ⟨some 25, some (24, true), .r (.mv (.t 7))⟩, .op ⟨some 26, some (24, true), .r (.slstr (.t 25) (some (.c (.int .i64 (.ofNat 1)))) none)⟩, .op ⟨some 27, some (24, true), .r (.mv (.t 1))⟩,
     .op ⟨some 28, some (24, true), .r (.bin .gtr (.t 26) (.t 27))⟩, .op ⟨some 29, none, .r (.pick (.t 24) (.t 28) (.c (.bool false)))⟩])
   (.cond (.t 29)
    (.region [.op ⟨some 30, none, .r (.mv (.t 5))⟩, .op ⟨some 31, none, .r (.mv (.t 7))⟩, .op ⟨some 32, none, .r (.slstr (.t 31) (some (.c (.int .i64 (.ofNat 1)))) none)⟩, .op ⟨some 33, none, .n (.bslice 0 1 1 [(.str [])] [(0, 1, (.t 32))])⟩, .op ⟨some 34, none, .e (.app 0 1 16 (.t 30) (.t 33))⟩, .op ⟨some 5, none, .r (.mv (.t 34))⟩])
    .skip))))
  (.region [.op ⟨some 35, none, .r (.bin .add (.t 17) (.c (.int .i64 (.ofNat 1))))⟩, .op ⟨some 17, none, .r (.mv (.t 35))⟩]))))
def l1_slot_Slot_scan : PC :=
  (.seq (.region [.op ⟨some 45, none, .r (.bin .lss (.t 44) (.t 43))⟩])
  (.seq (.cond (.t 45)
   .skip
   (.exit 2))
  (.seq (.block 3 (.seq (.region [.op ⟨some 46, none, .r (.iasl 1 (.t 42) (.t 44))⟩, .op ⟨some 47, none, .r (.load false 1 (.t 46))⟩, .op ⟨some 10, none, .r (.mv (.t 47))⟩])
   (.region [.op ⟨some 48, none, .r (.mv (.t 8))⟩, .op ⟨some 49, none, .r (.mv (.t 10))⟩, .op ⟨some 50, none, .e (.call n_pack_Text [(.t 48), (.t 49)])⟩, .op ⟨some 8, none, .r (.mv (.t 50))⟩])))
  (.region [.op ⟨some 51, none, .r (.bin .add (.t 44) (.c (.int .i64 (.ofNat 1))))⟩, .op ⟨some 44, none, .r (.mv (.t 51))⟩]))))
def pf_slot_Slot_scan : PF := { ntmps := 54, results := [.tmp 4], body :=
  (.seq (.region [.op ⟨some 4, none, .r (.mv (.c (.str [])))⟩])
  (.seq (.region [.op ⟨some 5, none, .r (.mv (.c .nils))⟩])
  (.seq (.seq (.region [.op ⟨some 11, none, .r (.mv (.t 0))⟩, .op ⟨some 12, none, .r (.nilck (.t 11))⟩, .op ⟨some 13, none, .r (.faddr 6 (.t 12))⟩, .op ⟨some 14, none, .r (.load false 1 (.t 13))⟩, .op ⟨some 15, none, .e (.call n_item_Store_Keys [(.t 14)])⟩, .op ⟨some 16, none, .r (.lensl (.t 15))⟩, .op ⟨some 17, none, .r (.mv (.c (.int .i64 (.ofNat 0))))⟩])
  (.block 0 (.loop l0_slot_Slot_scan)))
  (.seq (.region [.op ⟨some 36, none, .r (.mv (.t 5))⟩, .op ⟨some 37, none, .e (.call n_slices_Sort_string_string [(.t 36)])⟩])
  (.seq (.region [.op ⟨some 8, none, .r (.mv (.c .nils))⟩])
  (.seq (.seq (.region [.op ⟨some 38, none, .r (.mv (.t 5))⟩, .op ⟨some 39, none, .r (.mv (.t 5))⟩, .op ⟨some 40, none, .r (.lensl (.t 39))⟩, .op ⟨some 41, none, .r (.minmax false [(.t 40), (.c (.int .i64 (.ofNat 16)))])⟩, .op ⟨some 42, none, .r (.slsl 1 (.t 38) none (some (.t 41)) none)⟩, .op ⟨some 43, none, .r (.lensl (.t 42))⟩, .op ⟨some 44, none, .r (.mv (.c (.int .i64 (.ofNat 0))))⟩])
  (.block 2 (.loop l1_slot_Slot_scan)))
  (.seq (.region [.op ⟨some 52, none, .r (.mv (.t 8))⟩, .op ⟨some 53, none, .r (.b2s (.t 52))⟩, .op ⟨some 4, none, .r (.mv (.t 53))⟩])
  .ret))))))) }
theorem tr_slot_Slot_scan : trF cx Try.f37 = pf_slot_Slot_scan := by kernel_rfl
def pf_slot_Slot_stands : PF := { ntmps := 33, results := [.tmp 4, .tmp 5, .tmp 6], body :=
  (.seq (.region [.op ⟨some 3, none, .n (.box (.t 1))⟩, .op ⟨some 4, none, .r (.mv (.c (.int .i64 (.ofNat 0))))⟩, .op ⟨some 5, none, .r (.mv (.c (.str [])))⟩, .op ⟨some 6, none, .r (.mv (.c (.bool false)))⟩])
  (.seq (.region [.op ⟨some 12, none, .r (.mv (.t 0))⟩, .op ⟨some 13, none, .r (.nilck (.t 12))⟩, .op ⟨some 14, none, .r (.faddr 6 (.t 13))⟩, .op ⟨some 15, none, .r (.load false 1 (.t 14))⟩, .op ⟨some 16, none, .r (.load true 9 (.t 3))⟩, .op ⟨some 17, none, .e (.call n_slot_name [(.t 16)])⟩, .again ⟨some 15, none, .r (.load false 1 (.t 14))⟩, .op ⟨some 18, none, .e (.call n_item_Store_Get [(.t 15), (.t 17)])⟩,
    .op ⟨some 11, none, .r (.mv (.t 18))⟩, .op ⟨some 19, none, .r (.ext 0 (.t 11))⟩, .op ⟨some 20, none, .r (.ext 1 (.t 11))⟩, .op ⟨some 7, none, .r (.mv (.t 19))⟩, .op ⟨some 8, none, .r (.mv (.t 20))⟩])
  (.seq (.seq (.region [.op ⟨some 21, none, .r (.mv (.t 8))⟩, .op ⟨some 22, none, .r (.un .not (.t 21))⟩])
  (.cond (.t 22)
   (.seq (.region [.op ⟨some 4, none, .r (.mv (.c (.int .i64 (.ofNat 0))))⟩, .op ⟨some 5, none, .r (.mv (.c (.str [])))⟩, .op ⟨some 6, none, .r (.mv (.c (.bool false)))⟩])
   .ret)
   .skip))
  (.seq (.region [.op ⟨some 23, none, .r (.mv (.t 7))⟩, .op ⟨some 24, none, .n (.s2b (.t 23))⟩, .op ⟨some 25, none, .e (.call n_pack_Read [(.t 24)])⟩, .op ⟨some 9, none, .r (.mv (.t 25))⟩])
  (.seq (.region [.op ⟨some 26, none, .r (.mv (.t 9))⟩, .op ⟨some 27, none, .e (.call n_pack_Reader_Num [(.t 26)])⟩, .op ⟨some 10, none, .r (.mv (.t 27))⟩])
  (.seq (.region [.op ⟨some 28, none, .r (.mv (.t 10))⟩, .op ⟨some 29, none, .r (.mv (.t 7))⟩, .op ⟨some 30, none, .r (.mv (.t 9))⟩, .op ⟨some 31, none, .e (.call n_pack_Reader_At [(.t 30)])⟩, .op ⟨some 32, none, .r (.slstr (.t 29) (some (.t 31)) none)⟩, .op ⟨some 4, none, .r (.mv (.t 28))⟩, .op ⟨some 5, none, .r (.mv (.t 32))⟩, .op ⟨some 6, none, .r (.mv (.c (.bool true)))⟩])
  .ret)))))) }
theorem tr_slot_Slot_stands : trF cx Try.f38 = pf_slot_Slot_stands := by kernel_rfl
def l0_item_Store_Put : PC :=
  (.seq (.seq (.region [.op ⟨some 43, none, .r (.mv (.t 13))⟩, .op ⟨some 44, none, .r (.bin .eql (.t 43) (.c (.int .i64 (.ofNat 6))))⟩])
  (.cond (.t 44)
   .skip
   (.exit 0)))
  (.block 1 (.seq (.region [.op ⟨some 45, none, .r (.mv (.t 0))⟩, .op ⟨some 46, none, .r (.mv (.t 10))⟩, .op ⟨some 47, none, .r (.bad)⟩, .op ⟨some 14, none, .r (.mv (.t 47))⟩])
   (.seq (.seq (.region [.op ⟨some 48, none, .r (.mv (.t 14))⟩, .op ⟨some 49, none, .r (.bin .eql (.t 48) (.c (.int .i64 (.ofNat 0))))⟩])
   (.cond (.t 49)
    (.seq (.region [.op ⟨some 50, none, .r (.mv (.t 11))⟩, .op ⟨some 8, none, .r (.mv (.t 50))⟩, .op ⟨some 9, none, .r (.mv (.c (.int .i64 (.ofNat 6))))⟩])
    .ret)
    .skip))
   (.seq (.region [.op ⟨some 51, none, .r (.mv (.t 11))⟩, .op ⟨some 52, none, .r (.mv (.t 0))⟩, .op ⟨some 53, none, .r (.nilck (.t 52))⟩, .op ⟨some 54, none, .r (.faddr 2 (.t 53))⟩, .op ⟨some 55, none, .r (.load false 1 (.t 54))⟩, .op ⟨some 56, none, .r (.mv (.t 14))⟩, .op ⟨some 57, none, .r (.iasl 6 (.t 55) (.t 56))⟩, .op ⟨some 58, none, .r (.faddr 0 (.t 57))⟩, .op ⟨some 59, none, .r (.load false 1 (.t 58))⟩,
     .op ⟨some 60, none, .n (.bslice 0 1 1 [(.str [])] [(0, 1, (.t 59))])⟩, .op ⟨some 61, none, .e (.app 0 1 16 (.t 51) (.t 60))⟩, .op ⟨some 11, none, .r (.mv (.t 61))⟩])
   (.seq (.region [.op ⟨some 62, none, .r (.mv (.t 0))⟩, .op ⟨some 63, none, .r (.mv (.t 14))⟩, .op ⟨some 64, none, .e (.call n_item_Store_gone [(.t 62), (.t 63)])⟩])
   (.region [.op ⟨some 66, none, .r (.mv (.t 0))⟩, .op ⟨some 67, none, .r (.nilck (.t 66))⟩, .op ⟨some 68, none, .r (.faddr 0 (.t 67))⟩, .op ⟨some 69, none, .r (.load false 1 (.t 68))⟩, .op ⟨some 70, none, .r (.mv (.t 1))⟩, .op ⟨some 71, none, .r (.mv (.t 2))⟩, .op ⟨some 72, none, .r (.bin .add (.t 70) (.t 71))⟩, .op ⟨some 73, none, .e (.call n_slab_Slab_Alloc [(.t 69), (.t 72)])⟩, .op ⟨some 65, none, .r (.mv (.t 73))⟩,
     .op ⟨some 74, none, .r (.ext 0 (.t 65))⟩, .op ⟨some 75, none, .r (.ext 1 (.t 65))⟩, .op ⟨none, none, .e (.store 2 (.t 12) (.t 74))⟩, .op ⟨some 13, none, .r (.mv (.t 75))⟩])))))))
def pf_item_Store_Put : PF := { ntmps := 137, results := [.tmp 8, .tmp 9], body :=
  (.seq (.region [.op ⟨some 8, none, .r (.mv (.c .nils))⟩, .op ⟨some 9, none, .r (.mv (.c (.int .i64 (.ofNat 0))))⟩])
  (.seq (.region [.op ⟨some 17, none, .r (.mv (.t 0))⟩, .op ⟨some 18, none, .r (.mv (.t 1))⟩, .op ⟨some 19, none, .e (.call n_item_Store_Drop [(.t 17), (.t 18)])⟩])
  (.seq (.region [.op ⟨some 20, none, .r (.mv (.t 0))⟩, .op ⟨some 21, none, .r (.nilck (.t 20))⟩, .op ⟨some 22, none, .r (.faddr 0 (.t 21))⟩, .op ⟨some 23, none, .r (.load false 1 (.t 22))⟩, .op ⟨some 24, none, .r (.mv (.t 1))⟩, .op ⟨some 25, none, .r (.lens (.t 24))⟩, .op ⟨some 26, none, .r (.mv (.t 2))⟩, .op ⟨some 27, none, .r (.lens (.t 26))⟩, .op ⟨some 28, none, .r (.bin .add (.t 25) (.t 27))⟩,
    .op ⟨some 29, none, .e (.call n_slab_Slab_Class [(.t 23), (.t 28)])⟩, .op ⟨some 10, none, .r (.mv (.t 29))⟩])
  (.seq (.seq (.region [.op ⟨some 30, none, .r (.mv (.t 10))⟩, .op ⟨some 31, none, .r (.bin .lss (.t 30) (.c (.int .i64 (.ofNat 0))))⟩])
  (.cond (.t 31)
   (.seq (.region [.op ⟨some 8, none, .r (.mv (.c .nils))⟩, .op ⟨some 9, none, .r (.mv (.c (.int .i64 (.ofNat 2))))⟩])
   .ret)
   .skip))
  (.seq (.region [.op ⟨some 11, none, .r (.mv (.c .nils))⟩])
  (.seq (.region [.op ⟨some 33, none, .r (.mv (.t 0))⟩, .op ⟨some 34, none, .r (.nilck (.t 33))⟩, .op ⟨some 35, none, .r (.faddr 0 (.t 34))⟩, .op ⟨some 36, none, .r (.load false 1 (.t 35))⟩, .op ⟨some 37, none, .r (.mv (.t 1))⟩, .op ⟨some 38, none, .r (.mv (.t 2))⟩, .op ⟨some 39, none, .r (.bin .add (.t 37) (.t 38))⟩, .op ⟨some 40, none, .e (.call n_slab_Slab_Alloc [(.t 36), (.t 39)])⟩, .op ⟨some 32, none, .r (.mv (.t 40))⟩,
    .op ⟨some 41, none, .r (.ext 0 (.t 32))⟩, .op ⟨some 42, none, .r (.ext 1 (.t 32))⟩, .op ⟨some 12, none, .n (.new 0 [(.int .i64 (.ofNat 0)), (.int .i64 (.ofNat 0))])⟩, .op ⟨none, none, .e (.store 2 (.t 12) (.t 41))⟩, .op ⟨some 13, none, .r (.mv (.t 42))⟩])
  (.seq (.block 0 (.loop l0_item_Store_Put))
  (.seq (.region [.op ⟨some 76, none, .r (.mv (.t 0))⟩, .op ⟨some 77, none, .r (.nilck (.t 76))⟩, .op ⟨some 78, none, .r (.faddr 2 (.t 77))⟩, .op ⟨some 79, none, .r (.load false 1 (.t 78))⟩, .op ⟨some 80, none, .r (.lensl (.t 79))⟩, .op ⟨some 15, none, .r (.mv (.t 80))⟩])
  (.seq (.seq (.region [.op ⟨some 81, none, .r (.mv (.t 0))⟩, .op ⟨some 82, none, .r (.nilck (.t 81))⟩, .op ⟨some 83, none, .r (.faddr 3 (.t 82))⟩, .op ⟨some 84, none, .r (.load false 1 (.t 83))⟩, .op ⟨some 85, none, .r (.lensl (.t 84))⟩, .op ⟨some 16, none, .r (.mv (.t 85))⟩])
  (.seq (.region [.op ⟨some 86, none, .r (.mv (.t 16))⟩, .op ⟨some 87, none, .r (.bin .gtr (.t 86) (.c (.int .i64 (.ofNat 0))))⟩])
  (.cond (.t 87)
   (.region [.op ⟨some 88, none, .r (.mv (.t 0))⟩, .op ⟨some 89, none, .r (.mv (.t 0))⟩, .op ⟨some 90, none, .r (.nilck (.t 89))⟩, .op ⟨some 91, none, .r (.faddr 3 (.t 90))⟩, .op ⟨some 92, none, .r (.load false 1 (.t 91))⟩, .op ⟨some 93, none, .r (.mv (.t 16))⟩, .op ⟨some 94, none, .r (.bin .sub (.t 93) (.c (.int .i64 (.ofNat 1))))⟩, .op ⟨some 95, none, .r (.iasl 1 (.t 92) (.t 94))⟩, .op ⟨some 96, none, .r (.load false 1 (.t 95))⟩,
     .op ⟨some 97, none, .r (.mv (.t 0))⟩, .op ⟨some 98, none, .r (.nilck (.t 97))⟩, .op ⟨some 99, none, .r (.faddr 3 (.t 98))⟩, .op ⟨some 100, none, .r (.load false 1 (.t 99))⟩, .op ⟨some 101, none, .r (.mv (.t 16))⟩, .op ⟨some 102, none, .r (.bin .sub (.t 101) (.c (.int .i64 (.ofNat 1))))⟩, .op ⟨some 103, none, .r (.slsl 1 (.t 100) none (some (.t 102)) none)⟩, .op ⟨some 15, none, .r (.mv (.t 96))⟩,
     .op ⟨some 104, none, .r (.nilck (.t 88))⟩, .op ⟨some 105, none, .r (.faddr 3 (.t 104))⟩, .op ⟨none, none, .e (.store 1 (.t 105) (.t 103))⟩])
   (.region [.op ⟨some 106, none, .r (.mv (.t 0))⟩, .op ⟨some 107, none, .r (.mv (.t 0))⟩, .op ⟨some 108, none, .r (.nilck (.t 107))⟩, .op ⟨some 109, none, .r (.faddr 2 (.t 108))⟩, .op ⟨some 110, none, .r (.load false 1 (.t 109))⟩, .op ⟨some 111, none, .r (.build [(.str []), (.int .i64 (.ofNat 0)), (.int .i64 (.ofNat 0)), (.bool false), (.int .i64 (.ofNat 0)), (.int .i64 (.ofNat 0))] [])⟩, .op ⟨some 112, none, .n (.bslice 0 6 1 [(.str []), (.int .i64 (.ofNat 0)), (.int .i64 (.ofNat 0)), (.bool false), (.int .i64 (.ofNat 0)), (.int .i64 (.ofNat 0))] [(0, 6, (.t 111))])⟩,
     .op ⟨some 113, none, .e (.app 0 6 56 (.t 110) (.t 112))⟩, .op ⟨some 114, none, .r (.nilck (.t 106))⟩, .op ⟨some 115, none, .r (.faddr 2 (.t 114))⟩, .op ⟨none, none, .e (.store 1 (.t 115) (.t 113))⟩]))))
  (.seq (.region [.op ⟨some 116, none, .r (.mv (.t 0))⟩, .op ⟨some 117, none, .r (.nilck (.t 116))⟩, .op ⟨some 118, none, .r (.faddr 2 (.t 117))⟩, .op ⟨some 119, none, .r (.load false 1 (.t 118))⟩, .op ⟨some 120, none, .r (.mv (.t 15))⟩, .op ⟨some 121, none, .r (.mv (.t 1))⟩, .op ⟨some 122, none, .r (.load true 2 (.t 12))⟩, .op ⟨some 123, none, .r (.mv (.t 3))⟩, .op ⟨some 124, none, .r (.build [(.str []), (.int .i64 (.ofNat 0)), (.int .i64 (.ofNat 0)), (.bool false), (.int .i64 (.ofNat 0)), (.int .i64 (.ofNat 0))] [(0, 1, (.t 121)), (1, 2, (.t 122)), (3, 1, (.t 123))])⟩,
    .op ⟨some 125, none, .r (.iasl 6 (.t 119) (.t 120))⟩, .op ⟨none, none, .e (.store 6 (.t 125) (.t 124))⟩])
  (.seq (.region [.op ⟨some 126, none, .r (.mv (.t 0))⟩, .op ⟨some 127, none, .r (.mv (.t 15))⟩, .op ⟨some 128, none, .e (.call n_item_Store_in [(.t 126), (.t 127)])⟩])
  (.seq (.region [.op ⟨some 129, none, .r (.mv (.t 0))⟩, .op ⟨some 130, none, .r (.nilck (.t 129))⟩, .op ⟨some 131, none, .r (.faddr 1 (.t 130))⟩, .op ⟨some 132, none, .r (.load false 1 (.t 131))⟩, .op ⟨some 133, none, .r (.mv (.t 1))⟩, .op ⟨some 134, none, .r (.mv (.t 15))⟩, .op ⟨some 135, none, .e (.call n_chain_Chain_Put [(.t 132), (.t 133), (.t 134)])⟩])
  (.seq (.region [.op ⟨some 136, none, .r (.mv (.t 11))⟩, .op ⟨some 8, none, .r (.mv (.t 136))⟩, .op ⟨some 9, none, .r (.mv (.c (.int .i64 (.ofNat 0))))⟩])
  .ret))))))))))))) }
theorem tr_item_Store_Put : trF cx Try.f39 = pf_item_Store_Put := by kernel_rfl
def pf_slot_name : PF := { ntmps := 18, results := [.tmp 2], body :=
  (.seq (.region [.op ⟨some 1, none, .n (.box (.t 0))⟩, .op ⟨some 2, none, .r (.mv (.c (.str [])))⟩])
  (.seq (.seq (.region [.op ⟨some 3, none, .r (.faddr 5 (.t 1))⟩, .op ⟨some 4, none, .r (.load false 1 (.t 3))⟩, .op ⟨some 5, none, .r (.bin .eql (.t 4) (.c (.int .i64 (.ofNat 1))))⟩])
  (.cond (.t 5)
   (.seq (.region [.op ⟨some 6, none, .r (.faddr 6 (.t 1))⟩, .op ⟨some 7, none, .r (.load false 1 (.t 6))⟩, .op ⟨some 8, none, .r (.bin .add (.c (.str [109])) (.t 7))⟩, .op ⟨some 2, none, .r (.mv (.t 8))⟩])
   .ret)
   .skip))
  (.seq (.region [.op ⟨some 9, none, .n (.bslice 2 1 1 [(.int .u8 (.ofNat 0))] [(0, 1, (.c (.int .u8 (.ofNat 112))))])⟩, .op ⟨some 11, none, .r (.faddr 7 (.t 1))⟩, .op ⟨some 12, none, .r (.load false 1 (.t 11))⟩, .op ⟨some 15, none, .r (.faddr 6 (.t 1))⟩, .op ⟨some 16, none, .r (.load false 1 (.t 15))⟩, .op ⟨some 10, none, .e (.mark (.t 9))⟩, .again ⟨some 16, none, .r (.load false 1 (.t 15))⟩, .again ⟨some 12, none, .r (.load false 1 (.t 11))⟩,
    .op ⟨some 13, none, .e (.call n_pack_Num [(.t 10), (.t 12)])⟩, .again ⟨some 16, none, .r (.load false 1 (.t 15))⟩, .op ⟨some 14, none, .r (.b2s (.t 13))⟩, .op ⟨some 17, none, .r (.bin .add (.t 14) (.t 16))⟩, .op ⟨some 2, none, .r (.mv (.t 17))⟩])
  .ret))) }
theorem tr_slot_name : trF cx Try.f40 = pf_slot_name := by kernel_rfl
def pf_pack_Num : PF := { ntmps := 9, results := [.tmp 4], body :=
  (.seq (.region [.op ⟨some 4, none, .r (.mv (.c .nils))⟩])
  (.seq (.region [.op ⟨some 5, none, .r (.mv (.t 0))⟩, .op ⟨some 6, none, .e (.call n_pack_grown [(.t 5), (.c (.int .i64 (.ofNat 10)))])⟩, .op ⟨some 7, none, .r (.mv (.t 1))⟩, .op ⟨some 8, none, .e (.call n_pack_num [(.t 6), (.t 7)])⟩, .op ⟨some 4, none, .r (.mv (.t 8))⟩])
  .ret)) }
theorem tr_pack_Num : trF cx Try.f41 = pf_pack_Num := by kernel_rfl
def pf_item_Store_Drop : PF := { ntmps := 21, results := [.tmp 4], body :=
  (.seq (.region [.op ⟨some 4, none, .r (.mv (.c (.bool false)))⟩])
  (.seq (.region [.op ⟨some 8, none, .r (.mv (.t 0))⟩, .op ⟨some 9, none, .r (.nilck (.t 8))⟩, .op ⟨some 10, none, .r (.faddr 1 (.t 9))⟩, .op ⟨some 11, none, .r (.load false 1 (.t 10))⟩, .op ⟨some 12, none, .r (.mv (.t 1))⟩, .op ⟨some 13, none, .e (.call n_chain_Chain_Get [(.t 11), (.t 12)])⟩, .op ⟨some 7, none, .r (.mv (.t 13))⟩, .op ⟨some 14, none, .r (.ext 0 (.t 7))⟩, .op ⟨some 15, none, .r (.ext 1 (.t 7))⟩,
    .op ⟨some 5, none, .r (.mv (.t 14))⟩, .op ⟨some 6, none, .r (.mv (.t 15))⟩])
  (.seq (.seq (.region [.op ⟨some 16, none, .r (.mv (.t 6))⟩])
  (.cond (.t 16)
   (.region [.op ⟨some 17, none, .r (.mv (.t 0))⟩, .op ⟨some 18, none, .r (.mv (.t 5))⟩, .op ⟨some 19, none, .e (.call n_item_Store_gone [(.t 17), (.t 18)])⟩])
   .skip))
  (.seq (.region [.op ⟨some 20, none, .r (.mv (.t 6))⟩, .op ⟨some 4, none, .r (.mv (.t 20))⟩])
  .ret)))) }
theorem tr_item_Store_Drop : trF cx Try.f42 = pf_item_Store_Drop := by kernel_rfl
def l0_pack_Reader_Num : PC :=
  (.seq (.block 1 (.seq (.seq (.region [.op ⟨some 18, none, .r (.mv (.t 0))⟩, .op ⟨some 19, none, .r (.nilck (.t 18))⟩, .op ⟨some 20, none, .r (.faddr 1 (.t 19))⟩, .op ⟨some 21, none, .r (.load false 1 (.t 20))⟩, .op ⟨some 22, none, .r (.mv (.t 0))⟩, .op ⟨some 23, none, .r (.nilck (.t 22))⟩, .op ⟨some 24, none, .r (.faddr 0 (.t 23))⟩, .op ⟨some 25, none, .r (.load false 1 (.t 24))⟩, .op ⟨some 26, none, .r (.lensl (.t 25))⟩,
     .op ⟨some 27, none, .r (.bin .eql (.t 21) (.t 26))⟩])
   (.cond (.t 27)
    (.seq (.region [.op ⟨some 28, none, .r (.mv (.t 0))⟩, .op ⟨some 29, none, .r (.mv (.t 3))⟩, .op ⟨some 30, none, .e (.call n_pack_Reader_fail [(.t 28), (.t 29), (.c (.int .i64 (.ofNat 3)))])⟩])
    (.seq (.region [.op ⟨some 2, none, .r (.mv (.c (.int .i64 (.ofNat 0))))⟩])
    .ret))
    .skip))
   (.seq (.region [.op ⟨some 31, none, .r (.mv (.t 0))⟩, .op ⟨some 32, none, .r (.nilck (.t 31))⟩, .op ⟨some 33, none, .r (.faddr 0 (.t 32))⟩, .op ⟨some 34, none, .r (.load false 1 (.t 33))⟩, .op ⟨some 35, none, .r (.mv (.t 0))⟩, .op ⟨some 36, none, .r (.nilck (.t 35))⟩, .op ⟨some 37, none, .r (.faddr 1 (.t 36))⟩, .op ⟨some 38, none, .r (.load false 1 (.t 37))⟩, .op ⟨some 39, none, .r (.iasl 1 (.t 34) (.t 38))⟩,
     .op ⟨some 40, none, .r (.load false 1 (.t 39))⟩, .op ⟨some 6, none, .r (.mv (.t 40))⟩])
   (.seq (.seq (.region [.op ⟨some 41, none, .r (.mv (.t 5))⟩, .op ⟨some 42, none, .r (.bin .gtr (.t 41) (.c (.int .i64 (.ofNat 0))))⟩, .op ⟨some 43, none, .r (.mv (.t 42))⟩, .op ⟨some 44, some (43, true), .r (.mv (.t 6))⟩, .op ⟨some 45, some (43, true), .r (.bin .eql (.t 44) (.c (.int .u8 (.ofNat 0))))⟩, .op ⟨some 46, none, .r (.pick (.t 43) (.t 45) (.c (.bool false)))⟩, .op ⟨some 47, none, .r (.mv (.t 46))⟩,
     .op ⟨some 48, some (47, false), .r (.mv (.t 5))⟩, .op ⟨some 49, some (47, false), .r (.bin .eql (.t 48) (.c (.int .i64 (.ofNat 9))))⟩, .op ⟨some 50, some (47, false), .r (.mv (.t 49))⟩, .op ⟨some 51, some (50, true), .r (.mv (.t 6))⟩, .op ⟨some 52, some (50, true), .r (.bin .gtr (.t 51) (.c (.int .u8 (.ofNat 1))))⟩, .op ⟨some 53, some (47, false), .r (.pick (.t 50) (.t 52) (.c (.bool false)))⟩,
     .op ⟨some 54, none, .r (.pick (.t 47) (.c (.bool true)) (.t 53))⟩])
   (.cond (.t 54)
    (.seq (.region [.op ⟨some 55, none, .r (.mv (.t 0))⟩, .op ⟨some 56, none, .r (.mv (.t 3))⟩, .op ⟨some 57, none, .e (.call n_pack_Reader_fail [(.t 55), (.t 56), (.c (.int .i64 (.ofNat 4)))])⟩])
    (.seq (.region [.op ⟨some 2, none, .r (.mv (.c (.int .i64 (.ofNat 0))))⟩])
    .ret))
    .skip))
   (.seq (.region [.op ⟨some 58, none, .r (.mv (.t 0))⟩, .op ⟨some 59, none, .r (.nilck (.t 58))⟩, .op ⟨some 60, none, .r (.faddr 1 (.t 59))⟩, .op ⟨some 61, none, .r (.load false 1 (.t 60))⟩, .op ⟨some 62, none, .r (.bin .add (.t 61) (.c (.int .i64 (.ofNat 1))))⟩, .op ⟨some 63, none, .r (.nilck (.t 58))⟩, .op ⟨some 64, none, .r (.faddr 1 (.t 63))⟩, .op ⟨none, none, .e (.store 1 (.t 64) (.t 62))⟩])
   (.seq (.region [.op ⟨some 65, none, .r (.mv (.t 4))⟩, .op ⟨some 66, none, .r (.mv (.t 6))⟩, .op ⟨some 67, none, .r (.bin .and (.t 66) (.c (.int .u8 (.ofNat 127))))⟩, .op ⟨some 68, none, .r (.cint .u64 (.t 67))⟩, .op ⟨some 69, none, .r (.mv (.t 5))⟩, .op ⟨some 70, none, .r (.bin .mul (.c (.int .i64 (.ofNat 7))) (.t 69))⟩, .op ⟨some 71, none, .r (.cint .u64 (.t 70))⟩, .op ⟨some 72, none, .r (.bin .shl (.t 68) (.t 71))⟩,
     .op ⟨some 73, none, .r (.bin .or (.t 65) (.t 72))⟩, .op ⟨some 4, none, .r (.mv (.t 73))⟩])
   (.seq (.region [.op ⟨some 74, none, .r (.mv (.t 6))⟩, .op ⟨some 75, none, .r (.bin .lss (.t 74) (.c (.int .u8 (.ofNat 128))))⟩])
   (.cond (.t 75)
    (.seq (.region [.op ⟨some 76, none, .r (.mv (.t 4))⟩, .op ⟨some 77, none, .r (.bin .shr (.t 76) (.c (.int .u64 (.ofNat 1))))⟩, .op ⟨some 78, none, .r (.cint .i64 (.t 77))⟩, .op ⟨some 79, none, .r (.mv (.t 4))⟩, .op ⟨some 80, none, .r (.bin .and (.t 79) (.c (.int .u64 (.ofNat 1))))⟩, .op ⟨some 81, none, .r (.cint .i64 (.t 80))⟩, .op ⟨some 82, none, .r (.un .neg (.t 81))⟩, .op ⟨some 83, none, .r (.bin .xor (.t 78) (.t 82))⟩,
      .op ⟨some 2, none, .r (.mv (.t 83))⟩])
    .ret)
    .skip))))))))
  (.region [.op ⟨some 16, none, .r (.mv (.t 5))⟩, .op ⟨some 17, none, .r (.bin .add (.t 16) (.c (.int .i64 (.ofNat 1))))⟩, .op ⟨some 5, none, .r (.mv (.t 17))⟩]))
def pf_pack_Reader_Num : PF := { ntmps := 84, results := [.tmp 2], body :=
  (.seq (.region [.op ⟨some 2, none, .r (.mv (.c (.int .i64 (.ofNat 0))))⟩])
  (.seq (.seq (.region [.op ⟨some 7, none, .r (.mv (.t 0))⟩, .op ⟨some 8, none, .r (.nilck (.t 7))⟩, .op ⟨some 9, none, .r (.faddr 2 (.t 8))⟩, .op ⟨some 10, none, .r (.load false 1 (.t 9))⟩, .op ⟨some 11, none, .r (.bin .neq (.t 10) (.c (.int .i64 (.ofNat 0))))⟩])
  (.cond (.t 11)
   (.seq (.region [.op ⟨some 2, none, .r (.mv (.c (.int .i64 (.ofNat 0))))⟩])
   .ret)
   .skip))
  (.seq (.region [.op ⟨some 12, none, .r (.mv (.t 0))⟩, .op ⟨some 13, none, .r (.nilck (.t 12))⟩, .op ⟨some 14, none, .r (.faddr 1 (.t 13))⟩, .op ⟨some 15, none, .r (.load false 1 (.t 14))⟩, .op ⟨some 3, none, .r (.mv (.t 15))⟩, .op ⟨some 4, none, .r (.mv (.c (.int .u64 (.ofNat 0))))⟩])
  (.seq (.region [.op ⟨some 5, none, .r (.mv (.c (.int .i64 (.ofNat 0))))⟩])
  (.block 0 (.loop l0_pack_Reader_Num)))))) }
theorem tr_pack_Reader_Num : trF cx Try.f44 = pf_pack_Reader_Num := by kernel_rfl
def l0_item_Store_Keys : PC :=
  (.seq (.seq (.region [.op ⟨some 12, none, .r (.mv (.t 4))⟩, .op ⟨some 13, none, .r (.bin .neq (.t 12) (.c (.int .i64 (.ofNat 0))))⟩])
  (.cond (.t 13)
   .skip
   (.exit 0)))
  (.seq (.block 1 (.region [.op ⟨some 22, none, .r (.mv (.t 3))⟩, .op ⟨some 23, none, .r (.mv (.t 0))⟩, .op ⟨some 24, none, .r (.nilck (.t 23))⟩, .op ⟨some 25, none, .r (.faddr 2 (.t 24))⟩, .op ⟨some 26, none, .r (.load false 1 (.t 25))⟩, .op ⟨some 27, none, .r (.mv (.t 4))⟩, .op ⟨some 28, none, .r (.iasl 6 (.t 26) (.t 27))⟩, .op ⟨some 29, none, .r (.faddr 0 (.t 28))⟩, .op ⟨some 30, none, .r (.load false 1 (.t 29))⟩,
     .op ⟨some 31, none, .n (.bslice 0 1 1 [(.str [])] [(0, 1, (.t 30))])⟩, .op ⟨some 32, none, .e (.app 0 1 16 (.t 22) (.t 31))⟩, .op ⟨some 3, none, .r (.mv (.t 32))⟩]))
  (.region [.op ⟨some 14, none, .r (.mv (.t 0))⟩, .op ⟨some 15, none, .r (.nilck (.t 14))⟩, .op ⟨some 16, none, .r (.faddr 2 (.t 15))⟩, .op ⟨some 17, none, .r (.load false 1 (.t 16))⟩, .op ⟨some 18, none, .r (.mv (.t 4))⟩, .op ⟨some 19, none, .r (.iasl 6 (.t 17) (.t 18))⟩, .op ⟨some 20, none, .r (.faddr 4 (.t 19))⟩, .op ⟨some 21, none, .r (.load false 1 (.t 20))⟩, .op ⟨some 4, none, .r (.mv (.t 21))⟩])))
def pf_item_Store_Keys : PF := { ntmps := 34, results := [.tmp 2], body :=
  (.seq (.region [.op ⟨some 2, none, .r (.mv (.c .nils))⟩])
  (.seq (.region [.op ⟨some 3, none, .r (.mv (.c .nils))⟩])
  (.seq (.seq (.region [.op ⟨some 5, none, .r (.mv (.t 0))⟩, .op ⟨some 6, none, .r (.nilck (.t 5))⟩, .op ⟨some 7, none, .r (.faddr 2 (.t 6))⟩, .op ⟨some 8, none, .r (.load false 1 (.t 7))⟩, .op ⟨some 9, none, .r (.iasl 6 (.t 8) (.c (.int .i64 (.ofNat 0))))⟩, .op ⟨some 10, none, .r (.faddr 4 (.t 9))⟩, .op ⟨some 11, none, .r (.load false 1 (.t 10))⟩, .op ⟨some 4, none, .r (.mv (.t 11))⟩])
  (.block 0 (.loop l0_item_Store_Keys)))
  (.seq (.region [.op ⟨some 33, none, .r (.mv (.t 3))⟩, .op ⟨some 2, none, .r (.mv (.t 33))⟩])
  .ret)))) }
theorem tr_item_Store_Keys : trF cx Try.f45 = pf_item_Store_Keys := by kernel_rfl
def pf_slices_Sort_string_string : PF := { ntmps := 11, results := [], body :=
  (.seq (.region [.op ⟨some 3, none, .r (.mv (.t 0))⟩, .op ⟨some 4, none, .r (.lensl (.t 3))⟩, .op ⟨some 2, none, .r (.mv (.t 4))⟩])
  (.region [.op ⟨some 5, none, .r (.mv (.t 0))⟩, .op ⟨some 6, none, .r (.mv (.t 2))⟩, .op ⟨some 7, none, .r (.mv (.t 2))⟩, .op ⟨some 8, none, .r (.cint .u64 (.t 7))⟩, .op ⟨some 9, none, .e (.call n_math_bits_Len [(.t 8)])⟩, .op ⟨some 10, none, .e (.call n_slices_pdqsortOrdered_string [(.t 5), (.c (.int .i64 (.ofNat 0))), (.t 6), (.t 9)])⟩])) }
theorem tr_slices_Sort_string_string : trF cx Try.f46 = pf_slices_Sort_string_string := by kernel_rfl
def pf_pack_Text : PF := { ntmps := 15, results := [.tmp 4], body :=
  (.seq (.region [.op ⟨some 4, none, .r (.mv (.c .nils))⟩])
  (.seq (.region [.op ⟨some 5, none, .r (.mv (.t 0))⟩, .op ⟨some 6, none, .r (.mv (.t 1))⟩, .op ⟨some 7, none, .r (.lens (.t 6))⟩, .op ⟨some 8, none, .r (.bin .add (.c (.int .i64 (.ofNat 10))) (.t 7))⟩, .op ⟨some 9, none, .e (.call n_pack_grown [(.t 5), (.t 8)])⟩, .op ⟨some 10, none, .r (.mv (.t 1))⟩, .op ⟨some 11, none, .r (.lens (.t 10))⟩, .op ⟨some 12, none, .e (.call n_pack_num [(.t 9), (.t 11)])⟩,
    .op ⟨some 13, none, .r (.mv (.t 1))⟩, .op ⟨some 14, none, .e (.app 2 1 1 (.t 12) (.t 13))⟩, .op ⟨some 4, none, .r (.mv (.t 14))⟩])
  .ret)) }
theorem tr_pack_Text : trF cx Try.f47 = pf_pack_Text := by kernel_rfl
def pf_item_Store_Get : PF := { ntmps := 34, results := [.tmp 4, .tmp 5], body :=
  (.seq (.region [.op ⟨some 4, none, .r (.mv (.c (.str [])))⟩, .op ⟨some 5, none, .r (.mv (.c (.bool false)))⟩])
  (.seq (.region [.op ⟨some 11, none, .r (.mv (.t 0))⟩, .op ⟨some 12, none, .r (.mv (.t 1))⟩, .op ⟨some 13, none, .e (.call n_item_Store_Peek [(.t 11), (.t 12)])⟩, .op ⟨some 10, none, .r (.mv (.t 13))⟩, .op ⟨some 14, none, .r (.ext 0 (.t 10))⟩, .op ⟨some 15, none, .r (.ext 1 (.t 10))⟩, .op ⟨some 6, none, .r (.mv (.t 14))⟩, .op ⟨some 7, none, .r (.mv (.t 15))⟩])
  (.seq (.seq (.region [.op ⟨some 16, none, .r (.mv (.t 7))⟩])
  (.cond (.t 16)
   (.seq (.region [.op ⟨some 18, none, .r (.mv (.t 0))⟩, .op ⟨some 19, none, .r (.nilck (.t 18))⟩, .op ⟨some 20, none, .r (.faddr 1 (.t 19))⟩, .op ⟨some 21, none, .r (.load false 1 (.t 20))⟩, .op ⟨some 22, none, .r (.mv (.t 1))⟩, .op ⟨some 23, none, .e (.call n_chain_Chain_Get [(.t 21), (.t 22)])⟩, .op ⟨some 17, none, .r (.mv (.t 23))⟩, .op ⟨some 24, none, .r (.ext 0 (.t 17))⟩, .op ⟨some 25, none, .r (.ext 1 (.t 17))⟩,
     .op ⟨some 8, none, .r (.mv (.t 24))⟩, .op ⟨some 9, none, .r (.mv (.t 25))⟩])
   (.seq (.region [.op ⟨some 26, none, .r (.mv (.t 0))⟩, .op ⟨some 27, none, .r (.mv (.t 8))⟩, .op ⟨some 28, none, .e (.call n_item_Store_out [(.t 26), (.t 27)])⟩])
   (.region [.op ⟨some 29, none, .r (.mv (.t 0))⟩, .op ⟨some 30, none, .r (.mv (.t 8))⟩, .op ⟨some 31, none, .e (.call n_item_Store_in [(.t 29), (.t 30)])⟩])))
   .skip))
  (.seq (.region [.op ⟨some 32, none, .r (.mv (.t 6))⟩, .op ⟨some 33, none, .r (.mv (.t 7))⟩, .op ⟨some 4, none, .r (.mv (.t 32))⟩, .op ⟨some 5, none, .r (.mv (.t 33))⟩])
  .ret)))) }
theorem tr_item_Store_Get : trF cx Try.f48 = pf_item_Store_Get := by kernel_rfl
def l0_slab_Slab_Class : PC :=
  (.seq (.region [.op ⟨some 15, none, .r (.bin .lss (.t 14) (.t 13))⟩])
  (.seq (.cond (.t 15)
   .skip
   (.exit 0))
  (.seq (.block 1 (.seq (.region [.op ⟨some 16, none, .r (.mv (.t 14))⟩, .op ⟨some 17, none, .r (.iasl 4 (.t 12) (.t 14))⟩, .op ⟨some 18, none, .r (.load true 4 (.t 17))⟩, .op ⟨some 6, none, .n (.new 0 [(.int .i64 (.ofNat 0)), .nils, .nilm, (.int .i64 (.ofNat 0))])⟩, .op ⟨some 5, none, .r (.mv (.t 16))⟩, .op ⟨none, none, .e (.store 4 (.t 6) (.t 18))⟩])
   (.seq (.region [.op ⟨some 19, none, .r (.faddr 0 (.t 6))⟩, .op ⟨some 20, none, .r (.load false 1 (.t 19))⟩, .op ⟨some 21, none, .r (.mv (.t 1))⟩, .op ⟨some 22, none, .r (.bin .geq (.t 20) (.t 21))⟩])
   (.cond (.t 22)
    (.seq (.region [.op ⟨some 23, none, .r (.mv (.t 5))⟩, .op ⟨some 4, none, .r (.mv (.t 23))⟩])
    .ret)
    .skip))))
  (.region [.op ⟨some 24, none, .r (.bin .add (.t 14) (.c (.int .i64 (.ofNat 1))))⟩, .op ⟨some 14, none, .r (.mv (.t 24))⟩]))))
def pf_slab_Slab_Class : PF := { ntmps := 25, results := [.tmp 4], body :=
  (.seq (.region [.op ⟨some 4, none, .r (.mv (.c (.int .i64 (.ofNat 0))))⟩])
  (.seq (.seq (.region [.op ⟨some 7, none, .r (.mv (.t 1))⟩, .op ⟨some 8, none, .r (.bin .lss (.t 7) (.c (.int .i64 (.ofNat 0))))⟩])
  (.cond (.t 8)
   (.seq (.region [.op ⟨some 4, none, .r (.mv (.c (.int .i64 (.negSucc 0))))⟩])
   .ret)
   .skip))
  (.seq (.seq (.region [.op ⟨some 9, none, .r (.mv (.t 0))⟩, .op ⟨some 10, none, .r (.nilck (.t 9))⟩, .op ⟨some 11, none, .r (.faddr 3 (.t 10))⟩, .op ⟨some 12, none, .r (.load false 1 (.t 11))⟩, .op ⟨some 13, none, .r (.lensl (.t 12))⟩, .op ⟨some 14, none, .r (.mv (.c (.int .i64 (.ofNat 0))))⟩])
  (.block 0 (.loop l0_slab_Slab_Class)))
  (.seq (.region [.op ⟨some 4, none, .r (.mv (.c (.int .i64 (.negSucc 0))))⟩])
  .ret)))) }
theorem tr_slab_Slab_Class : trF cx Try.f49 = pf_slab_Slab_Class := by kernel_rfl
def l0_slab_Slab_Alloc : PC :=
  (.seq (.seq (.region [.op ⟨some 61, none, .r (.mv (.t 9))⟩, .op ⟨some 62, none, .r (.bin .geq (.t 61) (.c (.int .i64 (.ofNat 0))))⟩])
  (.cond (.t 62)
   .skip
   (.exit 0)))
  (.seq (.block 1 (.region [.op ⟨some 65, none, .r (.mv (.t 7))⟩, .op ⟨some 66, none, .r (.mv (.t 7))⟩, .op ⟨some 67, none, .r (.nilck (.t 66))⟩, .op ⟨some 68, none, .r (.faddr 1 (.t 67))⟩, .op ⟨some 69, none, .r (.load false 1 (.t 68))⟩, .op ⟨some 70, none, .r (.mv (.t 7))⟩, .op ⟨some 71, none, .r (.nilck (.t 70))⟩, .op ⟨some 72, none, .r (.faddr 3 (.t 71))⟩, .op ⟨some 73, none, .r (.load false 1 (.t 72))⟩,
     .op ⟨some 74, none, .r (.mv (.t 9))⟩, .op ⟨some 75, none, .r (.bin .add (.t 73) (.t 74))⟩, .op ⟨some 76, none, .n (.bslice 0 1 1 [(.int .i64 (.ofNat 0))] [(0, 1, (.t 75))])⟩, .op ⟨some 77, none, .e (.app 0 1 8 (.t 69) (.t 76))⟩, .op ⟨some 78, none, .r (.nilck (.t 65))⟩, .op ⟨some 79, none, .r (.faddr 1 (.t 78))⟩, .op ⟨none, none, .e (.store 1 (.t 79) (.t 77))⟩]))
  (.region [.op ⟨some 63, none, .r (.mv (.t 9))⟩, .op ⟨some 64, none, .r (.bin .sub (.t 63) (.c (.int .i64 (.ofNat 1))))⟩, .op ⟨some 9, none, .r (.mv (.t 64))⟩])))
def pf_slab_Slab_Alloc : PF := { ntmps := 123, results := [.cell 4 true 2, .tmp 5], body :=
  (.seq (.region [.op ⟨some 4, none, .n (.new 0 [(.int .i64 (.ofNat 0)), (.int .i64 (.ofNat 0))])⟩, .op ⟨some 5, none, .r (.mv (.c (.int .i64 (.ofNat 0))))⟩])
  (.seq (.region [.op ⟨some 11, none, .r (.mv (.t 0))⟩, .op ⟨some 12, none, .r (.mv (.t 1))⟩, .op ⟨some 13, none, .r (.lens (.t 12))⟩, .op ⟨some 14, none, .e (.call n_slab_Slab_Class [(.t 11), (.t 13)])⟩, .op ⟨some 6, none, .r (.mv (.t 14))⟩])
  (.seq (.seq (.region [.op ⟨some 15, none, .r (.mv (.t 6))⟩, .op ⟨some 16, none, .r (.bin .lss (.t 15) (.c (.int .i64 (.ofNat 0))))⟩])
  (.cond (.t 16)
   (.seq (.region [.op ⟨some 17, none, .r (.build [(.int .i64 (.ofNat 0)), (.int .i64 (.ofNat 0))] [])⟩, .op ⟨none, none, .e (.store 2 (.t 4) (.t 17))⟩, .op ⟨some 5, none, .r (.mv (.c (.int .i64 (.ofNat 2))))⟩])
   .ret)
   .skip))
  (.seq (.region [.op ⟨some 18, none, .r (.mv (.t 0))⟩, .op ⟨some 19, none, .r (.nilck (.t 18))⟩, .op ⟨some 20, none, .r (.faddr 3 (.t 19))⟩, .op ⟨some 21, none, .r (.load false 1 (.t 20))⟩, .op ⟨some 22, none, .r (.mv (.t 6))⟩, .op ⟨some 23, none, .r (.iasl 4 (.t 21) (.t 22))⟩, .op ⟨some 7, none, .r (.mv (.t 23))⟩])
  (.seq (.seq (.region [.op ⟨some 24, none, .r (.mv (.t 7))⟩, .op ⟨some 25, none, .r (.nilck (.t 24))⟩, .op ⟨some 26, none, .r (.faddr 1 (.t 25))⟩, .op ⟨some 27, none, .r (.load false 1 (.t 26))⟩, .op ⟨some 28, none, .r (.lensl (.t 27))⟩, .op ⟨some 29, none, .r (.bin .eql (.t 28) (.c (.int .i64 (.ofNat 0))))⟩])
  (.cond (.t 29)
   (.seq (.seq (.region [.op ⟨some 30, none, .r (.mv (.t 0))⟩, .op ⟨some 31, none, .r (.nilck (.t 30))⟩, .op ⟨some 32, none, .r (.faddr 1 (.t 31))⟩, .op ⟨some 33, none, .r (.load false 1 (.t 32))⟩, .op ⟨some 34, none, .r (.bin .eql (.t 33) (.c (.int .i64 (.ofNat 0))))⟩])
   (.cond (.t 34)
    (.seq (.region [.op ⟨some 35, none, .r (.build [(.int .i64 (.ofNat 0)), (.int .i64 (.ofNat 0))] [])⟩, .op ⟨none, none, .e (.store 2 (.t 4) (.t 35))⟩, .op ⟨some 5, none, .r (.mv (.c (.int .i64 (.ofNat 6))))⟩])
    .ret)
    .skip))
   (.seq (.region [.op ⟨some 36, none, .r (.mv (.t 0))⟩, .op ⟨some 37, none, .r (.nilck (.t 36))⟩, .op ⟨some 38, none, .r (.faddr 1 (.t 37))⟩, .op ⟨some 39, none, .r (.load false 1 (.t 38))⟩, .op ⟨some 40, none, .r (.bin .sub (.t 39) (.c (.int .i64 (.ofNat 1))))⟩, .op ⟨some 41, none, .r (.nilck (.t 36))⟩, .op ⟨some 42, none, .r (.faddr 1 (.t 41))⟩, .op ⟨none, none, .e (.store 1 (.t 42) (.t 40))⟩])
   (.seq (.region [.op ⟨some 43, none, .r (.mv (.t 0))⟩, .op ⟨some 44, none, .r (.nilck (.t 43))⟩, .op ⟨some 45, none, .r (.faddr 2 (.t 44))⟩, .op ⟨some 46, none, .r (.load false 1 (.t 45))⟩, .op ⟨some 47, none, .r (.bin .add (.t 46) (.c (.int .i64 (.ofNat 1))))⟩, .op ⟨some 48, none, .r (.nilck (.t 43))⟩, .op ⟨some 49, none, .r (.faddr 2 (.t 48))⟩, .op ⟨none, none, .e (.store 1 (.t 49) (.t 47))⟩])
   (.seq (.region [.op ⟨some 50, none, .r (.mv (.t 0))⟩, .op ⟨some 51, none, .r (.nilck (.t 50))⟩, .op ⟨some 52, none, .r (.faddr 0 (.t 51))⟩, .op ⟨some 53, none, .r (.load false 1 (.t 52))⟩, .op ⟨some 54, none, .r (.mv (.t 7))⟩, .op ⟨some 55, none, .r (.nilck (.t 54))⟩, .op ⟨some 56, none, .r (.faddr 0 (.t 55))⟩, .op ⟨some 57, none, .r (.load false 1 (.t 56))⟩, .op ⟨some 58, none, .r (.bin .quo (.t 53) (.t 57))⟩,
     .op ⟨some 8, none, .r (.mv (.t 58))⟩])
   (.seq (.seq (.region [.op ⟨some 59, none, .r (.mv (.t 8))⟩, .op ⟨some 60, none, .r (.bin .sub (.t 59) (.c (.int .i64 (.ofNat 1))))⟩, .op ⟨some 9, none, .r (.mv (.t 60))⟩])
   (.block 0 (.loop l0_slab_Slab_Alloc)))
   (.region [.op ⟨some 80, none, .r (.mv (.t 7))⟩, .op ⟨some 81, none, .r (.nilck (.t 80))⟩, .op ⟨some 82, none, .r (.faddr 3 (.t 81))⟩, .op ⟨some 83, none, .r (.load false 1 (.t 82))⟩, .op ⟨some 84, none, .r (.mv (.t 8))⟩, .op ⟨some 85, none, .r (.bin .add (.t 83) (.t 84))⟩, .op ⟨some 86, none, .r (.nilck (.t 80))⟩, .op ⟨some 87, none, .r (.faddr 3 (.t 86))⟩, .op ⟨none, none, .e (.store 1 (.t 87) (.t 85))⟩]))))))
   .skip))
  (.seq (.region [.op ⟨some 88, none, .r (.mv (.t 7))⟩, .op ⟨some 89, none, .r (.nilck (.t 88))⟩, .op ⟨some 90, none, .r (.faddr 1 (.t 89))⟩, .op ⟨some 91, none, .r (.load false 1 (.t 90))⟩, .op ⟨some 92, none, .r (.mv (.t 7))⟩, .op ⟨some 93, none, .r (.nilck (.t 92))⟩, .op ⟨some 94, none, .r (.faddr 1 (.t 93))⟩, .op ⟨some 95, none, .r (.load false 1 (.t 94))⟩, .op ⟨some 96, none, .r (.lensl (.t 95))⟩,
    .op ⟨some 97, none, .r (.bin .sub (.t 96) (.c (.int .i64 (.ofNat 1))))⟩, .op ⟨some 98, none, .r (.iasl 1 (.t 91) (.t 97))⟩, .op ⟨some 99, none, .r (.load false 1 (.t 98))⟩, .op ⟨some 10, none, .r (.mv (.t 99))⟩])
  (.seq (.region [.op ⟨some 100, none, .r (.mv (.t 7))⟩, .op ⟨some 101, none, .r (.mv (.t 7))⟩, .op ⟨some 102, none, .r (.nilck (.t 101))⟩, .op ⟨some 103, none, .r (.faddr 1 (.t 102))⟩, .op ⟨some 104, none, .r (.load false 1 (.t 103))⟩, .op ⟨some 105, none, .r (.mv (.t 7))⟩, .op ⟨some 106, none, .r (.nilck (.t 105))⟩, .op ⟨some 107, none, .r (.faddr 1 (.t 106))⟩, .op ⟨some 108, none, .r (.load false 1 (.t 107))⟩,
    .op ⟨some 109, none, .r (.lensl (.t 108))⟩, .op ⟨some 110, none, .r (.bin .sub (.t 109) (.c (.int .i64 (.ofNat 1))))⟩, .op ⟨some 111, none, .r (.slsl 1 (.t 104) none (some (.t 110)) none)⟩, .op ⟨some 112, none, .r (.nilck (.t 100))⟩, .op ⟨some 113, none, .r (.faddr 1 (.t 112))⟩, .op ⟨none, none, .e (.store 1 (.t 113) (.t 111))⟩])
  (.seq (.region [.op ⟨some 114, none, .r (.mv (.t 7))⟩, .op ⟨some 115, none, .r (.nilck (.t 114))⟩, .op ⟨some 116, none, .r (.faddr 2 (.t 115))⟩, .op ⟨some 117, none, .r (.load false 1 (.t 116))⟩, .op ⟨some 118, none, .r (.mv (.t 10))⟩, .op ⟨some 119, none, .r (.mv (.t 1))⟩, .op ⟨none, none, .e (.mupd false (.t 117) (.t 118) (.t 119))⟩])
  (.seq (.region [.op ⟨some 120, none, .r (.mv (.t 6))⟩, .op ⟨some 121, none, .r (.mv (.t 10))⟩, .op ⟨some 122, none, .r (.build [(.int .i64 (.ofNat 0)), (.int .i64 (.ofNat 0))] [(0, 1, (.t 120)), (1, 1, (.t 121))])⟩, .op ⟨none, none, .e (.store 2 (.t 4) (.t 122))⟩, .op ⟨some 5, none, .r (.mv (.c (.int .i64 (.ofNat 0))))⟩])
  .ret))))))))) }
theorem tr_slab_Slab_Alloc : trF cx Try.f50 = pf_slab_Slab_Alloc := by kernel_rfl
def pf_item_Store_gone : PF := { ntmps := 50, results := [], body :=
  (.seq (.region [.op ⟨some 4, none, .r (.mv (.t 0))⟩, .op ⟨some 5, none, .r (.nilck (.t 4))⟩, .op ⟨some 6, none, .r (.faddr 0 (.t 5))⟩, .op ⟨some 7, none, .r (.load false 1 (.t 6))⟩, .op ⟨some 8, none, .r (.mv (.t 0))⟩, .op ⟨some 9, none, .r (.nilck (.t 8))⟩, .op ⟨some 10, none, .r (.faddr 2 (.t 9))⟩, .op ⟨some 11, none, .r (.load false 1 (.t 10))⟩, .op ⟨some 12, none, .r (.mv (.t 1))⟩, .op ⟨some 13, none, .r (.iasl 6 (.t 11) (.t 12))⟩,
    .op ⟨some 14, none, .r (.faddr 1 (.t 13))⟩, .op ⟨some 15, none, .r (.load true 2 (.t 14))⟩, .op ⟨some 16, none, .e (.call n_slab_Slab_Free [(.t 7), (.t 15)])⟩])
  (.seq (.region [.op ⟨some 17, none, .r (.mv (.t 0))⟩, .op ⟨some 18, none, .r (.nilck (.t 17))⟩, .op ⟨some 19, none, .r (.faddr 1 (.t 18))⟩, .op ⟨some 20, none, .r (.load false 1 (.t 19))⟩, .op ⟨some 21, none, .r (.mv (.t 0))⟩, .op ⟨some 22, none, .r (.nilck (.t 21))⟩, .op ⟨some 23, none, .r (.faddr 2 (.t 22))⟩, .op ⟨some 24, none, .r (.load false 1 (.t 23))⟩, .op ⟨some 25, none, .r (.mv (.t 1))⟩,
    .op ⟨some 26, none, .r (.iasl 6 (.t 24) (.t 25))⟩, .op ⟨some 27, none, .r (.faddr 0 (.t 26))⟩, .op ⟨some 28, none, .r (.load false 1 (.t 27))⟩, .op ⟨some 29, none, .e (.call n_chain_Chain_Drop [(.t 20), (.t 28)])⟩])
  (.seq (.region [.op ⟨some 30, none, .r (.mv (.t 0))⟩, .op ⟨some 31, none, .r (.mv (.t 1))⟩, .op ⟨some 32, none, .e (.call n_item_Store_out [(.t 30), (.t 31)])⟩])
  (.seq (.region [.op ⟨some 33, none, .r (.mv (.t 0))⟩, .op ⟨some 34, none, .r (.nilck (.t 33))⟩, .op ⟨some 35, none, .r (.faddr 2 (.t 34))⟩, .op ⟨some 36, none, .r (.load false 1 (.t 35))⟩, .op ⟨some 37, none, .r (.mv (.t 1))⟩, .op ⟨some 38, none, .r (.build [(.str []), (.int .i64 (.ofNat 0)), (.int .i64 (.ofNat 0)), (.bool false), (.int .i64 (.ofNat 0)), (.int .i64 (.ofNat 0))] [])⟩, .op ⟨some 39, none, .r (.iasl 6 (.t 36) (.t 37))⟩,
    .op ⟨none, none, .e (.store 6 (.t 39) (.t 38))⟩])
  (.region [.op ⟨some 40, none, .r (.mv (.t 0))⟩, .op ⟨some 41, none, .r (.mv (.t 0))⟩, .op ⟨some 42, none, .r (.nilck (.t 41))⟩, .op ⟨some 43, none, .r (.faddr 3 (.t 42))⟩, .op ⟨some 44, none, .r (.load false 1 (.t 43))⟩, .op ⟨some 45, none, .r (.mv (.t 1))⟩, .op ⟨some 46, none, .n (.bslice 0 1 1 [(.int .i64 (.ofNat 0))] [(0, 1, (.t 45))])⟩, .op ⟨some 47, none, .e (.app 0 1 8 (.t 44) (.t 46))⟩, .op ⟨some 48, none, .r (.nilck (.t 40))⟩,
    .op ⟨some 49, none, .r (.faddr 3 (.t 48))⟩, .op ⟨none, none, .e (.store 1 (.t 49) (.t 47))⟩]))))) }
theorem tr_item_Store_gone : trF cx Try.f52 = pf_item_Store_gone := by kernel_rfl
def pf_item_Store_in : PF := { ntmps := 42, results := [], body :=
  (.seq (.region [.op ⟨some 5, none, .r (.mv (.t 0))⟩, .op ⟨some 6, none, .r (.nilck (.t 5))⟩, .op ⟨some 7, none, .r (.faddr 2 (.t 6))⟩, .op ⟨some 8, none, .r (.load false 1 (.t 7))⟩, .op ⟨some 9, none, .r (.iasl 6 (.t 8) (.c (.int .i64 (.ofNat 0))))⟩, .op ⟨some 10, none, .r (.faddr 4 (.t 9))⟩, .op ⟨some 11, none, .r (.load false 1 (.t 10))⟩, .op ⟨some 4, none, .r (.mv (.t 11))⟩])
  (.seq (.region [.op ⟨some 12, none, .r (.mv (.t 0))⟩, .op ⟨some 13, none, .r (.nilck (.t 12))⟩, .op ⟨some 14, none, .r (.faddr 2 (.t 13))⟩, .op ⟨some 15, none, .r (.load false 1 (.t 14))⟩, .op ⟨some 16, none, .r (.mv (.t 1))⟩, .op ⟨some 17, none, .r (.mv (.t 0))⟩, .op ⟨some 18, none, .r (.nilck (.t 17))⟩, .op ⟨some 19, none, .r (.faddr 2 (.t 18))⟩, .op ⟨some 20, none, .r (.load false 1 (.t 19))⟩,
    .op ⟨some 21, none, .r (.mv (.t 1))⟩, .op ⟨some 22, none, .r (.mv (.t 4))⟩, .op ⟨some 23, none, .r (.iasl 6 (.t 15) (.t 16))⟩, .op ⟨some 24, none, .r (.faddr 5 (.t 23))⟩, .op ⟨none, none, .e (.store 1 (.t 24) (.c (.int .i64 (.ofNat 0))))⟩, .op ⟨some 25, none, .r (.iasl 6 (.t 20) (.t 21))⟩, .op ⟨some 26, none, .r (.faddr 4 (.t 25))⟩, .op ⟨none, none, .e (.store 1 (.t 26) (.t 22))⟩])
  (.region [.op ⟨some 27, none, .r (.mv (.t 0))⟩, .op ⟨some 28, none, .r (.nilck (.t 27))⟩, .op ⟨some 29, none, .r (.faddr 2 (.t 28))⟩, .op ⟨some 30, none, .r (.load false 1 (.t 29))⟩, .op ⟨some 31, none, .r (.mv (.t 0))⟩, .op ⟨some 32, none, .r (.nilck (.t 31))⟩, .op ⟨some 33, none, .r (.faddr 2 (.t 32))⟩, .op ⟨some 34, none, .r (.load false 1 (.t 33))⟩, .op ⟨some 35, none, .r (.mv (.t 4))⟩, .op ⟨some 36, none, .r (.mv (.t 1))⟩,
    .op ⟨some 37, none, .r (.mv (.t 1))⟩, .op ⟨some 38, none, .r (.iasl 6 (.t 30) (.c (.int .i64 (.ofNat 0))))⟩, .op ⟨some 39, none, .r (.faddr 4 (.t 38))⟩, .op ⟨none, none, .e (.store 1 (.t 39) (.t 36))⟩, .op ⟨some 40, none, .r (.iasl 6 (.t 34) (.t 35))⟩, .op ⟨some 41, none, .r (.faddr 5 (.t 40))⟩, .op ⟨none, none, .e (.store 1 (.t 41) (.t 37))⟩]))) }
theorem tr_item_Store_in : trF cx Try.f53 = pf_item_Store_in := by kernel_rfl
def pf_chain_Chain_Put : PF := { ntmps := 83, results := [.tmp 6], body :=
  (.seq (.region [.op ⟨some 6, none, .r (.mv (.c (.bool false)))⟩])
  (.seq (.region [.op ⟨some 10, none, .r (.mv (.t 0))⟩, .op ⟨some 11, none, .e (.call n_chain_Chain_step [(.t 10)])⟩])
  (.seq (.region [.op ⟨some 12, none, .r (.mv (.t 0))⟩, .op ⟨some 13, none, .r (.mv (.t 1))⟩, .op ⟨some 14, none, .e (.call n_chain_Chain_bucket [(.t 12), (.t 13)])⟩, .op ⟨some 7, none, .r (.mv (.t 14))⟩])
  (.seq (.seq (.region [.op ⟨some 15, none, .r (.mv (.t 7))⟩, .op ⟨some 16, none, .r (.nilck (.t 15))⟩, .op ⟨some 17, none, .r (.load false 1 (.t 16))⟩, .op ⟨some 18, none, .r (.mv (.t 1))⟩, .op ⟨some 19, none, .e (.call n_chain_find [(.t 17), (.t 18)])⟩, .op ⟨some 8, none, .r (.mv (.t 19))⟩])
  (.seq (.region [.op ⟨some 20, none, .r (.mv (.t 8))⟩, .op ⟨some 21, none, .r (.bin .geq (.t 20) (.c (.int .i64 (.ofNat 0))))⟩])
  (.cond (.t 21)
   (.seq (.region [.op ⟨some 22, none, .r (.mv (.t 7))⟩, .op ⟨some 23, none, .r (.nilck (.t 22))⟩, .op ⟨some 24, none, .r (.load false 1 (.t 23))⟩, .op ⟨some 25, none, .r (.mv (.t 8))⟩, .op ⟨some 26, none, .r (.mv (.t 2))⟩, .op ⟨some 27, none, .r (.iasl 2 (.t 24) (.t 25))⟩, .op ⟨some 28, none, .r (.faddr 1 (.t 27))⟩, .op ⟨none, none, .e (.store 1 (.t 28) (.t 26))⟩])
   (.seq (.region [.op ⟨some 6, none, .r (.mv (.c (.bool false)))⟩])
   .ret))
   .skip)))
  (.seq (.region [.op ⟨some 29, none, .r (.mv (.t 7))⟩, .op ⟨some 30, none, .r (.mv (.t 7))⟩, .op ⟨some 31, none, .r (.nilck (.t 30))⟩, .op ⟨some 32, none, .r (.load false 1 (.t 31))⟩, .op ⟨some 33, none, .r (.mv (.t 1))⟩, .op ⟨some 34, none, .r (.mv (.t 2))⟩, .op ⟨some 35, none, .r (.build [(.str []), (.int .i64 (.ofNat 0))] [(0, 1, (.t 33)), (1, 1, (.t 34))])⟩, .op ⟨some 36, none, .n (.bslice 0 2 1 [(.str []), (.int .i64 (.ofNat 0))] [(0, 2, (.t 35))])⟩,
    .op ⟨some 37, none, .e (.app 0 2 24 (.t 32) (.t 36))⟩, .op ⟨some 38, none, .r (.nilck (.t 29))⟩, .op ⟨none, none, .e (.store 1 (.t 38) (.t 37))⟩])
  (.seq (.region [.op ⟨some 39, none, .r (.mv (.t 0))⟩, .op ⟨some 40, none, .r (.nilck (.t 39))⟩, .op ⟨some 41, none, .r (.faddr 3 (.t 40))⟩, .op ⟨some 42, none, .r (.load false 1 (.t 41))⟩, .op ⟨some 43, none, .r (.bin .add (.t 42) (.c (.int .i64 (.ofNat 1))))⟩, .op ⟨some 44, none, .r (.nilck (.t 39))⟩, .op ⟨some 45, none, .r (.faddr 3 (.t 44))⟩, .op ⟨none, none, .e (.store 1 (.t 45) (.t 43))⟩])
  (.seq (.seq (.region [.op ⟨some 46, none, .r (.mv (.t 0))⟩, .op ⟨some 47, none, .r (.nilck (.t 46))⟩, .op ⟨some 48, none, .r (.faddr 0 (.t 47))⟩, .op ⟨some 49, none, .r (.load false 1 (.t 48))⟩, .op ⟨some 50, none, .r (.lensl (.t 49))⟩, .op ⟨some 9, none, .r (.mv (.t 50))⟩])
  (.seq (.region [.op ⟨some 51, none, .r (.mv (.t 0))⟩, .op ⟨some 52, none, .r (.nilck (.t 51))⟩, .op ⟨some 53, none, .r (.faddr 1 (.t 52))⟩, .op ⟨some 54, none, .r (.load false 1 (.t 53))⟩, .op ⟨some 55, none, .r (.lensl (.t 54))⟩, .op ⟨some 56, none, .r (.bin .eql (.t 55) (.c (.int .i64 (.ofNat 0))))⟩, .op ⟨some 57, none, .r (.mv (.t 56))⟩, .op ⟨some 58, some (57, true), .r (.mv (.t 0))⟩, .op ⟨some 59, some (57, true), .r (.nilck (.t 58))⟩,
    .op ⟨some 60, some (57, true), .r (.faddr 3 (.t 59))⟩, .op ⟨some 61, some (57, true), .r (.load false 1 (.t 60))⟩, .op ⟨some 62, some (57, true), .r (.mv (.t 9))⟩, .op ⟨some 63, some (57, true), .r (.bin .mul (.c (.int .i64 (.ofNat 2))) (.t 62))⟩, .op ⟨some 64, some (57, true), .r (.bin .gtr (.t 61) (.t 63))⟩, .op ⟨some 65, none, .r (.pick (.t 57) (.t 64) (.c (.bool false)))⟩, .op ⟨some 66, none, .r (.mv (.t 65))⟩,
    .op ⟨some 67, some (66, true), .r (.mv (.t 9))⟩, .op ⟨some 68, some (66, true), .r (.bin .lss (.t 67) (.c (.int .i64 (.ofNat 4096))))⟩, .op ⟨some 69, none, .r (.pick (.t 66) (.t 68) (.c (.bool false)))⟩])
  (.cond (.t 69)
   (.region [.op ⟨some 70, none, .r (.mv (.t 0))⟩, .op ⟨some 71, none, .r (.mv (.t 0))⟩, .op ⟨some 72, none, .r (.mv (.t 0))⟩, .op ⟨some 73, none, .r (.nilck (.t 72))⟩, .op ⟨some 74, none, .r (.faddr 0 (.t 73))⟩, .op ⟨some 75, none, .r (.load false 1 (.t 74))⟩, .op ⟨some 76, none, .r (.mv (.t 9))⟩, .op ⟨some 77, none, .r (.bin .mul (.c (.int .i64 (.ofNat 2))) (.t 76))⟩, .op ⟨some 78, none, .n (.mksl 0 1 24 [.nils] (.t 77) (.t 77))⟩,
     .op ⟨some 79, none, .r (.nilck (.t 70))⟩, .op ⟨some 80, none, .r (.faddr 1 (.t 79))⟩, .op ⟨none, none, .e (.store 1 (.t 80) (.t 75))⟩, .op ⟨some 81, none, .r (.nilck (.t 71))⟩, .op ⟨some 82, none, .r (.faddr 0 (.t 81))⟩, .op ⟨none, none, .e (.store 1 (.t 82) (.t 78))⟩])
   .skip)))
  (.seq (.region [.op ⟨some 6, none, .r (.mv (.c (.bool true)))⟩])
  .ret)))))))) }
theorem tr_chain_Chain_Put : trF cx Try.f54 = pf_chain_Chain_Put := by kernel_rfl
def l0_pack_num : PC :=
  (.seq (.seq (.region [.op ⟨some 13, none, .r (.mv (.t 5))⟩, .op ⟨some 14, none, .r (.bin .geq (.t 13) (.c (.int .u64 (.ofNat 128))))⟩])
  (.cond (.t 14)
   .skip
   (.exit 0)))
  (.block 1 (.seq (.region [.op ⟨some 15, none, .r (.mv (.t 0))⟩, .op ⟨some 16, none, .r (.mv (.t 5))⟩, .op ⟨some 17, none, .r (.cint .u8 (.t 16))⟩, .op ⟨some 18, none, .r (.bin .or (.t 17) (.c (.int .u8 (.ofNat 128))))⟩, .op ⟨some 19, none, .n (.bslice 2 1 1 [(.int .u8 (.ofNat 0))] [(0, 1, (.t 18))])⟩, .op ⟨some 20, none, .e (.app 2 1 1 (.t 15) (.t 19))⟩, .op ⟨some 0, none, .r (.mv (.t 20))⟩])
   (.region [.op ⟨some 21, none, .r (.mv (.t 5))⟩, .op ⟨some 22, none, .r (.bin .shr (.t 21) (.c (.int .u64 (.ofNat 7))))⟩, .op ⟨some 5, none, .r (.mv (.t 22))⟩]))))
def pf_pack_num : PF := { ntmps := 28, results := [.tmp 4], body :=
  (.seq (.region [.op ⟨some 4, none, .r (.mv (.c .nils))⟩])
  (.seq (.region [.op ⟨some 6, none, .r (.mv (.t 1))⟩, .op ⟨some 7, none, .r (.cint .u64 (.t 6))⟩, .op ⟨some 8, none, .r (.bin .shl (.t 7) (.c (.int .u64 (.ofNat 1))))⟩, .op ⟨some 9, none, .r (.mv (.t 1))⟩, .op ⟨some 10, none, .r (.bin .shr (.t 9) (.c (.int .u64 (.ofNat 63))))⟩, .op ⟨some 11, none, .r (.cint .u64 (.t 10))⟩, .op ⟨some 12, none, .r (.bin .xor (.t 8) (.t 11))⟩, .op ⟨some 5, none, .r (.mv (.t 12))⟩])
  (.seq (.block 0 (.loop l0_pack_num))
  (.seq (.region [.op ⟨some 23, none, .r (.mv (.t 0))⟩, .op ⟨some 24, none, .r (.mv (.t 5))⟩, .op ⟨some 25, none, .r (.cint .u8 (.t 24))⟩, .op ⟨some 26, none, .n (.bslice 2 1 1 [(.int .u8 (.ofNat 0))] [(0, 1, (.t 25))])⟩, .op ⟨some 27, none, .e (.app 2 1 1 (.t 23) (.t 26))⟩, .op ⟨some 4, none, .r (.mv (.t 27))⟩])
  .ret)))) }
theorem tr_pack_num : trF cx Try.f55 = pf_pack_num := by kernel_rfl
def pf_chain_Chain_Get : PF := { ntmps := 23, results := [.tmp 4, .tmp 5], body :=
  (.seq (.region [.op ⟨some 4, none, .r (.mv (.c (.int .i64 (.ofNat 0))))⟩, .op ⟨some 5, none, .r (.mv (.c (.bool false)))⟩])
  (.seq (.region [.op ⟨some 8, none, .r (.mv (.t 0))⟩, .op ⟨some 9, none, .r (.mv (.t 1))⟩, .op ⟨some 10, none, .e (.call n_chain_Chain_bucket [(.t 8), (.t 9)])⟩, .op ⟨some 11, none, .r (.nilck (.t 10))⟩, .op ⟨some 12, none, .r (.load false 1 (.t 11))⟩, .op ⟨some 6, none, .r (.mv (.t 12))⟩])
  (.seq (.seq (.region [.op ⟨some 13, none, .r (.mv (.t 6))⟩, .op ⟨some 14, none, .r (.mv (.t 1))⟩, .op ⟨some 15, none, .e (.call n_chain_find [(.t 13), (.t 14)])⟩, .op ⟨some 7, none, .r (.mv (.t 15))⟩])
  (.seq (.region [.op ⟨some 16, none, .r (.mv (.t 7))⟩, .op ⟨some 17, none, .r (.bin .geq (.t 16) (.c (.int .i64 (.ofNat 0))))⟩])
  (.cond (.t 17)
   (.seq (.region [.op ⟨some 18, none, .r (.mv (.t 6))⟩, .op ⟨some 19, none, .r (.mv (.t 7))⟩, .op ⟨some 20, none, .r (.iasl 2 (.t 18) (.t 19))⟩, .op ⟨some 21, none, .r (.faddr 1 (.t 20))⟩, .op ⟨some 22, none, .r (.load false 1 (.t 21))⟩, .op ⟨some 4, none, .r (.mv (.t 22))⟩, .op ⟨some 5, none, .r (.mv (.c (.bool true)))⟩])
   .ret)
   .skip)))
  (.seq (.region [.op ⟨some 4, none, .r (.mv (.c (.int .i64 (.ofNat 0))))⟩, .op ⟨some 5, none, .r (.mv (.c (.bool false)))⟩])
  .ret)))) }
theorem tr_chain_Chain_Get : trF cx Try.f56 = pf_chain_Chain_Get := by kernel_rfl
def l0_slices_pdqsortOrdered_string : PC :=
  (.block 1 (.seq (.region [.op ⟨some 19, none, .r (.mv (.t 2))⟩, .op ⟨some 20, none, .r (.mv (.t 1))⟩, .op ⟨some 21, none, .r (.bin .sub (.t 19) (.t 20))⟩, .op ⟨some 10, none, .r (.mv (.t 21))⟩])
   (.seq (.seq (.region [.op ⟨some 22, none, .r (.mv (.t 10))⟩, .op ⟨some 23, none, .r (.bin .leq (.t 22) (.c (.int .i64 (.ofNat 12))))⟩])
   (.cond (.t 23)
    (.seq (.region [.op ⟨some 24, none, .r (.mv (.t 0))⟩, .op ⟨some 25, none, .r (.mv (.t 1))⟩, .op ⟨some 26, none, .r (.mv (.t 2))⟩, .op ⟨some 27, none, .e (.call n_slices_insertionSortOrdered_string [(.t 24), (.t 25), (.t 26)])⟩])
    .ret)
    .skip))
   (.seq (.seq (.region [.op ⟨some 28, none, .r (.mv (.t 3))⟩, .op ⟨some 29, none, .r (.bin .eql (.t 28) (.c (.int .i64 (.ofNat 0))))⟩])
   (.cond (.t 29)
    (.seq (.region [.op ⟨some 30, none, .r (.mv (.t 0))⟩, .op ⟨some 31, none, .r (.mv (.t 1))⟩, .op ⟨some 32, none, .r (.mv (.t 2))⟩, .op ⟨some 33, none, .e (.call n_slices_heapSortOrdered_string [(.t 30), (.t 31), (.t 32)])⟩])
    .ret)
    .skip))
   (.seq (.seq (.region [.op ⟨some 34, none, .r (.mv (.t 8))⟩, .op ⟨some 35, none, .r (.un .not (.t 34))⟩])
   (.cond (.t 35)
    (.seq (.region [.op ⟨some 36, none, .r (.mv (.t 0))⟩, .op ⟨some 37, none, .r (.mv (.t 1))⟩, .op ⟨some 38, none, .r (.mv (.t 2))⟩, .op ⟨some 39, none, .e (.call n_slices_breakPatternsOrdered_string [(.t 36), (.t 37), (.t 38)])⟩])
    (.region [.op ⟨some 40, none, .r (.mv (.t 3))⟩, .op ⟨some 41, none, .r (.bin .sub (.t 40) (.c (.int .i64 (.ofNat 1))))⟩, .op ⟨some 3, none, .r (.mv (.t 41))⟩]))
    .skip))
   (.seq (.region [.op ⟨some 43, none, .r (.mv (.t 0))⟩, .op ⟨some 44, none, .r (.mv (.t 1))⟩, .op ⟨some 45, none, .r (.mv (.t 2))⟩, .op ⟨some 46, none, .e (.call n_slices_choosePivotOrdered_string [(.t 43), (.t 44), (.t 45)])⟩, .op ⟨some 42, none, .r (.mv (.t 46))⟩, .op ⟨some 47, none, .r (.ext 0 (.t 42))⟩, .op ⟨some 48, none, .r (.ext 1 (.t 42))⟩, .op ⟨some 11, none, .r (.mv (.t 47))⟩, .op ⟨some 12, none, .r (.mv (.t 48))⟩])
   (.seq (.seq (.region [.op ⟨some 49, none, .r (.mv (.t 12))⟩, .op ⟨some 50, none, .r (.bin .eql (.t 49) (.c (.int .i64 (.ofNat 2))))⟩])
   (.cond (.t 50)
    (.seq (.region [.op ⟨some 51, none, .r (.mv (.t 0))⟩, .op ⟨some 52, none, .r (.mv (.t 1))⟩, .op ⟨some 53, none, .r (.mv (.t 2))⟩, .op ⟨some 54, none, .e (.call n_slices_reverseRangeOrdered_string [(.t 51), (.t 52), (.t 53)])⟩])
    (.seq (.region [.op ⟨some 55, none, .r (.mv (.t 2))⟩, .op ⟨some 56, none, .r (.bin .sub (.t 55) (.c (.int .i64 (.ofNat 1))))⟩, .op ⟨some 57, none, .r (.mv (.t 11))⟩, .op ⟨some 58, none, .r (.mv (.t 1))⟩, .op ⟨some 59, none, .r (.bin .sub (.t 57) (.t 58))⟩, .op ⟨some 60, none, .r (.bin .sub (.t 56) (.t 59))⟩, .op ⟨some 11, none, .r (.mv (.t 60))⟩])
    (.region [.op ⟨some 12, none, .r (.mv (.c (.int .i64 (.ofNat 1))))⟩])))
    .skip))
   (.seq (.seq (.region [.op ⟨some 61, none, .r (.mv (.t 8))⟩, .op ⟨some 62, none, .r (.mv (.t 61))⟩, .op ⟨some 63, some (62, true), .r (.mv (.t 9))⟩, .op ⟨some 64, none, .r (.pick (.t 62) (.t 63) (.c (.bool false)))⟩, .op ⟨some 65, none, .r (.mv (.t 64))⟩, .op ⟨some 66, some (65, true), .r (.mv (.t 12))⟩, .op ⟨some 67, some (65, true), .r (.bin .eql (.t 66) (.c (.int .i64 (.ofNat 1))))⟩, .op ⟨some 68, none, .r (.pick (.t 65) (.t 67) (.c (.bool false)))⟩])
   (.cond (.t 68)
    (.seq (.region [.op ⟨some 69, none, .r (.mv (.t 0))⟩, .op ⟨some 70, none, .r (.mv (.t 1))⟩, .op ⟨some 71, none, .r (.mv (.t 2))⟩, .op ⟨some 72, none, .e (.call n_slices_partialInsertionSortOrdered_string [(.t 69), (.t 70), (.t 71)])⟩])
    (.cond (.t 72)
     .ret
     .skip))
    .skip))
   (.seq (.seq (.region [.op ⟨some 73, none, .r (.mv (.t 1))⟩, .op ⟨some 74, none, .r (.bin .gtr (.t 73) (.c (.int .i64 (.ofNat 0))))⟩, .op ⟨some 75, none, .r (.mv (.t 74))⟩, .op ⟨some 76, some (75, true), .r (.mv (.t 0))⟩, .op ⟨some 77, some (75, true), .r (.mv (.t 1))⟩, .op ⟨some 78, some (75, true), .r (.bin .sub (.t 77) (.c (.int .i64 (.ofNat 1))))⟩, .op ⟨some 79, some (75, true), .r (.iasl 1 (.t 76) (.t 78))⟩,
     .op ⟨some 80, some (75, true), .r (.load false 1 (.t 79))⟩, .op ⟨some 81, some (75, true), .r (.mv (.t 0))⟩, .op ⟨some 82, some (75, true), .r (.mv (.t 11))⟩, .op ⟨some 83, some (75, true), .r (.iasl 1 (.t 81) (.t 82))⟩, .op ⟨some 84, some (75, true), .r (.load false 1 (.t 83))⟩, .op ⟨some 85, some (75, true), .e (.call n_cmp_Less_string [(.t 80), (.t 84)])⟩, .op ⟨some 86, some (75, true), .r (.un .not (.t 85))⟩,
     .op ⟨some 87, none, .r (.pick (.t 75) (.t 86) (.c (.bool false)))⟩])
   (.cond (.t 87)
    (.seq (.region [.op ⟨some 88, none, .r (.mv (.t 0))⟩, .op ⟨some 89, none, .r (.mv (.t 1))⟩, .op ⟨some 90, none, .r (.mv (.t 2))⟩, .op ⟨some 91, none, .r (.mv (.t 11))⟩, .op ⟨some 92, none, .r (.bad)⟩, .op ⟨some 13, none, .r (.mv (.t 92))⟩])
    (.seq (.region [.op ⟨some 93, none, .r (.mv (.t 13))⟩, .op ⟨some 1, none, .r (.mv (.t 93))⟩])
    (.exit 1)))
    .skip))
   (.seq (.region [.op ⟨some 95, none, .r (.mv (.t 0))⟩, .op ⟨some 96, none, .r (.mv (.t 1))⟩, .op ⟨some 97, none, .r (.mv (.t 2))⟩, .op ⟨some 98, none, .r (.mv (.t 11))⟩, .op ⟨some 99, none, .e (.call n_slices_partitionOrdered_string [(.t 95), (.t 96), (.t 97), (.t 98)])⟩, .op ⟨some 94, none, .r (.mv (.t 99))⟩, .op ⟨some 100, none, .r (.ext 0 (.t 94))⟩, .op ⟨some 101, none, .r (.ext 1 (.t 94))⟩, .op ⟨some 14, none, .r (.mv (.t 100))⟩,
     .op ⟨some 15, none, .r (.mv (.t 101))⟩])
   (.seq (.region [.op ⟨some 102, none, .r (.mv (.t 15))⟩, .op ⟨some 9, none, .r (.mv (.t 102))⟩])
   (.seq (.region [.op ⟨some 103, none, .r (.mv (.t 14))⟩, .op ⟨some 104, none, .r (.mv (.t 1))⟩, .op ⟨some 105, none, .r (.bin .sub (.t 103) (.t 104))⟩, .op ⟨some 106, none, .r (.mv (.t 2))⟩, .op ⟨some 107, none, .r (.mv (.t 14))⟩, .op ⟨some 108, none, .r (.bin .sub (.t 106) (.t 107))⟩, .op ⟨some 16, none, .r (.mv (.t 105))⟩, .op ⟨some 17, none, .r (.mv (.t 108))⟩])
   (.seq (.region [.op ⟨some 109, none, .r (.mv (.t 10))⟩, .op ⟨some 110, none, .r (.bin .quo (.t 109) (.c (.int .i64 (.ofNat 8))))⟩, .op ⟨some 18, none, .r (.mv (.t 110))⟩])
   (.seq (.region [.op ⟨some 111, none, .r (.mv (.t 16))⟩, .op ⟨some 112, none, .r (.mv (.t 17))⟩, .op ⟨some 113, none, .r (.bin .lss (.t 111) (.t 112))⟩])
   (.cond (.t 113)
    (.seq (.region [.op ⟨some 114, none, .r (.mv (.t 16))⟩, .op ⟨some 115, none, .r (.mv (.t 18))⟩, .op ⟨some 116, none, .r (.bin .geq (.t 114) (.t 115))⟩, .op ⟨some 8, none, .r (.mv (.t 116))⟩])
    (.seq (.region [.op ⟨some 117, none, .r (.mv (.t 0))⟩, .op ⟨some 118, none, .r (.mv (.t 1))⟩, .op ⟨some 119, none, .r (.mv (.t 14))⟩, .op ⟨some 120, none, .r (.mv (.t 3))⟩, .op ⟨some 121, none, .e (.call n_slices_pdqsortOrdered_string [(.t 117), (.t 118), (.t 119), (.t 120)])⟩])
    (.region [.op ⟨some 122, none, .r (.mv (.t 14))⟩, .op ⟨some 123, none, .r (.bin .add (.t 122) (.c (.int .i64 (.ofNat 1))))⟩, .op ⟨some 1, none, .r (.mv (.t 123))⟩])))
    (.seq (.region [.op ⟨some 124, none, .r (.mv (.t 17))⟩, .op ⟨some 125, none, .r (.mv (.t 18))⟩, .op ⟨some 126, none, .r (.bin .geq (.t 124) (.t 125))⟩, .op ⟨some 8, none, .r (.mv (.t 126))⟩])
    (.seq (.region [.op ⟨some 127, none, .r (.mv (.t 0))⟩, .op ⟨some 128, none, .r (.mv (.t 14))⟩, .op ⟨some 129, none, .r (.bin .add (.t 128) (.c (.int .i64 (.ofNat 1))))⟩, .op ⟨some 130, none, .r (.mv (.t 2))⟩, .op ⟨some 131, none, .r (.mv (.t 3))⟩, .op ⟨some 132, none, .e (.call n_slices_pdqsortOrdered_string [(.t 127), (.t 129), (.t 130), (.t 131)])⟩])
    (.region [.op ⟨some 133, none, .r (.mv (.t 14))⟩, .op ⟨some 2, none, .r (.mv (.t 133))⟩]))))))))))))))))))
def pf_slices_pdqsortOrdered_string : PF := { ntmps := 134, results := [], body :=
  (.seq (.region [.op ⟨some 8, none, .r (.mv (.c (.bool true)))⟩])
  (.seq (.region [.op ⟨some 9, none, .r (.mv (.c (.bool true)))⟩])
  (.block 0 (.loop l0_slices_pdqsortOrdered_string)))) }
theorem tr_slices_pdqsortOrdered_string : trF cx Try.f57 = pf_slices_pdqsortOrdered_string := by kernel_rfl
def pf_math_bits_Len : PF := { ntmps := 8, results := [.tmp 2], body :=
  (.seq (.region [.op ⟨some 2, none, .r (.mv (.c (.int .i64 (.ofNat 0))))⟩])
  (.seq (.cond (.c (.bool false))
   (.seq (.region [.op ⟨some 3, none, .r (.mv (.t 0))⟩, .op ⟨some 4, none, .r (.cint .u32 (.t 3))⟩, .op ⟨some 5, none, .e (.call n_math_bits_Len32 [(.t 4)])⟩, .op ⟨some 2, none, .r (.mv (.t 5))⟩])
   .ret)
   .skip)
  (.seq (.region [.op ⟨some 6, none, .r (.mv (.t 0))⟩, .op ⟨some 7, none, .e (.call n_math_bits_Len64 [(.t 6)])⟩, .op ⟨some 2, none, .r (.mv (.t 7))⟩])
  .ret))) }
theorem tr_math_bits_Len : trF cx Try.f58 = pf_math_bits_Len := by kernel_rfl
def pf_item_Store_Peek : PF := { ntmps := 41, results := [.tmp 4, .tmp 5], body :=
  (.seq (.region [.op ⟨some 4, none, .r (.mv (.c (.str [])))⟩, .op ⟨some 5, none, .r (.mv (.c (.bool false)))⟩])
  (.seq (.region [.op ⟨some 11, none, .r (.mv (.t 0))⟩, .op ⟨some 12, none, .r (.nilck (.t 11))⟩, .op ⟨some 13, none, .r (.faddr 1 (.t 12))⟩, .op ⟨some 14, none, .r (.load false 1 (.t 13))⟩, .op ⟨some 15, none, .r (.mv (.t 1))⟩, .op ⟨some 16, none, .e (.call n_chain_Chain_Get [(.t 14), (.t 15)])⟩, .op ⟨some 10, none, .r (.mv (.t 16))⟩, .op ⟨some 17, none, .r (.ext 0 (.t 10))⟩, .op ⟨some 18, none, .r (.ext 1 (.t 10))⟩,
    .op ⟨some 6, none, .r (.mv (.t 17))⟩, .op ⟨some 7, none, .r (.mv (.t 18))⟩])
  (.seq (.seq (.region [.op ⟨some 19, none, .r (.mv (.t 7))⟩, .op ⟨some 20, none, .r (.un .not (.t 19))⟩])
  (.cond (.t 20)
   (.seq (.region [.op ⟨some 4, none, .r (.mv (.c (.str [])))⟩, .op ⟨some 5, none, .r (.mv (.c (.bool false)))⟩])
   .ret)
   .skip))
  (.seq (.region [.op ⟨some 22, none, .r (.mv (.t 0))⟩, .op ⟨some 23, none, .r (.nilck (.t 22))⟩, .op ⟨some 24, none, .r (.faddr 0 (.t 23))⟩, .op ⟨some 25, none, .r (.load false 1 (.t 24))⟩, .op ⟨some 26, none, .r (.mv (.t 0))⟩, .op ⟨some 27, none, .r (.nilck (.t 26))⟩, .op ⟨some 28, none, .r (.faddr 2 (.t 27))⟩, .op ⟨some 29, none, .r (.load false 1 (.t 28))⟩, .op ⟨some 30, none, .r (.mv (.t 6))⟩,
    .op ⟨some 31, none, .r (.iasl 6 (.t 29) (.t 30))⟩, .op ⟨some 32, none, .r (.faddr 1 (.t 31))⟩, .op ⟨some 33, none, .r (.load true 2 (.t 32))⟩, .op ⟨some 34, none, .e (.call n_slab_Slab_Read [(.t 25), (.t 33)])⟩, .op ⟨some 21, none, .r (.mv (.t 34))⟩, .op ⟨some 35, none, .r (.ext 0 (.t 21))⟩, .op ⟨some 36, none, .r (.ext 1 (.t 21))⟩, .op ⟨some 8, none, .r (.mv (.t 35))⟩, .op ⟨some 9, none, .r (.mv (.t 36))⟩])
  (.seq (.region [.op ⟨some 37, none, .r (.mv (.t 8))⟩, .op ⟨some 38, none, .r (.mv (.t 1))⟩, .op ⟨some 39, none, .r (.lens (.t 38))⟩, .op ⟨some 40, none, .r (.slstr (.t 37) (some (.t 39)) none)⟩, .op ⟨some 4, none, .r (.mv (.t 40))⟩, .op ⟨some 5, none, .r (.mv (.c (.bool true)))⟩])
  .ret))))) }
theorem tr_item_Store_Peek : trF cx Try.f59 = pf_item_Store_Peek := by kernel_rfl
def pf_item_Store_out : PF := { ntmps := 32, results := [], body :=
  (.seq (.region [.op ⟨some 5, none, .r (.mv (.t 0))⟩, .op ⟨some 6, none, .r (.nilck (.t 5))⟩, .op ⟨some 7, none, .r (.faddr 2 (.t 6))⟩, .op ⟨some 8, none, .r (.load false 1 (.t 7))⟩, .op ⟨some 9, none, .r (.mv (.t 1))⟩, .op ⟨some 10, none, .r (.iasl 6 (.t 8) (.t 9))⟩, .op ⟨some 11, none, .r (.load true 6 (.t 10))⟩, .op ⟨some 4, none, .n (.new 0 [(.str []), (.int .i64 (.ofNat 0)), (.int .i64 (.ofNat 0)), (.bool false), (.int .i64 (.ofNat 0)), (.int .i64 (.ofNat 0))])⟩,
    .op ⟨none, none, .e (.store 6 (.t 4) (.t 11))⟩])
  (.region [.op ⟨some 12, none, .r (.mv (.t 0))⟩, .op ⟨some 13, none, .r (.nilck (.t 12))⟩, .op ⟨some 14, none, .r (.faddr 2 (.t 13))⟩, .op ⟨some 15, none, .r (.load false 1 (.t 14))⟩, .op ⟨some 16, none, .r (.faddr 5 (.t 4))⟩, .op ⟨some 17, none, .r (.load false 1 (.t 16))⟩, .op ⟨some 18, none, .r (.mv (.t 0))⟩, .op ⟨some 19, none, .r (.nilck (.t 18))⟩, .op ⟨some 20, none, .r (.faddr 2 (.t 19))⟩,
    .op ⟨some 21, none, .r (.load false 1 (.t 20))⟩, .op ⟨some 22, none, .r (.faddr 4 (.t 4))⟩, .op ⟨some 23, none, .r (.load false 1 (.t 22))⟩, .op ⟨some 24, none, .r (.faddr 4 (.t 4))⟩, .op ⟨some 25, none, .r (.load false 1 (.t 24))⟩, .op ⟨some 26, none, .r (.faddr 5 (.t 4))⟩, .op ⟨some 27, none, .r (.load false 1 (.t 26))⟩, .op ⟨some 28, none, .r (.iasl 6 (.t 15) (.t 17))⟩, .op ⟨some 29, none, .r (.faddr 4 (.t 28))⟩,
    .op ⟨none, none, .e (.store 1 (.t 29) (.t 25))⟩, .again ⟨some 27, none, .r (.load false 1 (.t 26))⟩, .again ⟨some 23, none, .r (.load false 1 (.t 22))⟩, .op ⟨some 30, none, .r (.iasl 6 (.t 21) (.t 23))⟩, .op ⟨some 31, none, .r (.faddr 5 (.t 30))⟩, .op ⟨none, none, .e (.store 1 (.t 31) (.t 27))⟩])) }
theorem tr_item_Store_out : trF cx Try.f60 = pf_item_Store_out := by kernel_rfl
def pf_slab_Slab_Free : PF := { ntmps := 40, results := [.tmp 4], body :=
  (.seq (.region [.op ⟨some 3, none, .n (.box (.t 1))⟩, .op ⟨some 4, none, .r (.mv (.c (.bool false)))⟩])
  (.seq (.seq (.region [.op ⟨some 9, none, .r (.mv (.t 0))⟩, .op ⟨some 10, none, .r (.load true 2 (.t 3))⟩, .op ⟨some 11, none, .e (.call n_slab_Slab_Read [(.t 9), (.t 10)])⟩, .op ⟨some 8, none, .r (.mv (.t 11))⟩, .op ⟨some 12, none, .r (.ext 0 (.t 8))⟩, .op ⟨some 13, none, .r (.ext 1 (.t 8))⟩, .op ⟨some 5, none, .r (.mv (.t 12))⟩, .op ⟨some 6, none, .r (.mv (.t 13))⟩])
  (.seq (.region [.op ⟨some 14, none, .r (.mv (.t 6))⟩, .op ⟨some 15, none, .r (.un .not (.t 14))⟩])
  (.cond (.t 15)
   (.seq (.region [.op ⟨some 4, none, .r (.mv (.c (.bool false)))⟩])
   .ret)
   .skip)))
  (.seq (.region [.op ⟨some 16, none, .r (.mv (.t 0))⟩, .op ⟨some 17, none, .r (.nilck (.t 16))⟩, .op ⟨some 18, none, .r (.faddr 3 (.t 17))⟩, .op ⟨some 19, none, .r (.load false 1 (.t 18))⟩, .op ⟨some 20, none, .r (.faddr 0 (.t 3))⟩, .op ⟨some 21, none, .r (.load false 1 (.t 20))⟩, .op ⟨some 22, none, .r (.iasl 4 (.t 19) (.t 21))⟩, .op ⟨some 7, none, .r (.mv (.t 22))⟩])
  (.seq (.region [.op ⟨some 23, none, .r (.mv (.t 7))⟩, .op ⟨some 24, none, .r (.nilck (.t 23))⟩, .op ⟨some 25, none, .r (.faddr 2 (.t 24))⟩, .op ⟨some 26, none, .r (.load false 1 (.t 25))⟩, .op ⟨some 27, none, .r (.faddr 1 (.t 3))⟩, .op ⟨some 28, none, .r (.load false 1 (.t 27))⟩, .op ⟨none, none, .e (.mdel false (.t 26) (.t 28))⟩])
  (.seq (.region [.op ⟨some 29, none, .r (.mv (.t 7))⟩, .op ⟨some 30, none, .r (.mv (.t 7))⟩, .op ⟨some 31, none, .r (.nilck (.t 30))⟩, .op ⟨some 32, none, .r (.faddr 1 (.t 31))⟩, .op ⟨some 33, none, .r (.load false 1 (.t 32))⟩, .op ⟨some 34, none, .r (.faddr 1 (.t 3))⟩, .op ⟨some 35, none, .r (.load false 1 (.t 34))⟩, .op ⟨some 36, none, .n (.bslice 0 1 1 [(.int .i64 (.ofNat 0))] [(0, 1, (.t 35))])⟩,
    .op ⟨some 37, none, .e (.app 0 1 8 (.t 33) (.t 36))⟩, .op ⟨some 38, none, .r (.nilck (.t 29))⟩, .op ⟨some 39, none, .r (.faddr 1 (.t 38))⟩, .op ⟨none, none, .e (.store 1 (.t 39) (.t 37))⟩])
  (.seq (.region [.op ⟨some 4, none, .r (.mv (.c (.bool true)))⟩])
  .ret)))))) }
theorem tr_slab_Slab_Free : trF cx Try.f61 = pf_slab_Slab_Free := by kernel_rfl
def pf_chain_Chain_Drop : PF := { ntmps := 50, results := [.tmp 4], body :=
  (.seq (.region [.op ⟨some 4, none, .r (.mv (.c (.bool false)))⟩])
  (.seq (.region [.op ⟨some 8, none, .r (.mv (.t 0))⟩, .op ⟨some 9, none, .e (.call n_chain_Chain_step [(.t 8)])⟩])
  (.seq (.region [.op ⟨some 10, none, .r (.mv (.t 0))⟩, .op ⟨some 11, none, .r (.mv (.t 1))⟩, .op ⟨some 12, none, .e (.call n_chain_Chain_bucket [(.t 10), (.t 11)])⟩, .op ⟨some 5, none, .r (.mv (.t 12))⟩])
  (.seq (.region [.op ⟨some 13, none, .r (.mv (.t 5))⟩, .op ⟨some 14, none, .r (.nilck (.t 13))⟩, .op ⟨some 15, none, .r (.load false 1 (.t 14))⟩, .op ⟨some 16, none, .r (.mv (.t 1))⟩, .op ⟨some 17, none, .e (.call n_chain_find [(.t 15), (.t 16)])⟩, .op ⟨some 6, none, .r (.mv (.t 17))⟩])
  (.seq (.seq (.region [.op ⟨some 18, none, .r (.mv (.t 6))⟩, .op ⟨some 19, none, .r (.bin .lss (.t 18) (.c (.int .i64 (.ofNat 0))))⟩])
  (.cond (.t 19)
   (.seq (.region [.op ⟨some 4, none, .r (.mv (.c (.bool false)))⟩])
   .ret)
   .skip))
  (.seq (.region [.op ⟨some 20, none, .r (.mv (.t 5))⟩, .op ⟨some 21, none, .r (.nilck (.t 20))⟩, .op ⟨some 22, none, .r (.load false 1 (.t 21))⟩, .op ⟨some 23, none, .r (.lensl (.t 22))⟩, .op ⟨some 24, none, .r (.bin .sub (.t 23) (.c (.int .i64 (.ofNat 1))))⟩, .op ⟨some 7, none, .r (.mv (.t 24))⟩])
  (.seq (.region [.op ⟨some 25, none, .r (.mv (.t 5))⟩, .op ⟨some 26, none, .r (.nilck (.t 25))⟩, .op ⟨some 27, none, .r (.load false 1 (.t 26))⟩, .op ⟨some 28, none, .r (.mv (.t 6))⟩, .op ⟨some 29, none, .r (.mv (.t 5))⟩, .op ⟨some 30, none, .r (.nilck (.t 29))⟩, .op ⟨some 31, none, .r (.load false 1 (.t 30))⟩, .op ⟨some 32, none, .r (.mv (.t 7))⟩, .op ⟨some 33, none, .r (.iasl 2 (.t 31) (.t 32))⟩,
    .op ⟨some 34, none, .r (.load true 2 (.t 33))⟩, .op ⟨some 35, none, .r (.iasl 2 (.t 27) (.t 28))⟩, .op ⟨none, none, .e (.store 2 (.t 35) (.t 34))⟩])
  (.seq (.region [.op ⟨some 36, none, .r (.mv (.t 5))⟩, .op ⟨some 37, none, .r (.mv (.t 5))⟩, .op ⟨some 38, none, .r (.nilck (.t 37))⟩, .op ⟨some 39, none, .r (.load false 1 (.t 38))⟩, .op ⟨some 40, none, .r (.mv (.t 7))⟩, .op ⟨some 41, none, .r (.slsl 2 (.t 39) none (some (.t 40)) none)⟩, .op ⟨some 42, none, .r (.nilck (.t 36))⟩, .op ⟨none, none, .e (.store 1 (.t 42) (.t 41))⟩])
  (.seq (.region [.op ⟨some 43, none, .r (.mv (.t 0))⟩, .op ⟨some 44, none, .r (.nilck (.t 43))⟩, .op ⟨some 45, none, .r (.faddr 3 (.t 44))⟩, .op ⟨some 46, none, .r (.load false 1 (.t 45))⟩, .op ⟨some 47, none, .r (.bin .sub (.t 46) (.c (.int .i64 (.ofNat 1))))⟩, .op ⟨some 48, none, .r (.nilck (.t 43))⟩, .op ⟨some 49, none, .r (.faddr 3 (.t 48))⟩, .op ⟨none, none, .e (.store 1 (.t 49) (.t 47))⟩])
  (.seq (.region [.op ⟨some 4, none, .r (.mv (.c (.bool true)))⟩])
  .ret)))))))))) }
theorem tr_chain_Chain_Drop : trF cx Try.f62 = pf_chain_Chain_Drop := by kernel_rfl
def l0_chain_Chain_step : PC :=
  (.seq (.region [.op ⟨some 41, none, .r (.bin .lss (.t 40) (.t 39))⟩])
  (.seq (.cond (.t 41)
   .skip
   (.exit 0))
  (.seq (.block 1 (.seq (.region [.op ⟨some 42, none, .r (.iasl 2 (.t 38) (.t 40))⟩, .op ⟨some 43, none, .r (.load true 2 (.t 42))⟩, .op ⟨some 4, none, .n (.new 0 [(.str []), (.int .i64 (.ofNat 0))])⟩, .op ⟨none, none, .e (.store 2 (.t 4) (.t 43))⟩])
   (.seq (.region [.op ⟨some 44, none, .r (.mv (.t 0))⟩, .op ⟨some 45, none, .r (.nilck (.t 44))⟩, .op ⟨some 46, none, .r (.faddr 0 (.t 45))⟩, .op ⟨some 47, none, .r (.load false 1 (.t 46))⟩, .op ⟨some 48, none, .r (.faddr 0 (.t 4))⟩, .op ⟨some 49, none, .r (.load false 1 (.t 48))⟩, .op ⟨some 52, none, .r (.mv (.t 0))⟩, .op ⟨some 53, none, .r (.nilck (.t 52))⟩, .op ⟨some 54, none, .r (.faddr 0 (.t 53))⟩,
     .op ⟨some 55, none, .r (.load false 1 (.t 54))⟩, .op ⟨some 56, none, .r (.lensl (.t 55))⟩, .op ⟨some 50, none, .e (.call n_chain_Hash [(.t 49)])⟩, .again ⟨some 55, none, .r (.load false 1 (.t 54))⟩, .again ⟨some 47, none, .r (.load false 1 (.t 46))⟩, .op ⟨some 51, none, .r (.cint .i64 (.t 50))⟩, .op ⟨some 57, none, .r (.bin .rem (.t 51) (.t 56))⟩, .op ⟨some 58, none, .r (.iasl 1 (.t 47) (.t 57))⟩,
     .op ⟨some 5, none, .r (.mv (.t 58))⟩])
   (.region [.op ⟨some 59, none, .r (.mv (.t 5))⟩, .op ⟨some 60, none, .r (.mv (.t 5))⟩, .op ⟨some 61, none, .r (.nilck (.t 60))⟩, .op ⟨some 62, none, .r (.load false 1 (.t 61))⟩, .op ⟨some 63, none, .r (.load true 2 (.t 4))⟩, .op ⟨some 64, none, .n (.bslice 0 2 1 [(.str []), (.int .i64 (.ofNat 0))] [(0, 2, (.t 63))])⟩, .op ⟨some 65, none, .e (.app 0 2 24 (.t 62) (.t 64))⟩, .op ⟨some 66, none, .r (.nilck (.t 59))⟩,
     .op ⟨none, none, .e (.store 1 (.t 66) (.t 65))⟩]))))
  (.region [.op ⟨some 67, none, .r (.bin .add (.t 40) (.c (.int .i64 (.ofNat 1))))⟩, .op ⟨some 40, none, .r (.mv (.t 67))⟩]))))
def pf_chain_Chain_step : PF := { ntmps := 84, results := [], body :=
  (.seq (.seq (.region [.op ⟨some 6, none, .r (.mv (.t 0))⟩, .op ⟨some 7, none, .r (.nilck (.t 6))⟩, .op ⟨some 8, none, .r (.faddr 1 (.t 7))⟩, .op ⟨some 9, none, .r (.load false 1 (.t 8))⟩, .op ⟨some 10, none, .r (.lensl (.t 9))⟩, .op ⟨some 11, none, .r (.bin .eql (.t 10) (.c (.int .i64 (.ofNat 0))))⟩])
  (.cond (.t 11)
   .ret
   .skip))
  (.seq (.region [.op ⟨some 12, none, .r (.mv (.t 0))⟩, .op ⟨some 13, none, .r (.nilck (.t 12))⟩, .op ⟨some 14, none, .r (.faddr 1 (.t 13))⟩, .op ⟨some 15, none, .r (.load false 1 (.t 14))⟩, .op ⟨some 16, none, .r (.mv (.t 0))⟩, .op ⟨some 17, none, .r (.nilck (.t 16))⟩, .op ⟨some 18, none, .r (.faddr 2 (.t 17))⟩, .op ⟨some 19, none, .r (.load false 1 (.t 18))⟩, .op ⟨some 20, none, .r (.iasl 1 (.t 15) (.t 19))⟩,
    .op ⟨some 21, none, .r (.load false 1 (.t 20))⟩, .op ⟨some 2, none, .r (.mv (.t 21))⟩])
  (.seq (.region [.op ⟨some 22, none, .r (.mv (.t 0))⟩, .op ⟨some 23, none, .r (.nilck (.t 22))⟩, .op ⟨some 24, none, .r (.faddr 1 (.t 23))⟩, .op ⟨some 25, none, .r (.load false 1 (.t 24))⟩, .op ⟨some 26, none, .r (.mv (.t 0))⟩, .op ⟨some 27, none, .r (.nilck (.t 26))⟩, .op ⟨some 28, none, .r (.faddr 2 (.t 27))⟩, .op ⟨some 29, none, .r (.load false 1 (.t 28))⟩, .op ⟨some 30, none, .r (.iasl 1 (.t 25) (.t 29))⟩,
    .op ⟨none, none, .e (.store 1 (.t 30) (.c .nils))⟩])
  (.seq (.region [.op ⟨some 31, none, .r (.mv (.t 0))⟩, .op ⟨some 32, none, .r (.nilck (.t 31))⟩, .op ⟨some 33, none, .r (.faddr 2 (.t 32))⟩, .op ⟨some 34, none, .r (.load false 1 (.t 33))⟩, .op ⟨some 35, none, .r (.bin .add (.t 34) (.c (.int .i64 (.ofNat 1))))⟩, .op ⟨some 36, none, .r (.nilck (.t 31))⟩, .op ⟨some 37, none, .r (.faddr 2 (.t 36))⟩, .op ⟨none, none, .e (.store 1 (.t 37) (.t 35))⟩])
  (.seq (.seq (.region [.op ⟨some 38, none, .r (.mv (.t 2))⟩, .op ⟨some 39, none, .r (.lensl (.t 38))⟩, .op ⟨some 40, none, .r (.mv (.c (.int .i64 (.ofNat 0))))⟩])
  (.block 0 (.loop l0_chain_Chain_step)))
  (.seq (.region [.op ⟨some 68, none, .r (.mv (.t 0))⟩, .op ⟨some 69, none, .r (.nilck (.t 68))⟩, .op ⟨some 70, none, .r (.faddr 2 (.t 69))⟩, .op ⟨some 71, none, .r (.load false 1 (.t 70))⟩, .op ⟨some 72, none, .r (.mv (.t 0))⟩, .op ⟨some 73, none, .r (.nilck (.t 72))⟩, .op ⟨some 74, none, .r (.faddr 1 (.t 73))⟩, .op ⟨some 75, none, .r (.load false 1 (.t 74))⟩, .op ⟨some 76, none, .r (.lensl (.t 75))⟩,
    .op ⟨some 77, none, .r (.bin .eql (.t 71) (.t 76))⟩])
  (.cond (.t 77)
   (.region [.op ⟨some 78, none, .r (.mv (.t 0))⟩, .op ⟨some 79, none, .r (.mv (.t 0))⟩, .op ⟨some 80, none, .r (.nilck (.t 78))⟩, .op ⟨some 81, none, .r (.faddr 1 (.t 80))⟩, .op ⟨none, none, .e (.store 1 (.t 81) (.c .nils))⟩, .op ⟨some 82, none, .r (.nilck (.t 79))⟩, .op ⟨some 83, none, .r (.faddr 2 (.t 82))⟩, .op ⟨none, none, .e (.store 1 (.t 83) (.c (.int .i64 (.ofNat 0))))⟩])
   .skip))))))) }
theorem tr_chain_Chain_step : trF cx Try.f63 = pf_chain_Chain_step := by kernel_rfl
def pf_chain_Chain_bucket : PF := { ntmps := 47, results := [.tmp 4], body :=
  (.seq (.region [.op ⟨some 4, none, .r (.mv (.c .nilp))⟩])
  (.seq (.region [.op ⟨some 7, none, .r (.mv (.t 1))⟩, .op ⟨some 8, none, .e (.call n_chain_Hash [(.t 7)])⟩, .op ⟨some 9, none, .r (.cint .i64 (.t 8))⟩, .op ⟨some 5, none, .r (.mv (.t 9))⟩])
  (.seq (.seq (.region [.op ⟨some 10, none, .r (.mv (.t 0))⟩, .op ⟨some 11, none, .r (.nilck (.t 10))⟩, .op ⟨some 12, none, .r (.faddr 1 (.t 11))⟩, .op ⟨some 13, none, .r (.load false 1 (.t 12))⟩, .op ⟨some 14, none, .r (.lensl (.t 13))⟩, .op ⟨some 6, none, .r (.mv (.t 14))⟩])
  (.seq (.region [.op ⟨some 15, none, .r (.mv (.t 6))⟩, .op ⟨some 16, none, .r (.bin .gtr (.t 15) (.c (.int .i64 (.ofNat 0))))⟩, .op ⟨some 17, none, .r (.mv (.t 16))⟩, .op ⟨some 18, some (17, true), .r (.mv (.t 5))⟩, .op ⟨some 19, some (17, true), .r (.mv (.t 6))⟩, .op ⟨some 20, some (17, true), .r (.bin .rem (.t 18) (.t 19))⟩, .op ⟨some 21, some (17, true), .r (.mv (.t 0))⟩, .op ⟨some 22, some (17, true), .r (.nilck (.t 21))⟩,
    .op ⟨some 23, some (17, true), .r (.faddr 2 (.t 22))⟩, .op ⟨some 24, some (17, true), .r (.load false 1 (.t 23))⟩, .op ⟨some 25, some (17, true), .r (.bin .geq (.t 20) (.t 24))⟩, .op ⟨some 26, none, .r (.pick (.t 17) (.t 25) (.c (.bool false)))⟩])
  (.cond (.t 26)
   (.seq (.region [.op ⟨some 27, none, .r (.mv (.t 0))⟩, .op ⟨some 28, none, .r (.nilck (.t 27))⟩, .op ⟨some 29, none, .r (.faddr 1 (.t 28))⟩, .op ⟨some 30, none, .r (.load false 1 (.t 29))⟩, .op ⟨some 31, none, .r (.mv (.t 5))⟩, .op ⟨some 32, none, .r (.mv (.t 6))⟩, .op ⟨some 33, none, .r (.bin .rem (.t 31) (.t 32))⟩, .op ⟨some 34, none, .r (.iasl 1 (.t 30) (.t 33))⟩, .op ⟨some 4, none, .r (.mv (.t 34))⟩])
   .ret)
   .skip)))
  (.seq (.region [.op ⟨some 35, none, .r (.mv (.t 0))⟩, .op ⟨some 36, none, .r (.nilck (.t 35))⟩, .op ⟨some 37, none, .r (.faddr 0 (.t 36))⟩, .op ⟨some 38, none, .r (.load false 1 (.t 37))⟩, .op ⟨some 39, none, .r (.mv (.t 5))⟩, .op ⟨some 40, none, .r (.mv (.t 0))⟩, .op ⟨some 41, none, .r (.nilck (.t 40))⟩, .op ⟨some 42, none, .r (.faddr 0 (.t 41))⟩, .op ⟨some 43, none, .r (.load false 1 (.t 42))⟩,
    .op ⟨some 44, none, .r (.lensl (.t 43))⟩, .op ⟨some 45, none, .r (.bin .rem (.t 39) (.t 44))⟩, .op ⟨some 46, none, .r (.iasl 1 (.t 38) (.t 45))⟩, .op ⟨some 4, none, .r (.mv (.t 46))⟩])
  .ret)))) }
theorem tr_chain_Chain_bucket : trF cx Try.f64 = pf_chain_Chain_bucket := by kernel_rfl
def l0_chain_find : PC :=
  (.seq (.region [.op ⟨some 11, none, .r (.bin .lss (.t 10) (.t 9))⟩])
  (.seq (.cond (.t 11)
   .skip
   (.exit 0))
  (.seq (.block 1 (.seq (.region [.op ⟨some 12, none, .r (.mv (.t 10))⟩, .op ⟨some 13, none, .r (.iasl 2 (.t 8) (.t 10))⟩, .op ⟨some 14, none, .r (.load true 2 (.t 13))⟩, .op ⟨some 7, none, .n (.new 0 [(.str []), (.int .i64 (.ofNat 0))])⟩, .op ⟨some 6, none, .r (.mv (.t 12))⟩, .op ⟨none, none, .e (.store 2 (.t 7) (.t 14))⟩])
   (.seq (.region [.op ⟨some 15, none, .r (.faddr 0 (.t 7))⟩, .op ⟨some 16, none, .r (.load false 1 (.t 15))⟩, .op ⟨some 17, none, .r (.mv (.t 1))⟩, .op ⟨some 18, none, .r (.bin .eql (.t 16) (.t 17))⟩])
   (.cond (.t 18)
    (.seq (.region [.op ⟨some 19, none, .r (.mv (.t 6))⟩, .op ⟨some 5, none, .r (.mv (.t 19))⟩])
    (.exit 0))
    .skip))))
  (.region [.op ⟨some 20, none, .r (.bin .add (.t 10) (.c (.int .i64 (.ofNat 1))))⟩, .op ⟨some 10, none, .r (.mv (.t 20))⟩]))))
def pf_chain_find : PF := { ntmps := 22, results := [.tmp 4], body :=
  (.seq (.region [.op ⟨some 4, none, .r (.mv (.c (.int .i64 (.ofNat 0))))⟩])
  (.scope (.seq (.region [.op ⟨some 5, none, .r (.mv (.c (.int .i64 (.negSucc 0))))⟩])
   (.seq .skip
   (.seq (.seq (.region [.op ⟨some 8, none, .r (.mv (.t 0))⟩, .op ⟨some 9, none, .r (.lensl (.t 8))⟩, .op ⟨some 10, none, .r (.mv (.c (.int .i64 (.ofNat 0))))⟩])
   (.block 0 (.loop l0_chain_find)))
   (.seq (.region [.op ⟨some 21, none, .r (.mv (.t 5))⟩, .op ⟨some 4, none, .r (.mv (.t 21))⟩])
   .ret)))))) }
theorem tr_chain_find : trF cx Try.f65 = pf_chain_find := by kernel_rfl
def l0_slices_insertionSortOrdered_string : PC :=
  (.seq (.seq (.region [.op ⟨some 16, none, .r (.mv (.t 7))⟩, .op ⟨some 17, none, .r (.mv (.t 1))⟩, .op ⟨some 18, none, .r (.bin .gtr (.t 16) (.t 17))⟩, .op ⟨some 19, none, .r (.mv (.t 18))⟩, .op ⟨some 20, some (19, true), .r (.mv (.t 0))⟩, .op ⟨some 21, some (19, true), .r (.mv (.t 7))⟩, .op ⟨some 22, some (19, true), .r (.iasl 1 (.t 20) (.t 21))⟩, .op ⟨some 23, some (19, true), .r (.load false 1 (.t 22))⟩,
    .op ⟨some 24, some (19, true), .r (.mv (.t 0))⟩, .op ⟨some 25, some (19, true), .r (.mv (.t 7))⟩, .op ⟨some 26, some (19, true), .r (.bin .sub (.t 25) (.c (.int .i64 (.ofNat 1))))⟩, .op ⟨some 27, some (19, true), .r (.iasl 1 (.t 24) (.t 26))⟩, .op ⟨some 28, some (19, true), .r (.load false 1 (.t 27))⟩, .op ⟨some 29, some (19, true), .e (.call n_cmp_Less_string [(.t 23), (.t 28)])⟩, .op ⟨some 30, none, .r (.pick (.t 19) (.t 29) (.c (.bool false)))⟩])
  (.cond (.t 30)
   .skip
   (.exit 2)))
  (.seq (.block 3 (.region [.op ⟨some 33, none, .r (.mv (.t 0))⟩, .op ⟨some 34, none, .r (.mv (.t 7))⟩, .op ⟨some 35, none, .r (.mv (.t 0))⟩, .op ⟨some 36, none, .r (.mv (.t 7))⟩, .op ⟨some 37, none, .r (.bin .sub (.t 36) (.c (.int .i64 (.ofNat 1))))⟩, .op ⟨some 38, none, .r (.mv (.t 0))⟩, .op ⟨some 39, none, .r (.mv (.t 7))⟩, .op ⟨some 40, none, .r (.bin .sub (.t 39) (.c (.int .i64 (.ofNat 1))))⟩,
     .op ⟨some 41, none, .r (.iasl 1 (.t 38) (.t 40))⟩, .op ⟨some 42, none, .r (.load false 1 (.t 41))⟩, .op ⟨some 43, none, .r (.mv (.t 0))⟩, .op ⟨some 44, none, .r (.mv (.t 7))⟩, .op ⟨some 45, none, .r (.iasl 1 (.t 43) (.t 44))⟩, .op ⟨some 46, none, .r (.load false 1 (.t 45))⟩, .op ⟨some 47, none, .r (.iasl 1 (.t 33) (.t 34))⟩, .op ⟨none, none, .e (.store 1 (.t 47) (.t 42))⟩, .op ⟨some 48, none, .r (.iasl 1 (.t 35) (.t 37))⟩,
     .op ⟨none, none, .e (.store 1 (.t 48) (.t 46))⟩]))
  (.region [.op ⟨some 31, none, .r (.mv (.t 7))⟩, .op ⟨some 32, none, .r (.bin .sub (.t 31) (.c (.int .i64 (.ofNat 1))))⟩, .op ⟨some 7, none, .r (.mv (.t 32))⟩])))
def l1_slices_insertionSortOrdered_string : PC :=
  (.seq (.seq (.region [.op ⟨some 10, none, .r (.mv (.t 6))⟩, .op ⟨some 11, none, .r (.mv (.t 2))⟩, .op ⟨some 12, none, .r (.bin .lss (.t 10) (.t 11))⟩])
  (.cond (.t 12)
   .skip
   (.exit 0)))
  (.seq (.block 1 (.seq (.region [.op ⟨some 15, none, .r (.mv (.t 6))⟩, .op ⟨some 7, none, .r (.mv (.t 15))⟩])
   (.block 2 (.loop l0_slices_insertionSortOrdered_string))))
  (.region [.op ⟨some 13, none, .r (.mv (.t 6))⟩, .op ⟨some 14, none, .r (.bin .add (.t 13) (.c (.int .i64 (.ofNat 1))))⟩, .op ⟨some 6, none, .r (.mv (.t 14))⟩])))
def pf_slices_insertionSortOrdered_string : PF := { ntmps := 49, results := [], body :=
  (.seq (.region [.op ⟨some 8, none, .r (.mv (.t 1))⟩, .op ⟨some 9, none, .r (.bin .add (.t 8) (.c (.int .i64 (.ofNat 1))))⟩, .op ⟨some 6, none, .r (.mv (.t 9))⟩])
  (.block 0 (.loop l1_slices_insertionSortOrdered_string))) }
theorem tr_slices_insertionSortOrdered_string : trF cx Try.f66 = pf_slices_insertionSortOrdered_string := by kernel_rfl
def l0_slices_heapSortOrdered_string : PC :=
  (.seq (.seq (.region [.op ⟨some 18, none, .r (.mv (.t 9))⟩, .op ⟨some 19, none, .r (.bin .geq (.t 18) (.c (.int .i64 (.ofNat 0))))⟩])
  (.cond (.t 19)
   .skip
   (.exit 0)))
  (.seq (.block 1 (.region [.op ⟨some 22, none, .r (.mv (.t 0))⟩, .op ⟨some 23, none, .r (.mv (.t 9))⟩, .op ⟨some 24, none, .r (.mv (.t 8))⟩, .op ⟨some 25, none, .r (.mv (.t 6))⟩, .op ⟨some 26, none, .e (.call n_slices_siftDownOrdered_string [(.t 22), (.t 23), (.t 24), (.t 25)])⟩]))
  (.region [.op ⟨some 20, none, .r (.mv (.t 9))⟩, .op ⟨some 21, none, .r (.bin .sub (.t 20) (.c (.int .i64 (.ofNat 1))))⟩, .op ⟨some 9, none, .r (.mv (.t 21))⟩])))
def l1_slices_heapSortOrdered_string : PC :=
  (.seq (.seq (.region [.op ⟨some 29, none, .r (.mv (.t 10))⟩, .op ⟨some 30, none, .r (.bin .geq (.t 29) (.c (.int .i64 (.ofNat 0))))⟩])
  (.cond (.t 30)
   .skip
   (.exit 2)))
  (.seq (.block 3 (.seq (.region [.op ⟨some 33, none, .r (.mv (.t 0))⟩, .op ⟨some 34, none, .r (.mv (.t 6))⟩, .op ⟨some 35, none, .r (.mv (.t 0))⟩, .op ⟨some 36, none, .r (.mv (.t 6))⟩, .op ⟨some 37, none, .r (.mv (.t 10))⟩, .op ⟨some 38, none, .r (.bin .add (.t 36) (.t 37))⟩, .op ⟨some 39, none, .r (.mv (.t 0))⟩, .op ⟨some 40, none, .r (.mv (.t 6))⟩, .op ⟨some 41, none, .r (.mv (.t 10))⟩, .op ⟨some 42, none, .r (.bin .add (.t 40) (.t 41))⟩,
     .op ⟨some 43, none, .r (.iasl 1 (.t 39) (.t 42))⟩, .op ⟨some 44, none, .r (.load false 1 (.t 43))⟩, .op ⟨some 45, none, .r (.mv (.t 0))⟩, .op ⟨some 46, none, .r (.mv (.t 6))⟩, .op ⟨some 47, none, .r (.iasl 1 (.t 45) (.t 46))⟩, .op ⟨some 48, none, .r (.load false 1 (.t 47))⟩, .op ⟨some 49, none, .r (.iasl 1 (.t 33) (.t 34))⟩, .op ⟨none, none, .e (.store 1 (.t 49) (.t 44))⟩, .op ⟨some 50, none, .r (.iasl 1 (.t 35) (.t 38))⟩,
     .op ⟨none, none, .e (.store 1 (.t 50) (.t 48))⟩])
   (.region [.op ⟨some 51, none, .r (.mv (.t 0))⟩, .op ⟨some 52, none, .r (.mv (.t 7))⟩, .op ⟨some 53, none, .r (.mv (.t 10))⟩, .op ⟨some 54, none, .r (.mv (.t 6))⟩, .op ⟨some 55, none, .e (.call n_slices_siftDownOrdered_string [(.t 51), (.t 52), (.t 53), (.t 54)])⟩])))
  (.region [.op ⟨some 31, none, .r (.mv (.t 10))⟩, .op ⟨some 32, none, .r (.bin .sub (.t 31) (.c (.int .i64 (.ofNat 1))))⟩, .op ⟨some 10, none, .r (.mv (.t 32))⟩])))
def pf_slices_heapSortOrdered_string : PF := { ntmps := 56, results := [], body :=
  (.seq (.region [.op ⟨some 11, none, .r (.mv (.t 1))⟩, .op ⟨some 6, none, .r (.mv (.t 11))⟩])
  (.seq (.region [.op ⟨some 7, none, .r (.mv (.c (.int .i64 (.ofNat 0))))⟩])
  (.seq (.region [.op ⟨some 12, none, .r (.mv (.t 2))⟩, .op ⟨some 13, none, .r (.mv (.t 1))⟩, .op ⟨some 14, none, .r (.bin .sub (.t 12) (.t 13))⟩, .op ⟨some 8, none, .r (.mv (.t 14))⟩])
  (.seq (.seq (.region [.op ⟨some 15, none, .r (.mv (.t 8))⟩, .op ⟨some 16, none, .r (.bin .sub (.t 15) (.c (.int .i64 (.ofNat 1))))⟩, .op ⟨some 17, none, .r (.bin .quo (.t 16) (.c (.int .i64 (.ofNat 2))))⟩, .op ⟨some 9, none, .r (.mv (.t 17))⟩])
  (.block 0 (.loop l0_slices_heapSortOrdered_string)))
  (.seq (.region [.op ⟨some 27, none, .r (.mv (.t 8))⟩, .op ⟨some 28, none, .r (.bin .sub (.t 27) (.c (.int .i64 (.ofNat 1))))⟩, .op ⟨some 10, none, .r (.mv (.t 28))⟩])
  (.block 2 (.loop l1_slices_heapSortOrdered_string))))))) }
theorem tr_slices_heapSortOrdered_string : trF cx Try.f67 = pf_slices_heapSortOrdered_string := by kernel_rfl
def l0_slices_breakPatternsOrdered_string : PC :=
  (.seq (.seq (.region [.op ⟨some 26, none, .r (.mv (.t 9))⟩, .op ⟨some 27, none, .r (.mv (.t 1))⟩, .op ⟨some 28, none, .r (.mv (.t 6))⟩, .op ⟨some 29, none, .r (.bin .quo (.t 28) (.c (.int .i64 (.ofNat 4))))⟩, .op ⟨some 30, none, .r (.bin .mul (.t 29) (.c (.int .i64 (.ofNat 2))))⟩, .op ⟨some 31, none, .r (.bin .add (.t 27) (.t 30))⟩, .op ⟨some 32, none, .r (.bin .add (.t 31) (.c (.int .i64 (.ofNat 1))))⟩,
    .op ⟨some 33, none, .r (.bin .leq (.t 26) (.t 32))⟩])
  (.cond (.t 33)
   .skip
   (.exit 0)))
  (.seq (.block 1 (.seq (.region [.op ⟨some 36, none, .e (.call n_slices_xorshift_Next [(.t 7)])⟩, .op ⟨some 37, none, .r (.mv (.t 8))⟩, .op ⟨some 38, none, .r (.bin .sub (.t 37) (.c (.int .u64 (.ofNat 1))))⟩, .op ⟨some 39, none, .r (.bin .and (.t 36) (.t 38))⟩, .op ⟨some 40, none, .r (.cint .i64 (.t 39))⟩, .op ⟨some 10, none, .r (.mv (.t 40))⟩])
   (.seq (.seq (.region [.op ⟨some 41, none, .r (.mv (.t 10))⟩, .op ⟨some 42, none, .r (.mv (.t 6))⟩, .op ⟨some 43, none, .r (.bin .geq (.t 41) (.t 42))⟩])
   (.cond (.t 43)
    (.region [.op ⟨some 44, none, .r (.mv (.t 10))⟩, .op ⟨some 45, none, .r (.mv (.t 6))⟩, .op ⟨some 46, none, .r (.bin .sub (.t 44) (.t 45))⟩, .op ⟨some 10, none, .r (.mv (.t 46))⟩])
    .skip))
   (.region [.op ⟨some 47, none, .r (.mv (.t 0))⟩, .op ⟨some 48, none, .r (.mv (.t 9))⟩, .op ⟨some 49, none, .r (.mv (.t 0))⟩, .op ⟨some 50, none, .r (.mv (.t 1))⟩, .op ⟨some 51, none, .r (.mv (.t 10))⟩, .op ⟨some 52, none, .r (.bin .add (.t 50) (.t 51))⟩, .op ⟨some 53, none, .r (.mv (.t 0))⟩, .op ⟨some 54, none, .r (.mv (.t 1))⟩, .op ⟨some 55, none, .r (.mv (.t 10))⟩, .op ⟨some 56, none, .r (.bin .add (.t 54) (.t 55))⟩,
     .op ⟨some 57, none, .r (.iasl 1 (.t 53) (.t 56))⟩, .op ⟨some 58, none, .r (.load false 1 (.t 57))⟩, .op ⟨some 59, none, .r (.mv (.t 0))⟩, .op ⟨some 60, none, .r (.mv (.t 9))⟩, .op ⟨some 61, none, .r (.iasl 1 (.t 59) (.t 60))⟩, .op ⟨some 62, none, .r (.load false 1 (.t 61))⟩, .op ⟨some 63, none, .r (.iasl 1 (.t 47) (.t 48))⟩, .op ⟨none, none, .e (.store 1 (.t 63) (.t 58))⟩, .op ⟨some 64, none, .r (.iasl 1 (.t 49) (.t 52))⟩,
     .op ⟨none, none, .e (.store 1 (.t 64) (.t 62))⟩]))))
  (.region [.op ⟨some 34, none, .r (.mv (.t 9))⟩, .op ⟨some 35, none, .r (.bin .add (.t 34) (.c (.int .i64 (.ofNat 1))))⟩, .op ⟨some 9, none, .r (.mv (.t 35))⟩])))
def pf_slices_breakPatternsOrdered_string : PF := { ntmps := 65, results := [], body :=
  (.seq (.region [.op ⟨some 11, none, .r (.mv (.t 2))⟩, .op ⟨some 12, none, .r (.mv (.t 1))⟩, .op ⟨some 13, none, .r (.bin .sub (.t 11) (.t 12))⟩, .op ⟨some 6, none, .r (.mv (.t 13))⟩])
  (.seq (.region [.op ⟨some 14, none, .r (.mv (.t 6))⟩, .op ⟨some 15, none, .r (.bin .geq (.t 14) (.c (.int .i64 (.ofNat 8))))⟩])
  (.cond (.t 15)
   (.seq (.region [.op ⟨some 16, none, .r (.mv (.t 6))⟩, .op ⟨some 17, none, .r (.cint .u64 (.t 16))⟩, .op ⟨some 7, none, .n (.new 0 [(.int .u64 (.ofNat 0))])⟩, .op ⟨none, none, .e (.store 1 (.t 7) (.t 17))⟩])
   (.seq (.region [.op ⟨some 18, none, .r (.mv (.t 6))⟩, .op ⟨some 19, none, .e (.call n_slices_nextPowerOfTwo [(.t 18)])⟩, .op ⟨some 8, none, .r (.mv (.t 19))⟩])
   (.seq (.region [.op ⟨some 20, none, .r (.mv (.t 1))⟩, .op ⟨some 21, none, .r (.mv (.t 6))⟩, .op ⟨some 22, none, .r (.bin .quo (.t 21) (.c (.int .i64 (.ofNat 4))))⟩, .op ⟨some 23, none, .r (.bin .mul (.t 22) (.c (.int .i64 (.ofNat 2))))⟩, .op ⟨some 24, none, .r (.bin .add (.t 20) (.t 23))⟩, .op ⟨some 25, none, .r (.bin .sub (.t 24) (.c (.int .i64 (.ofNat 1))))⟩, .op ⟨some 9, none, .r (.mv (.t 25))⟩])
   (.block 0 (.loop l0_slices_breakPatternsOrdered_string)))))
   .skip))) }
theorem tr_slices_breakPatternsOrdered_string : trF cx Try.f68 = pf_slices_breakPatternsOrdered_string := by kernel_rfl
def pf_slices_choosePivotOrdered_string : PF := { ntmps := 57, results := [.tmp 6, .tmp 7], body :=
  (.seq (.region [.op ⟨some 6, none, .r (.mv (.c (.int .i64 (.ofNat 0))))⟩, .op ⟨some 7, none, .r (.mv (.c (.int .i64 (.ofNat 0))))⟩])
  (.seq (.region [.op ⟨some 13, none, .r (.mv (.t 2))⟩, .op ⟨some 14, none, .r (.mv (.t 1))⟩, .op ⟨some 15, none, .r (.bin .sub (.t 13) (.t 14))⟩, .op ⟨some 8, none, .r (.mv (.t 15))⟩])
  (.seq (.region [.op ⟨some 9, none, .n (.new 0 [(.int .i64 (.ofNat 0))])⟩])
  (.seq (.region [.op ⟨some 16, none, .r (.mv (.t 1))⟩, .op ⟨some 17, none, .r (.mv (.t 8))⟩, .op ⟨some 18, none, .r (.bin .quo (.t 17) (.c (.int .i64 (.ofNat 4))))⟩, .op ⟨some 19, none, .r (.bin .mul (.t 18) (.c (.int .i64 (.ofNat 1))))⟩, .op ⟨some 20, none, .r (.bin .add (.t 16) (.t 19))⟩, .op ⟨some 10, none, .r (.mv (.t 20))⟩])
  (.seq (.region [.op ⟨some 21, none, .r (.mv (.t 1))⟩, .op ⟨some 22, none, .r (.mv (.t 8))⟩, .op ⟨some 23, none, .r (.bin .quo (.t 22) (.c (.int .i64 (.ofNat 4))))⟩, .op ⟨some 24, none, .r (.bin .mul (.t 23) (.c (.int .i64 (.ofNat 2))))⟩, .op ⟨some 25, none, .r (.bin .add (.t 21) (.t 24))⟩, .op ⟨some 11, none, .r (.mv (.t 25))⟩])
  (.seq (.region [.op ⟨some 26, none, .r (.mv (.t 1))⟩, .op ⟨some 27, none, .r (.mv (.t 8))⟩, .op ⟨some 28, none, .r (.bin .quo (.t 27) (.c (.int .i64 (.ofNat 4))))⟩, .op ⟨some 29, none, .r (.bin .mul (.t 28) (.c (.int .i64 (.ofNat 3))))⟩, .op ⟨some 30, none, .r (.bin .add (.t 26) (.t 29))⟩, .op ⟨some 12, none, .r (.mv (.t 30))⟩])
  (.seq (.seq (.region [.op ⟨some 31, none, .r (.mv (.t 8))⟩, .op ⟨some 32, none, .r (.bin .geq (.t 31) (.c (.int .i64 (.ofNat 8))))⟩])
  (.cond (.t 32)
   (.seq (.seq (.region [.op ⟨some 33, none, .r (.mv (.t 8))⟩, .op ⟨some 34, none, .r (.bin .geq (.t 33) (.c (.int .i64 (.ofNat 50))))⟩])
   (.cond (.t 34)
    (.seq (.region [.op ⟨some 35, none, .r (.mv (.t 0))⟩, .op ⟨some 36, none, .r (.mv (.t 10))⟩, .op ⟨some 37, none, .e (.call n_slices_medianAdjacentOrdered_string [(.t 35), (.t 36), (.t 9)])⟩, .op ⟨some 10, none, .r (.mv (.t 37))⟩])
    (.seq (.region [.op ⟨some 38, none, .r (.mv (.t 0))⟩, .op ⟨some 39, none, .r (.mv (.t 11))⟩, .op ⟨some 40, none, .e (.call n_slices_medianAdjacentOrdered_string [(.t 38), (.t 39), (.t 9)])⟩, .op ⟨some 11, none, .r (.mv (.t 40))⟩])
    (.region [.op ⟨some 41, none, .r (.mv (.t 0))⟩, .op ⟨some 42, none, .r (.mv (.t 12))⟩, .op ⟨some 43, none, .e (.call n_slices_medianAdjacentOrdered_string [(.t 41), (.t 42), (.t 9)])⟩, .op ⟨some 12, none, .r (.mv (.t 43))⟩])))
    .skip))
   (.region [.op ⟨some 44, none, .r (.mv (.t 0))⟩, .op ⟨some 45, none, .r (.mv (.t 10))⟩, .op ⟨some 46, none, .r (.mv (.t 11))⟩, .op ⟨some 47, none, .r (.mv (.t 12))⟩, .op ⟨some 48, none, .e (.call n_slices_medianOrdered_string [(.t 44), (.t 45), (.t 46), (.t 47), (.t 9)])⟩, .op ⟨some 11, none, .r (.mv (.t 48))⟩]))
   .skip))
  (.seq (.region [.op ⟨some 49, none, .r (.load false 1 (.t 9))⟩])
  (.block 0 (.seq (.region [.op ⟨some 52, none, .r (.bin .eql (.t 49) (.c (.int .i64 (.ofNat 0))))⟩, .op ⟨some 51, none, .r (.mv (.t 52))⟩])
   (.cond (.t 51)
    (.seq (.region [.op ⟨some 53, none, .r (.mv (.t 11))⟩, .op ⟨some 6, none, .r (.mv (.t 53))⟩, .op ⟨some 7, none, .r (.mv (.c (.int .i64 (.ofNat 1))))⟩])
    .ret)
    (.seq (.region [.op ⟨some 55, none, .r (.bin .eql (.t 49) (.c (.int .i64 (.ofNat 12))))⟩, .op ⟨some 54, none, .r (.mv (.t 55))⟩])
    (.cond (.t 54)
     (.seq (.region [.op ⟨some 56, none, .r (.mv (.t 11))⟩, .op ⟨some 6, none, .r (.mv (.t 56))⟩, .op ⟨some 7, none, .r (.mv (.c (.int .i64 (.ofNat 2))))⟩])
     .ret)
     (.seq (.region [.op ⟨some 50, none, .r (.mv (.t 11))⟩, .op ⟨some 6, none, .r (.mv (.t 50))⟩, .op ⟨some 7, none, .r (.mv (.c (.int .i64 (.ofNat 0))))⟩])
     .ret)))))))))))))) }
theorem tr_slices_choosePivotOrdered_string : trF cx Try.f69 = pf_slices_choosePivotOrdered_string := by kernel_rfl
def l0_slices_reverseRangeOrdered_string : PC :=
  (.seq (.seq (.region [.op ⟨some 11, none, .r (.mv (.t 6))⟩, .op ⟨some 12, none, .r (.mv (.t 7))⟩, .op ⟨some 13, none, .r (.bin .lss (.t 11) (.t 12))⟩])
  (.cond (.t 13)
   .skip
   (.exit 0)))
  (.block 1 (.seq (.region [.op ⟨some 14, none, .r (.mv (.t 0))⟩, .op ⟨some 15, none, .r (.mv (.t 6))⟩, .op ⟨some 16, none, .r (.mv (.t 0))⟩, .op ⟨some 17, none, .r (.mv (.t 7))⟩, .op ⟨some 18, none, .r (.mv (.t 0))⟩, .op ⟨some 19, none, .r (.mv (.t 7))⟩, .op ⟨some 20, none, .r (.iasl 1 (.t 18) (.t 19))⟩, .op ⟨some 21, none, .r (.load false 1 (.t 20))⟩, .op ⟨some 22, none, .r (.mv (.t 0))⟩, .op ⟨some 23, none, .r (.mv (.t 6))⟩,
     .op ⟨some 24, none, .r (.iasl 1 (.t 22) (.t 23))⟩, .op ⟨some 25, none, .r (.load false 1 (.t 24))⟩, .op ⟨some 26, none, .r (.iasl 1 (.t 14) (.t 15))⟩, .op ⟨none, none, .e (.store 1 (.t 26) (.t 21))⟩, .op ⟨some 27, none, .r (.iasl 1 (.t 16) (.t 17))⟩, .op ⟨none, none, .e (.store 1 (.t 27) (.t 25))⟩])
   (.seq (.region [.op ⟨some 28, none, .r (.mv (.t 6))⟩, .op ⟨some 29, none, .r (.bin .add (.t 28) (.c (.int .i64 (.ofNat 1))))⟩, .op ⟨some 6, none, .r (.mv (.t 29))⟩])
   (.region [.op ⟨some 30, none, .r (.mv (.t 7))⟩, .op ⟨some 31, none, .r (.bin .sub (.t 30) (.c (.int .i64 (.ofNat 1))))⟩, .op ⟨some 7, none, .r (.mv (.t 31))⟩])))))
def pf_slices_reverseRangeOrdered_string : PF := { ntmps := 32, results := [], body :=
  (.seq (.region [.op ⟨some 8, none, .r (.mv (.t 1))⟩, .op ⟨some 6, none, .r (.mv (.t 8))⟩])
  (.seq (.region [.op ⟨some 9, none, .r (.mv (.t 2))⟩, .op ⟨some 10, none, .r (.bin .sub (.t 9) (.c (.int .i64 (.ofNat 1))))⟩, .op ⟨some 7, none, .r (.mv (.t 10))⟩])
  (.block 0 (.loop l0_slices_reverseRangeOrdered_string)))) }
theorem tr_slices_reverseRangeOrdered_string : trF cx Try.f70 = pf_slices_reverseRangeOrdered_string := by kernel_rfl
def l0_slices_partialInsertionSortOrdered_string : PC :=
  (.seq (.seq (.region [.op ⟨some 17, none, .r (.mv (.t 7))⟩, .op ⟨some 18, none, .r (.mv (.t 2))⟩, .op ⟨some 19, none, .r (.bin .lss (.t 17) (.t 18))⟩, .op ⟨some 20, none, .r (.mv (.t 19))⟩, .op ⟨some 21, some (20, true), .r (.mv (.t 0))⟩, .op ⟨some 22, some (20, true), .r (.mv (.t 7))⟩, .op ⟨some 23, some (20, true), .r (.iasl 1 (.t 21) (.t 22))⟩, .op ⟨some 24, some (20, true), .r (.load false 1 (.t 23))⟩,
    .op ⟨some 25, some (20, true), .r (.mv (.t 0))⟩, .op ⟨some 26, some (20, true), .r (.mv (.t 7))⟩, .op ⟨some 27, some (20, true), .r (.bin .sub (.t 26) (.c (.int .i64 (.ofNat 1))))⟩, .op ⟨some 28, some (20, true), .r (.iasl 1 (.t 25) (.t 27))⟩, .op ⟨some 29, some (20, true), .r (.load false 1 (.t 28))⟩, .op ⟨some 30, some (20, true), .e (.call n_cmp_Less_string [(.t 24), (.t 29)])⟩, .op ⟨some 31, some (20, true), .r (.un .not (.t 30))⟩,
    .op ⟨some 32, none, .r (.pick (.t 20) (.t 31) (.c (.bool false)))⟩])
  (.cond (.t 32)
   .skip
   (.exit 2)))
  (.block 3 (.region [.op ⟨some 33, none, .r (.mv (.t 7))⟩, .op ⟨some 34, none, .r (.bin .add (.t 33) (.c (.int .i64 (.ofNat 1))))⟩, .op ⟨some 7, none, .r (.mv (.t 34))⟩])))
def l1_slices_partialInsertionSortOrdered_string : PC :=
  (.seq (.seq (.region [.op ⟨some 64, none, .r (.mv (.t 9))⟩, .op ⟨some 65, none, .r (.bin .geq (.t 64) (.c (.int .i64 (.ofNat 1))))⟩])
  (.cond (.t 65)
   .skip
   (.exit 4)))
  (.seq (.block 5 (.seq (.seq (.region [.op ⟨some 68, none, .r (.mv (.t 0))⟩, .op ⟨some 69, none, .r (.mv (.t 9))⟩, .op ⟨some 70, none, .r (.iasl 1 (.t 68) (.t 69))⟩, .op ⟨some 71, none, .r (.load false 1 (.t 70))⟩, .op ⟨some 72, none, .r (.mv (.t 0))⟩, .op ⟨some 73, none, .r (.mv (.t 9))⟩, .op ⟨some 74, none, .r (.bin .sub (.t 73) (.c (.int .i64 (.ofNat 1))))⟩, .op ⟨some 75, none, .r (.iasl 1 (.t 72) (.t 74))⟩,
     .op ⟨some 76, none, .r (.load false 1 (.t 75))⟩, .op ⟨some 77, none, .e (.call n_cmp_Less_string [(.t 71), (.t 76)])⟩, .op ⟨some 78, none, .r (.un .not (.t 77))⟩])
   (.cond (.t 78)
    (.exit 4)
    .skip))
   (.region [.op ⟨some 79, none, .r (.mv (.t 0))⟩, .op ⟨some 80, none, .r (.mv (.t 9))⟩, .op ⟨some 81, none, .r (.mv (.t 0))⟩, .op ⟨some 82, none, .r (.mv (.t 9))⟩, .op ⟨some 83, none, .r (.bin .sub (.t 82) (.c (.int .i64 (.ofNat 1))))⟩, .op ⟨some 84, none, .r (.mv (.t 0))⟩, .op ⟨some 85, none, .r (.mv (.t 9))⟩, .op ⟨some 86, none, .r (.bin .sub (.t 85) (.c (.int .i64 (.ofNat 1))))⟩, .op ⟨some 87, none, .r (.iasl 1 (.t 84) (.t 86))⟩,
     .op ⟨some 88, none, .r (.load false 1 (.t 87))⟩, .op ⟨some 89, none, .r (.mv (.t 0))⟩, .op ⟨some 90, none, .r (.mv (.t 9))⟩, .op ⟨some 91, none, .r (.iasl 1 (.t 89) (.t 90))⟩, .op ⟨some 92, none, .r (.load false 1 (.t 91))⟩, .op ⟨some 93, none, .r (.iasl 1 (.t 79) (.t 80))⟩, .op ⟨none, none, .e (.store 1 (.t 93) (.t 88))⟩, .op ⟨some 94, none, .r (.iasl 1 (.t 81) (.t 83))⟩, .op ⟨none, none, .e (.store 1 (.t 94) (.t 92))⟩])))
  (.region [.op ⟨some 66, none, .r (.mv (.t 9))⟩, .op ⟨some 67, none, .r (.bin .sub (.t 66) (.c (.int .i64 (.ofNat 1))))⟩, .op ⟨some 9, none, .r (.mv (.t 67))⟩])))
def l2_slices_partialInsertionSortOrdered_string : PC :=
  (.seq (.seq (.region [.op ⟨some 101, none, .r (.mv (.t 10))⟩, .op ⟨some 102, none, .r (.mv (.t 2))⟩, .op ⟨some 103, none, .r (.bin .lss (.t 101) (.t 102))⟩])
  (.cond (.t 103)
   .skip
   (.exit 6)))
  (.seq (.block 7 (.seq (.seq (.region [.op ⟨some 106, none, .r (.mv (.t 0))⟩, .op ⟨some 107, none, .r (.mv (.t 10))⟩, .op ⟨some 108, none, .r (.iasl 1 (.t 106) (.t 107))⟩, .op ⟨some 109, none, .r (.load false 1 (.t 108))⟩, .op ⟨some 110, none, .r (.mv (.t 0))⟩, .op ⟨some 111, none, .r (.mv (.t 10))⟩, .op ⟨some 112, none, .r (.bin .sub (.t 111) (.c (.int .i64 (.ofNat 1))))⟩, .op ⟨some 113, none, .r (.iasl 1 (.t 110) (.t 112))⟩,
     .op ⟨some 114, none, .r (.load false 1 (.t 113))⟩, .op ⟨some 115, none, .e (.call n_cmp_Less_string [(.t 109), (.t 114)])⟩, .op ⟨some 116, none, .r (.un .not (.t 115))⟩])
   (.cond (.t 116)
    (.exit 6)
    .skip))
   (.region [.op ⟨some 117, none, .r (.mv (.t 0))⟩, .op ⟨some 118, none, .r (.mv (.t 10))⟩, .op ⟨some 119, none, .r (.mv (.t 0))⟩, .op ⟨some 120, none, .r (.mv (.t 10))⟩, .op ⟨some 121, none, .r (.bin .sub (.t 120) (.c (.int .i64 (.ofNat 1))))⟩, .op ⟨some 122, none, .r (.mv (.t 0))⟩, .op ⟨some 123, none, .r (.mv (.t 10))⟩, .op ⟨some 124, none, .r (.bin .sub (.t 123) (.c (.int .i64 (.ofNat 1))))⟩, .op ⟨some 125, none, .r (.iasl 1 (.t 122) (.t 124))⟩,
     .op ⟨some 126, none, .r (.load false 1 (.t 125))⟩, .op ⟨some 127, none, .r (.mv (.t 0))⟩, .op ⟨some 128, none, .r (.mv (.t 10))⟩, .op ⟨some 129, none, .r (.iasl 1 (.t 127) (.t 128))⟩, .op ⟨some 130, none, .r (.load false 1 (.t 129))⟩, .op ⟨some 131, none, .r (.iasl 1 (.t 117) (.t 118))⟩, .op ⟨none, none, .e (.store 1 (.t 131) (.t 126))⟩, .op ⟨some 132, none, .r (.iasl 1 (.t 119) (.t 121))⟩, .op ⟨none, none, .e (.store 1 (.t 132) (.t 130))⟩])))
  (.region [.op ⟨some 104, none, .r (.mv (.t 10))⟩, .op ⟨some 105, none, .r (.bin .add (.t 104) (.c (.int .i64 (.ofNat 1))))⟩, .op ⟨some 10, none, .r (.mv (.t 105))⟩])))
def l3_slices_partialInsertionSortOrdered_string : PC :=
  (.seq (.seq (.region [.op ⟨some 13, none, .r (.mv (.t 8))⟩, .op ⟨some 14, none, .r (.bin .lss (.t 13) (.c (.int .i64 (.ofNat 5))))⟩])
  (.cond (.t 14)
   .skip
   (.exit 0)))
  (.seq (.block 1 (.seq (.block 2 (.loop l0_slices_partialInsertionSortOrdered_string))
   (.seq (.seq (.region [.op ⟨some 35, none, .r (.mv (.t 7))⟩, .op ⟨some 36, none, .r (.mv (.t 2))⟩, .op ⟨some 37, none, .r (.bin .eql (.t 35) (.t 36))⟩])
   (.cond (.t 37)
    (.seq (.region [.op ⟨some 6, none, .r (.mv (.c (.bool true)))⟩])
    .ret)
    .skip))
   (.seq (.seq (.region [.op ⟨some 38, none, .r (.mv (.t 2))⟩, .op ⟨some 39, none, .r (.mv (.t 1))⟩, .op ⟨some 40, none, .r (.bin .sub (.t 38) (.t 39))⟩, .op ⟨some 41, none, .r (.bin .lss (.t 40) (.c (.int .i64 (.ofNat 50))))⟩])
   (.cond (.t 41)
    (.seq (.region [.op ⟨some 6, none, .r (.mv (.c (.bool false)))⟩])
    .ret)
    .skip))
   (.seq (.region [.op ⟨some 42, none, .r (.mv (.t 0))⟩, .op ⟨some 43, none, .r (.mv (.t 7))⟩, .op ⟨some 44, none, .r (.mv (.t 0))⟩, .op ⟨some 45, none, .r (.mv (.t 7))⟩, .op ⟨some 46, none, .r (.bin .sub (.t 45) (.c (.int .i64 (.ofNat 1))))⟩, .op ⟨some 47, none, .r (.mv (.t 0))⟩, .op ⟨some 48, none, .r (.mv (.t 7))⟩, .op ⟨some 49, none, .r (.bin .sub (.t 48) (.c (.int .i64 (.ofNat 1))))⟩, .op ⟨some 50, none, .r (.iasl 1 (.t 47) (.t 49))⟩,
     .op ⟨some 51, none, .r (.load false 1 (.t 50))⟩, .op ⟨some 52, none, .r (.mv (.t 0))⟩, .op ⟨some 53, none, .r (.mv (.t 7))⟩, .op ⟨some 54, none, .r (.iasl 1 (.t 52) (.t 53))⟩, .op ⟨some 55, none, .r (.load false 1 (.t 54))⟩, .op ⟨some 56, none, .r (.iasl 1 (.t 42) (.t 43))⟩, .op ⟨none, none, .e (.store 1 (.t 56) (.t 51))⟩, .op ⟨some 57, none, .r (.iasl 1 (.t 44) (.t 46))⟩, .op ⟨none, none, .e (.store 1 (.t 57) (.t 55))⟩])
   (.seq (.seq (.region [.op ⟨some 58, none, .r (.mv (.t 7))⟩, .op ⟨some 59, none, .r (.mv (.t 1))⟩, .op ⟨some 60, none, .r (.bin .sub (.t 58) (.t 59))⟩, .op ⟨some 61, none, .r (.bin .geq (.t 60) (.c (.int .i64 (.ofNat 2))))⟩])
   (.cond (.t 61)
    (.seq (.region [.op ⟨some 62, none, .r (.mv (.t 7))⟩, .op ⟨some 63, none, .r (.bin .sub (.t 62) (.c (.int .i64 (.ofNat 1))))⟩, .op ⟨some 9, none, .r (.mv (.t 63))⟩])
    (.block 4 (.loop l1_slices_partialInsertionSortOrdered_string)))
    .skip))
   (.seq (.region [.op ⟨some 95, none, .r (.mv (.t 2))⟩, .op ⟨some 96, none, .r (.mv (.t 7))⟩, .op ⟨some 97, none, .r (.bin .sub (.t 95) (.t 96))⟩, .op ⟨some 98, none, .r (.bin .geq (.t 97) (.c (.int .i64 (.ofNat 2))))⟩])
   (.cond (.t 98)
    (.seq (.region [.op ⟨some 99, none, .r (.mv (.t 7))⟩, .op ⟨some 100, none, .r (.bin .add (.t 99) (.c (.int .i64 (.ofNat 1))))⟩, .op ⟨some 10, none, .r (.mv (.t 100))⟩])
    (.block 6 (.loop l2_slices_partialInsertionSortOrdered_string)))
    .skip))))))))
  (.region [.op ⟨some 15, none, .r (.mv (.t 8))⟩, .op ⟨some 16, none, .r (.bin .add (.t 15) (.c (.int .i64 (.ofNat 1))))⟩, .op ⟨some 8, none, .r (.mv (.t 16))⟩])))
def pf_slices_partialInsertionSortOrdered_string : PF := { ntmps := 133, results := [.tmp 6], body :=
  (.seq (.region [.op ⟨some 6, none, .r (.mv (.c (.bool false)))⟩])
  (.seq (.region [.op ⟨some 11, none, .r (.mv (.t 1))⟩, .op ⟨some 12, none, .r (.bin .add (.t 11) (.c (.int .i64 (.ofNat 1))))⟩, .op ⟨some 7, none, .r (.mv (.t 12))⟩])
  (.seq (.seq (.region [.op ⟨some 8, none, .r (.mv (.c (.int .i64 (.ofNat 0))))⟩])
  (.block 0 (.loop l3_slices_partialInsertionSortOrdered_string)))
  (.seq (.region [.op ⟨some 6, none, .r (.mv (.c (.bool false)))⟩])
  .ret)))) }
theorem tr_slices_partialInsertionSortOrdered_string : trF cx Try.f71 = pf_slices_partialInsertionSortOrdered_string := by kernel_rfl
end Go.Proofs.Ytihoblfmhighpaa
