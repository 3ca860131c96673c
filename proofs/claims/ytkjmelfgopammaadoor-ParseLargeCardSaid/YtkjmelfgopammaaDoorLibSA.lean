/- The functions that this seat's laws reach, for the clean machine; each is what the translation makes of the given text. Conditions: none. Printed by program. -/
import Derived.Test.YtkjmelfgopammaaDoorChecked
import Derived.KernelRfl
import Derived.Test.YtkjmelfgopammaaDoorQsD
namespace Go.Proofs.YtkjmelfgopammaaDoor
open Go.Dp
def nums : List Nat := [8, 9, 14, 15, 16, 18, 19, 20, 21, 22, 23, 28, 29, 32, 33, 34, 35, 36, 37, 42, 43, 44, 45, 46, 47, 48, 49, 50, 51, 52, 53, 54, 55, 58, 59, 60, 61, 62, 63, 64, 65, 66, 67, 68, 71, 72, 73, 75, 77]
abbrev n_depotlaw13_ParseStores : Nat := 8
abbrev n_depotlaw13_ParseLarge : Nat := 9
abbrev n_strconv_FormatUint : Nat := 14
abbrev n_words_Number : Nat := 15
abbrev n_depotbook_Within : Nat := 16
abbrev n_depotref9_Key : Nat := 18
abbrev n_strconv_Itoa : Nat := 19
abbrev n_parse_New : Nat := 20
abbrev n_parse_Parser_Feed : Nat := 21
abbrev n_parse_Parser_Left : Nat := 22
abbrev n_depotlaw13_ParseRuns : Nat := 23
abbrev n_internal_strconv_FormatUint : Nat := 28
abbrev n_words_Line : Nat := 29
abbrev n_internal_strconv_Itoa : Nat := 32
abbrev n_parse_Parser_line : Nat := 33
abbrev n_parse_Parser_data : Nat := 34
abbrev n_parse_Parser_past : Nat := 35
abbrev n_parse_Parser_broken : Nat := 36
abbrev n_parse_Parser_Shut : Nat := 37
abbrev n_internal_strconv_small : Nat := 42
abbrev n_internal_strconv_numDigits : Nat := 43
abbrev n_internal_strconv_formatBase10 : Nat := 44
abbrev n_internal_strconv_formatBits : Nat := 45
abbrev n_words_Split : Nat := 46
abbrev n_words_shapeOf : Nat := 47
abbrev n_words_fill : Nat := 48
abbrev n_internal_strconv_FormatInt : Nat := 49
abbrev n_strings_IndexByte : Nat := 50
abbrev n_parse_Parser_end : Nat := 51
abbrev n_strings_TrimSuffix : Nat := 52
abbrev n_parse_Parser_say : Nat := 53
abbrev n_words_Storing : Nat := 54
abbrev n_strings_HasPrefix : Nat := 55
abbrev n_internal_strconv_log10Pow2 : Nat := 58
abbrev n_math_bits_Len64 : Nat := 59
abbrev n_internal_strconv_bool2_int : Nat := 60
abbrev n_internal_strconv_isPowerOfTwo : Nat := 61
abbrev n_math_bits_TrailingZeros : Nat := 62
abbrev n_words_Key : Nat := 63
abbrev n_words_store : Nat := 64
abbrev n_words_signed : Nat := 65
abbrev n_internal_stringslite_IndexByte : Nat := 66
abbrev n_internal_stringslite_TrimSuffix : Nat := 67
abbrev n_internal_stringslite_HasPrefix : Nat := 68
abbrev n_math_bits_TrailingZeros32 : Nat := 71
abbrev n_math_bits_TrailingZeros64 : Nat := 72
abbrev n_strings_CutPrefix : Nat := 73
abbrev n_internal_stringslite_HasSuffix : Nat := 75
abbrev n_internal_stringslite_CutPrefix : Nat := 77
noncomputable def cx : Cx := { P := Tryd.prog, fm := fmOf nums, gm := fun g => bif Nat.beq g 0 then some 0 else none, ext := extOf [(69, 2), (74, 1), (76, 3)], bt := some 68 }
def l0_depotlaw13_ParseStores : PC :=
  (.seq (.seq (.region [.op ⟨(some 17), none, (.r (.mv (.t 9)))⟩,
    .op ⟨(some 18), none, (.r (.mv (.t 0)))⟩,
    .op ⟨(some 19), none, (.r (.lensl (.t 18)))⟩,
    .op ⟨(some 20), none, (.r (.bin .lss (.t 17) (.t 19)))⟩,
    .op ⟨(some 21), none, (.r (.mv (.t 20)))⟩,
    .op ⟨(some 22), (some (21, true)), (.r (.mv (.t 9)))⟩,
    .op ⟨(some 23), (some (21, true)), (.r (.mv (.t 1)))⟩,
    .op ⟨(some 24), (some (21, true)), (.r (.lensl (.t 23)))⟩,
    .op ⟨(some 25), (some (21, true)), (.r (.bin .lss (.t 22) (.t 24)))⟩,
    .op ⟨(some 26), none, (.r (.pick (.t 21) (.t 25) (.c (.bool false))))⟩,
    .op ⟨(some 27), none, (.r (.mv (.t 26)))⟩,
    .op ⟨(some 28), (some (27, true)), (.r (.mv (.t 9)))⟩,
    .op ⟨(some 29), (some (27, true)), (.r (.bin .lss (.t 28) (.c (.int .i64 (.ofNat 10)))))⟩,
    .op ⟨(some 30), none, (.r (.pick (.t 27) (.t 29) (.c (.bool false))))⟩])
  (.cond (.t 30)
   .skip
   (.exit 0)))
  (.seq (.block 1 (.seq (.region [.op ⟨(some 33), none, (.r (.mv (.t 0)))⟩,
     .op ⟨(some 34), none, (.r (.mv (.t 9)))⟩,
     .op ⟨(some 35), none, (.r (.iasl 1 (.t 33) (.t 34)))⟩,
     .op ⟨(some 36), none, (.r (.load false 1 (.t 35)))⟩,
     .op ⟨(some 37), none, (.r (.mv (.t 1)))⟩,
     .op ⟨(some 38), none, (.r (.mv (.t 9)))⟩,
     .op ⟨(some 39), none, (.r (.iasl 1 (.t 37) (.t 38)))⟩,
     .op ⟨(some 40), none, (.r (.load false 1 (.t 39)))⟩,
     .op ⟨(some 10), none, (.r (.mv (.t 36)))⟩,
     .op ⟨(some 11), none, (.r (.mv (.t 40)))⟩])
   (.seq (.seq (.region [.op ⟨(some 41), none, (.r (.mv (.t 11)))⟩,
     .op ⟨(some 42), none, (.r (.lens (.t 41)))⟩,
     .op ⟨(some 43), none, (.r (.bin .gtr (.t 42) (.c (.int .i64 (.ofNat 200)))))⟩])
   (.cond (.t 43)
    (.region [.op ⟨(some 44), none, (.r (.mv (.t 11)))⟩,
      .op ⟨(some 45), none, (.r (.slstr (.t 44) none (some (.c (.int .i64 (.ofNat 200))))))⟩,
      .op ⟨(some 11), none, (.r (.mv (.t 45)))⟩])
    .skip))
   (.seq (.seq (.region [.op ⟨(some 46), none, (.r (.mv (.t 10)))⟩,
     .op ⟨(some 47), none, (.e (.call n_depotref9_Key [(.t 46)]))⟩,
     .op ⟨(some 48), none, (.r (.un .not (.t 47)))⟩])
   (.cond (.t 48)
    (.exit 1)
    .skip))
   (.seq (.region [.op ⟨(some 49), none, (.r (.mv (.t 7)))⟩,
     .op ⟨(some 50), none, (.r (.bin .add (.t 49) (.c (.str [115, 101, 116, 32]))))⟩,
     .op ⟨(some 51), none, (.r (.mv (.t 10)))⟩,
     .op ⟨(some 52), none, (.r (.bin .add (.t 50) (.t 51)))⟩,
     .op ⟨(some 53), none, (.r (.bin .add (.t 52) (.c (.str [32, 55, 32, 48, 32]))))⟩,
     .op ⟨(some 54), none, (.r (.mv (.t 11)))⟩,
     .op ⟨(some 55), none, (.r (.lens (.t 54)))⟩,
     .op ⟨(some 56), none, (.e (.call n_strconv_Itoa [(.t 55)]))⟩,
     .op ⟨(some 57), none, (.r (.bin .add (.t 53) (.t 56)))⟩,
     .op ⟨(some 58), none, (.r (.bin .add (.t 57) (.c (.str [13, 10]))))⟩,
     .op ⟨(some 59), none, (.r (.mv (.t 11)))⟩,
     .op ⟨(some 60), none, (.r (.bin .add (.t 58) (.t 59)))⟩,
     .op ⟨(some 61), none, (.r (.bin .add (.t 60) (.c (.str [13, 10]))))⟩,
     .op ⟨(some 7), none, (.r (.mv (.t 61)))⟩])
   (.region [.op ⟨(some 62), none, (.r (.mv (.t 8)))⟩,
     .op ⟨(some 63), none, (.r (.mv (.t 11)))⟩,
     .op ⟨(some 64), none, (.n (.bslice 0 1 1 [(.str [])] [(0, 1, (.t 63))]))⟩,
     .op ⟨(some 65), none, (.e (.app 0 1 16 (.t 62) (.t 64)))⟩,
     .op ⟨(some 8), none, (.r (.mv (.t 65)))⟩]))))))
  (.region [.op ⟨(some 31), none, (.r (.mv (.t 9)))⟩,
    .op ⟨(some 32), none, (.r (.bin .add (.t 31) (.c (.int .i64 (.ofNat 1)))))⟩,
    .op ⟨(some 9), none, (.r (.mv (.t 32)))⟩])))
def l1_depotlaw13_ParseStores : PC :=
  (.seq (.seq (.region [.op ⟨(some 77), none, (.r (.mv (.t 14)))⟩,
    .op ⟨(some 78), none, (.r (.mv (.t 13)))⟩,
    .op ⟨(some 79), none, (.r (.lensl (.t 78)))⟩,
    .op ⟨(some 80), none, (.r (.bin .lss (.t 77) (.t 79)))⟩])
  (.cond (.t 80)
   .skip
   (.exit 2)))
  (.seq (.block 3 (.seq (.region [.op ⟨(some 83), none, (.r (.mv (.t 13)))⟩,
     .op ⟨(some 84), none, (.r (.mv (.t 14)))⟩,
     .op ⟨(some 85), none, (.r (.iasl 18 (.t 83) (.t 84)))⟩,
     .op ⟨(some 86), none, (.r (.faddr 0 (.t 85)))⟩,
     .op ⟨(some 87), none, (.r (.faddr 0 (.t 86)))⟩,
     .op ⟨(some 88), none, (.r (.load false 1 (.t 87)))⟩,
     .op ⟨(some 89), none, (.r (.bin .neq (.t 88) (.c (.int .i64 (.ofNat 3)))))⟩,
     .op ⟨(some 90), none, (.r (.mv (.t 89)))⟩,
     .op ⟨(some 91), (some (90, false)), (.r (.mv (.t 13)))⟩,
     .op ⟨(some 92), (some (90, false)), (.r (.mv (.t 14)))⟩,
     .op ⟨(some 93), (some (90, false)), (.r (.iasl 18 (.t 91) (.t 92)))⟩,
     .op ⟨(some 94), (some (90, false)), (.r (.faddr 0 (.t 93)))⟩,
     .op ⟨(some 95), (some (90, false)), (.r (.faddr 8 (.t 94)))⟩,
     .op ⟨(some 96), (some (90, false)), (.r (.load false 1 (.t 95)))⟩,
     .op ⟨(some 97), (some (90, false)), (.r (.mv (.t 8)))⟩,
     .op ⟨(some 98), (some (90, false)), (.r (.mv (.t 14)))⟩,
     .op ⟨(some 99), (some (90, false)), (.r (.iasl 1 (.t 97) (.t 98)))⟩,
     .op ⟨(some 100), (some (90, false)), (.r (.load false 1 (.t 99)))⟩,
     .op ⟨(some 101), (some (90, false)), (.r (.bin .neq (.t 96) (.t 100)))⟩,
     .op ⟨(some 102), none, (.r (.pick (.t 90) (.c (.bool true)) (.t 101)))⟩,
     .op ⟨(some 103), none, (.r (.mv (.t 102)))⟩,
     .op ⟨(some 104), (some (103, false)), (.r (.mv (.t 13)))⟩,
     .op ⟨(some 105), (some (103, false)), (.r (.mv (.t 14)))⟩,
     .op ⟨(some 106), (some (103, false)), (.r (.iasl 18 (.t 104) (.t 105)))⟩,
     .op ⟨(some 107), (some (103, false)), (.r (.faddr 0 (.t 106)))⟩,
     .op ⟨(some 108), (some (103, false)), (.r (.faddr 2 (.t 107)))⟩,
     .op ⟨(some 109), (some (103, false)), (.r (.load false 1 (.t 108)))⟩,
     .op ⟨(some 110), (some (103, false)), (.r (.bin .neq (.t 109) (.c (.int .i64 (.ofNat 7)))))⟩,
     .op ⟨(some 111), none, (.r (.pick (.t 103) (.c (.bool true)) (.t 110)))⟩])
   (.cond (.t 111)
    (.seq (.region [.op ⟨(some 6), none, (.r (.mv (.c (.bool false))))⟩])
    .ret)
    .skip)))
  (.region [.op ⟨(some 81), none, (.r (.mv (.t 14)))⟩,
    .op ⟨(some 82), none, (.r (.bin .add (.t 81) (.c (.int .i64 (.ofNat 1)))))⟩,
    .op ⟨(some 14), none, (.r (.mv (.t 82)))⟩])))
/-- depot/depotlaw13.ParseStores -/
def pf_depotlaw13_ParseStores : PF := { ntmps := 147, results := [.tmp 6], body :=
  (.seq (.region [.op ⟨(some 6), none, (.r (.mv (.c (.bool false))))⟩])
  (.seq (.region [.op ⟨(some 7), none, (.r (.mv (.c (.str []))))⟩])
  (.seq (.region [.op ⟨(some 8), none, (.r (.mv (.c .nils)))⟩])
  (.seq (.seq (.region [.op ⟨(some 9), none, (.r (.mv (.c (.int .i64 (.ofNat 0)))))⟩])
  (.block 0 (.loop l0_depotlaw13_ParseStores)))
  (.seq (.region [.op ⟨(some 66), none, (.e (.call n_parse_New []))⟩,
    .op ⟨(some 12), none, (.r (.mv (.t 66)))⟩])
  (.seq (.seq (.region [.op ⟨(some 67), none, (.r (.mv (.t 12)))⟩,
    .op ⟨(some 68), none, (.r (.eqc false (.t 67) (.c .nilp)))⟩])
  (.cond (.t 68)
   (.seq (.region [.op ⟨(some 6), none, (.r (.mv (.c (.bool false))))⟩])
   .ret)
   .skip))
  (.seq (.region [.op ⟨(some 69), none, (.r (.mv (.t 12)))⟩,
    .op ⟨(some 70), none, (.r (.mv (.t 7)))⟩,
    .op ⟨(some 71), none, (.e (.call n_parse_Parser_Feed [(.t 69), (.t 70)]))⟩,
    .op ⟨(some 13), none, (.r (.mv (.t 71)))⟩])
  (.seq (.seq (.region [.op ⟨(some 72), none, (.r (.mv (.t 13)))⟩,
    .op ⟨(some 73), none, (.r (.lensl (.t 72)))⟩,
    .op ⟨(some 74), none, (.r (.mv (.t 8)))⟩,
    .op ⟨(some 75), none, (.r (.lensl (.t 74)))⟩,
    .op ⟨(some 76), none, (.r (.bin .neq (.t 73) (.t 75)))⟩])
  (.cond (.t 76)
   (.seq (.region [.op ⟨(some 6), none, (.r (.mv (.c (.bool false))))⟩])
   .ret)
   .skip))
  (.seq (.seq (.region [.op ⟨(some 14), none, (.r (.mv (.c (.int .i64 (.ofNat 0)))))⟩])
  (.block 2 (.loop l1_depotlaw13_ParseStores)))
  (.seq (.region [.op ⟨(some 112), none, (.r (.mv (.t 2)))⟩,
    .op ⟨(some 113), none, (.e (.call n_depotbook_Within [(.t 112), (.c (.int .i64 (.ofNat 1))), (.c (.int .i64 (.ofNat 50)))]))⟩,
    .op ⟨(some 15), none, (.r (.mv (.t 113)))⟩])
  (.seq (.region [.op ⟨(some 114), none, (.r (.mv (.t 12)))⟩,
    .op ⟨(some 115), none, (.r (.mv (.t 15)))⟩,
    .op ⟨(some 116), none, (.r (.slstr (.c (.str [121, 121, 121, 121, 121, 121, 121, 121, 121, 121, 121, 121, 121, 121, 121, 121, 121, 121, 121, 121, 121, 121, 121, 121, 121, 121, 121, 121, 121, 121, 121, 121, 121, 121, 121, 121, 121, 121, 121, 121, 121, 121, 121, 121, 121, 121, 121, 121, 121, 121])) none (some (.t 115))))⟩,
    .op ⟨(some 117), none, (.r (.bin .add (.c (.str [115, 101, 116, 32, 107, 32, 48, 32, 48, 32, 49, 13, 10, 120])) (.t 116)))⟩,
    .op ⟨(some 118), none, (.r (.bin .add (.t 117) (.c (.str [13, 10, 118, 101, 114, 115, 105, 111, 110, 13, 10]))))⟩,
    .op ⟨(some 119), none, (.e (.call n_parse_Parser_Feed [(.t 114), (.t 118)]))⟩,
    .op ⟨(some 16), none, (.r (.mv (.t 119)))⟩])
  (.seq (.region [.op ⟨(some 120), none, (.r (.mv (.t 16)))⟩,
    .op ⟨(some 121), none, (.r (.lensl (.t 120)))⟩,
    .op ⟨(some 122), none, (.r (.bin .eql (.t 121) (.c (.int .i64 (.ofNat 2)))))⟩,
    .op ⟨(some 123), none, (.r (.mv (.t 122)))⟩,
    .op ⟨(some 124), (some (123, true)), (.r (.mv (.t 16)))⟩,
    .op ⟨(some 125), (some (123, true)), (.r (.iasl 18 (.t 124) (.c (.int .i64 (.ofNat 0)))))⟩,
    .op ⟨(some 126), (some (123, true)), (.r (.faddr 9 (.t 125)))⟩,
    .op ⟨(some 127), (some (123, true)), (.r (.faddr 0 (.t 126)))⟩,
    .op ⟨(some 128), (some (123, true)), (.r (.load false 1 (.t 127)))⟩,
    .op ⟨(some 129), (some (123, true)), (.r (.bin .eql (.t 128) (.c (.int .i64 (.ofNat 13)))))⟩,
    .op ⟨(some 130), none, (.r (.pick (.t 123) (.t 129) (.c (.bool false))))⟩,
    .op ⟨(some 131), none, (.r (.mv (.t 130)))⟩,
    .op ⟨(some 132), (some (131, true)), (.r (.mv (.t 16)))⟩,
    .op ⟨(some 133), (some (131, true)), (.r (.iasl 18 (.t 132) (.c (.int .i64 (.ofNat 1)))))⟩,
    .op ⟨(some 134), (some (131, true)), (.r (.faddr 0 (.t 133)))⟩,
    .op ⟨(some 135), (some (131, true)), (.r (.faddr 0 (.t 134)))⟩,
    .op ⟨(some 136), (some (131, true)), (.r (.load false 1 (.t 135)))⟩,
    .op ⟨(some 137), (some (131, true)), (.r (.bin .eql (.t 136) (.c (.int .i64 (.ofNat 14)))))⟩,
    .op ⟨(some 138), none, (.r (.pick (.t 131) (.t 137) (.c (.bool false))))⟩,
    .op ⟨(some 139), none, (.r (.mv (.t 138)))⟩,
    .op ⟨(some 140), (some (139, true)), (.r (.mv (.t 12)))⟩,
    .op ⟨(some 141), (some (139, true)), (.e (.call n_parse_Parser_Left [(.t 140)]))⟩,
    .op ⟨(some 142), (some (139, true)), (.r (.bin .eql (.t 141) (.c (.int .i64 (.ofNat 0)))))⟩,
    .op ⟨(some 143), none, (.r (.pick (.t 139) (.t 142) (.c (.bool false))))⟩,
    .op ⟨(some 144), none, (.r (.mv (.t 143)))⟩,
    .op ⟨(some 145), (some (144, true)), (.e (.call n_depotlaw13_ParseRuns []))⟩,
    .op ⟨(some 146), none, (.r (.pick (.t 144) (.t 145) (.c (.bool false))))⟩,
    .op ⟨(some 6), none, (.r (.mv (.t 146)))⟩])
  .ret)))))))))))) }
theorem tr_depotlaw13_ParseStores : trF cx Tryd.f8 = pf_depotlaw13_ParseStores := by kernel_rfl
def l0_depotlaw13_ParseLarge : PC :=
  (.seq (.seq (.region [.op ⟨(some 61), none, (.r (.mv (.t 14)))⟩,
    .op ⟨(some 62), none, (.r (.mv (.t 13)))⟩,
    .op ⟨(some 63), none, (.r (.lensl (.t 62)))⟩,
    .op ⟨(some 64), none, (.r (.bin .lss (.t 61) (.t 63)))⟩])
  (.cond (.t 64)
   .skip
   (.exit 0)))
  (.seq (.block 1 (.region [.op ⟨(some 67), none, (.r (.mv (.t 13)))⟩,
     .op ⟨(some 68), none, (.r (.mv (.t 14)))⟩,
     .op ⟨(some 69), none, (.r (.mv (.t 3)))⟩,
     .op ⟨(some 70), none, (.r (.iasl 1 (.t 67) (.t 68)))⟩,
     .op ⟨none, none, (.e (.store 1 (.t 70) (.t 69)))⟩]))
  (.region [.op ⟨(some 65), none, (.r (.mv (.t 14)))⟩,
    .op ⟨(some 66), none, (.r (.bin .add (.t 65) (.c (.int .i64 (.ofNat 1)))))⟩,
    .op ⟨(some 14), none, (.r (.mv (.t 66)))⟩])))
def l1_depotlaw13_ParseLarge : PC :=
  (.seq (.seq (.region [.op ⟨(some 73), none, (.r (.mv (.t 15)))⟩,
    .op ⟨(some 74), none, (.r (.bin .gtr (.t 73) (.c (.int .i64 (.ofNat 0)))))⟩])
  (.cond (.t 74)
   .skip
   (.exit 2)))
  (.block 3 (.seq (.region [.op ⟨(some 75), none, (.r (.mv (.t 15)))⟩,
     .op ⟨(some 76), none, (.r (.mv (.t 13)))⟩,
     .op ⟨(some 77), none, (.r (.lensl (.t 76)))⟩,
     .op ⟨(some 78), none, (.r (.minmax false [(.t 75), (.t 77)]))⟩,
     .op ⟨(some 16), none, (.r (.mv (.t 78)))⟩])
   (.seq (.seq (.region [.op ⟨(some 79), none, (.r (.mv (.t 9)))⟩,
     .op ⟨(some 80), none, (.r (.mv (.t 13)))⟩,
     .op ⟨(some 81), none, (.r (.mv (.t 16)))⟩,
     .op ⟨(some 82), none, (.r (.slsl 1 (.t 80) none (some (.t 81)) none))⟩,
     .op ⟨(some 83), none, (.r (.b2s (.t 82)))⟩,
     .op ⟨(some 84), none, (.e (.call n_parse_Parser_Feed [(.t 79), (.t 83)]))⟩,
     .op ⟨(some 85), none, (.r (.lensl (.t 84)))⟩,
     .op ⟨(some 86), none, (.r (.bin .neq (.t 85) (.c (.int .i64 (.ofNat 0)))))⟩,
     .op ⟨(some 87), none, (.r (.mv (.t 86)))⟩,
     .op ⟨(some 88), (some (87, false)), (.r (.mv (.t 9)))⟩,
     .op ⟨(some 89), (some (87, false)), (.e (.call n_parse_Parser_Left [(.t 88)]))⟩,
     .op ⟨(some 90), (some (87, false)), (.r (.bin .neq (.t 89) (.c (.int .i64 (.ofNat 0)))))⟩,
     .op ⟨(some 91), none, (.r (.pick (.t 87) (.c (.bool true)) (.t 90)))⟩])
   (.cond (.t 91)
    (.seq (.region [.op ⟨(some 8), none, (.r (.mv (.c (.bool false))))⟩])
    .ret)
    .skip))
   (.region [.op ⟨(some 92), none, (.r (.mv (.t 15)))⟩,
     .op ⟨(some 93), none, (.r (.mv (.t 16)))⟩,
     .op ⟨(some 94), none, (.r (.bin .sub (.t 92) (.t 93)))⟩,
     .op ⟨(some 15), none, (.r (.mv (.t 94)))⟩])))))
/-- depot/depotlaw13.ParseLarge -/
def pf_depotlaw13_ParseLarge : PF := { ntmps := 111, results := [.tmp 8], body :=
  (.seq (.region [.op ⟨(some 8), none, (.r (.mv (.c (.bool false))))⟩])
  (.seq (.region [.op ⟨(some 18), none, (.e (.call n_parse_New []))⟩,
    .op ⟨(some 9), none, (.r (.mv (.t 18)))⟩])
  (.seq (.seq (.region [.op ⟨(some 19), none, (.r (.mv (.t 9)))⟩,
    .op ⟨(some 20), none, (.r (.eqc false (.t 19) (.c .nilp)))⟩])
  (.cond (.t 20)
   (.seq (.region [.op ⟨(some 8), none, (.r (.mv (.c (.bool false))))⟩])
   .ret)
   .skip))
  (.seq (.region [.op ⟨(some 21), none, (.r (.mv (.t 0)))⟩,
    .op ⟨(some 22), none, (.e (.call n_depotbook_Within [(.t 21), (.c (.int .i64 (.ofNat 1))), (.c (.int .i64 (.ofNat 3000)))]))⟩,
    .op ⟨(some 23), none, (.r (.bin .add (.c (.int .i64 (.ofNat 1048576))) (.t 22)))⟩,
    .op ⟨(some 10), none, (.r (.mv (.t 23)))⟩])
  (.seq (.region [.op ⟨(some 24), none, (.r (.mv (.t 10)))⟩,
    .op ⟨(some 25), none, (.e (.call n_strconv_Itoa [(.t 24)]))⟩,
    .op ⟨(some 26), none, (.r (.bin .add (.c (.str [115, 101, 116, 32, 107, 32, 48, 32, 48, 32])) (.t 25)))⟩,
    .op ⟨(some 11), none, (.r (.mv (.t 26)))⟩])
  (.seq (.seq (.region [.op ⟨(some 27), none, (.r (.mv (.t 2)))⟩])
  (.cond (.t 27)
   (.region [.op ⟨(some 28), none, (.r (.mv (.t 11)))⟩,
     .op ⟨(some 29), none, (.r (.bin .add (.t 28) (.c (.str [32, 110, 111, 114, 101, 112, 108, 121]))))⟩,
     .op ⟨(some 11), none, (.r (.mv (.t 29)))⟩])
   .skip))
  (.seq (.region [.op ⟨(some 30), none, (.r (.mv (.t 9)))⟩,
    .op ⟨(some 31), none, (.r (.mv (.t 11)))⟩,
    .op ⟨(some 32), none, (.r (.bin .add (.t 31) (.c (.str [13, 10]))))⟩,
    .op ⟨(some 33), none, (.e (.call n_parse_Parser_Feed [(.t 30), (.t 32)]))⟩,
    .op ⟨(some 12), none, (.r (.mv (.t 33)))⟩])
  (.seq (.seq (.region [.op ⟨(some 34), none, (.r (.mv (.t 2)))⟩,
    .op ⟨(some 35), none, (.r (.mv (.t 34)))⟩,
    .op ⟨(some 36), (some (35, true)), (.r (.mv (.t 12)))⟩,
    .op ⟨(some 37), (some (35, true)), (.r (.lensl (.t 36)))⟩,
    .op ⟨(some 38), (some (35, true)), (.r (.bin .neq (.t 37) (.c (.int .i64 (.ofNat 0)))))⟩,
    .op ⟨(some 39), none, (.r (.pick (.t 35) (.t 38) (.c (.bool false))))⟩,
    .op ⟨(some 40), none, (.r (.mv (.t 39)))⟩,
    .op ⟨(some 41), (some (40, false)), (.r (.mv (.t 2)))⟩,
    .op ⟨(some 42), (some (40, false)), (.r (.un .not (.t 41)))⟩,
    .op ⟨(some 43), (some (40, false)), (.r (.mv (.t 42)))⟩,
    .op ⟨(some 44), (some (43, true)), (.r (.mv (.t 12)))⟩,
    .op ⟨(some 45), (some (43, true)), (.r (.lensl (.t 44)))⟩,
    .op ⟨(some 46), (some (43, true)), (.r (.bin .neq (.t 45) (.c (.int .i64 (.ofNat 1)))))⟩,
    .op ⟨(some 47), (some (43, true)), (.r (.mv (.t 46)))⟩,
    .op ⟨(some 48), (some (47, false)), (.r (.mv (.t 12)))⟩,
    .op ⟨(some 49), (some (47, false)), (.r (.iasl 18 (.t 48) (.c (.int .i64 (.ofNat 0)))))⟩,
    .op ⟨(some 50), (some (47, false)), (.r (.faddr 9 (.t 49)))⟩,
    .op ⟨(some 51), (some (47, false)), (.r (.faddr 0 (.t 50)))⟩,
    .op ⟨(some 52), (some (47, false)), (.r (.load false 1 (.t 51)))⟩,
    .op ⟨(some 53), (some (47, false)), (.r (.bin .neq (.t 52) (.c (.int .i64 (.ofNat 14)))))⟩,
    .op ⟨(some 54), (some (43, true)), (.r (.pick (.t 47) (.c (.bool true)) (.t 53)))⟩,
    .op ⟨(some 55), (some (40, false)), (.r (.pick (.t 43) (.t 54) (.c (.bool false))))⟩,
    .op ⟨(some 56), none, (.r (.pick (.t 40) (.c (.bool true)) (.t 55)))⟩])
  (.cond (.t 56)
   (.seq (.region [.op ⟨(some 8), none, (.r (.mv (.c (.bool false))))⟩])
   .ret)
   .skip))
  (.seq (.region [.op ⟨(some 57), none, (.r (.mv (.t 1)))⟩,
    .op ⟨(some 58), none, (.e (.call n_depotbook_Within [(.t 57), (.c (.int .i64 (.ofNat 1))), (.c (.int .i64 (.ofNat 9)))]))⟩,
    .op ⟨(some 59), none, (.r (.bin .mul (.t 58) (.c (.int .i64 (.ofNat 60000)))))⟩,
    .op ⟨(some 60), none, (.n (.mksl 2 1 1 [(.int .u8 (.ofNat 0))] (.t 59) (.t 59)))⟩,
    .op ⟨(some 13), none, (.r (.mv (.t 60)))⟩])
  (.seq (.seq (.region [.op ⟨(some 14), none, (.r (.mv (.c (.int .i64 (.ofNat 0)))))⟩])
  (.block 0 (.loop l0_depotlaw13_ParseLarge)))
  (.seq (.seq (.region [.op ⟨(some 71), none, (.r (.mv (.t 10)))⟩,
    .op ⟨(some 72), none, (.r (.bin .add (.t 71) (.c (.int .i64 (.ofNat 2)))))⟩,
    .op ⟨(some 15), none, (.r (.mv (.t 72)))⟩])
  (.block 2 (.loop l1_depotlaw13_ParseLarge)))
  (.seq (.region [.op ⟨(some 95), none, (.r (.mv (.t 9)))⟩,
    .op ⟨(some 96), none, (.e (.call n_parse_Parser_Feed [(.t 95), (.c (.str [103, 101, 116, 32, 97, 13, 10]))]))⟩,
    .op ⟨(some 17), none, (.r (.mv (.t 96)))⟩])
  (.seq (.region [.op ⟨(some 97), none, (.r (.mv (.t 17)))⟩,
    .op ⟨(some 98), none, (.r (.lensl (.t 97)))⟩,
    .op ⟨(some 99), none, (.r (.bin .eql (.t 98) (.c (.int .i64 (.ofNat 1)))))⟩,
    .op ⟨(some 100), none, (.r (.mv (.t 99)))⟩,
    .op ⟨(some 101), (some (100, true)), (.r (.mv (.t 17)))⟩,
    .op ⟨(some 102), (some (100, true)), (.r (.iasl 18 (.t 101) (.c (.int .i64 (.ofNat 0)))))⟩,
    .op ⟨(some 103), (some (100, true)), (.r (.faddr 0 (.t 102)))⟩,
    .op ⟨(some 104), (some (100, true)), (.r (.faddr 0 (.t 103)))⟩,
    .op ⟨(some 105), (some (100, true)), (.r (.load false 1 (.t 104)))⟩,
    .op ⟨(some 106), (some (100, true)), (.r (.bin .eql (.t 105) (.c (.int .i64 (.ofNat 1)))))⟩,
    .op ⟨(some 107), none, (.r (.pick (.t 100) (.t 106) (.c (.bool false))))⟩,
    .op ⟨(some 108), none, (.r (.mv (.t 107)))⟩,
    .op ⟨(some 109), (some (108, true)), (.e (.call n_depotlaw13_ParseRuns []))⟩,
    .op ⟨(some 110), none, (.r (.pick (.t 108) (.t 109) (.c (.bool false))))⟩,
    .op ⟨(some 8), none, (.r (.mv (.t 110)))⟩])
  .ret))))))))))))) }
theorem tr_depotlaw13_ParseLarge : trF cx Tryd.f9 = pf_depotlaw13_ParseLarge := by kernel_rfl
/-- strconv.FormatUint -/
def pf_strconv_FormatUint : PF := { ntmps := 8, results := [.tmp 4], body :=
  (.seq (.region [.op ⟨(some 4), none, (.r (.mv (.c (.str []))))⟩])
  (.seq (.region [.op ⟨(some 5), none, (.r (.mv (.t 0)))⟩,
    .op ⟨(some 6), none, (.r (.mv (.t 1)))⟩,
    .op ⟨(some 7), none, (.e (.call n_internal_strconv_FormatUint [(.t 5), (.t 6)]))⟩,
    .op ⟨(some 4), none, (.r (.mv (.t 7)))⟩])
  .ret)) }
theorem tr_strconv_FormatUint : trF cx Tryd.f14 = pf_strconv_FormatUint := by kernel_rfl
def l0_words_Number : PC :=
  (.seq (.region [.op ⟨(some 21), none, (.r (.bin .lss (.t 20) (.t 19)))⟩])
  (.seq (.cond (.t 21)
   .skip
   (.exit 0))
  (.seq (.block 1 (.seq (.region [.op ⟨(some 22), none, (.r (.mv (.t 20)))⟩,
     .op ⟨(some 7), none, (.r (.mv (.t 22)))⟩])
   (.seq (.region [.op ⟨(some 23), none, (.r (.mv (.t 0)))⟩,
     .op ⟨(some 24), none, (.r (.mv (.t 7)))⟩,
     .op ⟨(some 25), none, (.r (.ixstr (.t 23) (.t 24)))⟩,
     .op ⟨(some 8), none, (.r (.mv (.t 25)))⟩])
   (.seq (.seq (.region [.op ⟨(some 26), none, (.r (.mv (.t 8)))⟩,
     .op ⟨(some 27), none, (.r (.bin .lss (.t 26) (.c (.int .u8 (.ofNat 48)))))⟩,
     .op ⟨(some 28), none, (.r (.mv (.t 27)))⟩,
     .op ⟨(some 29), (some (28, false)), (.r (.mv (.t 8)))⟩,
     .op ⟨(some 30), (some (28, false)), (.r (.bin .gtr (.t 29) (.c (.int .u8 (.ofNat 57)))))⟩,
     .op ⟨(some 31), none, (.r (.pick (.t 28) (.c (.bool true)) (.t 30)))⟩])
   (.cond (.t 31)
    (.seq (.region [.op ⟨(some 4), none, (.r (.mv (.c (.int .u64 (.ofNat 0)))))⟩,
      .op ⟨(some 5), none, (.r (.mv (.c (.bool false))))⟩])
    .ret)
    .skip))
   (.seq (.region [.op ⟨(some 32), none, (.r (.mv (.t 8)))⟩,
     .op ⟨(some 33), none, (.r (.bin .sub (.t 32) (.c (.int .u8 (.ofNat 48)))))⟩,
     .op ⟨(some 34), none, (.r (.cint .u64 (.t 33)))⟩,
     .op ⟨(some 9), none, (.r (.mv (.t 34)))⟩])
   (.seq (.seq (.region [.op ⟨(some 35), none, (.r (.mv (.t 6)))⟩,
     .op ⟨(some 36), none, (.r (.mv (.t 9)))⟩,
     .op ⟨(some 37), none, (.r (.bin .sub (.c (.int .u64 (.ofNat 18446744073709551615))) (.t 36)))⟩,
     .op ⟨(some 38), none, (.r (.bin .quo (.t 37) (.c (.int .u64 (.ofNat 10)))))⟩,
     .op ⟨(some 39), none, (.r (.bin .gtr (.t 35) (.t 38)))⟩])
   (.cond (.t 39)
    (.seq (.region [.op ⟨(some 4), none, (.r (.mv (.c (.int .u64 (.ofNat 0)))))⟩,
      .op ⟨(some 5), none, (.r (.mv (.c (.bool false))))⟩])
    .ret)
    .skip))
   (.region [.op ⟨(some 40), none, (.r (.mv (.t 6)))⟩,
     .op ⟨(some 41), none, (.r (.bin .mul (.c (.int .u64 (.ofNat 10))) (.t 40)))⟩,
     .op ⟨(some 42), none, (.r (.mv (.t 9)))⟩,
     .op ⟨(some 43), none, (.r (.bin .add (.t 41) (.t 42)))⟩,
     .op ⟨(some 6), none, (.r (.mv (.t 43)))⟩])))))))
  (.region [.op ⟨(some 44), none, (.r (.bin .add (.t 20) (.c (.int .i64 (.ofNat 1)))))⟩,
    .op ⟨(some 20), none, (.r (.mv (.t 44)))⟩]))))
/-- depot/words.Number -/
def pf_words_Number : PF := { ntmps := 49, results := [.tmp 4, .tmp 5], body :=
  (.seq (.region [.op ⟨(some 4), none, (.r (.mv (.c (.int .u64 (.ofNat 0)))))⟩,
    .op ⟨(some 5), none, (.r (.mv (.c (.bool false))))⟩])
  (.seq (.seq (.region [.op ⟨(some 10), none, (.r (.mv (.t 0)))⟩,
    .op ⟨(some 11), none, (.r (.lens (.t 10)))⟩,
    .op ⟨(some 12), none, (.r (.bin .lss (.t 11) (.c (.int .i64 (.ofNat 1)))))⟩,
    .op ⟨(some 13), none, (.r (.mv (.t 12)))⟩,
    .op ⟨(some 14), (some (13, false)), (.r (.mv (.t 0)))⟩,
    .op ⟨(some 15), (some (13, false)), (.r (.lens (.t 14)))⟩,
    .op ⟨(some 16), (some (13, false)), (.r (.bin .gtr (.t 15) (.c (.int .i64 (.ofNat 20)))))⟩,
    .op ⟨(some 17), none, (.r (.pick (.t 13) (.c (.bool true)) (.t 16)))⟩])
  (.cond (.t 17)
   (.seq (.region [.op ⟨(some 4), none, (.r (.mv (.c (.int .u64 (.ofNat 0)))))⟩,
     .op ⟨(some 5), none, (.r (.mv (.c (.bool false))))⟩])
   .ret)
   .skip))
  (.seq (.region [.op ⟨(some 6), none, (.r (.mv (.c (.int .u64 (.ofNat 0)))))⟩])
  (.seq (.seq (.region [.op ⟨(some 18), none, (.r (.mv (.t 0)))⟩,
    .op ⟨(some 19), none, (.r (.lens (.t 18)))⟩,
    .op ⟨(some 20), none, (.r (.mv (.c (.int .i64 (.ofNat 0)))))⟩])
  (.block 0 (.loop l0_words_Number)))
  (.seq (.seq (.region [.op ⟨(some 45), none, (.r (.mv (.t 6)))⟩,
    .op ⟨(some 46), none, (.r (.mv (.t 1)))⟩,
    .op ⟨(some 47), none, (.r (.bin .gtr (.t 45) (.t 46)))⟩])
  (.cond (.t 47)
   (.seq (.region [.op ⟨(some 4), none, (.r (.mv (.c (.int .u64 (.ofNat 0)))))⟩,
     .op ⟨(some 5), none, (.r (.mv (.c (.bool false))))⟩])
   .ret)
   .skip))
  (.seq (.region [.op ⟨(some 48), none, (.r (.mv (.t 6)))⟩,
    .op ⟨(some 4), none, (.r (.mv (.t 48)))⟩,
    .op ⟨(some 5), none, (.r (.mv (.c (.bool true))))⟩])
  .ret)))))) }
theorem tr_words_Number : trF cx Tryd.f15 = pf_words_Number := by kernel_rfl
/-- depot/depotbook.Within -/
def pf_depotbook_Within : PF := { ntmps := 24, results := [.tmp 6], body :=
  (.seq (.region [.op ⟨(some 6), none, (.r (.mv (.c (.int .i64 (.ofNat 0)))))⟩])
  (.seq (.region [.op ⟨(some 7), none, (.r (.mv (.t 0)))⟩,
    .op ⟨(some 8), none, (.r (.mv (.t 2)))⟩,
    .op ⟨(some 9), none, (.r (.mv (.t 1)))⟩,
    .op ⟨(some 10), none, (.r (.bin .sub (.t 8) (.t 9)))⟩,
    .op ⟨(some 11), none, (.r (.bin .add (.t 10) (.c (.int .i64 (.ofNat 1)))))⟩,
    .op ⟨(some 12), none, (.r (.bin .rem (.t 7) (.t 11)))⟩,
    .op ⟨(some 0), none, (.r (.mv (.t 12)))⟩])
  (.seq (.seq (.region [.op ⟨(some 13), none, (.r (.mv (.t 0)))⟩,
    .op ⟨(some 14), none, (.r (.bin .lss (.t 13) (.c (.int .i64 (.ofNat 0)))))⟩])
  (.cond (.t 14)
   (.region [.op ⟨(some 15), none, (.r (.mv (.t 0)))⟩,
     .op ⟨(some 16), none, (.r (.mv (.t 2)))⟩,
     .op ⟨(some 17), none, (.r (.bin .add (.t 15) (.t 16)))⟩,
     .op ⟨(some 18), none, (.r (.mv (.t 1)))⟩,
     .op ⟨(some 19), none, (.r (.bin .sub (.t 17) (.t 18)))⟩,
     .op ⟨(some 20), none, (.r (.bin .add (.t 19) (.c (.int .i64 (.ofNat 1)))))⟩,
     .op ⟨(some 0), none, (.r (.mv (.t 20)))⟩])
   .skip))
  (.seq (.region [.op ⟨(some 21), none, (.r (.mv (.t 1)))⟩,
    .op ⟨(some 22), none, (.r (.mv (.t 0)))⟩,
    .op ⟨(some 23), none, (.r (.bin .add (.t 21) (.t 22)))⟩,
    .op ⟨(some 6), none, (.r (.mv (.t 23)))⟩])
  .ret)))) }
theorem tr_depotbook_Within : trF cx Tryd.f16 = pf_depotbook_Within := by kernel_rfl
def l0_depotref9_Key : PC :=
  (.seq (.seq (.region [.op ⟨(some 4), none, (.r (.mv (.t 3)))⟩,
    .op ⟨(some 5), none, (.r (.mv (.t 0)))⟩,
    .op ⟨(some 6), none, (.r (.lens (.t 5)))⟩,
    .op ⟨(some 7), none, (.r (.bin .lss (.t 4) (.t 6)))⟩])
  (.cond (.t 7)
   .skip
   (.exit 0)))
  (.seq (.block 1 (.seq (.region [.op ⟨(some 10), none, (.r (.mv (.t 0)))⟩,
     .op ⟨(some 11), none, (.r (.mv (.t 3)))⟩,
     .op ⟨(some 12), none, (.r (.ixstr (.t 10) (.t 11)))⟩,
     .op ⟨(some 13), none, (.r (.bin .leq (.t 12) (.c (.int .u8 (.ofNat 32)))))⟩,
     .op ⟨(some 14), none, (.r (.mv (.t 13)))⟩,
     .op ⟨(some 15), (some (14, false)), (.r (.mv (.t 0)))⟩,
     .op ⟨(some 16), (some (14, false)), (.r (.mv (.t 3)))⟩,
     .op ⟨(some 17), (some (14, false)), (.r (.ixstr (.t 15) (.t 16)))⟩,
     .op ⟨(some 18), (some (14, false)), (.r (.bin .eql (.t 17) (.c (.int .u8 (.ofNat 127)))))⟩,
     .op ⟨(some 19), none, (.r (.pick (.t 14) (.c (.bool true)) (.t 18)))⟩])
   (.cond (.t 19)
    (.seq (.region [.op ⟨(some 2), none, (.r (.mv (.c (.bool false))))⟩])
    .ret)
    .skip)))
  (.region [.op ⟨(some 8), none, (.r (.mv (.t 3)))⟩,
    .op ⟨(some 9), none, (.r (.bin .add (.t 8) (.c (.int .i64 (.ofNat 1)))))⟩,
    .op ⟨(some 3), none, (.r (.mv (.t 9)))⟩])))
/-- depot/depotref9.Key -/
def pf_depotref9_Key : PF := { ntmps := 27, results := [.tmp 2], body :=
  (.seq (.region [.op ⟨(some 2), none, (.r (.mv (.c (.bool false))))⟩])
  (.seq (.seq (.region [.op ⟨(some 3), none, (.r (.mv (.c (.int .i64 (.ofNat 0)))))⟩])
  (.block 0 (.loop l0_depotref9_Key)))
  (.seq (.region [.op ⟨(some 20), none, (.r (.mv (.t 0)))⟩,
    .op ⟨(some 21), none, (.r (.bin .neq (.t 20) (.c (.str []))))⟩,
    .op ⟨(some 22), none, (.r (.mv (.t 21)))⟩,
    .op ⟨(some 23), (some (22, true)), (.r (.mv (.t 0)))⟩,
    .op ⟨(some 24), (some (22, true)), (.r (.lens (.t 23)))⟩,
    .op ⟨(some 25), (some (22, true)), (.r (.bin .leq (.t 24) (.c (.int .i64 (.ofNat 250)))))⟩,
    .op ⟨(some 26), none, (.r (.pick (.t 22) (.t 25) (.c (.bool false))))⟩,
    .op ⟨(some 2), none, (.r (.mv (.t 26)))⟩])
  .ret))) }
theorem tr_depotref9_Key : trF cx Tryd.f18 = pf_depotref9_Key := by kernel_rfl
/-- strconv.Itoa -/
def pf_strconv_Itoa : PF := { ntmps := 5, results := [.tmp 2], body :=
  (.seq (.region [.op ⟨(some 2), none, (.r (.mv (.c (.str []))))⟩])
  (.seq (.region [.op ⟨(some 3), none, (.r (.mv (.t 0)))⟩,
    .op ⟨(some 4), none, (.e (.call n_internal_strconv_Itoa [(.t 3)]))⟩,
    .op ⟨(some 2), none, (.r (.mv (.t 4)))⟩])
  .ret)) }
theorem tr_strconv_Itoa : trF cx Tryd.f19 = pf_strconv_Itoa := by kernel_rfl
/-- depot/parse.New -/
def pf_parse_New : PF := { ntmps := 3, results := [.tmp 0], body :=
  (.seq (.region [.op ⟨(some 0), none, (.r (.mv (.c .nilp)))⟩])
  (.seq (.region [.op ⟨(some 1), none, (.r (.build [(.int .i64 (.ofNat 0)), (.str []), (.int .i64 (.ofNat 0)), (.int .i64 (.ofNat 0)), .nils, (.int .i64 (.ofNat 0)), (.int .i64 (.ofNat 0)), (.int .i64 (.ofNat 0)), (.int .i64 (.ofNat 0)), (.int .u64 (.ofNat 0)), (.bool false), (.str []), (.bool false), .nils] []))⟩,
    .op ⟨(some 2), none, (.n (.box (.t 1)))⟩,
    .op ⟨(some 0), none, (.r (.mv (.t 2)))⟩])
  .ret)) }
theorem tr_parse_New : trF cx Tryd.f20 = pf_parse_New := by kernel_rfl
def l0_parse_Parser_Feed : PC :=
  (.seq (.seq (.region [.op ⟨(some 19), none, (.r (.mv (.t 0)))⟩,
    .op ⟨(some 20), none, (.r (.nilck (.t 19)))⟩,
    .op ⟨(some 21), none, (.r (.faddr 12 (.t 20)))⟩,
    .op ⟨(some 22), none, (.r (.load false 1 (.t 21)))⟩,
    .op ⟨(some 23), none, (.r (.un .not (.t 22)))⟩])
  (.cond (.t 23)
   .skip
   (.exit 0)))
  (.block 1 (.seq (.region [.op ⟨(some 5), none, (.r (.mv (.c (.bool false))))⟩])
   (.seq (.seq (.region [.op ⟨(some 24), none, (.r (.mv (.t 0)))⟩,
     .op ⟨(some 25), none, (.r (.nilck (.t 24)))⟩,
     .op ⟨(some 26), none, (.r (.faddr 0 (.t 25)))⟩,
     .op ⟨(some 27), none, (.r (.load false 1 (.t 26)))⟩])
   (.block 2 (.seq (.region [.op ⟨(some 29), none, (.r (.bin .eql (.t 27) (.c (.int .i64 (.ofNat 0)))))⟩,
      .op ⟨(some 28), none, (.r (.mv (.t 29)))⟩])
    (.cond (.t 28)
     (.region [.op ⟨(some 30), none, (.r (.mv (.t 0)))⟩,
       .op ⟨(some 31), none, (.e (.call n_parse_Parser_line [(.t 30)]))⟩,
       .op ⟨(some 5), none, (.r (.mv (.t 31)))⟩])
     (.seq (.region [.op ⟨(some 33), none, (.r (.bin .eql (.t 27) (.c (.int .i64 (.ofNat 1)))))⟩,
       .op ⟨(some 32), none, (.r (.mv (.t 33)))⟩])
     (.cond (.t 32)
      (.region [.op ⟨(some 34), none, (.r (.mv (.t 0)))⟩,
        .op ⟨(some 35), none, (.e (.call n_parse_Parser_data [(.t 34)]))⟩,
        .op ⟨(some 5), none, (.r (.mv (.t 35)))⟩])
      (.seq (.region [.op ⟨(some 37), none, (.r (.bin .eql (.t 27) (.c (.int .i64 (.ofNat 2)))))⟩,
        .op ⟨(some 36), none, (.r (.mv (.t 37)))⟩])
      (.cond (.t 36)
       (.region [.op ⟨(some 38), none, (.r (.mv (.t 0)))⟩,
         .op ⟨(some 39), none, (.e (.call n_parse_Parser_past [(.t 38)]))⟩,
         .op ⟨(some 5), none, (.r (.mv (.t 39)))⟩])
       (.seq (.region [.op ⟨(some 41), none, (.r (.bin .eql (.t 27) (.c (.int .i64 (.ofNat 3)))))⟩,
         .op ⟨(some 40), none, (.r (.mv (.t 41)))⟩])
       (.cond (.t 40)
        (.region [.op ⟨(some 42), none, (.r (.mv (.t 0)))⟩,
          .op ⟨(some 43), none, (.e (.call n_parse_Parser_broken [(.t 42)]))⟩,
          .op ⟨(some 5), none, (.r (.mv (.t 43)))⟩])
        .skip))))))))))
   (.seq (.region [.op ⟨(some 44), none, (.r (.mv (.t 5)))⟩,
     .op ⟨(some 45), none, (.r (.un .not (.t 44)))⟩])
   (.cond (.t 45)
    (.exit 0)
    .skip))))))
/-- (*depot/parse.Parser).Feed -/
def pf_parse_Parser_Feed : PF := { ntmps := 54, results := [.tmp 4], body :=
  (.seq (.region [.op ⟨(some 4), none, (.r (.mv (.c .nils)))⟩])
  (.scope (.seq (.seq (.region [.op ⟨(some 7), none, (.r (.mv (.t 0)))⟩,
     .op ⟨(some 8), none, (.r (.nilck (.t 7)))⟩,
     .op ⟨(some 9), none, (.r (.faddr 12 (.t 8)))⟩,
     .op ⟨(some 10), none, (.r (.load false 1 (.t 9)))⟩])
   (.cond (.t 10)
    (.seq (.region [.op ⟨(some 4), none, (.r (.mv (.c .nils)))⟩])
    .ret)
    .skip))
   (.seq (.region [.op ⟨(some 11), none, (.r (.mv (.t 0)))⟩,
     .op ⟨(some 12), none, (.r (.nilck (.t 11)))⟩,
     .op ⟨(some 13), none, (.r (.faddr 1 (.t 12)))⟩,
     .op ⟨(some 14), none, (.r (.load false 1 (.t 13)))⟩,
     .op ⟨(some 15), none, (.r (.mv (.t 1)))⟩,
     .op ⟨(some 16), none, (.r (.bin .add (.t 14) (.t 15)))⟩,
     .op ⟨(some 17), none, (.r (.nilck (.t 11)))⟩,
     .op ⟨(some 18), none, (.r (.faddr 1 (.t 17)))⟩,
     .op ⟨none, none, (.e (.store 1 (.t 18) (.t 16)))⟩])
   (.seq .skip
   (.seq (.block 0 (.loop l0_parse_Parser_Feed))
   (.seq (.region [.op ⟨(some 46), none, (.r (.mv (.t 0)))⟩,
     .op ⟨(some 47), none, (.r (.nilck (.t 46)))⟩,
     .op ⟨(some 48), none, (.r (.faddr 13 (.t 47)))⟩,
     .op ⟨(some 49), none, (.r (.load false 1 (.t 48)))⟩,
     .op ⟨(some 6), none, (.r (.mv (.t 49)))⟩])
   (.seq (.region [.op ⟨(some 50), none, (.r (.mv (.t 0)))⟩,
     .op ⟨(some 51), none, (.r (.nilck (.t 50)))⟩,
     .op ⟨(some 52), none, (.r (.faddr 13 (.t 51)))⟩,
     .op ⟨none, none, (.e (.store 1 (.t 52) (.c .nils)))⟩])
   (.seq (.region [.op ⟨(some 53), none, (.r (.mv (.t 6)))⟩,
     .op ⟨(some 4), none, (.r (.mv (.t 53)))⟩])
   .ret))))))))) }
theorem tr_parse_Parser_Feed : trF cx Tryd.f21 = pf_parse_Parser_Feed := by kernel_rfl
/-- (*depot/parse.Parser).Left -/
def pf_parse_Parser_Left : PF := { ntmps := 8, results := [.tmp 2], body :=
  (.seq (.region [.op ⟨(some 2), none, (.r (.mv (.c (.int .i64 (.ofNat 0)))))⟩])
  (.seq (.region [.op ⟨(some 3), none, (.r (.mv (.t 0)))⟩,
    .op ⟨(some 4), none, (.r (.nilck (.t 3)))⟩,
    .op ⟨(some 5), none, (.r (.faddr 1 (.t 4)))⟩,
    .op ⟨(some 6), none, (.r (.load false 1 (.t 5)))⟩,
    .op ⟨(some 7), none, (.r (.lens (.t 6)))⟩,
    .op ⟨(some 2), none, (.r (.mv (.t 7)))⟩])
  .ret)) }
theorem tr_parse_Parser_Left : trF cx Tryd.f22 = pf_parse_Parser_Left := by kernel_rfl
/-- internal/strconv.FormatUint -/
def pf_internal_strconv_FormatUint : PF := { ntmps := 32, results := [.tmp 4], body :=
  (.seq (.region [.op ⟨(some 4), none, (.r (.mv (.c (.str []))))⟩])
  (.seq (.seq (.region [.op ⟨(some 9), none, (.r (.mv (.t 1)))⟩,
    .op ⟨(some 10), none, (.r (.bin .eql (.t 9) (.c (.int .i64 (.ofNat 10)))))⟩])
  (.cond (.t 10)
   (.seq (.seq (.region [.op ⟨(some 11), none, (.r (.mv (.t 0)))⟩,
     .op ⟨(some 12), none, (.r (.bin .lss (.t 11) (.c (.int .u64 (.ofNat 100)))))⟩])
   (.cond (.t 12)
    (.seq (.region [.op ⟨(some 13), none, (.r (.mv (.t 0)))⟩,
      .op ⟨(some 14), none, (.r (.cint .i64 (.t 13)))⟩,
      .op ⟨(some 15), none, (.e (.call n_internal_strconv_small [(.t 14)]))⟩,
      .op ⟨(some 4), none, (.r (.mv (.t 15)))⟩])
    .ret)
    .skip))
   (.seq (.region [.op ⟨(some 5), none, (.n (.new 0 (rep 24 [(.int .u8 (.ofNat 0))])))⟩])
   (.seq (.region [.op ⟨(some 16), none, (.r (.mv (.t 0)))⟩,
     .op ⟨(some 17), none, (.e (.call n_internal_strconv_numDigits [(.t 16)]))⟩,
     .op ⟨(some 6), none, (.r (.mv (.t 17)))⟩])
   (.seq (.region [.op ⟨(some 18), none, (.r (.mv (.t 6)))⟩,
     .op ⟨(some 19), none, (.r (.slarr 24 1 (.t 5) none (some (.t 18))))⟩,
     .op ⟨(some 20), none, (.r (.mv (.t 0)))⟩,
     .op ⟨(some 21), none, (.e (.call n_internal_strconv_formatBase10 [(.t 19), (.t 20)]))⟩])
   (.seq (.region [.op ⟨(some 22), none, (.r (.mv (.t 6)))⟩,
     .op ⟨(some 23), none, (.r (.slarr 24 1 (.t 5) none (some (.t 22))))⟩,
     .op ⟨(some 24), none, (.r (.b2s (.t 23)))⟩,
     .op ⟨(some 4), none, (.r (.mv (.t 24)))⟩])
   .ret)))))
   .skip))
  (.seq (.region [.op ⟨(some 26), none, (.r (.mv (.t 0)))⟩,
    .op ⟨(some 27), none, (.r (.mv (.t 1)))⟩,
    .op ⟨(some 28), none, (.e (.call n_internal_strconv_formatBits [(.c .nils), (.t 26), (.t 27), (.c (.bool false)), (.c (.bool false))]))⟩,
    .op ⟨(some 25), none, (.r (.mv (.t 28)))⟩,
    .op ⟨(some 29), none, (.r (.ext 0 (.t 25)))⟩,
    .op ⟨(some 30), none, (.r (.ext 1 (.t 25)))⟩,
    .op ⟨(some 7), none, (.r (.mv (.t 29)))⟩,
    .op ⟨(some 8), none, (.r (.mv (.t 30)))⟩])
  (.seq (.region [.op ⟨(some 31), none, (.r (.mv (.t 8)))⟩,
    .op ⟨(some 4), none, (.r (.mv (.t 31)))⟩])
  .ret)))) }
theorem tr_internal_strconv_FormatUint : trF cx Tryd.f28 = pf_internal_strconv_FormatUint := by kernel_rfl
/-- depot/words.Line -/
def pf_words_Line : PF := { ntmps := 72, results := [.cell 2 true 9, .tmp 3], body :=
  (.seq (.region [.op ⟨(some 2), none, (.n (.new 0 [(.int .i64 (.ofNat 0)), .nils, (.int .i64 (.ofNat 0)), (.int .i64 (.ofNat 0)), (.int .i64 (.ofNat 0)), (.int .i64 (.ofNat 0)), (.int .u64 (.ofNat 0)), (.bool false), (.str [])]))⟩,
    .op ⟨(some 3), none, (.r (.mv (.c (.int .i64 (.ofNat 0)))))⟩])
  (.seq (.region [.op ⟨(some 9), none, (.r (.mv (.t 0)))⟩,
    .op ⟨(some 10), none, (.e (.call n_words_Split [(.t 9)]))⟩,
    .op ⟨(some 4), none, (.r (.mv (.t 10)))⟩])
  (.seq (.seq (.region [.op ⟨(some 11), none, (.r (.mv (.t 4)))⟩,
    .op ⟨(some 12), none, (.r (.lensl (.t 11)))⟩,
    .op ⟨(some 13), none, (.r (.bin .eql (.t 12) (.c (.int .i64 (.ofNat 0)))))⟩])
  (.cond (.t 13)
   (.seq (.region [.op ⟨(some 14), none, (.r (.build [(.int .i64 (.ofNat 0)), .nils, (.int .i64 (.ofNat 0)), (.int .i64 (.ofNat 0)), (.int .i64 (.ofNat 0)), (.int .i64 (.ofNat 0)), (.int .u64 (.ofNat 0)), (.bool false), (.str [])] []))⟩,
     .op ⟨none, none, (.e (.store 9 (.t 2) (.t 14)))⟩,
     .op ⟨(some 3), none, (.r (.mv (.c (.int .i64 (.ofNat 4)))))⟩])
   .ret)
   .skip))
  (.seq (.region [.op ⟨(some 16), none, (.r (.mv (.t 4)))⟩,
    .op ⟨(some 17), none, (.r (.iasl 1 (.t 16) (.c (.int .i64 (.ofNat 0)))))⟩,
    .op ⟨(some 18), none, (.r (.load false 1 (.t 17)))⟩,
    .op ⟨(some 19), none, (.e (.call n_words_shapeOf [(.t 18)]))⟩,
    .op ⟨(some 15), none, (.r (.mv (.t 19)))⟩,
    .op ⟨(some 20), none, (.r (.ext 0 (.t 15)))⟩,
    .op ⟨(some 21), none, (.r (.ext 1 (.t 15)))⟩,
    .op ⟨(some 5), none, (.n (.new 0 [(.int .i64 (.ofNat 0)), (.int .i64 (.ofNat 0)), (.int .i64 (.ofNat 0)), (.bool false)]))⟩,
    .op ⟨none, none, (.e (.store 4 (.t 5) (.t 20)))⟩,
    .op ⟨(some 6), none, (.r (.mv (.t 21)))⟩])
  (.seq (.region [.op ⟨(some 22), none, (.r (.mv (.t 4)))⟩,
    .op ⟨(some 23), none, (.r (.slsl 1 (.t 22) (some (.c (.int .i64 (.ofNat 1)))) none none))⟩,
    .op ⟨(some 4), none, (.r (.mv (.t 23)))⟩])
  (.seq (.region [.op ⟨(some 24), none, (.r (.faddr 0 (.t 5)))⟩,
    .op ⟨(some 25), none, (.r (.load false 1 (.t 24)))⟩,
    .op ⟨(some 26), none, (.r (.build [(.int .i64 (.ofNat 0)), .nils, (.int .i64 (.ofNat 0)), (.int .i64 (.ofNat 0)), (.int .i64 (.ofNat 0)), (.int .i64 (.ofNat 0)), (.int .u64 (.ofNat 0)), (.bool false), (.str [])] [(0, 1, (.t 25))]))⟩,
    .op ⟨(some 7), none, (.n (.new 0 [(.int .i64 (.ofNat 0)), .nils, (.int .i64 (.ofNat 0)), (.int .i64 (.ofNat 0)), (.int .i64 (.ofNat 0)), (.int .i64 (.ofNat 0)), (.int .u64 (.ofNat 0)), (.bool false), (.str [])]))⟩,
    .op ⟨none, none, (.e (.store 9 (.t 7) (.t 26)))⟩])
  (.seq (.seq (.region [.op ⟨(some 27), none, (.r (.mv (.t 4)))⟩,
    .op ⟨(some 28), none, (.r (.lensl (.t 27)))⟩,
    .op ⟨(some 8), none, (.r (.mv (.t 28)))⟩])
  (.seq (.region [.op ⟨(some 29), none, (.r (.faddr 3 (.t 5)))⟩,
    .op ⟨(some 30), none, (.r (.load false 1 (.t 29)))⟩,
    .op ⟨(some 31), none, (.r (.mv (.t 30)))⟩,
    .op ⟨(some 32), (some (31, true)), (.r (.mv (.t 8)))⟩,
    .op ⟨(some 33), (some (31, true)), (.r (.faddr 1 (.t 5)))⟩,
    .op ⟨(some 34), (some (31, true)), (.r (.load false 1 (.t 33)))⟩,
    .op ⟨(some 35), (some (31, true)), (.r (.bin .gtr (.t 32) (.t 34)))⟩,
    .op ⟨(some 36), none, (.r (.pick (.t 31) (.t 35) (.c (.bool false))))⟩,
    .op ⟨(some 37), none, (.r (.mv (.t 36)))⟩,
    .op ⟨(some 38), (some (37, true)), (.r (.mv (.t 4)))⟩,
    .op ⟨(some 39), (some (37, true)), (.r (.mv (.t 8)))⟩,
    .op ⟨(some 40), (some (37, true)), (.r (.bin .sub (.t 39) (.c (.int .i64 (.ofNat 1)))))⟩,
    .op ⟨(some 41), (some (37, true)), (.r (.iasl 1 (.t 38) (.t 40)))⟩,
    .op ⟨(some 42), (some (37, true)), (.r (.load false 1 (.t 41)))⟩,
    .op ⟨(some 43), (some (37, true)), (.r (.bin .eql (.t 42) (.c (.str [110, 111, 114, 101, 112, 108, 121]))))⟩,
    .op ⟨(some 44), none, (.r (.pick (.t 37) (.t 43) (.c (.bool false))))⟩])
  (.cond (.t 44)
   (.region [.op ⟨(some 45), none, (.r (.mv (.t 4)))⟩,
     .op ⟨(some 46), none, (.r (.mv (.t 8)))⟩,
     .op ⟨(some 47), none, (.r (.bin .sub (.t 46) (.c (.int .i64 (.ofNat 1)))))⟩,
     .op ⟨(some 48), none, (.r (.slsl 1 (.t 45) none (some (.t 47)) none))⟩,
     .op ⟨(some 49), none, (.r (.faddr 7 (.t 7)))⟩,
     .op ⟨none, none, (.e (.store 1 (.t 49) (.c (.bool true))))⟩,
     .again ⟨(some 48), none, (.r (.slsl 1 (.t 45) none (some (.t 47)) none))⟩,
     .op ⟨(some 4), none, (.r (.mv (.t 48)))⟩])
   .skip)))
  (.seq (.seq (.region [.op ⟨(some 50), none, (.r (.mv (.t 6)))⟩,
    .op ⟨(some 51), none, (.r (.un .not (.t 50)))⟩,
    .op ⟨(some 52), none, (.r (.mv (.t 51)))⟩,
    .op ⟨(some 53), (some (52, false)), (.r (.mv (.t 4)))⟩,
    .op ⟨(some 54), (some (52, false)), (.r (.lensl (.t 53)))⟩,
    .op ⟨(some 55), (some (52, false)), (.r (.faddr 1 (.t 5)))⟩,
    .op ⟨(some 56), (some (52, false)), (.r (.load false 1 (.t 55)))⟩,
    .op ⟨(some 57), (some (52, false)), (.r (.bin .lss (.t 54) (.t 56)))⟩,
    .op ⟨(some 58), none, (.r (.pick (.t 52) (.c (.bool true)) (.t 57)))⟩,
    .op ⟨(some 59), none, (.r (.mv (.t 58)))⟩,
    .op ⟨(some 60), (some (59, false)), (.r (.mv (.t 4)))⟩,
    .op ⟨(some 61), (some (59, false)), (.r (.lensl (.t 60)))⟩,
    .op ⟨(some 62), (some (59, false)), (.r (.faddr 2 (.t 5)))⟩,
    .op ⟨(some 63), (some (59, false)), (.r (.load false 1 (.t 62)))⟩,
    .op ⟨(some 64), (some (59, false)), (.r (.bin .gtr (.t 61) (.t 63)))⟩,
    .op ⟨(some 65), none, (.r (.pick (.t 59) (.c (.bool true)) (.t 64)))⟩])
  (.cond (.t 65)
   (.seq (.region [.op ⟨(some 66), none, (.r (.build [(.int .i64 (.ofNat 0)), .nils, (.int .i64 (.ofNat 0)), (.int .i64 (.ofNat 0)), (.int .i64 (.ofNat 0)), (.int .i64 (.ofNat 0)), (.int .u64 (.ofNat 0)), (.bool false), (.str [])] []))⟩,
     .op ⟨none, none, (.e (.store 9 (.t 2) (.t 66)))⟩,
     .op ⟨(some 3), none, (.r (.mv (.c (.int .i64 (.ofNat 4)))))⟩])
   .ret)
   .skip))
  (.seq (.seq (.region [.op ⟨(some 67), none, (.r (.mv (.t 4)))⟩,
    .op ⟨(some 68), none, (.e (.call n_words_fill [(.t 7), (.t 67)]))⟩,
    .op ⟨(some 69), none, (.r (.un .not (.t 68)))⟩])
  (.cond (.t 69)
   (.seq (.region [.op ⟨(some 70), none, (.r (.build [(.int .i64 (.ofNat 0)), .nils, (.int .i64 (.ofNat 0)), (.int .i64 (.ofNat 0)), (.int .i64 (.ofNat 0)), (.int .i64 (.ofNat 0)), (.int .u64 (.ofNat 0)), (.bool false), (.str [])] []))⟩,
     .op ⟨none, none, (.e (.store 9 (.t 2) (.t 70)))⟩,
     .op ⟨(some 3), none, (.r (.mv (.c (.int .i64 (.ofNat 1)))))⟩])
   .ret)
   .skip))
  (.seq (.region [.op ⟨(some 71), none, (.r (.load true 9 (.t 7)))⟩,
    .op ⟨none, none, (.e (.store 9 (.t 2) (.t 71)))⟩,
    .op ⟨(some 3), none, (.r (.mv (.c (.int .i64 (.ofNat 0)))))⟩])
  .ret)))))))))) }
theorem tr_words_Line : trF cx Tryd.f29 = pf_words_Line := by kernel_rfl
/-- internal/strconv.Itoa -/
def pf_internal_strconv_Itoa : PF := { ntmps := 5, results := [.tmp 2], body :=
  (.seq (.region [.op ⟨(some 2), none, (.r (.mv (.c (.str []))))⟩])
  (.seq (.region [.op ⟨(some 3), none, (.r (.mv (.t 0)))⟩,
    .op ⟨(some 4), none, (.e (.call n_internal_strconv_FormatInt [(.t 3), (.c (.int .i64 (.ofNat 10)))]))⟩,
    .op ⟨(some 2), none, (.r (.mv (.t 4)))⟩])
  .ret)) }
theorem tr_internal_strconv_Itoa : trF cx Tryd.f32 = pf_internal_strconv_Itoa := by kernel_rfl
/-- (*depot/parse.Parser).line -/
def pf_parse_Parser_line : PF := { ntmps := 113, results := [.tmp 2], body :=
  (.seq (.region [.op ⟨(some 2), none, (.r (.mv (.c (.bool false))))⟩])
  (.seq (.region [.op ⟨(some 7), none, (.r (.mv (.t 0)))⟩,
    .op ⟨(some 8), none, (.r (.nilck (.t 7)))⟩,
    .op ⟨(some 9), none, (.r (.faddr 1 (.t 8)))⟩,
    .op ⟨(some 10), none, (.r (.load false 1 (.t 9)))⟩,
    .op ⟨(some 11), none, (.e (.call n_strings_IndexByte [(.t 10), (.c (.int .u8 (.ofNat 10)))]))⟩,
    .op ⟨(some 3), none, (.r (.mv (.t 11)))⟩])
  (.seq (.seq (.region [.op ⟨(some 12), none, (.r (.mv (.t 3)))⟩,
    .op ⟨(some 13), none, (.r (.bin .gtr (.t 12) (.c (.int .i64 (.ofNat 2048)))))⟩,
    .op ⟨(some 14), none, (.r (.mv (.t 13)))⟩,
    .op ⟨(some 15), (some (14, false)), (.r (.mv (.t 3)))⟩,
    .op ⟨(some 16), (some (14, false)), (.r (.bin .lss (.t 15) (.c (.int .i64 (.ofNat 0)))))⟩,
    .op ⟨(some 17), (some (14, false)), (.r (.mv (.t 16)))⟩,
    .op ⟨(some 18), (some (17, true)), (.r (.mv (.t 0)))⟩,
    .op ⟨(some 19), (some (17, true)), (.r (.nilck (.t 18)))⟩,
    .op ⟨(some 20), (some (17, true)), (.r (.faddr 1 (.t 19)))⟩,
    .op ⟨(some 21), (some (17, true)), (.r (.load false 1 (.t 20)))⟩,
    .op ⟨(some 22), (some (17, true)), (.r (.lens (.t 21)))⟩,
    .op ⟨(some 23), (some (17, true)), (.r (.bin .gtr (.t 22) (.c (.int .i64 (.ofNat 2048)))))⟩,
    .op ⟨(some 24), (some (14, false)), (.r (.pick (.t 17) (.t 23) (.c (.bool false))))⟩,
    .op ⟨(some 25), none, (.r (.pick (.t 14) (.c (.bool true)) (.t 24)))⟩])
  (.cond (.t 25)
   (.seq (.region [.op ⟨(some 26), none, (.r (.mv (.t 0)))⟩,
     .op ⟨(some 27), none, (.e (.call n_parse_Parser_end [(.t 26)]))⟩])
   (.seq (.region [.op ⟨(some 2), none, (.r (.mv (.c (.bool true))))⟩])
   .ret))
   .skip))
  (.seq (.seq (.region [.op ⟨(some 28), none, (.r (.mv (.t 3)))⟩,
    .op ⟨(some 29), none, (.r (.bin .lss (.t 28) (.c (.int .i64 (.ofNat 0)))))⟩])
  (.cond (.t 29)
   (.seq (.region [.op ⟨(some 2), none, (.r (.mv (.c (.bool false))))⟩])
   .ret)
   .skip))
  (.seq (.region [.op ⟨(some 30), none, (.r (.mv (.t 0)))⟩,
    .op ⟨(some 31), none, (.r (.nilck (.t 30)))⟩,
    .op ⟨(some 32), none, (.r (.faddr 1 (.t 31)))⟩,
    .op ⟨(some 33), none, (.r (.load false 1 (.t 32)))⟩,
    .op ⟨(some 34), none, (.r (.mv (.t 3)))⟩,
    .op ⟨(some 35), none, (.r (.slstr (.t 33) none (some (.t 34))))⟩,
    .op ⟨(some 36), none, (.e (.call n_strings_TrimSuffix [(.t 35), (.c (.str [13]))]))⟩,
    .op ⟨(some 4), none, (.r (.mv (.t 36)))⟩])
  (.seq (.region [.op ⟨(some 37), none, (.r (.mv (.t 0)))⟩,
    .op ⟨(some 38), none, (.r (.mv (.t 0)))⟩,
    .op ⟨(some 39), none, (.r (.nilck (.t 38)))⟩,
    .op ⟨(some 40), none, (.r (.faddr 1 (.t 39)))⟩,
    .op ⟨(some 41), none, (.r (.load false 1 (.t 40)))⟩,
    .op ⟨(some 42), none, (.r (.mv (.t 3)))⟩,
    .op ⟨(some 43), none, (.r (.bin .add (.t 42) (.c (.int .i64 (.ofNat 1)))))⟩,
    .op ⟨(some 44), none, (.r (.slstr (.t 41) (some (.t 43)) none))⟩,
    .op ⟨(some 45), none, (.r (.nilck (.t 37)))⟩,
    .op ⟨(some 46), none, (.r (.faddr 1 (.t 45)))⟩,
    .op ⟨none, none, (.e (.store 1 (.t 46) (.t 44)))⟩])
  (.seq (.region [.op ⟨(some 48), none, (.r (.mv (.t 4)))⟩,
    .op ⟨(some 49), none, (.e (.call n_words_Line [(.t 48)]))⟩,
    .op ⟨(some 47), none, (.r (.mv (.t 49)))⟩,
    .op ⟨(some 50), none, (.r (.ext 0 (.t 47)))⟩,
    .op ⟨(some 51), none, (.r (.ext 1 (.t 47)))⟩,
    .op ⟨(some 5), none, (.n (.new 0 [(.int .i64 (.ofNat 0)), .nils, (.int .i64 (.ofNat 0)), (.int .i64 (.ofNat 0)), (.int .i64 (.ofNat 0)), (.int .i64 (.ofNat 0)), (.int .u64 (.ofNat 0)), (.bool false), (.str [])]))⟩,
    .op ⟨none, none, (.e (.store 9 (.t 5) (.t 50)))⟩,
    .op ⟨(some 6), none, (.r (.mv (.t 51)))⟩])
  (.seq (.block 0 (.seq (.region [.op ⟨(some 64), none, (.r (.mv (.t 6)))⟩,
     .op ⟨(some 65), none, (.r (.bin .eql (.t 64) (.c (.int .i64 (.ofNat 4)))))⟩,
     .op ⟨(some 63), none, (.r (.mv (.t 65)))⟩])
   (.cond (.t 63)
    (.region [.op ⟨(some 66), none, (.r (.mv (.t 0)))⟩,
      .op ⟨(some 67), none, (.e (.call n_parse_Parser_say [(.t 66), (.c (.int .i64 (.ofNat 12))), (.c (.str []))]))⟩])
    (.seq (.region [.op ⟨(some 69), none, (.r (.mv (.t 6)))⟩,
      .op ⟨(some 70), none, (.r (.bin .neq (.t 69) (.c (.int .i64 (.ofNat 0)))))⟩,
      .op ⟨(some 68), none, (.r (.mv (.t 70)))⟩])
    (.cond (.t 68)
     (.region [.op ⟨(some 71), none, (.r (.mv (.t 0)))⟩,
       .op ⟨(some 72), none, (.e (.call n_parse_Parser_say [(.t 71), (.c (.int .i64 (.ofNat 13))), (.c (.str [98, 97, 100, 32, 99, 111, 109, 109, 97, 110, 100, 32, 108, 105, 110, 101, 32, 102, 111, 114, 109, 97, 116]))]))⟩])
     (.seq (.region [.op ⟨(some 74), none, (.r (.faddr 0 (.t 5)))⟩,
       .op ⟨(some 75), none, (.r (.load false 1 (.t 74)))⟩,
       .op ⟨(some 76), none, (.r (.bin .eql (.t 75) (.c (.int .i64 (.ofNat 17)))))⟩,
       .op ⟨(some 73), none, (.r (.mv (.t 76)))⟩])
     (.cond (.t 73)
      (.region [.op ⟨(some 77), none, (.r (.mv (.t 0)))⟩,
        .op ⟨(some 78), none, (.e (.call n_parse_Parser_end [(.t 77)]))⟩])
      (.seq (.region [.op ⟨(some 80), none, (.r (.faddr 0 (.t 5)))⟩,
        .op ⟨(some 81), none, (.r (.load false 1 (.t 80)))⟩,
        .op ⟨(some 82), none, (.e (.call n_words_Storing [(.t 81)]))⟩,
        .op ⟨(some 83), none, (.r (.mv (.t 82)))⟩,
        .op ⟨(some 84), (some (83, true)), (.r (.faddr 4 (.t 5)))⟩,
        .op ⟨(some 85), (some (83, true)), (.r (.load false 1 (.t 84)))⟩,
        .op ⟨(some 86), (some (83, true)), (.r (.bin .gtr (.t 85) (.c (.int .i64 (.ofNat 1048576)))))⟩,
        .op ⟨(some 87), none, (.r (.pick (.t 83) (.t 86) (.c (.bool false))))⟩,
        .op ⟨(some 79), none, (.r (.mv (.t 87)))⟩])
      (.cond (.t 79)
       (.seq (.seq (.region [.op ⟨(some 88), none, (.r (.faddr 7 (.t 5)))⟩,
         .op ⟨(some 89), none, (.r (.load false 1 (.t 88)))⟩,
         .op ⟨(some 90), none, (.r (.un .not (.t 89)))⟩])
       (.cond (.t 90)
        (.region [.op ⟨(some 91), none, (.r (.mv (.t 0)))⟩,
          .op ⟨(some 92), none, (.e (.call n_parse_Parser_say [(.t 91), (.c (.int .i64 (.ofNat 14))), (.c (.str [111, 98, 106, 101, 99, 116, 32, 116, 111, 111, 32, 108, 97, 114, 103, 101, 32, 102, 111, 114, 32, 99, 97, 99, 104, 101]))]))⟩])
        .skip))
       (.region [.op ⟨(some 93), none, (.r (.mv (.t 0)))⟩,
         .op ⟨(some 94), none, (.r (.mv (.t 0)))⟩,
         .op ⟨(some 95), none, (.r (.faddr 4 (.t 5)))⟩,
         .op ⟨(some 96), none, (.r (.load false 1 (.t 95)))⟩,
         .op ⟨(some 97), none, (.r (.bin .add (.t 96) (.c (.int .i64 (.ofNat 2)))))⟩,
         .op ⟨(some 98), none, (.r (.nilck (.t 93)))⟩,
         .op ⟨(some 99), none, (.r (.faddr 0 (.t 98)))⟩,
         .op ⟨none, none, (.e (.store 1 (.t 99) (.c (.int .i64 (.ofNat 2)))))⟩,
         .again ⟨(some 96), none, (.r (.load false 1 (.t 95)))⟩,
         .op ⟨(some 100), none, (.r (.nilck (.t 94)))⟩,
         .op ⟨(some 101), none, (.r (.faddr 2 (.t 100)))⟩,
         .op ⟨none, none, (.e (.store 1 (.t 101) (.t 97)))⟩]))
       (.seq (.region [.op ⟨(some 103), none, (.r (.faddr 0 (.t 5)))⟩,
         .op ⟨(some 104), none, (.r (.load false 1 (.t 103)))⟩,
         .op ⟨(some 105), none, (.e (.call n_words_Storing [(.t 104)]))⟩,
         .op ⟨(some 102), none, (.r (.mv (.t 105)))⟩])
       (.cond (.t 102)
        (.region [.op ⟨(some 106), none, (.r (.mv (.t 0)))⟩,
          .op ⟨(some 107), none, (.r (.mv (.t 0)))⟩,
          .op ⟨(some 108), none, (.r (.load true 9 (.t 5)))⟩,
          .op ⟨(some 109), none, (.r (.nilck (.t 106)))⟩,
          .op ⟨(some 110), none, (.r (.faddr 0 (.t 109)))⟩,
          .op ⟨none, none, (.e (.store 1 (.t 110) (.c (.int .i64 (.ofNat 1)))))⟩,
          .again ⟨(some 108), none, (.r (.load true 9 (.t 5)))⟩,
          .op ⟨(some 111), none, (.r (.nilck (.t 107)))⟩,
          .op ⟨(some 112), none, (.r (.faddr 3 (.t 111)))⟩,
          .op ⟨none, none, (.e (.store 9 (.t 112) (.t 108)))⟩])
        (.region [.op ⟨(some 52), none, (.r (.mv (.t 0)))⟩,
          .op ⟨(some 53), none, (.r (.mv (.t 0)))⟩,
          .op ⟨(some 54), none, (.r (.nilck (.t 53)))⟩,
          .op ⟨(some 55), none, (.r (.faddr 13 (.t 54)))⟩,
          .op ⟨(some 56), none, (.r (.load false 1 (.t 55)))⟩,
          .op ⟨(some 57), none, (.r (.load true 9 (.t 5)))⟩,
          .op ⟨(some 58), none, (.r (.build [(.int .i64 (.ofNat 0)), .nils, (.int .i64 (.ofNat 0)), (.int .i64 (.ofNat 0)), (.int .i64 (.ofNat 0)), (.int .i64 (.ofNat 0)), (.int .u64 (.ofNat 0)), (.bool false), (.str []), (.int .i64 (.ofNat 0)), .nils, (.bool false), (.int .u64 (.ofNat 0)), (.str []), (.int .i64 (.ofNat 0)), (.int .i64 (.ofNat 0)), (.int .i64 (.ofNat 0)), (.int .i64 (.ofNat 0))] [(0, 9, (.t 57))]))⟩,
          .op ⟨(some 59), none, (.n (.bslice 0 18 1 [(.int .i64 (.ofNat 0)), .nils, (.int .i64 (.ofNat 0)), (.int .i64 (.ofNat 0)), (.int .i64 (.ofNat 0)), (.int .i64 (.ofNat 0)), (.int .u64 (.ofNat 0)), (.bool false), (.str []), (.int .i64 (.ofNat 0)), .nils, (.bool false), (.int .u64 (.ofNat 0)), (.str []), (.int .i64 (.ofNat 0)), (.int .i64 (.ofNat 0)), (.int .i64 (.ofNat 0)), (.int .i64 (.ofNat 0))] [(0, 18, (.t 58))]))⟩,
          .op ⟨(some 60), none, (.e (.app 0 18 192 (.t 56) (.t 59)))⟩,
          .op ⟨(some 61), none, (.r (.nilck (.t 52)))⟩,
          .op ⟨(some 62), none, (.r (.faddr 13 (.t 61)))⟩,
          .op ⟨none, none, (.e (.store 1 (.t 62) (.t 60)))⟩]))))))))))))
  (.seq (.region [.op ⟨(some 2), none, (.r (.mv (.c (.bool true))))⟩])
  .ret))))))))) }
theorem tr_parse_Parser_line : trF cx Tryd.f33 = pf_parse_Parser_line := by kernel_rfl
/-- (*depot/parse.Parser).data -/
def pf_parse_Parser_data : PF := { ntmps := 75, results := [.tmp 2], body :=
  (.seq (.region [.op ⟨(some 2), none, (.r (.mv (.c (.bool false))))⟩])
  (.seq (.region [.op ⟨(some 6), none, (.r (.mv (.t 0)))⟩,
    .op ⟨(some 7), none, (.r (.nilck (.t 6)))⟩,
    .op ⟨(some 8), none, (.r (.faddr 3 (.t 7)))⟩,
    .op ⟨(some 9), none, (.r (.faddr 4 (.t 8)))⟩,
    .op ⟨(some 10), none, (.r (.load false 1 (.t 9)))⟩,
    .op ⟨(some 3), none, (.r (.mv (.t 10)))⟩])
  (.seq (.seq (.region [.op ⟨(some 11), none, (.r (.mv (.t 0)))⟩,
    .op ⟨(some 12), none, (.r (.nilck (.t 11)))⟩,
    .op ⟨(some 13), none, (.r (.faddr 1 (.t 12)))⟩,
    .op ⟨(some 14), none, (.r (.load false 1 (.t 13)))⟩,
    .op ⟨(some 15), none, (.r (.lens (.t 14)))⟩,
    .op ⟨(some 16), none, (.r (.mv (.t 3)))⟩,
    .op ⟨(some 17), none, (.r (.bin .leq (.t 15) (.t 16)))⟩])
  (.cond (.t 17)
   (.seq (.region [.op ⟨(some 2), none, (.r (.mv (.c (.bool false))))⟩])
   .ret)
   .skip))
  (.seq (.region [.op ⟨(some 18), none, (.r (.mv (.t 0)))⟩,
    .op ⟨(some 19), none, (.r (.nilck (.t 18)))⟩,
    .op ⟨(some 20), none, (.r (.faddr 1 (.t 19)))⟩,
    .op ⟨(some 21), none, (.r (.load false 1 (.t 20)))⟩,
    .op ⟨(some 22), none, (.r (.mv (.t 3)))⟩,
    .op ⟨(some 23), none, (.r (.slstr (.t 21) (some (.t 22)) none))⟩,
    .op ⟨(some 4), none, (.r (.mv (.t 23)))⟩])
  (.seq (.seq (.region [.op ⟨(some 24), none, (.r (.mv (.t 4)))⟩,
    .op ⟨(some 25), none, (.r (.bin .eql (.t 24) (.c (.str [13]))))⟩])
  (.cond (.t 25)
   (.seq (.region [.op ⟨(some 2), none, (.r (.mv (.c (.bool false))))⟩])
   .ret)
   .skip))
  (.seq (.seq (.region [.op ⟨(some 26), none, (.r (.mv (.t 4)))⟩,
    .op ⟨(some 27), none, (.e (.call n_strings_HasPrefix [(.t 26), (.c (.str [13, 10]))]))⟩])
  (.cond (.t 27)
   (.seq (.region [.op ⟨(some 28), none, (.r (.mv (.t 0)))⟩,
     .op ⟨(some 29), none, (.r (.nilck (.t 28)))⟩,
     .op ⟨(some 30), none, (.r (.faddr 3 (.t 29)))⟩,
     .op ⟨(some 31), none, (.r (.load true 9 (.t 30)))⟩,
     .op ⟨(some 5), none, (.n (.new 0 [(.int .i64 (.ofNat 0)), .nils, (.int .i64 (.ofNat 0)), (.int .i64 (.ofNat 0)), (.int .i64 (.ofNat 0)), (.int .i64 (.ofNat 0)), (.int .u64 (.ofNat 0)), (.bool false), (.str [])]))⟩,
     .op ⟨none, none, (.e (.store 9 (.t 5) (.t 31)))⟩])
   (.seq (.region [.op ⟨(some 32), none, (.r (.mv (.t 0)))⟩,
     .op ⟨(some 33), none, (.r (.nilck (.t 32)))⟩,
     .op ⟨(some 34), none, (.r (.faddr 1 (.t 33)))⟩,
     .op ⟨(some 35), none, (.r (.load false 1 (.t 34)))⟩,
     .op ⟨(some 36), none, (.r (.mv (.t 3)))⟩,
     .op ⟨(some 37), none, (.r (.slstr (.t 35) none (some (.t 36))))⟩,
     .op ⟨(some 38), none, (.r (.faddr 8 (.t 5)))⟩,
     .op ⟨none, none, (.e (.store 1 (.t 38) (.t 37)))⟩])
   (.seq (.region [.op ⟨(some 39), none, (.r (.mv (.t 0)))⟩,
     .op ⟨(some 40), none, (.r (.mv (.t 0)))⟩,
     .op ⟨(some 41), none, (.r (.nilck (.t 40)))⟩,
     .op ⟨(some 42), none, (.r (.faddr 13 (.t 41)))⟩,
     .op ⟨(some 43), none, (.r (.load false 1 (.t 42)))⟩,
     .op ⟨(some 44), none, (.r (.load true 9 (.t 5)))⟩,
     .op ⟨(some 45), none, (.r (.build [(.int .i64 (.ofNat 0)), .nils, (.int .i64 (.ofNat 0)), (.int .i64 (.ofNat 0)), (.int .i64 (.ofNat 0)), (.int .i64 (.ofNat 0)), (.int .u64 (.ofNat 0)), (.bool false), (.str []), (.int .i64 (.ofNat 0)), .nils, (.bool false), (.int .u64 (.ofNat 0)), (.str []), (.int .i64 (.ofNat 0)), (.int .i64 (.ofNat 0)), (.int .i64 (.ofNat 0)), (.int .i64 (.ofNat 0))] [(0, 9, (.t 44))]))⟩,
     .op ⟨(some 46), none, (.n (.bslice 0 18 1 [(.int .i64 (.ofNat 0)), .nils, (.int .i64 (.ofNat 0)), (.int .i64 (.ofNat 0)), (.int .i64 (.ofNat 0)), (.int .i64 (.ofNat 0)), (.int .u64 (.ofNat 0)), (.bool false), (.str []), (.int .i64 (.ofNat 0)), .nils, (.bool false), (.int .u64 (.ofNat 0)), (.str []), (.int .i64 (.ofNat 0)), (.int .i64 (.ofNat 0)), (.int .i64 (.ofNat 0)), (.int .i64 (.ofNat 0))] [(0, 18, (.t 45))]))⟩,
     .op ⟨(some 47), none, (.e (.app 0 18 192 (.t 43) (.t 46)))⟩,
     .op ⟨(some 48), none, (.r (.nilck (.t 39)))⟩,
     .op ⟨(some 49), none, (.r (.faddr 13 (.t 48)))⟩,
     .op ⟨none, none, (.e (.store 1 (.t 49) (.t 47)))⟩])
   (.seq (.region [.op ⟨(some 50), none, (.r (.mv (.t 0)))⟩,
     .op ⟨(some 51), none, (.r (.mv (.t 0)))⟩,
     .op ⟨(some 52), none, (.r (.mv (.t 0)))⟩,
     .op ⟨(some 53), none, (.r (.mv (.t 4)))⟩,
     .op ⟨(some 54), none, (.r (.slstr (.t 53) (some (.c (.int .i64 (.ofNat 2)))) none))⟩,
     .op ⟨(some 55), none, (.r (.build [(.int .i64 (.ofNat 0)), .nils, (.int .i64 (.ofNat 0)), (.int .i64 (.ofNat 0)), (.int .i64 (.ofNat 0)), (.int .i64 (.ofNat 0)), (.int .u64 (.ofNat 0)), (.bool false), (.str [])] []))⟩,
     .op ⟨(some 56), none, (.r (.nilck (.t 50)))⟩,
     .op ⟨(some 57), none, (.r (.faddr 0 (.t 56)))⟩,
     .op ⟨none, none, (.e (.store 1 (.t 57) (.c (.int .i64 (.ofNat 0)))))⟩,
     .op ⟨(some 58), none, (.r (.nilck (.t 51)))⟩,
     .op ⟨(some 59), none, (.r (.faddr 1 (.t 58)))⟩,
     .op ⟨none, none, (.e (.store 1 (.t 59) (.t 54)))⟩,
     .op ⟨(some 60), none, (.r (.nilck (.t 52)))⟩,
     .op ⟨(some 61), none, (.r (.faddr 3 (.t 60)))⟩,
     .op ⟨none, none, (.e (.store 9 (.t 61) (.t 55)))⟩])
   (.seq (.region [.op ⟨(some 2), none, (.r (.mv (.c (.bool true))))⟩])
   .ret)))))
   .skip))
  (.seq (.region [.op ⟨(some 62), none, (.r (.mv (.t 0)))⟩,
    .op ⟨(some 63), none, (.e (.call n_parse_Parser_say [(.t 62), (.c (.int .i64 (.ofNat 13))), (.c (.str [98, 97, 100, 32, 100, 97, 116, 97, 32, 99, 104, 117, 110, 107]))]))⟩])
  (.seq (.region [.op ⟨(some 64), none, (.r (.mv (.t 0)))⟩,
    .op ⟨(some 65), none, (.r (.mv (.t 0)))⟩,
    .op ⟨(some 66), none, (.r (.mv (.t 0)))⟩,
    .op ⟨(some 67), none, (.r (.mv (.t 4)))⟩,
    .op ⟨(some 68), none, (.r (.build [(.int .i64 (.ofNat 0)), .nils, (.int .i64 (.ofNat 0)), (.int .i64 (.ofNat 0)), (.int .i64 (.ofNat 0)), (.int .i64 (.ofNat 0)), (.int .u64 (.ofNat 0)), (.bool false), (.str [])] []))⟩,
    .op ⟨(some 69), none, (.r (.nilck (.t 64)))⟩,
    .op ⟨(some 70), none, (.r (.faddr 0 (.t 69)))⟩,
    .op ⟨none, none, (.e (.store 1 (.t 70) (.c (.int .i64 (.ofNat 3)))))⟩,
    .op ⟨(some 71), none, (.r (.nilck (.t 65)))⟩,
    .op ⟨(some 72), none, (.r (.faddr 1 (.t 71)))⟩,
    .op ⟨none, none, (.e (.store 1 (.t 72) (.t 67)))⟩,
    .op ⟨(some 73), none, (.r (.nilck (.t 66)))⟩,
    .op ⟨(some 74), none, (.r (.faddr 3 (.t 73)))⟩,
    .op ⟨none, none, (.e (.store 9 (.t 74) (.t 68)))⟩])
  (.seq (.region [.op ⟨(some 2), none, (.r (.mv (.c (.bool true))))⟩])
  .ret))))))))) }
theorem tr_parse_Parser_data : trF cx Tryd.f34 = pf_parse_Parser_data := by kernel_rfl
/-- (*depot/parse.Parser).past -/
def pf_parse_Parser_past : PF := { ntmps := 45, results := [.tmp 2], body :=
  (.seq (.region [.op ⟨(some 2), none, (.r (.mv (.c (.bool false))))⟩])
  (.seq (.seq (.region [.op ⟨(some 4), none, (.r (.mv (.t 0)))⟩,
    .op ⟨(some 5), none, (.r (.nilck (.t 4)))⟩,
    .op ⟨(some 6), none, (.r (.faddr 1 (.t 5)))⟩,
    .op ⟨(some 7), none, (.r (.load false 1 (.t 6)))⟩,
    .op ⟨(some 8), none, (.r (.bin .eql (.t 7) (.c (.str []))))⟩])
  (.cond (.t 8)
   (.seq (.region [.op ⟨(some 2), none, (.r (.mv (.c (.bool false))))⟩])
   .ret)
   .skip))
  (.seq (.region [.op ⟨(some 9), none, (.r (.mv (.t 0)))⟩,
    .op ⟨(some 10), none, (.r (.nilck (.t 9)))⟩,
    .op ⟨(some 11), none, (.r (.faddr 2 (.t 10)))⟩,
    .op ⟨(some 12), none, (.r (.load false 1 (.t 11)))⟩,
    .op ⟨(some 13), none, (.r (.mv (.t 0)))⟩,
    .op ⟨(some 14), none, (.r (.nilck (.t 13)))⟩,
    .op ⟨(some 15), none, (.r (.faddr 1 (.t 14)))⟩,
    .op ⟨(some 16), none, (.r (.load false 1 (.t 15)))⟩,
    .op ⟨(some 17), none, (.r (.lens (.t 16)))⟩,
    .op ⟨(some 18), none, (.r (.minmax false [(.t 12), (.t 17)]))⟩,
    .op ⟨(some 3), none, (.r (.mv (.t 18)))⟩])
  (.seq (.region [.op ⟨(some 19), none, (.r (.mv (.t 0)))⟩,
    .op ⟨(some 20), none, (.r (.mv (.t 0)))⟩,
    .op ⟨(some 21), none, (.r (.mv (.t 0)))⟩,
    .op ⟨(some 22), none, (.r (.nilck (.t 21)))⟩,
    .op ⟨(some 23), none, (.r (.faddr 1 (.t 22)))⟩,
    .op ⟨(some 24), none, (.r (.load false 1 (.t 23)))⟩,
    .op ⟨(some 25), none, (.r (.mv (.t 3)))⟩,
    .op ⟨(some 26), none, (.r (.slstr (.t 24) (some (.t 25)) none))⟩,
    .op ⟨(some 27), none, (.r (.mv (.t 0)))⟩,
    .op ⟨(some 28), none, (.r (.nilck (.t 27)))⟩,
    .op ⟨(some 29), none, (.r (.faddr 2 (.t 28)))⟩,
    .op ⟨(some 30), none, (.r (.load false 1 (.t 29)))⟩,
    .op ⟨(some 31), none, (.r (.mv (.t 3)))⟩,
    .op ⟨(some 32), none, (.r (.bin .sub (.t 30) (.t 31)))⟩,
    .op ⟨(some 33), none, (.r (.nilck (.t 19)))⟩,
    .op ⟨(some 34), none, (.r (.faddr 1 (.t 33)))⟩,
    .op ⟨none, none, (.e (.store 1 (.t 34) (.t 26)))⟩,
    .op ⟨(some 35), none, (.r (.nilck (.t 20)))⟩,
    .op ⟨(some 36), none, (.r (.faddr 2 (.t 35)))⟩,
    .op ⟨none, none, (.e (.store 1 (.t 36) (.t 32)))⟩])
  (.seq (.seq (.region [.op ⟨(some 37), none, (.r (.mv (.t 0)))⟩,
    .op ⟨(some 38), none, (.r (.nilck (.t 37)))⟩,
    .op ⟨(some 39), none, (.r (.faddr 2 (.t 38)))⟩,
    .op ⟨(some 40), none, (.r (.load false 1 (.t 39)))⟩,
    .op ⟨(some 41), none, (.r (.bin .eql (.t 40) (.c (.int .i64 (.ofNat 0)))))⟩])
  (.cond (.t 41)
   (.region [.op ⟨(some 42), none, (.r (.mv (.t 0)))⟩,
     .op ⟨(some 43), none, (.r (.nilck (.t 42)))⟩,
     .op ⟨(some 44), none, (.r (.faddr 0 (.t 43)))⟩,
     .op ⟨none, none, (.e (.store 1 (.t 44) (.c (.int .i64 (.ofNat 0)))))⟩])
   .skip))
  (.seq (.region [.op ⟨(some 2), none, (.r (.mv (.c (.bool true))))⟩])
  .ret)))))) }
theorem tr_parse_Parser_past : trF cx Tryd.f35 = pf_parse_Parser_past := by kernel_rfl
/-- (*depot/parse.Parser).broken -/
def pf_parse_Parser_broken : PF := { ntmps := 27, results := [.tmp 2], body :=
  (.seq (.region [.op ⟨(some 2), none, (.r (.mv (.c (.bool false))))⟩])
  (.seq (.region [.op ⟨(some 4), none, (.r (.mv (.t 0)))⟩,
    .op ⟨(some 5), none, (.r (.nilck (.t 4)))⟩,
    .op ⟨(some 6), none, (.r (.faddr 1 (.t 5)))⟩,
    .op ⟨(some 7), none, (.r (.load false 1 (.t 6)))⟩,
    .op ⟨(some 8), none, (.e (.call n_strings_IndexByte [(.t 7), (.c (.int .u8 (.ofNat 10)))]))⟩,
    .op ⟨(some 3), none, (.r (.mv (.t 8)))⟩])
  (.seq (.seq (.region [.op ⟨(some 9), none, (.r (.mv (.t 3)))⟩,
    .op ⟨(some 10), none, (.r (.bin .lss (.t 9) (.c (.int .i64 (.ofNat 0)))))⟩])
  (.cond (.t 10)
   (.seq (.region [.op ⟨(some 11), none, (.r (.mv (.t 0)))⟩,
     .op ⟨(some 12), none, (.r (.nilck (.t 11)))⟩,
     .op ⟨(some 13), none, (.r (.faddr 1 (.t 12)))⟩,
     .op ⟨none, none, (.e (.store 1 (.t 13) (.c (.str []))))⟩])
   (.seq (.region [.op ⟨(some 2), none, (.r (.mv (.c (.bool false))))⟩])
   .ret))
   .skip))
  (.seq (.region [.op ⟨(some 14), none, (.r (.mv (.t 0)))⟩,
    .op ⟨(some 15), none, (.r (.mv (.t 0)))⟩,
    .op ⟨(some 16), none, (.r (.mv (.t 0)))⟩,
    .op ⟨(some 17), none, (.r (.nilck (.t 16)))⟩,
    .op ⟨(some 18), none, (.r (.faddr 1 (.t 17)))⟩,
    .op ⟨(some 19), none, (.r (.load false 1 (.t 18)))⟩,
    .op ⟨(some 20), none, (.r (.mv (.t 3)))⟩,
    .op ⟨(some 21), none, (.r (.bin .add (.t 20) (.c (.int .i64 (.ofNat 1)))))⟩,
    .op ⟨(some 22), none, (.r (.slstr (.t 19) (some (.t 21)) none))⟩,
    .op ⟨(some 23), none, (.r (.nilck (.t 14)))⟩,
    .op ⟨(some 24), none, (.r (.faddr 0 (.t 23)))⟩,
    .op ⟨none, none, (.e (.store 1 (.t 24) (.c (.int .i64 (.ofNat 0)))))⟩,
    .op ⟨(some 25), none, (.r (.nilck (.t 15)))⟩,
    .op ⟨(some 26), none, (.r (.faddr 1 (.t 25)))⟩,
    .op ⟨none, none, (.e (.store 1 (.t 26) (.t 22)))⟩])
  (.seq (.region [.op ⟨(some 2), none, (.r (.mv (.c (.bool true))))⟩])
  .ret))))) }
theorem tr_parse_Parser_broken : trF cx Tryd.f36 = pf_parse_Parser_broken := by kernel_rfl
/-- (*depot/parse.Parser).Shut -/
def pf_parse_Parser_Shut : PF := { ntmps := 7, results := [.tmp 2], body :=
  (.seq (.region [.op ⟨(some 2), none, (.r (.mv (.c (.bool false))))⟩])
  (.seq (.region [.op ⟨(some 3), none, (.r (.mv (.t 0)))⟩,
    .op ⟨(some 4), none, (.r (.nilck (.t 3)))⟩,
    .op ⟨(some 5), none, (.r (.faddr 12 (.t 4)))⟩,
    .op ⟨(some 6), none, (.r (.load false 1 (.t 5)))⟩,
    .op ⟨(some 2), none, (.r (.mv (.t 6)))⟩])
  .ret)) }
theorem tr_parse_Parser_Shut : trF cx Tryd.f37 = pf_parse_Parser_Shut := by kernel_rfl
/-- internal/strconv.small -/
def pf_internal_strconv_small : PF := { ntmps := 15, results := [.tmp 2], body :=
  (.seq (.region [.op ⟨(some 2), none, (.r (.mv (.c (.str []))))⟩])
  (.seq (.seq (.region [.op ⟨(some 3), none, (.r (.mv (.t 0)))⟩,
    .op ⟨(some 4), none, (.r (.bin .lss (.t 3) (.c (.int .i64 (.ofNat 10)))))⟩])
  (.cond (.t 4)
   (.seq (.region [.op ⟨(some 5), none, (.r (.mv (.t 0)))⟩,
     .op ⟨(some 6), none, (.r (.mv (.t 0)))⟩,
     .op ⟨(some 7), none, (.r (.bin .add (.t 6) (.c (.int .i64 (.ofNat 1)))))⟩,
     .op ⟨(some 8), none, (.r (.slstr (.c (.str [48, 49, 50, 51, 52, 53, 54, 55, 56, 57, 97, 98, 99, 100, 101, 102, 103, 104, 105, 106, 107, 108, 109, 110, 111, 112, 113, 114, 115, 116, 117, 118, 119, 120, 121, 122])) (some (.t 5)) (some (.t 7))))⟩,
     .op ⟨(some 2), none, (.r (.mv (.t 8)))⟩])
   .ret)
   .skip))
  (.seq (.region [.op ⟨(some 9), none, (.r (.mv (.t 0)))⟩,
    .op ⟨(some 10), none, (.r (.bin .mul (.t 9) (.c (.int .i64 (.ofNat 2)))))⟩,
    .op ⟨(some 11), none, (.r (.mv (.t 0)))⟩,
    .op ⟨(some 12), none, (.r (.bin .mul (.t 11) (.c (.int .i64 (.ofNat 2)))))⟩,
    .op ⟨(some 13), none, (.r (.bin .add (.t 12) (.c (.int .i64 (.ofNat 2)))))⟩,
    .op ⟨(some 14), none, (.r (.slstr (.c (.str [48, 48, 48, 49, 48, 50, 48, 51, 48, 52, 48, 53, 48, 54, 48, 55, 48, 56, 48, 57, 49, 48, 49, 49, 49, 50, 49, 51, 49, 52, 49, 53, 49, 54, 49, 55, 49, 56, 49, 57, 50, 48, 50, 49, 50, 50, 50, 51, 50, 52, 50, 53, 50, 54, 50, 55, 50, 56, 50, 57, 51, 48, 51, 49, 51, 50, 51, 51, 51, 52, 51, 53, 51, 54, 51, 55, 51, 56, 51, 57, 52, 48, 52, 49, 52, 50, 52, 51, 52, 52, 52, 53, 52, 54, 52, 55, 52, 56, 52, 57, 53, 48, 53, 49, 53, 50, 53, 51, 53, 52, 53, 53, 53, 54, 53, 55, 53, 56, 53, 57, 54, 48, 54, 49, 54, 50, 54, 51, 54, 52, 54, 53, 54, 54, 54, 55, 54, 56, 54, 57, 55, 48, 55, 49, 55, 50, 55, 51, 55, 52, 55, 53, 55, 54, 55, 55, 55, 56, 55, 57, 56, 48, 56, 49, 56, 50, 56, 51, 56, 52, 56, 53, 56, 54, 56, 55, 56, 56, 56, 57, 57, 48, 57, 49, 57, 50, 57, 51, 57, 52, 57, 53, 57, 54, 57, 55, 57, 56, 57, 57])) (some (.t 10)) (some (.t 13))))⟩,
    .op ⟨(some 2), none, (.r (.mv (.t 14)))⟩])
  .ret))) }
theorem tr_internal_strconv_small : trF cx Tryd.f42 = pf_internal_strconv_small := by kernel_rfl
/-- internal/strconv.numDigits -/
def pf_internal_strconv_numDigits : PF := { ntmps := 15, results := [.tmp 2], body :=
  (.seq (.region [.op ⟨(some 2), none, (.r (.mv (.c (.int .i64 (.ofNat 0)))))⟩])
  (.seq (.region [.op ⟨(some 4), none, (.r (.mv (.t 0)))⟩,
    .op ⟨(some 5), none, (.e (.call n_math_bits_Len64 [(.t 4)]))⟩,
    .op ⟨(some 6), none, (.e (.call n_internal_strconv_log10Pow2 [(.t 5)]))⟩,
    .op ⟨(some 3), none, (.r (.mv (.t 6)))⟩])
  (.seq (.region [.op ⟨(some 7), none, (.r (.mv (.t 3)))⟩,
    .op ⟨(some 8), none, (.r (.mv (.t 0)))⟩,
    .op ⟨(some 9), none, (.r (.mv (.t 3)))⟩,
    .op ⟨(some 10), none, (.r (.iaarr 20 1 (.c (.ptr 0 0)) (.t 9)))⟩,
    .op ⟨(some 11), none, (.r (.load false 1 (.t 10)))⟩,
    .op ⟨(some 12), none, (.r (.bin .geq (.t 8) (.t 11)))⟩,
    .op ⟨(some 13), none, (.e (.call n_internal_strconv_bool2_int [(.t 12)]))⟩,
    .op ⟨(some 14), none, (.r (.bin .add (.t 7) (.t 13)))⟩,
    .op ⟨(some 2), none, (.r (.mv (.t 14)))⟩])
  .ret))) }
theorem tr_internal_strconv_numDigits : trF cx Tryd.f43 = pf_internal_strconv_numDigits := by kernel_rfl
def l0_internal_strconv_formatBase10 : PC :=
  (.seq (.seq (.region [.op ⟨(some 19), none, (.r (.mv (.t 4)))⟩,
    .op ⟨(some 20), none, (.r (.bin .geq (.t 19) (.c (.int .i64 (.ofNat 8)))))⟩])
  (.cond (.t 20)
   .skip
   (.exit 0)))
  (.block 1 (.seq (.region [.op ⟨(some 21), none, (.r (.mv (.t 1)))⟩,
     .op ⟨(some 22), none, (.r (.bin .rem (.t 21) (.c (.int .u64 (.ofNat 100000000)))))⟩,
     .op ⟨(some 23), none, (.r (.cint .u32 (.t 22)))⟩,
     .op ⟨(some 5), none, (.r (.mv (.t 23)))⟩])
   (.seq (.region [.op ⟨(some 24), none, (.r (.mv (.t 1)))⟩,
     .op ⟨(some 25), none, (.r (.bin .quo (.t 24) (.c (.int .u64 (.ofNat 100000000)))))⟩,
     .op ⟨(some 1), none, (.r (.mv (.t 25)))⟩])
   (.seq (.region [.op ⟨(some 26), none, (.r (.mv (.t 5)))⟩,
     .op ⟨(some 27), none, (.r (.bin .quo (.t 26) (.c (.int .u32 (.ofNat 10000)))))⟩,
     .op ⟨(some 28), none, (.r (.mv (.t 5)))⟩,
     .op ⟨(some 29), none, (.r (.bin .rem (.t 28) (.c (.int .u32 (.ofNat 10000)))))⟩,
     .op ⟨(some 6), none, (.r (.mv (.t 27)))⟩,
     .op ⟨(some 7), none, (.r (.mv (.t 29)))⟩])
   (.seq (.region [.op ⟨(some 30), none, (.r (.mv (.t 7)))⟩,
     .op ⟨(some 31), none, (.r (.bin .quo (.t 30) (.c (.int .u32 (.ofNat 100)))))⟩,
     .op ⟨(some 32), none, (.r (.bin .mul (.t 31) (.c (.int .u32 (.ofNat 2)))))⟩,
     .op ⟨(some 33), none, (.r (.mv (.t 7)))⟩,
     .op ⟨(some 34), none, (.r (.bin .rem (.t 33) (.c (.int .u32 (.ofNat 100)))))⟩,
     .op ⟨(some 35), none, (.r (.bin .mul (.t 34) (.c (.int .u32 (.ofNat 2)))))⟩,
     .op ⟨(some 8), none, (.r (.mv (.t 32)))⟩,
     .op ⟨(some 9), none, (.r (.mv (.t 35)))⟩])
   (.seq (.region [.op ⟨(some 36), none, (.r (.mv (.t 6)))⟩,
     .op ⟨(some 37), none, (.r (.bin .quo (.t 36) (.c (.int .u32 (.ofNat 100)))))⟩,
     .op ⟨(some 38), none, (.r (.bin .mul (.t 37) (.c (.int .u32 (.ofNat 2)))))⟩,
     .op ⟨(some 39), none, (.r (.mv (.t 6)))⟩,
     .op ⟨(some 40), none, (.r (.bin .rem (.t 39) (.c (.int .u32 (.ofNat 100)))))⟩,
     .op ⟨(some 41), none, (.r (.bin .mul (.t 40) (.c (.int .u32 (.ofNat 2)))))⟩,
     .op ⟨(some 10), none, (.r (.mv (.t 38)))⟩,
     .op ⟨(some 11), none, (.r (.mv (.t 41)))⟩])
   (.seq (.region [.op ⟨(some 42), none, (.r (.mv (.t 0)))⟩,
     .op ⟨(some 43), none, (.r (.mv (.t 4)))⟩,
     .op ⟨(some 44), none, (.r (.bin .sub (.t 43) (.c (.int .i64 (.ofNat 1)))))⟩,
     .op ⟨(some 45), none, (.r (.mv (.t 0)))⟩,
     .op ⟨(some 46), none, (.r (.mv (.t 4)))⟩,
     .op ⟨(some 47), none, (.r (.bin .sub (.t 46) (.c (.int .i64 (.ofNat 2)))))⟩,
     .op ⟨(some 48), none, (.r (.mv (.t 9)))⟩,
     .op ⟨(some 49), none, (.r (.bin .add (.t 48) (.c (.int .u32 (.ofNat 1)))))⟩,
     .op ⟨(some 50), none, (.r (.ixstr (.c (.str [48, 48, 48, 49, 48, 50, 48, 51, 48, 52, 48, 53, 48, 54, 48, 55, 48, 56, 48, 57, 49, 48, 49, 49, 49, 50, 49, 51, 49, 52, 49, 53, 49, 54, 49, 55, 49, 56, 49, 57, 50, 48, 50, 49, 50, 50, 50, 51, 50, 52, 50, 53, 50, 54, 50, 55, 50, 56, 50, 57, 51, 48, 51, 49, 51, 50, 51, 51, 51, 52, 51, 53, 51, 54, 51, 55, 51, 56, 51, 57, 52, 48, 52, 49, 52, 50, 52, 51, 52, 52, 52, 53, 52, 54, 52, 55, 52, 56, 52, 57, 53, 48, 53, 49, 53, 50, 53, 51, 53, 52, 53, 53, 53, 54, 53, 55, 53, 56, 53, 57, 54, 48, 54, 49, 54, 50, 54, 51, 54, 52, 54, 53, 54, 54, 54, 55, 54, 56, 54, 57, 55, 48, 55, 49, 55, 50, 55, 51, 55, 52, 55, 53, 55, 54, 55, 55, 55, 56, 55, 57, 56, 48, 56, 49, 56, 50, 56, 51, 56, 52, 56, 53, 56, 54, 56, 55, 56, 56, 56, 57, 57, 48, 57, 49, 57, 50, 57, 51, 57, 52, 57, 53, 57, 54, 57, 55, 57, 56, 57, 57])) (.t 49)))⟩,
     .op ⟨(some 51), none, (.r (.mv (.t 9)))⟩,
     .op ⟨(some 52), none, (.r (.ixstr (.c (.str [48, 48, 48, 49, 48, 50, 48, 51, 48, 52, 48, 53, 48, 54, 48, 55, 48, 56, 48, 57, 49, 48, 49, 49, 49, 50, 49, 51, 49, 52, 49, 53, 49, 54, 49, 55, 49, 56, 49, 57, 50, 48, 50, 49, 50, 50, 50, 51, 50, 52, 50, 53, 50, 54, 50, 55, 50, 56, 50, 57, 51, 48, 51, 49, 51, 50, 51, 51, 51, 52, 51, 53, 51, 54, 51, 55, 51, 56, 51, 57, 52, 48, 52, 49, 52, 50, 52, 51, 52, 52, 52, 53, 52, 54, 52, 55, 52, 56, 52, 57, 53, 48, 53, 49, 53, 50, 53, 51, 53, 52, 53, 53, 53, 54, 53, 55, 53, 56, 53, 57, 54, 48, 54, 49, 54, 50, 54, 51, 54, 52, 54, 53, 54, 54, 54, 55, 54, 56, 54, 57, 55, 48, 55, 49, 55, 50, 55, 51, 55, 52, 55, 53, 55, 54, 55, 55, 55, 56, 55, 57, 56, 48, 56, 49, 56, 50, 56, 51, 56, 52, 56, 53, 56, 54, 56, 55, 56, 56, 56, 57, 57, 48, 57, 49, 57, 50, 57, 51, 57, 52, 57, 53, 57, 54, 57, 55, 57, 56, 57, 57])) (.t 51)))⟩,
     .op ⟨(some 53), none, (.r (.iasl 1 (.t 42) (.t 44)))⟩,
     .op ⟨none, none, (.e (.store 1 (.t 53) (.t 50)))⟩,
     .op ⟨(some 54), none, (.r (.iasl 1 (.t 45) (.t 47)))⟩,
     .op ⟨none, none, (.e (.store 1 (.t 54) (.t 52)))⟩])
   (.seq (.region [.op ⟨(some 55), none, (.r (.mv (.t 0)))⟩,
     .op ⟨(some 56), none, (.r (.mv (.t 4)))⟩,
     .op ⟨(some 57), none, (.r (.bin .sub (.t 56) (.c (.int .i64 (.ofNat 3)))))⟩,
     .op ⟨(some 58), none, (.r (.mv (.t 0)))⟩,
     .op ⟨(some 59), none, (.r (.mv (.t 4)))⟩,
     .op ⟨(some 60), none, (.r (.bin .sub (.t 59) (.c (.int .i64 (.ofNat 4)))))⟩,
     .op ⟨(some 61), none, (.r (.mv (.t 8)))⟩,
     .op ⟨(some 62), none, (.r (.bin .add (.t 61) (.c (.int .u32 (.ofNat 1)))))⟩,
     .op ⟨(some 63), none, (.r (.ixstr (.c (.str [48, 48, 48, 49, 48, 50, 48, 51, 48, 52, 48, 53, 48, 54, 48, 55, 48, 56, 48, 57, 49, 48, 49, 49, 49, 50, 49, 51, 49, 52, 49, 53, 49, 54, 49, 55, 49, 56, 49, 57, 50, 48, 50, 49, 50, 50, 50, 51, 50, 52, 50, 53, 50, 54, 50, 55, 50, 56, 50, 57, 51, 48, 51, 49, 51, 50, 51, 51, 51, 52, 51, 53, 51, 54, 51, 55, 51, 56, 51, 57, 52, 48, 52, 49, 52, 50, 52, 51, 52, 52, 52, 53, 52, 54, 52, 55, 52, 56, 52, 57, 53, 48, 53, 49, 53, 50, 53, 51, 53, 52, 53, 53, 53, 54, 53, 55, 53, 56, 53, 57, 54, 48, 54, 49, 54, 50, 54, 51, 54, 52, 54, 53, 54, 54, 54, 55, 54, 56, 54, 57, 55, 48, 55, 49, 55, 50, 55, 51, 55, 52, 55, 53, 55, 54, 55, 55, 55, 56, 55, 57, 56, 48, 56, 49, 56, 50, 56, 51, 56, 52, 56, 53, 56, 54, 56, 55, 56, 56, 56, 57, 57, 48, 57, 49, 57, 50, 57, 51, 57, 52, 57, 53, 57, 54, 57, 55, 57, 56, 57, 57])) (.t 62)))⟩,
     .op ⟨(some 64), none, (.r (.mv (.t 8)))⟩,
     .op ⟨(some 65), none, (.r (.ixstr (.c (.str [48, 48, 48, 49, 48, 50, 48, 51, 48, 52, 48, 53, 48, 54, 48, 55, 48, 56, 48, 57, 49, 48, 49, 49, 49, 50, 49, 51, 49, 52, 49, 53, 49, 54, 49, 55, 49, 56, 49, 57, 50, 48, 50, 49, 50, 50, 50, 51, 50, 52, 50, 53, 50, 54, 50, 55, 50, 56, 50, 57, 51, 48, 51, 49, 51, 50, 51, 51, 51, 52, 51, 53, 51, 54, 51, 55, 51, 56, 51, 57, 52, 48, 52, 49, 52, 50, 52, 51, 52, 52, 52, 53, 52, 54, 52, 55, 52, 56, 52, 57, 53, 48, 53, 49, 53, 50, 53, 51, 53, 52, 53, 53, 53, 54, 53, 55, 53, 56, 53, 57, 54, 48, 54, 49, 54, 50, 54, 51, 54, 52, 54, 53, 54, 54, 54, 55, 54, 56, 54, 57, 55, 48, 55, 49, 55, 50, 55, 51, 55, 52, 55, 53, 55, 54, 55, 55, 55, 56, 55, 57, 56, 48, 56, 49, 56, 50, 56, 51, 56, 52, 56, 53, 56, 54, 56, 55, 56, 56, 56, 57, 57, 48, 57, 49, 57, 50, 57, 51, 57, 52, 57, 53, 57, 54, 57, 55, 57, 56, 57, 57])) (.t 64)))⟩,
     .op ⟨(some 66), none, (.r (.iasl 1 (.t 55) (.t 57)))⟩,
     .op ⟨none, none, (.e (.store 1 (.t 66) (.t 63)))⟩,
     .op ⟨(some 67), none, (.r (.iasl 1 (.t 58) (.t 60)))⟩,
     .op ⟨none, none, (.e (.store 1 (.t 67) (.t 65)))⟩])
   (.seq (.region [.op ⟨(some 68), none, (.r (.mv (.t 0)))⟩,
     .op ⟨(some 69), none, (.r (.mv (.t 4)))⟩,
     .op ⟨(some 70), none, (.r (.bin .sub (.t 69) (.c (.int .i64 (.ofNat 5)))))⟩,
     .op ⟨(some 71), none, (.r (.mv (.t 0)))⟩,
     .op ⟨(some 72), none, (.r (.mv (.t 4)))⟩,
     .op ⟨(some 73), none, (.r (.bin .sub (.t 72) (.c (.int .i64 (.ofNat 6)))))⟩,
     .op ⟨(some 74), none, (.r (.mv (.t 11)))⟩,
     .op ⟨(some 75), none, (.r (.bin .add (.t 74) (.c (.int .u32 (.ofNat 1)))))⟩,
     .op ⟨(some 76), none, (.r (.ixstr (.c (.str [48, 48, 48, 49, 48, 50, 48, 51, 48, 52, 48, 53, 48, 54, 48, 55, 48, 56, 48, 57, 49, 48, 49, 49, 49, 50, 49, 51, 49, 52, 49, 53, 49, 54, 49, 55, 49, 56, 49, 57, 50, 48, 50, 49, 50, 50, 50, 51, 50, 52, 50, 53, 50, 54, 50, 55, 50, 56, 50, 57, 51, 48, 51, 49, 51, 50, 51, 51, 51, 52, 51, 53, 51, 54, 51, 55, 51, 56, 51, 57, 52, 48, 52, 49, 52, 50, 52, 51, 52, 52, 52, 53, 52, 54, 52, 55, 52, 56, 52, 57, 53, 48, 53, 49, 53, 50, 53, 51, 53, 52, 53, 53, 53, 54, 53, 55, 53, 56, 53, 57, 54, 48, 54, 49, 54, 50, 54, 51, 54, 52, 54, 53, 54, 54, 54, 55, 54, 56, 54, 57, 55, 48, 55, 49, 55, 50, 55, 51, 55, 52, 55, 53, 55, 54, 55, 55, 55, 56, 55, 57, 56, 48, 56, 49, 56, 50, 56, 51, 56, 52, 56, 53, 56, 54, 56, 55, 56, 56, 56, 57, 57, 48, 57, 49, 57, 50, 57, 51, 57, 52, 57, 53, 57, 54, 57, 55, 57, 56, 57, 57])) (.t 75)))⟩,
     .op ⟨(some 77), none, (.r (.mv (.t 11)))⟩,
     .op ⟨(some 78), none, (.r (.ixstr (.c (.str [48, 48, 48, 49, 48, 50, 48, 51, 48, 52, 48, 53, 48, 54, 48, 55, 48, 56, 48, 57, 49, 48, 49, 49, 49, 50, 49, 51, 49, 52, 49, 53, 49, 54, 49, 55, 49, 56, 49, 57, 50, 48, 50, 49, 50, 50, 50, 51, 50, 52, 50, 53, 50, 54, 50, 55, 50, 56, 50, 57, 51, 48, 51, 49, 51, 50, 51, 51, 51, 52, 51, 53, 51, 54, 51, 55, 51, 56, 51, 57, 52, 48, 52, 49, 52, 50, 52, 51, 52, 52, 52, 53, 52, 54, 52, 55, 52, 56, 52, 57, 53, 48, 53, 49, 53, 50, 53, 51, 53, 52, 53, 53, 53, 54, 53, 55, 53, 56, 53, 57, 54, 48, 54, 49, 54, 50, 54, 51, 54, 52, 54, 53, 54, 54, 54, 55, 54, 56, 54, 57, 55, 48, 55, 49, 55, 50, 55, 51, 55, 52, 55, 53, 55, 54, 55, 55, 55, 56, 55, 57, 56, 48, 56, 49, 56, 50, 56, 51, 56, 52, 56, 53, 56, 54, 56, 55, 56, 56, 56, 57, 57, 48, 57, 49, 57, 50, 57, 51, 57, 52, 57, 53, 57, 54, 57, 55, 57, 56, 57, 57])) (.t 77)))⟩,
     .op ⟨(some 79), none, (.r (.iasl 1 (.t 68) (.t 70)))⟩,
     .op ⟨none, none, (.e (.store 1 (.t 79) (.t 76)))⟩,
     .op ⟨(some 80), none, (.r (.iasl 1 (.t 71) (.t 73)))⟩,
     .op ⟨none, none, (.e (.store 1 (.t 80) (.t 78)))⟩])
   (.seq (.region [.op ⟨(some 81), none, (.r (.mv (.t 0)))⟩,
     .op ⟨(some 82), none, (.r (.mv (.t 4)))⟩,
     .op ⟨(some 83), none, (.r (.bin .sub (.t 82) (.c (.int .i64 (.ofNat 7)))))⟩,
     .op ⟨(some 84), none, (.r (.mv (.t 0)))⟩,
     .op ⟨(some 85), none, (.r (.mv (.t 4)))⟩,
     .op ⟨(some 86), none, (.r (.bin .sub (.t 85) (.c (.int .i64 (.ofNat 8)))))⟩,
     .op ⟨(some 87), none, (.r (.mv (.t 10)))⟩,
     .op ⟨(some 88), none, (.r (.bin .add (.t 87) (.c (.int .u32 (.ofNat 1)))))⟩,
     .op ⟨(some 89), none, (.r (.ixstr (.c (.str [48, 48, 48, 49, 48, 50, 48, 51, 48, 52, 48, 53, 48, 54, 48, 55, 48, 56, 48, 57, 49, 48, 49, 49, 49, 50, 49, 51, 49, 52, 49, 53, 49, 54, 49, 55, 49, 56, 49, 57, 50, 48, 50, 49, 50, 50, 50, 51, 50, 52, 50, 53, 50, 54, 50, 55, 50, 56, 50, 57, 51, 48, 51, 49, 51, 50, 51, 51, 51, 52, 51, 53, 51, 54, 51, 55, 51, 56, 51, 57, 52, 48, 52, 49, 52, 50, 52, 51, 52, 52, 52, 53, 52, 54, 52, 55, 52, 56, 52, 57, 53, 48, 53, 49, 53, 50, 53, 51, 53, 52, 53, 53, 53, 54, 53, 55, 53, 56, 53, 57, 54, 48, 54, 49, 54, 50, 54, 51, 54, 52, 54, 53, 54, 54, 54, 55, 54, 56, 54, 57, 55, 48, 55, 49, 55, 50, 55, 51, 55, 52, 55, 53, 55, 54, 55, 55, 55, 56, 55, 57, 56, 48, 56, 49, 56, 50, 56, 51, 56, 52, 56, 53, 56, 54, 56, 55, 56, 56, 56, 57, 57, 48, 57, 49, 57, 50, 57, 51, 57, 52, 57, 53, 57, 54, 57, 55, 57, 56, 57, 57])) (.t 88)))⟩,
     .op ⟨(some 90), none, (.r (.mv (.t 10)))⟩,
     .op ⟨(some 91), none, (.r (.ixstr (.c (.str [48, 48, 48, 49, 48, 50, 48, 51, 48, 52, 48, 53, 48, 54, 48, 55, 48, 56, 48, 57, 49, 48, 49, 49, 49, 50, 49, 51, 49, 52, 49, 53, 49, 54, 49, 55, 49, 56, 49, 57, 50, 48, 50, 49, 50, 50, 50, 51, 50, 52, 50, 53, 50, 54, 50, 55, 50, 56, 50, 57, 51, 48, 51, 49, 51, 50, 51, 51, 51, 52, 51, 53, 51, 54, 51, 55, 51, 56, 51, 57, 52, 48, 52, 49, 52, 50, 52, 51, 52, 52, 52, 53, 52, 54, 52, 55, 52, 56, 52, 57, 53, 48, 53, 49, 53, 50, 53, 51, 53, 52, 53, 53, 53, 54, 53, 55, 53, 56, 53, 57, 54, 48, 54, 49, 54, 50, 54, 51, 54, 52, 54, 53, 54, 54, 54, 55, 54, 56, 54, 57, 55, 48, 55, 49, 55, 50, 55, 51, 55, 52, 55, 53, 55, 54, 55, 55, 55, 56, 55, 57, 56, 48, 56, 49, 56, 50, 56, 51, 56, 52, 56, 53, 56, 54, 56, 55, 56, 56, 56, 57, 57, 48, 57, 49, 57, 50, 57, 51, 57, 52, 57, 53, 57, 54, 57, 55, 57, 56, 57, 57])) (.t 90)))⟩,
     .op ⟨(some 92), none, (.r (.iasl 1 (.t 81) (.t 83)))⟩,
     .op ⟨none, none, (.e (.store 1 (.t 92) (.t 89)))⟩,
     .op ⟨(some 93), none, (.r (.iasl 1 (.t 84) (.t 86)))⟩,
     .op ⟨none, none, (.e (.store 1 (.t 93) (.t 91)))⟩])
   (.region [.op ⟨(some 94), none, (.r (.mv (.t 4)))⟩,
     .op ⟨(some 95), none, (.r (.bin .sub (.t 94) (.c (.int .i64 (.ofNat 8)))))⟩,
     .op ⟨(some 4), none, (.r (.mv (.t 95)))⟩]))))))))))))
/-- internal/strconv.formatBase10 -/
def pf_internal_strconv_formatBase10 : PF := { ntmps := 167, results := [], body :=
  (.seq (.region [.op ⟨(some 17), none, (.r (.mv (.t 0)))⟩,
    .op ⟨(some 18), none, (.r (.lensl (.t 17)))⟩,
    .op ⟨(some 4), none, (.r (.mv (.t 18)))⟩])
  (.seq (.block 0 (.loop l0_internal_strconv_formatBase10))
  (.seq (.region [.op ⟨(some 96), none, (.r (.mv (.t 1)))⟩,
    .op ⟨(some 97), none, (.r (.cint .u32 (.t 96)))⟩,
    .op ⟨(some 12), none, (.r (.mv (.t 97)))⟩])
  (.seq (.seq (.region [.op ⟨(some 98), none, (.r (.mv (.t 4)))⟩,
    .op ⟨(some 99), none, (.r (.bin .geq (.t 98) (.c (.int .i64 (.ofNat 4)))))⟩])
  (.cond (.t 99)
   (.seq (.region [.op ⟨(some 100), none, (.r (.mv (.t 12)))⟩,
     .op ⟨(some 101), none, (.r (.bin .rem (.t 100) (.c (.int .u32 (.ofNat 10000)))))⟩,
     .op ⟨(some 13), none, (.r (.mv (.t 101)))⟩])
   (.seq (.region [.op ⟨(some 102), none, (.r (.mv (.t 12)))⟩,
     .op ⟨(some 103), none, (.r (.bin .quo (.t 102) (.c (.int .u32 (.ofNat 10000)))))⟩,
     .op ⟨(some 12), none, (.r (.mv (.t 103)))⟩])
   (.seq (.region [.op ⟨(some 104), none, (.r (.mv (.t 13)))⟩,
     .op ⟨(some 105), none, (.r (.bin .quo (.t 104) (.c (.int .u32 (.ofNat 100)))))⟩,
     .op ⟨(some 106), none, (.r (.bin .mul (.t 105) (.c (.int .u32 (.ofNat 2)))))⟩,
     .op ⟨(some 107), none, (.r (.mv (.t 13)))⟩,
     .op ⟨(some 108), none, (.r (.bin .rem (.t 107) (.c (.int .u32 (.ofNat 100)))))⟩,
     .op ⟨(some 109), none, (.r (.bin .mul (.t 108) (.c (.int .u32 (.ofNat 2)))))⟩,
     .op ⟨(some 14), none, (.r (.mv (.t 106)))⟩,
     .op ⟨(some 15), none, (.r (.mv (.t 109)))⟩])
   (.seq (.region [.op ⟨(some 110), none, (.r (.mv (.t 0)))⟩,
     .op ⟨(some 111), none, (.r (.mv (.t 4)))⟩,
     .op ⟨(some 112), none, (.r (.bin .sub (.t 111) (.c (.int .i64 (.ofNat 1)))))⟩,
     .op ⟨(some 113), none, (.r (.mv (.t 0)))⟩,
     .op ⟨(some 114), none, (.r (.mv (.t 4)))⟩,
     .op ⟨(some 115), none, (.r (.bin .sub (.t 114) (.c (.int .i64 (.ofNat 2)))))⟩,
     .op ⟨(some 116), none, (.r (.mv (.t 15)))⟩,
     .op ⟨(some 117), none, (.r (.bin .add (.t 116) (.c (.int .u32 (.ofNat 1)))))⟩,
     .op ⟨(some 118), none, (.r (.ixstr (.c (.str [48, 48, 48, 49, 48, 50, 48, 51, 48, 52, 48, 53, 48, 54, 48, 55, 48, 56, 48, 57, 49, 48, 49, 49, 49, 50, 49, 51, 49, 52, 49, 53, 49, 54, 49, 55, 49, 56, 49, 57, 50, 48, 50, 49, 50, 50, 50, 51, 50, 52, 50, 53, 50, 54, 50, 55, 50, 56, 50, 57, 51, 48, 51, 49, 51, 50, 51, 51, 51, 52, 51, 53, 51, 54, 51, 55, 51, 56, 51, 57, 52, 48, 52, 49, 52, 50, 52, 51, 52, 52, 52, 53, 52, 54, 52, 55, 52, 56, 52, 57, 53, 48, 53, 49, 53, 50, 53, 51, 53, 52, 53, 53, 53, 54, 53, 55, 53, 56, 53, 57, 54, 48, 54, 49, 54, 50, 54, 51, 54, 52, 54, 53, 54, 54, 54, 55, 54, 56, 54, 57, 55, 48, 55, 49, 55, 50, 55, 51, 55, 52, 55, 53, 55, 54, 55, 55, 55, 56, 55, 57, 56, 48, 56, 49, 56, 50, 56, 51, 56, 52, 56, 53, 56, 54, 56, 55, 56, 56, 56, 57, 57, 48, 57, 49, 57, 50, 57, 51, 57, 52, 57, 53, 57, 54, 57, 55, 57, 56, 57, 57])) (.t 117)))⟩,
     .op ⟨(some 119), none, (.r (.mv (.t 15)))⟩,
     .op ⟨(some 120), none, (.r (.ixstr (.c (.str [48, 48, 48, 49, 48, 50, 48, 51, 48, 52, 48, 53, 48, 54, 48, 55, 48, 56, 48, 57, 49, 48, 49, 49, 49, 50, 49, 51, 49, 52, 49, 53, 49, 54, 49, 55, 49, 56, 49, 57, 50, 48, 50, 49, 50, 50, 50, 51, 50, 52, 50, 53, 50, 54, 50, 55, 50, 56, 50, 57, 51, 48, 51, 49, 51, 50, 51, 51, 51, 52, 51, 53, 51, 54, 51, 55, 51, 56, 51, 57, 52, 48, 52, 49, 52, 50, 52, 51, 52, 52, 52, 53, 52, 54, 52, 55, 52, 56, 52, 57, 53, 48, 53, 49, 53, 50, 53, 51, 53, 52, 53, 53, 53, 54, 53, 55, 53, 56, 53, 57, 54, 48, 54, 49, 54, 50, 54, 51, 54, 52, 54, 53, 54, 54, 54, 55, 54, 56, 54, 57, 55, 48, 55, 49, 55, 50, 55, 51, 55, 52, 55, 53, 55, 54, 55, 55, 55, 56, 55, 57, 56, 48, 56, 49, 56, 50, 56, 51, 56, 52, 56, 53, 56, 54, 56, 55, 56, 56, 56, 57, 57, 48, 57, 49, 57, 50, 57, 51, 57, 52, 57, 53, 57, 54, 57, 55, 57, 56, 57, 57])) (.t 119)))⟩,
     .op ⟨(some 121), none, (.r (.iasl 1 (.t 110) (.t 112)))⟩,
     .op ⟨none, none, (.e (.store 1 (.t 121) (.t 118)))⟩,
     .op ⟨(some 122), none, (.r (.iasl 1 (.t 113) (.t 115)))⟩,
     .op ⟨none, none, (.e (.store 1 (.t 122) (.t 120)))⟩])
   (.seq (.region [.op ⟨(some 123), none, (.r (.mv (.t 0)))⟩,
     .op ⟨(some 124), none, (.r (.mv (.t 4)))⟩,
     .op ⟨(some 125), none, (.r (.bin .sub (.t 124) (.c (.int .i64 (.ofNat 3)))))⟩,
     .op ⟨(some 126), none, (.r (.mv (.t 0)))⟩,
     .op ⟨(some 127), none, (.r (.mv (.t 4)))⟩,
     .op ⟨(some 128), none, (.r (.bin .sub (.t 127) (.c (.int .i64 (.ofNat 4)))))⟩,
     .op ⟨(some 129), none, (.r (.mv (.t 14)))⟩,
     .op ⟨(some 130), none, (.r (.bin .add (.t 129) (.c (.int .u32 (.ofNat 1)))))⟩,
     .op ⟨(some 131), none, (.r (.ixstr (.c (.str [48, 48, 48, 49, 48, 50, 48, 51, 48, 52, 48, 53, 48, 54, 48, 55, 48, 56, 48, 57, 49, 48, 49, 49, 49, 50, 49, 51, 49, 52, 49, 53, 49, 54, 49, 55, 49, 56, 49, 57, 50, 48, 50, 49, 50, 50, 50, 51, 50, 52, 50, 53, 50, 54, 50, 55, 50, 56, 50, 57, 51, 48, 51, 49, 51, 50, 51, 51, 51, 52, 51, 53, 51, 54, 51, 55, 51, 56, 51, 57, 52, 48, 52, 49, 52, 50, 52, 51, 52, 52, 52, 53, 52, 54, 52, 55, 52, 56, 52, 57, 53, 48, 53, 49, 53, 50, 53, 51, 53, 52, 53, 53, 53, 54, 53, 55, 53, 56, 53, 57, 54, 48, 54, 49, 54, 50, 54, 51, 54, 52, 54, 53, 54, 54, 54, 55, 54, 56, 54, 57, 55, 48, 55, 49, 55, 50, 55, 51, 55, 52, 55, 53, 55, 54, 55, 55, 55, 56, 55, 57, 56, 48, 56, 49, 56, 50, 56, 51, 56, 52, 56, 53, 56, 54, 56, 55, 56, 56, 56, 57, 57, 48, 57, 49, 57, 50, 57, 51, 57, 52, 57, 53, 57, 54, 57, 55, 57, 56, 57, 57])) (.t 130)))⟩,
     .op ⟨(some 132), none, (.r (.mv (.t 14)))⟩,
     .op ⟨(some 133), none, (.r (.ixstr (.c (.str [48, 48, 48, 49, 48, 50, 48, 51, 48, 52, 48, 53, 48, 54, 48, 55, 48, 56, 48, 57, 49, 48, 49, 49, 49, 50, 49, 51, 49, 52, 49, 53, 49, 54, 49, 55, 49, 56, 49, 57, 50, 48, 50, 49, 50, 50, 50, 51, 50, 52, 50, 53, 50, 54, 50, 55, 50, 56, 50, 57, 51, 48, 51, 49, 51, 50, 51, 51, 51, 52, 51, 53, 51, 54, 51, 55, 51, 56, 51, 57, 52, 48, 52, 49, 52, 50, 52, 51, 52, 52, 52, 53, 52, 54, 52, 55, 52, 56, 52, 57, 53, 48, 53, 49, 53, 50, 53, 51, 53, 52, 53, 53, 53, 54, 53, 55, 53, 56, 53, 57, 54, 48, 54, 49, 54, 50, 54, 51, 54, 52, 54, 53, 54, 54, 54, 55, 54, 56, 54, 57, 55, 48, 55, 49, 55, 50, 55, 51, 55, 52, 55, 53, 55, 54, 55, 55, 55, 56, 55, 57, 56, 48, 56, 49, 56, 50, 56, 51, 56, 52, 56, 53, 56, 54, 56, 55, 56, 56, 56, 57, 57, 48, 57, 49, 57, 50, 57, 51, 57, 52, 57, 53, 57, 54, 57, 55, 57, 56, 57, 57])) (.t 132)))⟩,
     .op ⟨(some 134), none, (.r (.iasl 1 (.t 123) (.t 125)))⟩,
     .op ⟨none, none, (.e (.store 1 (.t 134) (.t 131)))⟩,
     .op ⟨(some 135), none, (.r (.iasl 1 (.t 126) (.t 128)))⟩,
     .op ⟨none, none, (.e (.store 1 (.t 135) (.t 133)))⟩])
   (.region [.op ⟨(some 136), none, (.r (.mv (.t 4)))⟩,
     .op ⟨(some 137), none, (.r (.bin .sub (.t 136) (.c (.int .i64 (.ofNat 4)))))⟩,
     .op ⟨(some 4), none, (.r (.mv (.t 137)))⟩]))))))
   .skip))
  (.seq (.seq (.region [.op ⟨(some 138), none, (.r (.mv (.t 4)))⟩,
    .op ⟨(some 139), none, (.r (.bin .geq (.t 138) (.c (.int .i64 (.ofNat 2)))))⟩])
  (.cond (.t 139)
   (.seq (.region [.op ⟨(some 140), none, (.r (.mv (.t 12)))⟩,
     .op ⟨(some 141), none, (.r (.bin .rem (.t 140) (.c (.int .u32 (.ofNat 100)))))⟩,
     .op ⟨(some 142), none, (.r (.bin .mul (.t 141) (.c (.int .u32 (.ofNat 2)))))⟩,
     .op ⟨(some 16), none, (.r (.mv (.t 142)))⟩])
   (.seq (.region [.op ⟨(some 143), none, (.r (.mv (.t 12)))⟩,
     .op ⟨(some 144), none, (.r (.bin .quo (.t 143) (.c (.int .u32 (.ofNat 100)))))⟩,
     .op ⟨(some 12), none, (.r (.mv (.t 144)))⟩])
   (.seq (.region [.op ⟨(some 145), none, (.r (.mv (.t 0)))⟩,
     .op ⟨(some 146), none, (.r (.mv (.t 4)))⟩,
     .op ⟨(some 147), none, (.r (.bin .sub (.t 146) (.c (.int .i64 (.ofNat 1)))))⟩,
     .op ⟨(some 148), none, (.r (.mv (.t 0)))⟩,
     .op ⟨(some 149), none, (.r (.mv (.t 4)))⟩,
     .op ⟨(some 150), none, (.r (.bin .sub (.t 149) (.c (.int .i64 (.ofNat 2)))))⟩,
     .op ⟨(some 151), none, (.r (.mv (.t 16)))⟩,
     .op ⟨(some 152), none, (.r (.bin .add (.t 151) (.c (.int .u32 (.ofNat 1)))))⟩,
     .op ⟨(some 153), none, (.r (.ixstr (.c (.str [48, 48, 48, 49, 48, 50, 48, 51, 48, 52, 48, 53, 48, 54, 48, 55, 48, 56, 48, 57, 49, 48, 49, 49, 49, 50, 49, 51, 49, 52, 49, 53, 49, 54, 49, 55, 49, 56, 49, 57, 50, 48, 50, 49, 50, 50, 50, 51, 50, 52, 50, 53, 50, 54, 50, 55, 50, 56, 50, 57, 51, 48, 51, 49, 51, 50, 51, 51, 51, 52, 51, 53, 51, 54, 51, 55, 51, 56, 51, 57, 52, 48, 52, 49, 52, 50, 52, 51, 52, 52, 52, 53, 52, 54, 52, 55, 52, 56, 52, 57, 53, 48, 53, 49, 53, 50, 53, 51, 53, 52, 53, 53, 53, 54, 53, 55, 53, 56, 53, 57, 54, 48, 54, 49, 54, 50, 54, 51, 54, 52, 54, 53, 54, 54, 54, 55, 54, 56, 54, 57, 55, 48, 55, 49, 55, 50, 55, 51, 55, 52, 55, 53, 55, 54, 55, 55, 55, 56, 55, 57, 56, 48, 56, 49, 56, 50, 56, 51, 56, 52, 56, 53, 56, 54, 56, 55, 56, 56, 56, 57, 57, 48, 57, 49, 57, 50, 57, 51, 57, 52, 57, 53, 57, 54, 57, 55, 57, 56, 57, 57])) (.t 152)))⟩,
     .op ⟨(some 154), none, (.r (.mv (.t 16)))⟩,
     .op ⟨(some 155), none, (.r (.ixstr (.c (.str [48, 48, 48, 49, 48, 50, 48, 51, 48, 52, 48, 53, 48, 54, 48, 55, 48, 56, 48, 57, 49, 48, 49, 49, 49, 50, 49, 51, 49, 52, 49, 53, 49, 54, 49, 55, 49, 56, 49, 57, 50, 48, 50, 49, 50, 50, 50, 51, 50, 52, 50, 53, 50, 54, 50, 55, 50, 56, 50, 57, 51, 48, 51, 49, 51, 50, 51, 51, 51, 52, 51, 53, 51, 54, 51, 55, 51, 56, 51, 57, 52, 48, 52, 49, 52, 50, 52, 51, 52, 52, 52, 53, 52, 54, 52, 55, 52, 56, 52, 57, 53, 48, 53, 49, 53, 50, 53, 51, 53, 52, 53, 53, 53, 54, 53, 55, 53, 56, 53, 57, 54, 48, 54, 49, 54, 50, 54, 51, 54, 52, 54, 53, 54, 54, 54, 55, 54, 56, 54, 57, 55, 48, 55, 49, 55, 50, 55, 51, 55, 52, 55, 53, 55, 54, 55, 55, 55, 56, 55, 57, 56, 48, 56, 49, 56, 50, 56, 51, 56, 52, 56, 53, 56, 54, 56, 55, 56, 56, 56, 57, 57, 48, 57, 49, 57, 50, 57, 51, 57, 52, 57, 53, 57, 54, 57, 55, 57, 56, 57, 57])) (.t 154)))⟩,
     .op ⟨(some 156), none, (.r (.iasl 1 (.t 145) (.t 147)))⟩,
     .op ⟨none, none, (.e (.store 1 (.t 156) (.t 153)))⟩,
     .op ⟨(some 157), none, (.r (.iasl 1 (.t 148) (.t 150)))⟩,
     .op ⟨none, none, (.e (.store 1 (.t 157) (.t 155)))⟩])
   (.region [.op ⟨(some 158), none, (.r (.mv (.t 4)))⟩,
     .op ⟨(some 159), none, (.r (.bin .sub (.t 158) (.c (.int .i64 (.ofNat 2)))))⟩,
     .op ⟨(some 4), none, (.r (.mv (.t 159)))⟩]))))
   .skip))
  (.seq (.region [.op ⟨(some 160), none, (.r (.mv (.t 4)))⟩,
    .op ⟨(some 161), none, (.r (.bin .gtr (.t 160) (.c (.int .i64 (.ofNat 0)))))⟩])
  (.cond (.t 161)
   (.region [.op ⟨(some 162), none, (.r (.mv (.t 0)))⟩,
     .op ⟨(some 163), none, (.r (.mv (.t 12)))⟩,
     .op ⟨(some 164), none, (.r (.bin .add (.c (.int .u32 (.ofNat 48))) (.t 163)))⟩,
     .op ⟨(some 165), none, (.r (.cint .u8 (.t 164)))⟩,
     .op ⟨(some 166), none, (.r (.iasl 1 (.t 162) (.c (.int .i64 (.ofNat 0)))))⟩,
     .op ⟨none, none, (.e (.store 1 (.t 166) (.t 165)))⟩])
   .skip))))))) }
theorem tr_internal_strconv_formatBase10 : trF cx Tryd.f44 = pf_internal_strconv_formatBase10 := by kernel_rfl
def l0_internal_strconv_formatBits : PC :=
  (.seq (.seq (.region [.op ⟨(some 44), none, (.r (.mv (.t 1)))⟩,
    .op ⟨(some 45), none, (.r (.mv (.t 15)))⟩,
    .op ⟨(some 46), none, (.r (.bin .geq (.t 44) (.t 45)))⟩])
  (.cond (.t 46)
   .skip
   (.exit 0)))
  (.block 1 (.seq (.region [.op ⟨(some 47), none, (.r (.mv (.t 13)))⟩,
     .op ⟨(some 48), none, (.r (.bin .sub (.t 47) (.c (.int .i64 (.ofNat 1)))))⟩,
     .op ⟨(some 13), none, (.r (.mv (.t 48)))⟩])
   (.seq (.region [.op ⟨(some 49), none, (.r (.mv (.t 13)))⟩,
     .op ⟨(some 50), none, (.r (.mv (.t 1)))⟩,
     .op ⟨(some 51), none, (.r (.mv (.t 16)))⟩,
     .op ⟨(some 52), none, (.r (.bin .and (.t 50) (.t 51)))⟩,
     .op ⟨(some 53), none, (.r (.ixstr (.c (.str [48, 49, 50, 51, 52, 53, 54, 55, 56, 57, 97, 98, 99, 100, 101, 102, 103, 104, 105, 106, 107, 108, 109, 110, 111, 112, 113, 114, 115, 116, 117, 118, 119, 120, 121, 122])) (.t 52)))⟩,
     .op ⟨(some 54), none, (.r (.iaarr 65 1 (.t 12) (.t 49)))⟩,
     .op ⟨none, none, (.e (.store 1 (.t 54) (.t 53)))⟩])
   (.region [.op ⟨(some 55), none, (.r (.mv (.t 1)))⟩,
     .op ⟨(some 56), none, (.r (.mv (.t 14)))⟩,
     .op ⟨(some 57), none, (.r (.bin .shr (.t 55) (.t 56)))⟩,
     .op ⟨(some 1), none, (.r (.mv (.t 57)))⟩])))))
def l1_internal_strconv_formatBits : PC :=
  (.seq (.seq (.region [.op ⟨(some 66), none, (.r (.mv (.t 1)))⟩,
    .op ⟨(some 67), none, (.r (.mv (.t 17)))⟩,
    .op ⟨(some 68), none, (.r (.bin .geq (.t 66) (.t 67)))⟩])
  (.cond (.t 68)
   .skip
   (.exit 2)))
  (.block 3 (.seq (.region [.op ⟨(some 69), none, (.r (.mv (.t 13)))⟩,
     .op ⟨(some 70), none, (.r (.bin .sub (.t 69) (.c (.int .i64 (.ofNat 1)))))⟩,
     .op ⟨(some 13), none, (.r (.mv (.t 70)))⟩])
   (.seq (.region [.op ⟨(some 71), none, (.r (.mv (.t 1)))⟩,
     .op ⟨(some 72), none, (.r (.mv (.t 17)))⟩,
     .op ⟨(some 73), none, (.r (.bin .quo (.t 71) (.t 72)))⟩,
     .op ⟨(some 18), none, (.r (.mv (.t 73)))⟩])
   (.seq (.region [.op ⟨(some 74), none, (.r (.mv (.t 13)))⟩,
     .op ⟨(some 75), none, (.r (.mv (.t 1)))⟩,
     .op ⟨(some 76), none, (.r (.mv (.t 18)))⟩,
     .op ⟨(some 77), none, (.r (.mv (.t 17)))⟩,
     .op ⟨(some 78), none, (.r (.bin .mul (.t 76) (.t 77)))⟩,
     .op ⟨(some 79), none, (.r (.bin .sub (.t 75) (.t 78)))⟩,
     .op ⟨(some 80), none, (.r (.ixstr (.c (.str [48, 49, 50, 51, 52, 53, 54, 55, 56, 57, 97, 98, 99, 100, 101, 102, 103, 104, 105, 106, 107, 108, 109, 110, 111, 112, 113, 114, 115, 116, 117, 118, 119, 120, 121, 122])) (.t 79)))⟩,
     .op ⟨(some 81), none, (.r (.iaarr 65 1 (.t 12) (.t 74)))⟩,
     .op ⟨none, none, (.e (.store 1 (.t 81) (.t 80)))⟩])
   (.region [.op ⟨(some 82), none, (.r (.mv (.t 18)))⟩,
     .op ⟨(some 1), none, (.r (.mv (.t 82)))⟩]))))))
/-- internal/strconv.formatBits -/
def pf_internal_strconv_formatBits : PF := { ntmps := 102, results := [.tmp 10, .tmp 11], body :=
  (.seq (.region [.op ⟨(some 10), none, (.r (.mv (.c .nils)))⟩,
    .op ⟨(some 11), none, (.r (.mv (.c (.str []))))⟩])
  (.seq (.seq (.region [.op ⟨(some 19), none, (.r (.mv (.t 2)))⟩,
    .op ⟨(some 20), none, (.r (.bin .lss (.t 19) (.c (.int .i64 (.ofNat 2)))))⟩,
    .op ⟨(some 21), none, (.r (.mv (.t 20)))⟩,
    .op ⟨(some 22), (some (21, false)), (.r (.mv (.t 2)))⟩,
    .op ⟨(some 23), (some (21, false)), (.r (.bin .eql (.t 22) (.c (.int .i64 (.ofNat 10)))))⟩,
    .op ⟨(some 24), none, (.r (.pick (.t 21) (.c (.bool true)) (.t 23)))⟩,
    .op ⟨(some 25), none, (.r (.mv (.t 24)))⟩,
    .op ⟨(some 26), (some (25, false)), (.r (.mv (.t 2)))⟩,
    .op ⟨(some 27), (some (25, false)), (.r (.bin .gtr (.t 26) (.c (.int .i64 (.ofNat 36)))))⟩,
    .op ⟨(some 28), none, (.r (.pick (.t 25) (.c (.bool true)) (.t 27)))⟩])
  (.cond (.t 28)
   (.region [.op ⟨(some 29), none, (.r (.bad))⟩,
     .op ⟨none, none, (.r (.bad))⟩])
   .skip))
  (.seq (.region [.op ⟨(some 12), none, (.n (.new 0 (rep 65 [(.int .u8 (.ofNat 0))])))⟩])
  (.seq (.region [.op ⟨(some 13), none, (.r (.mv (.c (.int .i64 (.ofNat 65)))))⟩])
  (.seq (.seq (.region [.op ⟨(some 30), none, (.r (.mv (.t 3)))⟩])
  (.cond (.t 30)
   (.region [.op ⟨(some 31), none, (.r (.mv (.t 1)))⟩,
     .op ⟨(some 32), none, (.r (.un .neg (.t 31)))⟩,
     .op ⟨(some 1), none, (.r (.mv (.t 32)))⟩])
   .skip))
  (.seq (.seq (.region [.op ⟨(some 33), none, (.r (.mv (.t 2)))⟩,
    .op ⟨(some 34), none, (.e (.call n_internal_strconv_isPowerOfTwo [(.t 33)]))⟩])
  (.cond (.t 34)
   (.seq (.region [.op ⟨(some 35), none, (.r (.mv (.t 2)))⟩,
     .op ⟨(some 36), none, (.r (.cint .u64 (.t 35)))⟩,
     .op ⟨(some 37), none, (.e (.call n_math_bits_TrailingZeros [(.t 36)]))⟩,
     .op ⟨(some 38), none, (.r (.cint .u64 (.t 37)))⟩,
     .op ⟨(some 14), none, (.r (.mv (.t 38)))⟩])
   (.seq (.region [.op ⟨(some 39), none, (.r (.mv (.t 2)))⟩,
     .op ⟨(some 40), none, (.r (.cint .u64 (.t 39)))⟩,
     .op ⟨(some 15), none, (.r (.mv (.t 40)))⟩])
   (.seq (.region [.op ⟨(some 41), none, (.r (.mv (.t 2)))⟩,
     .op ⟨(some 42), none, (.r (.cint .u64 (.t 41)))⟩,
     .op ⟨(some 43), none, (.r (.bin .sub (.t 42) (.c (.int .u64 (.ofNat 1)))))⟩,
     .op ⟨(some 16), none, (.r (.mv (.t 43)))⟩])
   (.seq (.block 0 (.loop l0_internal_strconv_formatBits))
   (.seq (.region [.op ⟨(some 58), none, (.r (.mv (.t 13)))⟩,
     .op ⟨(some 59), none, (.r (.bin .sub (.t 58) (.c (.int .i64 (.ofNat 1)))))⟩,
     .op ⟨(some 13), none, (.r (.mv (.t 59)))⟩])
   (.region [.op ⟨(some 60), none, (.r (.mv (.t 13)))⟩,
     .op ⟨(some 61), none, (.r (.mv (.t 1)))⟩,
     .op ⟨(some 62), none, (.r (.ixstr (.c (.str [48, 49, 50, 51, 52, 53, 54, 55, 56, 57, 97, 98, 99, 100, 101, 102, 103, 104, 105, 106, 107, 108, 109, 110, 111, 112, 113, 114, 115, 116, 117, 118, 119, 120, 121, 122])) (.t 61)))⟩,
     .op ⟨(some 63), none, (.r (.iaarr 65 1 (.t 12) (.t 60)))⟩,
     .op ⟨none, none, (.e (.store 1 (.t 63) (.t 62)))⟩]))))))
   (.seq (.region [.op ⟨(some 64), none, (.r (.mv (.t 2)))⟩,
     .op ⟨(some 65), none, (.r (.cint .u64 (.t 64)))⟩,
     .op ⟨(some 17), none, (.r (.mv (.t 65)))⟩])
   (.seq (.block 2 (.loop l1_internal_strconv_formatBits))
   (.seq (.region [.op ⟨(some 83), none, (.r (.mv (.t 13)))⟩,
     .op ⟨(some 84), none, (.r (.bin .sub (.t 83) (.c (.int .i64 (.ofNat 1)))))⟩,
     .op ⟨(some 13), none, (.r (.mv (.t 84)))⟩])
   (.region [.op ⟨(some 85), none, (.r (.mv (.t 13)))⟩,
     .op ⟨(some 86), none, (.r (.mv (.t 1)))⟩,
     .op ⟨(some 87), none, (.r (.ixstr (.c (.str [48, 49, 50, 51, 52, 53, 54, 55, 56, 57, 97, 98, 99, 100, 101, 102, 103, 104, 105, 106, 107, 108, 109, 110, 111, 112, 113, 114, 115, 116, 117, 118, 119, 120, 121, 122])) (.t 86)))⟩,
     .op ⟨(some 88), none, (.r (.iaarr 65 1 (.t 12) (.t 85)))⟩,
     .op ⟨none, none, (.e (.store 1 (.t 88) (.t 87)))⟩]))))))
  (.seq (.seq (.region [.op ⟨(some 89), none, (.r (.mv (.t 3)))⟩])
  (.cond (.t 89)
   (.seq (.region [.op ⟨(some 90), none, (.r (.mv (.t 13)))⟩,
     .op ⟨(some 91), none, (.r (.bin .sub (.t 90) (.c (.int .i64 (.ofNat 1)))))⟩,
     .op ⟨(some 13), none, (.r (.mv (.t 91)))⟩])
   (.region [.op ⟨(some 92), none, (.r (.mv (.t 13)))⟩,
     .op ⟨(some 93), none, (.r (.iaarr 65 1 (.t 12) (.t 92)))⟩,
     .op ⟨none, none, (.e (.store 1 (.t 93) (.c (.int .u8 (.ofNat 45)))))⟩]))
   .skip))
  (.seq (.seq (.region [.op ⟨(some 94), none, (.r (.mv (.t 4)))⟩])
  (.cond (.t 94)
   (.seq (.region [.op ⟨(some 95), none, (.r (.mv (.t 0)))⟩,
     .op ⟨(some 96), none, (.r (.mv (.t 13)))⟩,
     .op ⟨(some 97), none, (.r (.slarr 65 1 (.t 12) (some (.t 96)) none))⟩,
     .op ⟨(some 98), none, (.e (.app 2 1 1 (.t 95) (.t 97)))⟩,
     .op ⟨(some 10), none, (.r (.mv (.t 98)))⟩])
   .ret)
   .skip))
  (.seq (.region [.op ⟨(some 99), none, (.r (.mv (.t 13)))⟩,
    .op ⟨(some 100), none, (.r (.slarr 65 1 (.t 12) (some (.t 99)) none))⟩,
    .op ⟨(some 101), none, (.r (.b2s (.t 100)))⟩,
    .op ⟨(some 11), none, (.r (.mv (.t 101)))⟩])
  .ret))))))))) }
theorem tr_internal_strconv_formatBits : trF cx Tryd.f45 = pf_internal_strconv_formatBits := by kernel_rfl
def l0_words_Split : PC :=
  (.seq (.seq (.region [.op ⟨(some 6), none, (.r (.mv (.t 5)))⟩,
    .op ⟨(some 7), none, (.r (.mv (.t 0)))⟩,
    .op ⟨(some 8), none, (.r (.lens (.t 7)))⟩,
    .op ⟨(some 9), none, (.r (.bin .leq (.t 6) (.t 8)))⟩])
  (.cond (.t 9)
   .skip
   (.exit 0)))
  (.seq (.block 1 (.seq (.seq (.region [.op ⟨(some 12), none, (.r (.mv (.t 5)))⟩,
     .op ⟨(some 13), none, (.r (.mv (.t 0)))⟩,
     .op ⟨(some 14), none, (.r (.lens (.t 13)))⟩,
     .op ⟨(some 15), none, (.r (.bin .lss (.t 12) (.t 14)))⟩,
     .op ⟨(some 16), none, (.r (.mv (.t 15)))⟩,
     .op ⟨(some 17), (some (16, true)), (.r (.mv (.t 0)))⟩,
     .op ⟨(some 18), (some (16, true)), (.r (.mv (.t 5)))⟩,
     .op ⟨(some 19), (some (16, true)), (.r (.ixstr (.t 17) (.t 18)))⟩,
     .op ⟨(some 20), (some (16, true)), (.r (.bin .neq (.t 19) (.c (.int .u8 (.ofNat 32)))))⟩,
     .op ⟨(some 21), none, (.r (.pick (.t 16) (.t 20) (.c (.bool false))))⟩])
   (.cond (.t 21)
    (.exit 1)
    .skip))
   (.seq (.seq (.region [.op ⟨(some 22), none, (.r (.mv (.t 5)))⟩,
     .op ⟨(some 23), none, (.r (.mv (.t 4)))⟩,
     .op ⟨(some 24), none, (.r (.bin .gtr (.t 22) (.t 23)))⟩])
   (.cond (.t 24)
    (.region [.op ⟨(some 25), none, (.r (.mv (.t 3)))⟩,
      .op ⟨(some 26), none, (.r (.mv (.t 0)))⟩,
      .op ⟨(some 27), none, (.r (.mv (.t 4)))⟩,
      .op ⟨(some 28), none, (.r (.mv (.t 5)))⟩,
      .op ⟨(some 29), none, (.r (.slstr (.t 26) (some (.t 27)) (some (.t 28))))⟩,
      .op ⟨(some 30), none, (.n (.bslice 0 1 1 [(.str [])] [(0, 1, (.t 29))]))⟩,
      .op ⟨(some 31), none, (.e (.app 0 1 16 (.t 25) (.t 30)))⟩,
      .op ⟨(some 3), none, (.r (.mv (.t 31)))⟩])
    .skip))
   (.region [.op ⟨(some 32), none, (.r (.mv (.t 5)))⟩,
     .op ⟨(some 33), none, (.r (.bin .add (.t 32) (.c (.int .i64 (.ofNat 1)))))⟩,
     .op ⟨(some 4), none, (.r (.mv (.t 33)))⟩]))))
  (.region [.op ⟨(some 10), none, (.r (.mv (.t 5)))⟩,
    .op ⟨(some 11), none, (.r (.bin .add (.t 10) (.c (.int .i64 (.ofNat 1)))))⟩,
    .op ⟨(some 5), none, (.r (.mv (.t 11)))⟩])))
/-- depot/words.Split -/
def pf_words_Split : PF := { ntmps := 35, results := [.tmp 2], body :=
  (.seq (.region [.op ⟨(some 2), none, (.r (.mv (.c .nils)))⟩])
  (.scope (.seq (.region [.op ⟨(some 3), none, (.r (.mv (.c .nils)))⟩])
   (.seq (.region [.op ⟨(some 4), none, (.r (.mv (.c (.int .i64 (.ofNat 0)))))⟩])
   (.seq .skip
   (.seq (.seq (.region [.op ⟨(some 5), none, (.r (.mv (.c (.int .i64 (.ofNat 0)))))⟩])
   (.block 0 (.loop l0_words_Split)))
   (.seq (.region [.op ⟨(some 34), none, (.r (.mv (.t 3)))⟩,
     .op ⟨(some 2), none, (.r (.mv (.t 34)))⟩])
   .ret))))))) }
theorem tr_words_Split : trF cx Tryd.f46 = pf_words_Split := by kernel_rfl
/-- depot/words.shapeOf -/
def pf_words_shapeOf : PF := { ntmps := 57, results := [.cell 2 true 4, .tmp 3], body :=
  (.seq (.region [.op ⟨(some 2), none, (.n (.new 0 [(.int .i64 (.ofNat 0)), (.int .i64 (.ofNat 0)), (.int .i64 (.ofNat 0)), (.bool false)]))⟩,
    .op ⟨(some 3), none, (.r (.mv (.c (.bool false))))⟩])
  (.seq (.seq (.region [.op ⟨(some 4), none, (.r (.mv (.t 0)))⟩])
  (.block 0 (.seq (.region [.op ⟨(some 6), none, (.r (.bin .eql (.t 4) (.c (.str [103, 101, 116]))))⟩,
     .op ⟨(some 5), none, (.r (.mv (.t 6)))⟩])
   (.cond (.t 5)
    (.seq (.region [.op ⟨(some 7), none, (.r (.build [(.int .i64 (.ofNat 0)), (.int .i64 (.ofNat 0)), (.int .i64 (.ofNat 0)), (.bool false)] [(0, 1, (.c (.int .i64 (.ofNat 1)))), (1, 1, (.c (.int .i64 (.ofNat 1)))), (2, 1, (.c (.int .i64 (.ofNat 64)))), (3, 1, (.c (.bool false)))]))⟩,
      .op ⟨none, none, (.e (.store 4 (.t 2) (.t 7)))⟩,
      .op ⟨(some 3), none, (.r (.mv (.c (.bool true))))⟩])
    .ret)
    (.seq (.region [.op ⟨(some 9), none, (.r (.bin .eql (.t 4) (.c (.str [103, 101, 116, 115]))))⟩,
      .op ⟨(some 8), none, (.r (.mv (.t 9)))⟩])
    (.cond (.t 8)
     (.seq (.region [.op ⟨(some 10), none, (.r (.build [(.int .i64 (.ofNat 0)), (.int .i64 (.ofNat 0)), (.int .i64 (.ofNat 0)), (.bool false)] [(0, 1, (.c (.int .i64 (.ofNat 2)))), (1, 1, (.c (.int .i64 (.ofNat 1)))), (2, 1, (.c (.int .i64 (.ofNat 64)))), (3, 1, (.c (.bool false)))]))⟩,
       .op ⟨none, none, (.e (.store 4 (.t 2) (.t 10)))⟩,
       .op ⟨(some 3), none, (.r (.mv (.c (.bool true))))⟩])
     .ret)
     (.seq (.region [.op ⟨(some 12), none, (.r (.bin .eql (.t 4) (.c (.str [115, 101, 116]))))⟩,
       .op ⟨(some 11), none, (.r (.mv (.t 12)))⟩])
     (.cond (.t 11)
      (.seq (.region [.op ⟨(some 13), none, (.r (.build [(.int .i64 (.ofNat 0)), (.int .i64 (.ofNat 0)), (.int .i64 (.ofNat 0)), (.bool false)] [(0, 1, (.c (.int .i64 (.ofNat 3)))), (1, 1, (.c (.int .i64 (.ofNat 4)))), (2, 1, (.c (.int .i64 (.ofNat 4)))), (3, 1, (.c (.bool true)))]))⟩,
        .op ⟨none, none, (.e (.store 4 (.t 2) (.t 13)))⟩,
        .op ⟨(some 3), none, (.r (.mv (.c (.bool true))))⟩])
      .ret)
      (.seq (.region [.op ⟨(some 15), none, (.r (.bin .eql (.t 4) (.c (.str [97, 100, 100]))))⟩,
        .op ⟨(some 14), none, (.r (.mv (.t 15)))⟩])
      (.cond (.t 14)
       (.seq (.region [.op ⟨(some 16), none, (.r (.build [(.int .i64 (.ofNat 0)), (.int .i64 (.ofNat 0)), (.int .i64 (.ofNat 0)), (.bool false)] [(0, 1, (.c (.int .i64 (.ofNat 4)))), (1, 1, (.c (.int .i64 (.ofNat 4)))), (2, 1, (.c (.int .i64 (.ofNat 4)))), (3, 1, (.c (.bool true)))]))⟩,
         .op ⟨none, none, (.e (.store 4 (.t 2) (.t 16)))⟩,
         .op ⟨(some 3), none, (.r (.mv (.c (.bool true))))⟩])
       .ret)
       (.seq (.region [.op ⟨(some 18), none, (.r (.bin .eql (.t 4) (.c (.str [114, 101, 112, 108, 97, 99, 101]))))⟩,
         .op ⟨(some 17), none, (.r (.mv (.t 18)))⟩])
       (.cond (.t 17)
        (.seq (.region [.op ⟨(some 19), none, (.r (.build [(.int .i64 (.ofNat 0)), (.int .i64 (.ofNat 0)), (.int .i64 (.ofNat 0)), (.bool false)] [(0, 1, (.c (.int .i64 (.ofNat 5)))), (1, 1, (.c (.int .i64 (.ofNat 4)))), (2, 1, (.c (.int .i64 (.ofNat 4)))), (3, 1, (.c (.bool true)))]))⟩,
          .op ⟨none, none, (.e (.store 4 (.t 2) (.t 19)))⟩,
          .op ⟨(some 3), none, (.r (.mv (.c (.bool true))))⟩])
        .ret)
        (.seq (.region [.op ⟨(some 21), none, (.r (.bin .eql (.t 4) (.c (.str [97, 112, 112, 101, 110, 100]))))⟩,
          .op ⟨(some 20), none, (.r (.mv (.t 21)))⟩])
        (.cond (.t 20)
         (.seq (.region [.op ⟨(some 22), none, (.r (.build [(.int .i64 (.ofNat 0)), (.int .i64 (.ofNat 0)), (.int .i64 (.ofNat 0)), (.bool false)] [(0, 1, (.c (.int .i64 (.ofNat 6)))), (1, 1, (.c (.int .i64 (.ofNat 4)))), (2, 1, (.c (.int .i64 (.ofNat 4)))), (3, 1, (.c (.bool true)))]))⟩,
           .op ⟨none, none, (.e (.store 4 (.t 2) (.t 22)))⟩,
           .op ⟨(some 3), none, (.r (.mv (.c (.bool true))))⟩])
         .ret)
         (.seq (.region [.op ⟨(some 24), none, (.r (.bin .eql (.t 4) (.c (.str [112, 114, 101, 112, 101, 110, 100]))))⟩,
           .op ⟨(some 23), none, (.r (.mv (.t 24)))⟩])
         (.cond (.t 23)
          (.seq (.region [.op ⟨(some 25), none, (.r (.build [(.int .i64 (.ofNat 0)), (.int .i64 (.ofNat 0)), (.int .i64 (.ofNat 0)), (.bool false)] [(0, 1, (.c (.int .i64 (.ofNat 7)))), (1, 1, (.c (.int .i64 (.ofNat 4)))), (2, 1, (.c (.int .i64 (.ofNat 4)))), (3, 1, (.c (.bool true)))]))⟩,
            .op ⟨none, none, (.e (.store 4 (.t 2) (.t 25)))⟩,
            .op ⟨(some 3), none, (.r (.mv (.c (.bool true))))⟩])
          .ret)
          (.seq (.region [.op ⟨(some 27), none, (.r (.bin .eql (.t 4) (.c (.str [99, 97, 115]))))⟩,
            .op ⟨(some 26), none, (.r (.mv (.t 27)))⟩])
          (.cond (.t 26)
           (.seq (.region [.op ⟨(some 28), none, (.r (.build [(.int .i64 (.ofNat 0)), (.int .i64 (.ofNat 0)), (.int .i64 (.ofNat 0)), (.bool false)] [(0, 1, (.c (.int .i64 (.ofNat 8)))), (1, 1, (.c (.int .i64 (.ofNat 5)))), (2, 1, (.c (.int .i64 (.ofNat 5)))), (3, 1, (.c (.bool true)))]))⟩,
             .op ⟨none, none, (.e (.store 4 (.t 2) (.t 28)))⟩,
             .op ⟨(some 3), none, (.r (.mv (.c (.bool true))))⟩])
           .ret)
           (.seq (.region [.op ⟨(some 30), none, (.r (.bin .eql (.t 4) (.c (.str [100, 101, 108, 101, 116, 101]))))⟩,
             .op ⟨(some 29), none, (.r (.mv (.t 30)))⟩])
           (.cond (.t 29)
            (.seq (.region [.op ⟨(some 31), none, (.r (.build [(.int .i64 (.ofNat 0)), (.int .i64 (.ofNat 0)), (.int .i64 (.ofNat 0)), (.bool false)] [(0, 1, (.c (.int .i64 (.ofNat 9)))), (1, 1, (.c (.int .i64 (.ofNat 1)))), (2, 1, (.c (.int .i64 (.ofNat 1)))), (3, 1, (.c (.bool true)))]))⟩,
              .op ⟨none, none, (.e (.store 4 (.t 2) (.t 31)))⟩,
              .op ⟨(some 3), none, (.r (.mv (.c (.bool true))))⟩])
            .ret)
            (.seq (.region [.op ⟨(some 33), none, (.r (.bin .eql (.t 4) (.c (.str [105, 110, 99, 114]))))⟩,
              .op ⟨(some 32), none, (.r (.mv (.t 33)))⟩])
            (.cond (.t 32)
             (.seq (.region [.op ⟨(some 34), none, (.r (.build [(.int .i64 (.ofNat 0)), (.int .i64 (.ofNat 0)), (.int .i64 (.ofNat 0)), (.bool false)] [(0, 1, (.c (.int .i64 (.ofNat 10)))), (1, 1, (.c (.int .i64 (.ofNat 2)))), (2, 1, (.c (.int .i64 (.ofNat 2)))), (3, 1, (.c (.bool true)))]))⟩,
               .op ⟨none, none, (.e (.store 4 (.t 2) (.t 34)))⟩,
               .op ⟨(some 3), none, (.r (.mv (.c (.bool true))))⟩])
             .ret)
             (.seq (.region [.op ⟨(some 36), none, (.r (.bin .eql (.t 4) (.c (.str [100, 101, 99, 114]))))⟩,
               .op ⟨(some 35), none, (.r (.mv (.t 36)))⟩])
             (.cond (.t 35)
              (.seq (.region [.op ⟨(some 37), none, (.r (.build [(.int .i64 (.ofNat 0)), (.int .i64 (.ofNat 0)), (.int .i64 (.ofNat 0)), (.bool false)] [(0, 1, (.c (.int .i64 (.ofNat 11)))), (1, 1, (.c (.int .i64 (.ofNat 2)))), (2, 1, (.c (.int .i64 (.ofNat 2)))), (3, 1, (.c (.bool true)))]))⟩,
                .op ⟨none, none, (.e (.store 4 (.t 2) (.t 37)))⟩,
                .op ⟨(some 3), none, (.r (.mv (.c (.bool true))))⟩])
              .ret)
              (.seq (.region [.op ⟨(some 39), none, (.r (.bin .eql (.t 4) (.c (.str [116, 111, 117, 99, 104]))))⟩,
                .op ⟨(some 38), none, (.r (.mv (.t 39)))⟩])
              (.cond (.t 38)
               (.seq (.region [.op ⟨(some 40), none, (.r (.build [(.int .i64 (.ofNat 0)), (.int .i64 (.ofNat 0)), (.int .i64 (.ofNat 0)), (.bool false)] [(0, 1, (.c (.int .i64 (.ofNat 12)))), (1, 1, (.c (.int .i64 (.ofNat 2)))), (2, 1, (.c (.int .i64 (.ofNat 2)))), (3, 1, (.c (.bool true)))]))⟩,
                 .op ⟨none, none, (.e (.store 4 (.t 2) (.t 40)))⟩,
                 .op ⟨(some 3), none, (.r (.mv (.c (.bool true))))⟩])
               .ret)
               (.seq (.region [.op ⟨(some 42), none, (.r (.bin .eql (.t 4) (.c (.str [102, 108, 117, 115, 104, 95, 97, 108, 108]))))⟩,
                 .op ⟨(some 41), none, (.r (.mv (.t 42)))⟩])
               (.cond (.t 41)
                (.seq (.region [.op ⟨(some 43), none, (.r (.build [(.int .i64 (.ofNat 0)), (.int .i64 (.ofNat 0)), (.int .i64 (.ofNat 0)), (.bool false)] [(0, 1, (.c (.int .i64 (.ofNat 13)))), (1, 1, (.c (.int .i64 (.ofNat 0)))), (2, 1, (.c (.int .i64 (.ofNat 1)))), (3, 1, (.c (.bool true)))]))⟩,
                  .op ⟨none, none, (.e (.store 4 (.t 2) (.t 43)))⟩,
                  .op ⟨(some 3), none, (.r (.mv (.c (.bool true))))⟩])
                .ret)
                (.seq (.region [.op ⟨(some 45), none, (.r (.bin .eql (.t 4) (.c (.str [118, 101, 114, 115, 105, 111, 110]))))⟩,
                  .op ⟨(some 44), none, (.r (.mv (.t 45)))⟩])
                (.cond (.t 44)
                 (.seq (.region [.op ⟨(some 46), none, (.r (.build [(.int .i64 (.ofNat 0)), (.int .i64 (.ofNat 0)), (.int .i64 (.ofNat 0)), (.bool false)] [(0, 1, (.c (.int .i64 (.ofNat 14)))), (1, 1, (.c (.int .i64 (.ofNat 0)))), (2, 1, (.c (.int .i64 (.ofNat 0)))), (3, 1, (.c (.bool false)))]))⟩,
                   .op ⟨none, none, (.e (.store 4 (.t 2) (.t 46)))⟩,
                   .op ⟨(some 3), none, (.r (.mv (.c (.bool true))))⟩])
                 .ret)
                 (.seq (.region [.op ⟨(some 48), none, (.r (.bin .eql (.t 4) (.c (.str [118, 101, 114, 98, 111, 115, 105, 116, 121]))))⟩,
                   .op ⟨(some 47), none, (.r (.mv (.t 48)))⟩])
                 (.cond (.t 47)
                  (.seq (.region [.op ⟨(some 49), none, (.r (.build [(.int .i64 (.ofNat 0)), (.int .i64 (.ofNat 0)), (.int .i64 (.ofNat 0)), (.bool false)] [(0, 1, (.c (.int .i64 (.ofNat 15)))), (1, 1, (.c (.int .i64 (.ofNat 1)))), (2, 1, (.c (.int .i64 (.ofNat 1)))), (3, 1, (.c (.bool true)))]))⟩,
                    .op ⟨none, none, (.e (.store 4 (.t 2) (.t 49)))⟩,
                    .op ⟨(some 3), none, (.r (.mv (.c (.bool true))))⟩])
                  .ret)
                  (.seq (.region [.op ⟨(some 51), none, (.r (.bin .eql (.t 4) (.c (.str [115, 116, 97, 116, 115]))))⟩,
                    .op ⟨(some 50), none, (.r (.mv (.t 51)))⟩])
                  (.cond (.t 50)
                   (.seq (.region [.op ⟨(some 52), none, (.r (.build [(.int .i64 (.ofNat 0)), (.int .i64 (.ofNat 0)), (.int .i64 (.ofNat 0)), (.bool false)] [(0, 1, (.c (.int .i64 (.ofNat 16)))), (1, 1, (.c (.int .i64 (.ofNat 0)))), (2, 1, (.c (.int .i64 (.ofNat 0)))), (3, 1, (.c (.bool false)))]))⟩,
                     .op ⟨none, none, (.e (.store 4 (.t 2) (.t 52)))⟩,
                     .op ⟨(some 3), none, (.r (.mv (.c (.bool true))))⟩])
                   .ret)
                   (.seq (.region [.op ⟨(some 54), none, (.r (.bin .eql (.t 4) (.c (.str [113, 117, 105, 116]))))⟩,
                     .op ⟨(some 53), none, (.r (.mv (.t 54)))⟩])
                   (.cond (.t 53)
                    (.seq (.region [.op ⟨(some 55), none, (.r (.build [(.int .i64 (.ofNat 0)), (.int .i64 (.ofNat 0)), (.int .i64 (.ofNat 0)), (.bool false)] [(0, 1, (.c (.int .i64 (.ofNat 17)))), (1, 1, (.c (.int .i64 (.ofNat 0)))), (2, 1, (.c (.int .i64 (.ofNat 0)))), (3, 1, (.c (.bool false)))]))⟩,
                      .op ⟨none, none, (.e (.store 4 (.t 2) (.t 55)))⟩,
                      .op ⟨(some 3), none, (.r (.mv (.c (.bool true))))⟩])
                    .ret)
                    .skip))))))))))))))))))))))))))))))))))))
  (.seq (.region [.op ⟨(some 56), none, (.r (.build [(.int .i64 (.ofNat 0)), (.int .i64 (.ofNat 0)), (.int .i64 (.ofNat 0)), (.bool false)] []))⟩,
    .op ⟨none, none, (.e (.store 4 (.t 2) (.t 56)))⟩,
    .op ⟨(some 3), none, (.r (.mv (.c (.bool false))))⟩])
  .ret))) }
theorem tr_words_shapeOf : trF cx Tryd.f47 = pf_words_shapeOf := by kernel_rfl
def l0_words_fill : PC :=
  (.seq (.region [.op ⟨(some 20), none, (.r (.bin .lss (.t 19) (.t 18)))⟩])
  (.seq (.cond (.t 20)
   .skip
   (.exit 1))
  (.seq (.block 2 (.seq (.region [.op ⟨(some 21), none, (.r (.iasl 1 (.t 17) (.t 19)))⟩,
     .op ⟨(some 22), none, (.r (.load false 1 (.t 21)))⟩,
     .op ⟨(some 6), none, (.r (.mv (.t 22)))⟩])
   (.seq (.region [.op ⟨(some 23), none, (.r (.mv (.t 6)))⟩,
     .op ⟨(some 24), none, (.e (.call n_words_Key [(.t 23)]))⟩,
     .op ⟨(some 25), none, (.r (.un .not (.t 24)))⟩])
   (.cond (.t 25)
    (.seq (.region [.op ⟨(some 4), none, (.r (.mv (.c (.bool false))))⟩])
    .ret)
    .skip))))
  (.region [.op ⟨(some 26), none, (.r (.bin .add (.t 19) (.c (.int .i64 (.ofNat 1)))))⟩,
    .op ⟨(some 19), none, (.r (.mv (.t 26)))⟩]))))
/-- depot/words.fill -/
def pf_words_fill : PF := { ntmps := 127, results := [.tmp 4], body :=
  (.seq (.region [.op ⟨(some 4), none, (.r (.mv (.c (.bool false))))⟩])
  (.seq (.seq (.region [.op ⟨(some 10), none, (.r (.mv (.t 0)))⟩,
    .op ⟨(some 11), none, (.r (.nilck (.t 10)))⟩,
    .op ⟨(some 12), none, (.r (.faddr 0 (.t 11)))⟩,
    .op ⟨(some 13), none, (.r (.load false 1 (.t 12)))⟩])
  (.block 0 (.seq (.seq (.region [.op ⟨(some 15), none, (.r (.bin .eql (.t 13) (.c (.int .i64 (.ofNat 1)))))⟩,
     .op ⟨(some 14), none, (.r (.mv (.t 15)))⟩])
   (.cond (.t 14)
    .skip
    (.region [.op ⟨(some 16), none, (.r (.bin .eql (.t 13) (.c (.int .i64 (.ofNat 2)))))⟩,
      .op ⟨(some 14), none, (.r (.mv (.t 16)))⟩])))
   (.cond (.t 14)
    (.seq (.seq (.region [.op ⟨(some 17), none, (.r (.mv (.t 1)))⟩,
      .op ⟨(some 18), none, (.r (.lensl (.t 17)))⟩,
      .op ⟨(some 19), none, (.r (.mv (.c (.int .i64 (.ofNat 0)))))⟩])
    (.block 1 (.loop l0_words_fill)))
    (.seq (.region [.op ⟨(some 27), none, (.r (.mv (.t 0)))⟩,
      .op ⟨(some 28), none, (.r (.mv (.t 0)))⟩,
      .op ⟨(some 29), none, (.r (.nilck (.t 28)))⟩,
      .op ⟨(some 30), none, (.r (.faddr 1 (.t 29)))⟩,
      .op ⟨(some 31), none, (.r (.load false 1 (.t 30)))⟩,
      .op ⟨(some 32), none, (.r (.mv (.t 1)))⟩,
      .op ⟨(some 33), none, (.e (.app 0 1 16 (.t 31) (.t 32)))⟩,
      .op ⟨(some 34), none, (.r (.nilck (.t 27)))⟩,
      .op ⟨(some 35), none, (.r (.faddr 1 (.t 34)))⟩,
      .op ⟨none, none, (.e (.store 1 (.t 35) (.t 33)))⟩])
    (.seq (.region [.op ⟨(some 4), none, (.r (.mv (.c (.bool true))))⟩])
    .ret)))
    (.seq (.region [.op ⟨(some 37), none, (.r (.bin .eql (.t 13) (.c (.int .i64 (.ofNat 13)))))⟩,
      .op ⟨(some 36), none, (.r (.mv (.t 37)))⟩])
    (.cond (.t 36)
     (.seq (.region [.op ⟨(some 38), none, (.r (.mv (.t 1)))⟩,
       .op ⟨(some 39), none, (.r (.lensl (.t 38)))⟩,
       .op ⟨(some 40), none, (.r (.bin .eql (.t 39) (.c (.int .i64 (.ofNat 0)))))⟩,
       .op ⟨(some 41), none, (.r (.mv (.t 40)))⟩,
       .op ⟨(some 42), (some (41, false)), (.r (.mv (.t 1)))⟩,
       .op ⟨(some 43), (some (41, false)), (.r (.iasl 1 (.t 42) (.c (.int .i64 (.ofNat 0)))))⟩,
       .op ⟨(some 44), (some (41, false)), (.r (.load false 1 (.t 43)))⟩,
       .op ⟨(some 45), (some (41, false)), (.r (.bin .eql (.t 44) (.c (.str [48]))))⟩,
       .op ⟨(some 46), none, (.r (.pick (.t 41) (.c (.bool true)) (.t 45)))⟩,
       .op ⟨(some 4), none, (.r (.mv (.t 46)))⟩])
     .ret)
     (.seq (.region [.op ⟨(some 48), none, (.r (.bin .eql (.t 13) (.c (.int .i64 (.ofNat 15)))))⟩,
       .op ⟨(some 47), none, (.r (.mv (.t 48)))⟩])
     (.cond (.t 47)
      (.seq (.region [.op ⟨(some 50), none, (.r (.mv (.t 1)))⟩,
        .op ⟨(some 51), none, (.r (.iasl 1 (.t 50) (.c (.int .i64 (.ofNat 0)))))⟩,
        .op ⟨(some 52), none, (.r (.load false 1 (.t 51)))⟩,
        .op ⟨(some 53), none, (.e (.call n_words_Number [(.t 52), (.c (.int .u64 (.ofNat 4294967295)))]))⟩,
        .op ⟨(some 49), none, (.r (.mv (.t 53)))⟩,
        .op ⟨(some 54), none, (.r (.ext 0 (.t 49)))⟩,
        .op ⟨(some 55), none, (.r (.ext 1 (.t 49)))⟩,
        .op ⟨(some 7), none, (.r (.mv (.t 54)))⟩,
        .op ⟨(some 8), none, (.r (.mv (.t 55)))⟩])
      (.seq (.region [.op ⟨(some 56), none, (.r (.mv (.t 8)))⟩,
        .op ⟨(some 4), none, (.r (.mv (.t 56)))⟩])
      .ret))
      (.seq (.seq (.region [.op ⟨(some 58), none, (.r (.bin .eql (.t 13) (.c (.int .i64 (.ofNat 14)))))⟩,
        .op ⟨(some 57), none, (.r (.mv (.t 58)))⟩])
      (.cond (.t 57)
       .skip
       (.seq (.region [.op ⟨(some 59), none, (.r (.bin .eql (.t 13) (.c (.int .i64 (.ofNat 16)))))⟩,
         .op ⟨(some 57), none, (.r (.mv (.t 59)))⟩])
       (.cond (.t 57)
        .skip
        (.region [.op ⟨(some 60), none, (.r (.bin .eql (.t 13) (.c (.int .i64 (.ofNat 17)))))⟩,
          .op ⟨(some 57), none, (.r (.mv (.t 60)))⟩])))))
      (.cond (.t 57)
       (.seq (.region [.op ⟨(some 4), none, (.r (.mv (.c (.bool true))))⟩])
       .ret)
       .skip))))))))))
  (.seq (.seq (.region [.op ⟨(some 61), none, (.r (.mv (.t 1)))⟩,
    .op ⟨(some 62), none, (.r (.iasl 1 (.t 61) (.c (.int .i64 (.ofNat 0)))))⟩,
    .op ⟨(some 63), none, (.r (.load false 1 (.t 62)))⟩,
    .op ⟨(some 64), none, (.e (.call n_words_Key [(.t 63)]))⟩,
    .op ⟨(some 65), none, (.r (.un .not (.t 64)))⟩])
  (.cond (.t 65)
   (.seq (.region [.op ⟨(some 4), none, (.r (.mv (.c (.bool false))))⟩])
   .ret)
   .skip))
  (.seq (.region [.op ⟨(some 66), none, (.r (.mv (.t 0)))⟩,
    .op ⟨(some 67), none, (.r (.mv (.t 0)))⟩,
    .op ⟨(some 68), none, (.r (.nilck (.t 67)))⟩,
    .op ⟨(some 69), none, (.r (.faddr 1 (.t 68)))⟩,
    .op ⟨(some 70), none, (.r (.load false 1 (.t 69)))⟩,
    .op ⟨(some 71), none, (.r (.mv (.t 1)))⟩,
    .op ⟨(some 72), none, (.r (.iasl 1 (.t 71) (.c (.int .i64 (.ofNat 0)))))⟩,
    .op ⟨(some 73), none, (.r (.load false 1 (.t 72)))⟩,
    .op ⟨(some 74), none, (.n (.bslice 0 1 1 [(.str [])] [(0, 1, (.t 73))]))⟩,
    .op ⟨(some 75), none, (.e (.app 0 1 16 (.t 70) (.t 74)))⟩,
    .op ⟨(some 76), none, (.r (.nilck (.t 66)))⟩,
    .op ⟨(some 77), none, (.r (.faddr 1 (.t 76)))⟩,
    .op ⟨none, none, (.e (.store 1 (.t 77) (.t 75)))⟩])
  (.seq (.region [.op ⟨(some 9), none, (.r (.mv (.c (.bool true))))⟩])
  (.seq (.block 3 (.seq (.region [.op ⟨(some 79), none, (.r (.mv (.t 0)))⟩,
     .op ⟨(some 80), none, (.r (.nilck (.t 79)))⟩,
     .op ⟨(some 81), none, (.r (.faddr 0 (.t 80)))⟩,
     .op ⟨(some 82), none, (.r (.load false 1 (.t 81)))⟩,
     .op ⟨(some 83), none, (.e (.call n_words_Storing [(.t 82)]))⟩,
     .op ⟨(some 78), none, (.r (.mv (.t 83)))⟩])
   (.cond (.t 78)
    (.region [.op ⟨(some 84), none, (.r (.mv (.t 0)))⟩,
      .op ⟨(some 85), none, (.r (.mv (.t 1)))⟩,
      .op ⟨(some 86), none, (.e (.call n_words_store [(.t 84), (.t 85)]))⟩,
      .op ⟨(some 9), none, (.r (.mv (.t 86)))⟩])
    (.seq (.region [.op ⟨(some 88), none, (.r (.mv (.t 0)))⟩,
      .op ⟨(some 89), none, (.r (.nilck (.t 88)))⟩,
      .op ⟨(some 90), none, (.r (.faddr 0 (.t 89)))⟩,
      .op ⟨(some 91), none, (.r (.load false 1 (.t 90)))⟩,
      .op ⟨(some 92), none, (.r (.bin .eql (.t 91) (.c (.int .i64 (.ofNat 10)))))⟩,
      .op ⟨(some 93), none, (.r (.mv (.t 92)))⟩,
      .op ⟨(some 94), (some (93, false)), (.r (.mv (.t 0)))⟩,
      .op ⟨(some 95), (some (93, false)), (.r (.nilck (.t 94)))⟩,
      .op ⟨(some 96), (some (93, false)), (.r (.faddr 0 (.t 95)))⟩,
      .op ⟨(some 97), (some (93, false)), (.r (.load false 1 (.t 96)))⟩,
      .op ⟨(some 98), (some (93, false)), (.r (.bin .eql (.t 97) (.c (.int .i64 (.ofNat 11)))))⟩,
      .op ⟨(some 99), none, (.r (.pick (.t 93) (.c (.bool true)) (.t 98)))⟩,
      .op ⟨(some 87), none, (.r (.mv (.t 99)))⟩])
    (.cond (.t 87)
     (.region [.op ⟨(some 101), none, (.r (.mv (.t 0)))⟩,
       .op ⟨(some 102), none, (.r (.mv (.t 1)))⟩,
       .op ⟨(some 103), none, (.r (.iasl 1 (.t 102) (.c (.int .i64 (.ofNat 1)))))⟩,
       .op ⟨(some 104), none, (.r (.load false 1 (.t 103)))⟩,
       .op ⟨(some 105), none, (.e (.call n_words_Number [(.t 104), (.c (.int .u64 (.ofNat 18446744073709551615)))]))⟩,
       .op ⟨(some 100), none, (.r (.mv (.t 105)))⟩,
       .op ⟨(some 106), none, (.r (.ext 0 (.t 100)))⟩,
       .op ⟨(some 107), none, (.r (.ext 1 (.t 100)))⟩,
       .op ⟨(some 108), none, (.r (.nilck (.t 101)))⟩,
       .op ⟨(some 109), none, (.r (.faddr 6 (.t 108)))⟩,
       .op ⟨none, none, (.e (.store 1 (.t 109) (.t 106)))⟩,
       .op ⟨(some 9), none, (.r (.mv (.t 107)))⟩])
     (.seq (.region [.op ⟨(some 111), none, (.r (.mv (.t 0)))⟩,
       .op ⟨(some 112), none, (.r (.nilck (.t 111)))⟩,
       .op ⟨(some 113), none, (.r (.faddr 0 (.t 112)))⟩,
       .op ⟨(some 114), none, (.r (.load false 1 (.t 113)))⟩,
       .op ⟨(some 115), none, (.r (.bin .eql (.t 114) (.c (.int .i64 (.ofNat 12)))))⟩,
       .op ⟨(some 110), none, (.r (.mv (.t 115)))⟩])
     (.cond (.t 110)
      (.region [.op ⟨(some 117), none, (.r (.mv (.t 0)))⟩,
        .op ⟨(some 118), none, (.r (.mv (.t 1)))⟩,
        .op ⟨(some 119), none, (.r (.iasl 1 (.t 118) (.c (.int .i64 (.ofNat 1)))))⟩,
        .op ⟨(some 120), none, (.r (.load false 1 (.t 119)))⟩,
        .op ⟨(some 121), none, (.e (.call n_words_signed [(.t 120), (.c (.int .u64 (.ofNat 1099511627776)))]))⟩,
        .op ⟨(some 116), none, (.r (.mv (.t 121)))⟩,
        .op ⟨(some 122), none, (.r (.ext 0 (.t 116)))⟩,
        .op ⟨(some 123), none, (.r (.ext 1 (.t 116)))⟩,
        .op ⟨(some 124), none, (.r (.nilck (.t 117)))⟩,
        .op ⟨(some 125), none, (.r (.faddr 3 (.t 124)))⟩,
        .op ⟨none, none, (.e (.store 1 (.t 125) (.t 122)))⟩,
        .op ⟨(some 9), none, (.r (.mv (.t 123)))⟩])
      .skip)))))))
  (.seq (.region [.op ⟨(some 126), none, (.r (.mv (.t 9)))⟩,
    .op ⟨(some 4), none, (.r (.mv (.t 126)))⟩])
  .ret))))))) }
theorem tr_words_fill : trF cx Tryd.f48 = pf_words_fill := by kernel_rfl
/-- internal/strconv.FormatInt -/
def pf_internal_strconv_FormatInt : PF := { ntmps := 54, results := [.tmp 4], body :=
  (.seq (.region [.op ⟨(some 4), none, (.r (.mv (.c (.str []))))⟩])
  (.seq (.seq (.region [.op ⟨(some 10), none, (.r (.mv (.t 1)))⟩,
    .op ⟨(some 11), none, (.r (.bin .eql (.t 10) (.c (.int .i64 (.ofNat 10)))))⟩])
  (.cond (.t 11)
   (.seq (.seq (.region [.op ⟨(some 12), none, (.r (.mv (.t 0)))⟩,
     .op ⟨(some 13), none, (.r (.bin .leq (.c (.int .i64 (.ofNat 0))) (.t 12)))⟩,
     .op ⟨(some 14), none, (.r (.mv (.t 13)))⟩,
     .op ⟨(some 15), (some (14, true)), (.r (.mv (.t 0)))⟩,
     .op ⟨(some 16), (some (14, true)), (.r (.bin .lss (.t 15) (.c (.int .i64 (.ofNat 100)))))⟩,
     .op ⟨(some 17), none, (.r (.pick (.t 14) (.t 16) (.c (.bool false))))⟩])
   (.cond (.t 17)
    (.seq (.region [.op ⟨(some 18), none, (.r (.mv (.t 0)))⟩,
      .op ⟨(some 19), none, (.e (.call n_internal_strconv_small [(.t 18)]))⟩,
      .op ⟨(some 4), none, (.r (.mv (.t 19)))⟩])
    .ret)
    .skip))
   (.seq (.region [.op ⟨(some 5), none, (.n (.new 0 (rep 24 [(.int .u8 (.ofNat 0))])))⟩])
   (.seq (.region [.op ⟨(some 20), none, (.r (.mv (.t 0)))⟩,
     .op ⟨(some 21), none, (.r (.cint .u64 (.t 20)))⟩,
     .op ⟨(some 6), none, (.r (.mv (.t 21)))⟩])
   (.seq (.seq (.region [.op ⟨(some 22), none, (.r (.mv (.t 0)))⟩,
     .op ⟨(some 23), none, (.r (.bin .lss (.t 22) (.c (.int .i64 (.ofNat 0)))))⟩])
   (.cond (.t 23)
    (.region [.op ⟨(some 24), none, (.r (.mv (.t 6)))⟩,
      .op ⟨(some 25), none, (.r (.un .neg (.t 24)))⟩,
      .op ⟨(some 6), none, (.r (.mv (.t 25)))⟩])
    .skip))
   (.seq (.region [.op ⟨(some 26), none, (.r (.mv (.t 6)))⟩,
     .op ⟨(some 27), none, (.e (.call n_internal_strconv_numDigits [(.t 26)]))⟩,
     .op ⟨(some 7), none, (.r (.mv (.t 27)))⟩])
   (.seq (.region [.op ⟨(some 28), none, (.r (.mv (.t 7)))⟩,
     .op ⟨(some 29), none, (.r (.bin .add (.c (.int .i64 (.ofNat 1))) (.t 28)))⟩,
     .op ⟨(some 30), none, (.r (.slarr 24 1 (.t 5) (some (.c (.int .i64 (.ofNat 1)))) (some (.t 29))))⟩,
     .op ⟨(some 31), none, (.r (.mv (.t 6)))⟩,
     .op ⟨(some 32), none, (.e (.call n_internal_strconv_formatBase10 [(.t 30), (.t 31)]))⟩])
   (.seq (.seq (.region [.op ⟨(some 33), none, (.r (.mv (.t 0)))⟩,
     .op ⟨(some 34), none, (.r (.bin .lss (.t 33) (.c (.int .i64 (.ofNat 0)))))⟩])
   (.cond (.t 34)
    (.seq (.region [.op ⟨(some 35), none, (.r (.iaarr 24 1 (.t 5) (.c (.int .i64 (.ofNat 0)))))⟩,
      .op ⟨none, none, (.e (.store 1 (.t 35) (.c (.int .u8 (.ofNat 45)))))⟩])
    (.seq (.region [.op ⟨(some 36), none, (.r (.mv (.t 7)))⟩,
      .op ⟨(some 37), none, (.r (.bin .add (.c (.int .i64 (.ofNat 1))) (.t 36)))⟩,
      .op ⟨(some 38), none, (.r (.slarr 24 1 (.t 5) none (some (.t 37))))⟩,
      .op ⟨(some 39), none, (.r (.b2s (.t 38)))⟩,
      .op ⟨(some 4), none, (.r (.mv (.t 39)))⟩])
    .ret))
    .skip))
   (.seq (.region [.op ⟨(some 40), none, (.r (.mv (.t 7)))⟩,
     .op ⟨(some 41), none, (.r (.bin .add (.c (.int .i64 (.ofNat 1))) (.t 40)))⟩,
     .op ⟨(some 42), none, (.r (.slarr 24 1 (.t 5) (some (.c (.int .i64 (.ofNat 1)))) (some (.t 41))))⟩,
     .op ⟨(some 43), none, (.r (.b2s (.t 42)))⟩,
     .op ⟨(some 4), none, (.r (.mv (.t 43)))⟩])
   .ret))))))))
   .skip))
  (.seq (.region [.op ⟨(some 45), none, (.r (.mv (.t 0)))⟩,
    .op ⟨(some 46), none, (.r (.cint .u64 (.t 45)))⟩,
    .op ⟨(some 47), none, (.r (.mv (.t 1)))⟩,
    .op ⟨(some 48), none, (.r (.mv (.t 0)))⟩,
    .op ⟨(some 49), none, (.r (.bin .lss (.t 48) (.c (.int .i64 (.ofNat 0)))))⟩,
    .op ⟨(some 50), none, (.e (.call n_internal_strconv_formatBits [(.c .nils), (.t 46), (.t 47), (.t 49), (.c (.bool false))]))⟩,
    .op ⟨(some 44), none, (.r (.mv (.t 50)))⟩,
    .op ⟨(some 51), none, (.r (.ext 0 (.t 44)))⟩,
    .op ⟨(some 52), none, (.r (.ext 1 (.t 44)))⟩,
    .op ⟨(some 8), none, (.r (.mv (.t 51)))⟩,
    .op ⟨(some 9), none, (.r (.mv (.t 52)))⟩])
  (.seq (.region [.op ⟨(some 53), none, (.r (.mv (.t 9)))⟩,
    .op ⟨(some 4), none, (.r (.mv (.t 53)))⟩])
  .ret)))) }
theorem tr_internal_strconv_FormatInt : trF cx Tryd.f49 = pf_internal_strconv_FormatInt := by kernel_rfl
/-- strings.IndexByte -/
def pf_strings_IndexByte : PF := { ntmps := 8, results := [.tmp 4], body :=
  (.seq (.region [.op ⟨(some 4), none, (.r (.mv (.c (.int .i64 (.ofNat 0)))))⟩])
  (.seq (.region [.op ⟨(some 5), none, (.r (.mv (.t 0)))⟩,
    .op ⟨(some 6), none, (.r (.mv (.t 1)))⟩,
    .op ⟨(some 7), none, (.e (.call n_internal_stringslite_IndexByte [(.t 5), (.t 6)]))⟩,
    .op ⟨(some 4), none, (.r (.mv (.t 7)))⟩])
  .ret)) }
theorem tr_strings_IndexByte : trF cx Tryd.f50 = pf_strings_IndexByte := by kernel_rfl
/-- (*depot/parse.Parser).end -/
def pf_parse_Parser_end : PF := { ntmps := 10, results := [], body :=
  (.seq (.region [.op ⟨(some 2), none, (.r (.mv (.t 0)))⟩,
    .op ⟨(some 3), none, (.e (.call n_parse_Parser_say [(.t 2), (.c (.int .i64 (.ofNat 15))), (.c (.str []))]))⟩])
  (.region [.op ⟨(some 4), none, (.r (.mv (.t 0)))⟩,
    .op ⟨(some 5), none, (.r (.mv (.t 0)))⟩,
    .op ⟨(some 6), none, (.r (.nilck (.t 4)))⟩,
    .op ⟨(some 7), none, (.r (.faddr 12 (.t 6)))⟩,
    .op ⟨none, none, (.e (.store 1 (.t 7) (.c (.bool true))))⟩,
    .op ⟨(some 8), none, (.r (.nilck (.t 5)))⟩,
    .op ⟨(some 9), none, (.r (.faddr 1 (.t 8)))⟩,
    .op ⟨none, none, (.e (.store 1 (.t 9) (.c (.str []))))⟩])) }
theorem tr_parse_Parser_end : trF cx Tryd.f51 = pf_parse_Parser_end := by kernel_rfl
/-- strings.TrimSuffix -/
def pf_strings_TrimSuffix : PF := { ntmps := 8, results := [.tmp 4], body :=
  (.seq (.region [.op ⟨(some 4), none, (.r (.mv (.c (.str []))))⟩])
  (.seq (.region [.op ⟨(some 5), none, (.r (.mv (.t 0)))⟩,
    .op ⟨(some 6), none, (.r (.mv (.t 1)))⟩,
    .op ⟨(some 7), none, (.e (.call n_internal_stringslite_TrimSuffix [(.t 5), (.t 6)]))⟩,
    .op ⟨(some 4), none, (.r (.mv (.t 7)))⟩])
  .ret)) }
theorem tr_strings_TrimSuffix : trF cx Tryd.f52 = pf_strings_TrimSuffix := by kernel_rfl
/-- (*depot/parse.Parser).say -/
def pf_parse_Parser_say : PF := { ntmps := 19, results := [], body :=
  (.region [.op ⟨(some 6), none, (.r (.mv (.t 0)))⟩,
    .op ⟨(some 7), none, (.r (.mv (.t 0)))⟩,
    .op ⟨(some 8), none, (.r (.nilck (.t 7)))⟩,
    .op ⟨(some 9), none, (.r (.faddr 13 (.t 8)))⟩,
    .op ⟨(some 10), none, (.r (.load false 1 (.t 9)))⟩,
    .op ⟨(some 11), none, (.r (.mv (.t 1)))⟩,
    .op ⟨(some 12), none, (.r (.mv (.t 2)))⟩,
    .op ⟨(some 13), none, (.r (.build [(.int .i64 (.ofNat 0)), .nils, (.bool false), (.int .u64 (.ofNat 0)), (.str []), (.int .i64 (.ofNat 0)), (.int .i64 (.ofNat 0)), (.int .i64 (.ofNat 0)), (.int .i64 (.ofNat 0))] [(0, 1, (.t 11)), (4, 1, (.t 12))]))⟩,
    .op ⟨(some 14), none, (.r (.build [(.int .i64 (.ofNat 0)), .nils, (.int .i64 (.ofNat 0)), (.int .i64 (.ofNat 0)), (.int .i64 (.ofNat 0)), (.int .i64 (.ofNat 0)), (.int .u64 (.ofNat 0)), (.bool false), (.str []), (.int .i64 (.ofNat 0)), .nils, (.bool false), (.int .u64 (.ofNat 0)), (.str []), (.int .i64 (.ofNat 0)), (.int .i64 (.ofNat 0)), (.int .i64 (.ofNat 0)), (.int .i64 (.ofNat 0))] [(9, 9, (.t 13))]))⟩,
    .op ⟨(some 15), none, (.n (.bslice 0 18 1 [(.int .i64 (.ofNat 0)), .nils, (.int .i64 (.ofNat 0)), (.int .i64 (.ofNat 0)), (.int .i64 (.ofNat 0)), (.int .i64 (.ofNat 0)), (.int .u64 (.ofNat 0)), (.bool false), (.str []), (.int .i64 (.ofNat 0)), .nils, (.bool false), (.int .u64 (.ofNat 0)), (.str []), (.int .i64 (.ofNat 0)), (.int .i64 (.ofNat 0)), (.int .i64 (.ofNat 0)), (.int .i64 (.ofNat 0))] [(0, 18, (.t 14))]))⟩,
    .op ⟨(some 16), none, (.e (.app 0 18 192 (.t 10) (.t 15)))⟩,
    .op ⟨(some 17), none, (.r (.nilck (.t 6)))⟩,
    .op ⟨(some 18), none, (.r (.faddr 13 (.t 17)))⟩,
    .op ⟨none, none, (.e (.store 1 (.t 18) (.t 16)))⟩]) }
theorem tr_parse_Parser_say : trF cx Tryd.f53 = pf_parse_Parser_say := by kernel_rfl
/-- depot/words.Storing -/
def pf_words_Storing : PF := { ntmps := 9, results := [.tmp 2], body :=
  (.seq (.region [.op ⟨(some 2), none, (.r (.mv (.c (.bool false))))⟩])
  (.seq (.region [.op ⟨(some 3), none, (.r (.mv (.t 0)))⟩,
    .op ⟨(some 4), none, (.r (.bin .geq (.t 3) (.c (.int .i64 (.ofNat 3)))))⟩,
    .op ⟨(some 5), none, (.r (.mv (.t 4)))⟩,
    .op ⟨(some 6), (some (5, true)), (.r (.mv (.t 0)))⟩,
    .op ⟨(some 7), (some (5, true)), (.r (.bin .leq (.t 6) (.c (.int .i64 (.ofNat 8)))))⟩,
    .op ⟨(some 8), none, (.r (.pick (.t 5) (.t 7) (.c (.bool false))))⟩,
    .op ⟨(some 2), none, (.r (.mv (.t 8)))⟩])
  .ret)) }
theorem tr_words_Storing : trF cx Tryd.f54 = pf_words_Storing := by kernel_rfl
/-- strings.HasPrefix -/
def pf_strings_HasPrefix : PF := { ntmps := 8, results := [.tmp 4], body :=
  (.seq (.region [.op ⟨(some 4), none, (.r (.mv (.c (.bool false))))⟩])
  (.seq (.region [.op ⟨(some 5), none, (.r (.mv (.t 0)))⟩,
    .op ⟨(some 6), none, (.r (.mv (.t 1)))⟩,
    .op ⟨(some 7), none, (.e (.call n_internal_stringslite_HasPrefix [(.t 5), (.t 6)]))⟩,
    .op ⟨(some 4), none, (.r (.mv (.t 7)))⟩])
  .ret)) }
theorem tr_strings_HasPrefix : trF cx Tryd.f55 = pf_strings_HasPrefix := by kernel_rfl
/-- internal/strconv.log10Pow2 -/
def pf_internal_strconv_log10Pow2 : PF := { ntmps := 6, results := [.tmp 2], body :=
  (.seq (.region [.op ⟨(some 2), none, (.r (.mv (.c (.int .i64 (.ofNat 0)))))⟩])
  (.seq (.region [.op ⟨(some 3), none, (.r (.mv (.t 0)))⟩,
    .op ⟨(some 4), none, (.r (.bin .mul (.t 3) (.c (.int .i64 (.ofNat 78913)))))⟩,
    .op ⟨(some 5), none, (.r (.bin .shr (.t 4) (.c (.int .u64 (.ofNat 18)))))⟩,
    .op ⟨(some 2), none, (.r (.mv (.t 5)))⟩])
  .ret)) }
theorem tr_internal_strconv_log10Pow2 : trF cx Tryd.f58 = pf_internal_strconv_log10Pow2 := by kernel_rfl
/-- math/bits.Len64 -/
def pf_math_bits_Len64 : PF := { ntmps := 25, results := [.tmp 2], body :=
  (.seq (.region [.op ⟨(some 2), none, (.r (.mv (.c (.int .i64 (.ofNat 0)))))⟩])
  (.seq (.seq (.region [.op ⟨(some 3), none, (.r (.mv (.t 0)))⟩,
    .op ⟨(some 4), none, (.r (.bin .geq (.t 3) (.c (.int .u64 (.ofNat 4294967296)))))⟩])
  (.cond (.t 4)
   (.seq (.region [.op ⟨(some 5), none, (.r (.mv (.t 0)))⟩,
     .op ⟨(some 6), none, (.r (.bin .shr (.t 5) (.c (.int .u64 (.ofNat 32)))))⟩,
     .op ⟨(some 0), none, (.r (.mv (.t 6)))⟩])
   (.region [.op ⟨(some 2), none, (.r (.mv (.c (.int .i64 (.ofNat 32)))))⟩]))
   .skip))
  (.seq (.seq (.region [.op ⟨(some 7), none, (.r (.mv (.t 0)))⟩,
    .op ⟨(some 8), none, (.r (.bin .geq (.t 7) (.c (.int .u64 (.ofNat 65536)))))⟩])
  (.cond (.t 8)
   (.seq (.region [.op ⟨(some 9), none, (.r (.mv (.t 0)))⟩,
     .op ⟨(some 10), none, (.r (.bin .shr (.t 9) (.c (.int .u64 (.ofNat 16)))))⟩,
     .op ⟨(some 0), none, (.r (.mv (.t 10)))⟩])
   (.region [.op ⟨(some 11), none, (.r (.mv (.t 2)))⟩,
     .op ⟨(some 12), none, (.r (.bin .add (.t 11) (.c (.int .i64 (.ofNat 16)))))⟩,
     .op ⟨(some 2), none, (.r (.mv (.t 12)))⟩]))
   .skip))
  (.seq (.seq (.region [.op ⟨(some 13), none, (.r (.mv (.t 0)))⟩,
    .op ⟨(some 14), none, (.r (.bin .geq (.t 13) (.c (.int .u64 (.ofNat 256)))))⟩])
  (.cond (.t 14)
   (.seq (.region [.op ⟨(some 15), none, (.r (.mv (.t 0)))⟩,
     .op ⟨(some 16), none, (.r (.bin .shr (.t 15) (.c (.int .u64 (.ofNat 8)))))⟩,
     .op ⟨(some 0), none, (.r (.mv (.t 16)))⟩])
   (.region [.op ⟨(some 17), none, (.r (.mv (.t 2)))⟩,
     .op ⟨(some 18), none, (.r (.bin .add (.t 17) (.c (.int .i64 (.ofNat 8)))))⟩,
     .op ⟨(some 2), none, (.r (.mv (.t 18)))⟩]))
   .skip))
  (.seq (.region [.op ⟨(some 19), none, (.r (.mv (.t 2)))⟩,
    .op ⟨(some 20), none, (.r (.mv (.t 0)))⟩,
    .op ⟨(some 21), none, (.r (.cint .u8 (.t 20)))⟩,
    .op ⟨(some 22), none, (.r (.ixstr (.c (.str [0, 1, 2, 2, 3, 3, 3, 3, 4, 4, 4, 4, 4, 4, 4, 4, 5, 5, 5, 5, 5, 5, 5, 5, 5, 5, 5, 5, 5, 5, 5, 5, 6, 6, 6, 6, 6, 6, 6, 6, 6, 6, 6, 6, 6, 6, 6, 6, 6, 6, 6, 6, 6, 6, 6, 6, 6, 6, 6, 6, 6, 6, 6, 6, 7, 7, 7, 7, 7, 7, 7, 7, 7, 7, 7, 7, 7, 7, 7, 7, 7, 7, 7, 7, 7, 7, 7, 7, 7, 7, 7, 7, 7, 7, 7, 7, 7, 7, 7, 7, 7, 7, 7, 7, 7, 7, 7, 7, 7, 7, 7, 7, 7, 7, 7, 7, 7, 7, 7, 7, 7, 7, 7, 7, 7, 7, 7, 7, 8, 8, 8, 8, 8, 8, 8, 8, 8, 8, 8, 8, 8, 8, 8, 8, 8, 8, 8, 8, 8, 8, 8, 8, 8, 8, 8, 8, 8, 8, 8, 8, 8, 8, 8, 8, 8, 8, 8, 8, 8, 8, 8, 8, 8, 8, 8, 8, 8, 8, 8, 8, 8, 8, 8, 8, 8, 8, 8, 8, 8, 8, 8, 8, 8, 8, 8, 8, 8, 8, 8, 8, 8, 8, 8, 8, 8, 8, 8, 8, 8, 8, 8, 8, 8, 8, 8, 8, 8, 8, 8, 8, 8, 8, 8, 8, 8, 8, 8, 8, 8, 8, 8, 8, 8, 8, 8, 8, 8, 8, 8, 8, 8, 8, 8, 8, 8, 8, 8, 8, 8, 8, 8, 8, 8, 8, 8, 8])) (.t 21)))⟩,
    .op ⟨(some 23), none, (.r (.cint .i64 (.t 22)))⟩,
    .op ⟨(some 24), none, (.r (.bin .add (.t 19) (.t 23)))⟩,
    .op ⟨(some 2), none, (.r (.mv (.t 24)))⟩])
  .ret))))) }
theorem tr_math_bits_Len64 : trF cx Tryd.f59 = pf_math_bits_Len64 := by kernel_rfl
/-- internal/strconv.bool2[int] -/
def pf_internal_strconv_bool2_int : PF := { ntmps := 4, results := [.tmp 2], body :=
  (.seq (.region [.op ⟨(some 2), none, (.r (.mv (.c (.int .i64 (.ofNat 0)))))⟩])
  (.seq (.seq (.region [.op ⟨(some 3), none, (.r (.mv (.t 0)))⟩])
  (.cond (.t 3)
   (.seq (.region [.op ⟨(some 2), none, (.r (.mv (.c (.int .i64 (.ofNat 1)))))⟩])
   .ret)
   .skip))
  (.seq (.region [.op ⟨(some 2), none, (.r (.mv (.c (.int .i64 (.ofNat 0)))))⟩])
  .ret))) }
theorem tr_internal_strconv_bool2_int : trF cx Tryd.f60 = pf_internal_strconv_bool2_int := by kernel_rfl
/-- internal/strconv.isPowerOfTwo -/
def pf_internal_strconv_isPowerOfTwo : PF := { ntmps := 8, results := [.tmp 2], body :=
  (.seq (.region [.op ⟨(some 2), none, (.r (.mv (.c (.bool false))))⟩])
  (.seq (.region [.op ⟨(some 3), none, (.r (.mv (.t 0)))⟩,
    .op ⟨(some 4), none, (.r (.mv (.t 0)))⟩,
    .op ⟨(some 5), none, (.r (.bin .sub (.t 4) (.c (.int .i64 (.ofNat 1)))))⟩,
    .op ⟨(some 6), none, (.r (.bin .and (.t 3) (.t 5)))⟩,
    .op ⟨(some 7), none, (.r (.bin .eql (.t 6) (.c (.int .i64 (.ofNat 0)))))⟩,
    .op ⟨(some 2), none, (.r (.mv (.t 7)))⟩])
  .ret)) }
theorem tr_internal_strconv_isPowerOfTwo : trF cx Tryd.f61 = pf_internal_strconv_isPowerOfTwo := by kernel_rfl
/-- math/bits.TrailingZeros -/
def pf_math_bits_TrailingZeros : PF := { ntmps := 8, results := [.tmp 2], body :=
  (.seq (.region [.op ⟨(some 2), none, (.r (.mv (.c (.int .i64 (.ofNat 0)))))⟩])
  (.seq (.cond (.c (.bool false))
   (.seq (.region [.op ⟨(some 3), none, (.r (.mv (.t 0)))⟩,
     .op ⟨(some 4), none, (.r (.cint .u32 (.t 3)))⟩,
     .op ⟨(some 5), none, (.e (.call n_math_bits_TrailingZeros32 [(.t 4)]))⟩,
     .op ⟨(some 2), none, (.r (.mv (.t 5)))⟩])
   .ret)
   .skip)
  (.seq (.region [.op ⟨(some 6), none, (.r (.mv (.t 0)))⟩,
    .op ⟨(some 7), none, (.e (.call n_math_bits_TrailingZeros64 [(.t 6)]))⟩,
    .op ⟨(some 2), none, (.r (.mv (.t 7)))⟩])
  .ret))) }
theorem tr_math_bits_TrailingZeros : trF cx Tryd.f62 = pf_math_bits_TrailingZeros := by kernel_rfl
def l0_words_Key : PC :=
  (.seq (.region [.op ⟨(some 15), none, (.r (.bin .lss (.t 14) (.t 13)))⟩])
  (.seq (.cond (.t 15)
   .skip
   (.exit 0))
  (.seq (.block 1 (.seq (.region [.op ⟨(some 16), none, (.r (.mv (.t 14)))⟩,
     .op ⟨(some 3), none, (.r (.mv (.t 16)))⟩])
   (.seq (.region [.op ⟨(some 17), none, (.r (.mv (.t 0)))⟩,
     .op ⟨(some 18), none, (.r (.mv (.t 3)))⟩,
     .op ⟨(some 19), none, (.r (.ixstr (.t 17) (.t 18)))⟩,
     .op ⟨(some 20), none, (.r (.bin .leq (.t 19) (.c (.int .u8 (.ofNat 32)))))⟩,
     .op ⟨(some 21), none, (.r (.mv (.t 20)))⟩,
     .op ⟨(some 22), (some (21, false)), (.r (.mv (.t 0)))⟩,
     .op ⟨(some 23), (some (21, false)), (.r (.mv (.t 3)))⟩,
     .op ⟨(some 24), (some (21, false)), (.r (.ixstr (.t 22) (.t 23)))⟩,
     .op ⟨(some 25), (some (21, false)), (.r (.bin .eql (.t 24) (.c (.int .u8 (.ofNat 127)))))⟩,
     .op ⟨(some 26), none, (.r (.pick (.t 21) (.c (.bool true)) (.t 25)))⟩])
   (.cond (.t 26)
    (.seq (.region [.op ⟨(some 2), none, (.r (.mv (.c (.bool false))))⟩])
    .ret)
    .skip))))
  (.region [.op ⟨(some 27), none, (.r (.bin .add (.t 14) (.c (.int .i64 (.ofNat 1)))))⟩,
    .op ⟨(some 14), none, (.r (.mv (.t 27)))⟩]))))
/-- depot/words.Key -/
def pf_words_Key : PF := { ntmps := 28, results := [.tmp 2], body :=
  (.seq (.region [.op ⟨(some 2), none, (.r (.mv (.c (.bool false))))⟩])
  (.seq (.seq (.region [.op ⟨(some 4), none, (.r (.mv (.t 0)))⟩,
    .op ⟨(some 5), none, (.r (.lens (.t 4)))⟩,
    .op ⟨(some 6), none, (.r (.bin .lss (.t 5) (.c (.int .i64 (.ofNat 1)))))⟩,
    .op ⟨(some 7), none, (.r (.mv (.t 6)))⟩,
    .op ⟨(some 8), (some (7, false)), (.r (.mv (.t 0)))⟩,
    .op ⟨(some 9), (some (7, false)), (.r (.lens (.t 8)))⟩,
    .op ⟨(some 10), (some (7, false)), (.r (.bin .gtr (.t 9) (.c (.int .i64 (.ofNat 250)))))⟩,
    .op ⟨(some 11), none, (.r (.pick (.t 7) (.c (.bool true)) (.t 10)))⟩])
  (.cond (.t 11)
   (.seq (.region [.op ⟨(some 2), none, (.r (.mv (.c (.bool false))))⟩])
   .ret)
   .skip))
  (.seq (.seq (.region [.op ⟨(some 12), none, (.r (.mv (.t 0)))⟩,
    .op ⟨(some 13), none, (.r (.lens (.t 12)))⟩,
    .op ⟨(some 14), none, (.r (.mv (.c (.int .i64 (.ofNat 0)))))⟩])
  (.block 0 (.loop l0_words_Key)))
  (.seq (.region [.op ⟨(some 2), none, (.r (.mv (.c (.bool true))))⟩])
  .ret)))) }
theorem tr_words_Key : trF cx Tryd.f63 = pf_words_Key := by kernel_rfl
/-- depot/words.store -/
def pf_words_store : PF := { ntmps := 82, results := [.tmp 4], body :=
  (.seq (.region [.op ⟨(some 4), none, (.r (.mv (.c (.bool false))))⟩])
  (.seq (.region [.op ⟨(some 14), none, (.r (.mv (.t 1)))⟩,
    .op ⟨(some 15), none, (.r (.iasl 1 (.t 14) (.c (.int .i64 (.ofNat 1)))))⟩,
    .op ⟨(some 16), none, (.r (.load false 1 (.t 15)))⟩,
    .op ⟨(some 17), none, (.e (.call n_words_Number [(.t 16), (.c (.int .u64 (.ofNat 4294967295)))]))⟩,
    .op ⟨(some 13), none, (.r (.mv (.t 17)))⟩,
    .op ⟨(some 18), none, (.r (.ext 0 (.t 13)))⟩,
    .op ⟨(some 19), none, (.r (.ext 1 (.t 13)))⟩,
    .op ⟨(some 5), none, (.r (.mv (.t 18)))⟩,
    .op ⟨(some 6), none, (.r (.mv (.t 19)))⟩])
  (.seq (.region [.op ⟨(some 21), none, (.r (.mv (.t 1)))⟩,
    .op ⟨(some 22), none, (.r (.iasl 1 (.t 21) (.c (.int .i64 (.ofNat 2)))))⟩,
    .op ⟨(some 23), none, (.r (.load false 1 (.t 22)))⟩,
    .op ⟨(some 24), none, (.e (.call n_words_signed [(.t 23), (.c (.int .u64 (.ofNat 1099511627776)))]))⟩,
    .op ⟨(some 20), none, (.r (.mv (.t 24)))⟩,
    .op ⟨(some 25), none, (.r (.ext 0 (.t 20)))⟩,
    .op ⟨(some 26), none, (.r (.ext 1 (.t 20)))⟩,
    .op ⟨(some 7), none, (.r (.mv (.t 25)))⟩,
    .op ⟨(some 8), none, (.r (.mv (.t 26)))⟩])
  (.seq (.region [.op ⟨(some 28), none, (.r (.mv (.t 1)))⟩,
    .op ⟨(some 29), none, (.r (.iasl 1 (.t 28) (.c (.int .i64 (.ofNat 3)))))⟩,
    .op ⟨(some 30), none, (.r (.load false 1 (.t 29)))⟩,
    .op ⟨(some 31), none, (.e (.call n_words_Number [(.t 30), (.c (.int .u64 (.ofNat 2147483647)))]))⟩,
    .op ⟨(some 27), none, (.r (.mv (.t 31)))⟩,
    .op ⟨(some 32), none, (.r (.ext 0 (.t 27)))⟩,
    .op ⟨(some 33), none, (.r (.ext 1 (.t 27)))⟩,
    .op ⟨(some 9), none, (.r (.mv (.t 32)))⟩,
    .op ⟨(some 10), none, (.r (.mv (.t 33)))⟩])
  (.seq (.region [.op ⟨(some 34), none, (.r (.mv (.t 0)))⟩,
    .op ⟨(some 35), none, (.r (.mv (.t 0)))⟩,
    .op ⟨(some 36), none, (.r (.mv (.t 0)))⟩,
    .op ⟨(some 37), none, (.r (.mv (.t 5)))⟩,
    .op ⟨(some 38), none, (.r (.cint .i64 (.t 37)))⟩,
    .op ⟨(some 39), none, (.r (.mv (.t 7)))⟩,
    .op ⟨(some 40), none, (.r (.mv (.t 9)))⟩,
    .op ⟨(some 41), none, (.r (.cint .i64 (.t 40)))⟩,
    .op ⟨(some 42), none, (.r (.nilck (.t 34)))⟩,
    .op ⟨(some 43), none, (.r (.faddr 2 (.t 42)))⟩,
    .op ⟨none, none, (.e (.store 1 (.t 43) (.t 38)))⟩,
    .op ⟨(some 44), none, (.r (.nilck (.t 35)))⟩,
    .op ⟨(some 45), none, (.r (.faddr 3 (.t 44)))⟩,
    .op ⟨none, none, (.e (.store 1 (.t 45) (.t 39)))⟩,
    .op ⟨(some 46), none, (.r (.nilck (.t 36)))⟩,
    .op ⟨(some 47), none, (.r (.faddr 4 (.t 46)))⟩,
    .op ⟨none, none, (.e (.store 1 (.t 47) (.t 41)))⟩])
  (.seq (.seq (.region [.op ⟨(some 48), none, (.r (.mv (.t 0)))⟩,
    .op ⟨(some 49), none, (.r (.nilck (.t 48)))⟩,
    .op ⟨(some 50), none, (.r (.faddr 0 (.t 49)))⟩,
    .op ⟨(some 51), none, (.r (.load false 1 (.t 50)))⟩,
    .op ⟨(some 52), none, (.r (.bin .eql (.t 51) (.c (.int .i64 (.ofNat 8)))))⟩])
  (.cond (.t 52)
   (.seq (.region [.op ⟨(some 54), none, (.r (.mv (.t 1)))⟩,
     .op ⟨(some 55), none, (.r (.iasl 1 (.t 54) (.c (.int .i64 (.ofNat 4)))))⟩,
     .op ⟨(some 56), none, (.r (.load false 1 (.t 55)))⟩,
     .op ⟨(some 57), none, (.e (.call n_words_Number [(.t 56), (.c (.int .u64 (.ofNat 1099511627776)))]))⟩,
     .op ⟨(some 53), none, (.r (.mv (.t 57)))⟩,
     .op ⟨(some 58), none, (.r (.ext 0 (.t 53)))⟩,
     .op ⟨(some 59), none, (.r (.ext 1 (.t 53)))⟩,
     .op ⟨(some 11), none, (.r (.mv (.t 58)))⟩,
     .op ⟨(some 12), none, (.r (.mv (.t 59)))⟩])
   (.seq (.region [.op ⟨(some 60), none, (.r (.mv (.t 0)))⟩,
     .op ⟨(some 61), none, (.r (.mv (.t 11)))⟩,
     .op ⟨(some 62), none, (.r (.cint .i64 (.t 61)))⟩,
     .op ⟨(some 63), none, (.r (.nilck (.t 60)))⟩,
     .op ⟨(some 64), none, (.r (.faddr 5 (.t 63)))⟩,
     .op ⟨none, none, (.e (.store 1 (.t 64) (.t 62)))⟩])
   (.seq (.region [.op ⟨(some 65), none, (.r (.mv (.t 6)))⟩,
     .op ⟨(some 66), none, (.r (.mv (.t 65)))⟩,
     .op ⟨(some 67), (some (66, true)), (.r (.mv (.t 8)))⟩,
     .op ⟨(some 68), none, (.r (.pick (.t 66) (.t 67) (.c (.bool false))))⟩,
     .op ⟨(some 69), none, (.r (.mv (.t 68)))⟩,
     .op ⟨(some 70), (some (69, true)), (.r (.mv (.t 10)))⟩,
     .op ⟨(some 71), none, (.r (.pick (.t 69) (.t 70) (.c (.bool false))))⟩,
     .op ⟨(some 72), none, (.r (.mv (.t 71)))⟩,
     .op ⟨(some 73), (some (72, true)), (.r (.mv (.t 12)))⟩,
     .op ⟨(some 74), none, (.r (.pick (.t 72) (.t 73) (.c (.bool false))))⟩,
     .op ⟨(some 4), none, (.r (.mv (.t 74)))⟩])
   .ret)))
   .skip))
  (.seq (.region [.op ⟨(some 75), none, (.r (.mv (.t 6)))⟩,
    .op ⟨(some 76), none, (.r (.mv (.t 75)))⟩,
    .op ⟨(some 77), (some (76, true)), (.r (.mv (.t 8)))⟩,
    .op ⟨(some 78), none, (.r (.pick (.t 76) (.t 77) (.c (.bool false))))⟩,
    .op ⟨(some 79), none, (.r (.mv (.t 78)))⟩,
    .op ⟨(some 80), (some (79, true)), (.r (.mv (.t 10)))⟩,
    .op ⟨(some 81), none, (.r (.pick (.t 79) (.t 80) (.c (.bool false))))⟩,
    .op ⟨(some 4), none, (.r (.mv (.t 81)))⟩])
  .ret))))))) }
theorem tr_words_store : trF cx Tryd.f64 = pf_words_store := by kernel_rfl
/-- depot/words.signed -/
def pf_words_signed : PF := { ntmps := 29, results := [.tmp 4, .tmp 5], body :=
  (.seq (.region [.op ⟨(some 4), none, (.r (.mv (.c (.int .i64 (.ofNat 0)))))⟩,
    .op ⟨(some 5), none, (.r (.mv (.c (.bool false))))⟩])
  (.seq (.region [.op ⟨(some 11), none, (.r (.mv (.t 0)))⟩,
    .op ⟨(some 12), none, (.e (.call n_strings_CutPrefix [(.t 11), (.c (.str [45]))]))⟩,
    .op ⟨(some 10), none, (.r (.mv (.t 12)))⟩,
    .op ⟨(some 13), none, (.r (.ext 0 (.t 10)))⟩,
    .op ⟨(some 14), none, (.r (.ext 1 (.t 10)))⟩,
    .op ⟨(some 6), none, (.r (.mv (.t 13)))⟩,
    .op ⟨(some 7), none, (.r (.mv (.t 14)))⟩])
  (.seq (.region [.op ⟨(some 16), none, (.r (.mv (.t 6)))⟩,
    .op ⟨(some 17), none, (.r (.mv (.t 1)))⟩,
    .op ⟨(some 18), none, (.e (.call n_words_Number [(.t 16), (.t 17)]))⟩,
    .op ⟨(some 15), none, (.r (.mv (.t 18)))⟩,
    .op ⟨(some 19), none, (.r (.ext 0 (.t 15)))⟩,
    .op ⟨(some 20), none, (.r (.ext 1 (.t 15)))⟩,
    .op ⟨(some 8), none, (.r (.mv (.t 19)))⟩,
    .op ⟨(some 9), none, (.r (.mv (.t 20)))⟩])
  (.seq (.seq (.region [.op ⟨(some 21), none, (.r (.mv (.t 7)))⟩])
  (.cond (.t 21)
   (.seq (.region [.op ⟨(some 22), none, (.r (.mv (.t 8)))⟩,
     .op ⟨(some 23), none, (.r (.cint .i64 (.t 22)))⟩,
     .op ⟨(some 24), none, (.r (.un .neg (.t 23)))⟩,
     .op ⟨(some 25), none, (.r (.mv (.t 9)))⟩,
     .op ⟨(some 4), none, (.r (.mv (.t 24)))⟩,
     .op ⟨(some 5), none, (.r (.mv (.t 25)))⟩])
   .ret)
   .skip))
  (.seq (.region [.op ⟨(some 26), none, (.r (.mv (.t 8)))⟩,
    .op ⟨(some 27), none, (.r (.cint .i64 (.t 26)))⟩,
    .op ⟨(some 28), none, (.r (.mv (.t 9)))⟩,
    .op ⟨(some 4), none, (.r (.mv (.t 27)))⟩,
    .op ⟨(some 5), none, (.r (.mv (.t 28)))⟩])
  .ret))))) }
theorem tr_words_signed : trF cx Tryd.f65 = pf_words_signed := by kernel_rfl
/-- internal/stringslite.IndexByte -/
def pf_internal_stringslite_IndexByte : PF := { ntmps := 8, results := [.tmp 4], body :=
  (.seq (.region [.op ⟨(some 4), none, (.r (.mv (.c (.int .i64 (.ofNat 0)))))⟩])
  (.seq (.region [.op ⟨(some 5), none, (.r (.mv (.t 0)))⟩,
    .op ⟨(some 6), none, (.r (.mv (.t 1)))⟩,
    .op ⟨(some 7), none, (.r (.index (.t 5) (.t 6)))⟩,
    .op ⟨(some 4), none, (.r (.mv (.t 7)))⟩])
  .ret)) }
theorem tr_internal_stringslite_IndexByte : trF cx Tryd.f66 = pf_internal_stringslite_IndexByte := by kernel_rfl
/-- internal/stringslite.TrimSuffix -/
def pf_internal_stringslite_TrimSuffix : PF := { ntmps := 16, results := [.tmp 4], body :=
  (.seq (.region [.op ⟨(some 4), none, (.r (.mv (.c (.str []))))⟩])
  (.seq (.seq (.region [.op ⟨(some 5), none, (.r (.mv (.t 0)))⟩,
    .op ⟨(some 6), none, (.r (.mv (.t 1)))⟩,
    .op ⟨(some 7), none, (.e (.call n_internal_stringslite_HasSuffix [(.t 5), (.t 6)]))⟩])
  (.cond (.t 7)
   (.seq (.region [.op ⟨(some 8), none, (.r (.mv (.t 0)))⟩,
     .op ⟨(some 9), none, (.r (.mv (.t 0)))⟩,
     .op ⟨(some 10), none, (.r (.lens (.t 9)))⟩,
     .op ⟨(some 11), none, (.r (.mv (.t 1)))⟩,
     .op ⟨(some 12), none, (.r (.lens (.t 11)))⟩,
     .op ⟨(some 13), none, (.r (.bin .sub (.t 10) (.t 12)))⟩,
     .op ⟨(some 14), none, (.r (.slstr (.t 8) none (some (.t 13))))⟩,
     .op ⟨(some 4), none, (.r (.mv (.t 14)))⟩])
   .ret)
   .skip))
  (.seq (.region [.op ⟨(some 15), none, (.r (.mv (.t 0)))⟩,
    .op ⟨(some 4), none, (.r (.mv (.t 15)))⟩])
  .ret))) }
theorem tr_internal_stringslite_TrimSuffix : trF cx Tryd.f67 = pf_internal_stringslite_TrimSuffix := by kernel_rfl
/-- internal/stringslite.HasPrefix -/
def pf_internal_stringslite_HasPrefix : PF := { ntmps := 18, results := [.tmp 4], body :=
  (.seq (.region [.op ⟨(some 4), none, (.r (.mv (.c (.bool false))))⟩])
  (.seq (.region [.op ⟨(some 5), none, (.r (.mv (.t 0)))⟩,
    .op ⟨(some 6), none, (.r (.lens (.t 5)))⟩,
    .op ⟨(some 7), none, (.r (.mv (.t 1)))⟩,
    .op ⟨(some 8), none, (.r (.lens (.t 7)))⟩,
    .op ⟨(some 9), none, (.r (.bin .geq (.t 6) (.t 8)))⟩,
    .op ⟨(some 10), none, (.r (.mv (.t 9)))⟩,
    .op ⟨(some 11), (some (10, true)), (.r (.mv (.t 0)))⟩,
    .op ⟨(some 12), (some (10, true)), (.r (.mv (.t 1)))⟩,
    .op ⟨(some 13), (some (10, true)), (.r (.lens (.t 12)))⟩,
    .op ⟨(some 14), (some (10, true)), (.r (.slstr (.t 11) none (some (.t 13))))⟩,
    .op ⟨(some 15), (some (10, true)), (.r (.mv (.t 1)))⟩,
    .op ⟨(some 16), (some (10, true)), (.r (.bin .eql (.t 14) (.t 15)))⟩,
    .op ⟨(some 17), none, (.r (.pick (.t 10) (.t 16) (.c (.bool false))))⟩,
    .op ⟨(some 4), none, (.r (.mv (.t 17)))⟩])
  .ret)) }
theorem tr_internal_stringslite_HasPrefix : trF cx Tryd.f68 = pf_internal_stringslite_HasPrefix := by kernel_rfl
/-- math/bits.TrailingZeros32 -/
def pf_math_bits_TrailingZeros32 : PF := { ntmps := 14, results := [.tmp 2], body :=
  (.seq (.region [.op ⟨(some 2), none, (.r (.mv (.c (.int .i64 (.ofNat 0)))))⟩])
  (.seq (.seq (.region [.op ⟨(some 3), none, (.r (.mv (.t 0)))⟩,
    .op ⟨(some 4), none, (.r (.bin .eql (.t 3) (.c (.int .u32 (.ofNat 0)))))⟩])
  (.cond (.t 4)
   (.seq (.region [.op ⟨(some 2), none, (.r (.mv (.c (.int .i64 (.ofNat 32)))))⟩])
   .ret)
   .skip))
  (.seq (.region [.op ⟨(some 5), none, (.r (.mv (.t 0)))⟩,
    .op ⟨(some 6), none, (.r (.mv (.t 0)))⟩,
    .op ⟨(some 7), none, (.r (.un .neg (.t 6)))⟩,
    .op ⟨(some 8), none, (.r (.bin .and (.t 5) (.t 7)))⟩,
    .op ⟨(some 9), none, (.r (.bin .mul (.t 8) (.c (.int .u32 (.ofNat 125613361)))))⟩,
    .op ⟨(some 10), none, (.r (.bin .shr (.t 9) (.c (.int .u64 (.ofNat 27)))))⟩,
    .op ⟨(some 11), none, (.r (.bad))⟩,
    .op ⟨(some 12), none, (.r (.load false 1 (.t 11)))⟩,
    .op ⟨(some 13), none, (.r (.cint .i64 (.t 12)))⟩,
    .op ⟨(some 2), none, (.r (.mv (.t 13)))⟩])
  .ret))) }
theorem tr_math_bits_TrailingZeros32 : trF cx Tryd.f71 = pf_math_bits_TrailingZeros32 := by kernel_rfl
/-- math/bits.TrailingZeros64 -/
def pf_math_bits_TrailingZeros64 : PF := { ntmps := 14, results := [.tmp 2], body :=
  (.seq (.region [.op ⟨(some 2), none, (.r (.mv (.c (.int .i64 (.ofNat 0)))))⟩])
  (.seq (.seq (.region [.op ⟨(some 3), none, (.r (.mv (.t 0)))⟩,
    .op ⟨(some 4), none, (.r (.bin .eql (.t 3) (.c (.int .u64 (.ofNat 0)))))⟩])
  (.cond (.t 4)
   (.seq (.region [.op ⟨(some 2), none, (.r (.mv (.c (.int .i64 (.ofNat 64)))))⟩])
   .ret)
   .skip))
  (.seq (.region [.op ⟨(some 5), none, (.r (.mv (.t 0)))⟩,
    .op ⟨(some 6), none, (.r (.mv (.t 0)))⟩,
    .op ⟨(some 7), none, (.r (.un .neg (.t 6)))⟩,
    .op ⟨(some 8), none, (.r (.bin .and (.t 5) (.t 7)))⟩,
    .op ⟨(some 9), none, (.r (.bin .mul (.t 8) (.c (.int .u64 (.ofNat 285870213051353865)))))⟩,
    .op ⟨(some 10), none, (.r (.bin .shr (.t 9) (.c (.int .u64 (.ofNat 58)))))⟩,
    .op ⟨(some 11), none, (.r (.bad))⟩,
    .op ⟨(some 12), none, (.r (.load false 1 (.t 11)))⟩,
    .op ⟨(some 13), none, (.r (.cint .i64 (.t 12)))⟩,
    .op ⟨(some 2), none, (.r (.mv (.t 13)))⟩])
  .ret))) }
theorem tr_math_bits_TrailingZeros64 : trF cx Tryd.f72 = pf_math_bits_TrailingZeros64 := by kernel_rfl
/-- strings.CutPrefix -/
def pf_strings_CutPrefix : PF := { ntmps := 11, results := [.tmp 4, .tmp 5], body :=
  (.seq (.region [.op ⟨(some 4), none, (.r (.mv (.c (.str []))))⟩,
    .op ⟨(some 5), none, (.r (.mv (.c (.bool false))))⟩])
  (.seq (.region [.op ⟨(some 6), none, (.r (.mv (.t 0)))⟩,
    .op ⟨(some 7), none, (.r (.mv (.t 1)))⟩,
    .op ⟨(some 8), none, (.e (.call n_internal_stringslite_CutPrefix [(.t 6), (.t 7)]))⟩,
    .op ⟨(some 9), none, (.r (.ext 0 (.t 8)))⟩,
    .op ⟨(some 10), none, (.r (.ext 1 (.t 8)))⟩,
    .op ⟨(some 4), none, (.r (.mv (.t 9)))⟩,
    .op ⟨(some 5), none, (.r (.mv (.t 10)))⟩])
  .ret)) }
theorem tr_strings_CutPrefix : trF cx Tryd.f73 = pf_strings_CutPrefix := by kernel_rfl
/-- internal/stringslite.HasSuffix -/
def pf_internal_stringslite_HasSuffix : PF := { ntmps := 21, results := [.tmp 4], body :=
  (.seq (.region [.op ⟨(some 4), none, (.r (.mv (.c (.bool false))))⟩])
  (.seq (.region [.op ⟨(some 5), none, (.r (.mv (.t 0)))⟩,
    .op ⟨(some 6), none, (.r (.lens (.t 5)))⟩,
    .op ⟨(some 7), none, (.r (.mv (.t 1)))⟩,
    .op ⟨(some 8), none, (.r (.lens (.t 7)))⟩,
    .op ⟨(some 9), none, (.r (.bin .geq (.t 6) (.t 8)))⟩,
    .op ⟨(some 10), none, (.r (.mv (.t 9)))⟩,
    .op ⟨(some 11), (some (10, true)), (.r (.mv (.t 0)))⟩,
    .op ⟨(some 12), (some (10, true)), (.r (.mv (.t 0)))⟩,
    .op ⟨(some 13), (some (10, true)), (.r (.lens (.t 12)))⟩,
    .op ⟨(some 14), (some (10, true)), (.r (.mv (.t 1)))⟩,
    .op ⟨(some 15), (some (10, true)), (.r (.lens (.t 14)))⟩,
    .op ⟨(some 16), (some (10, true)), (.r (.bin .sub (.t 13) (.t 15)))⟩,
    .op ⟨(some 17), (some (10, true)), (.r (.slstr (.t 11) (some (.t 16)) none))⟩,
    .op ⟨(some 18), (some (10, true)), (.r (.mv (.t 1)))⟩,
    .op ⟨(some 19), (some (10, true)), (.r (.bin .eql (.t 17) (.t 18)))⟩,
    .op ⟨(some 20), none, (.r (.pick (.t 10) (.t 19) (.c (.bool false))))⟩,
    .op ⟨(some 4), none, (.r (.mv (.t 20)))⟩])
  .ret)) }
theorem tr_internal_stringslite_HasSuffix : trF cx Tryd.f75 = pf_internal_stringslite_HasSuffix := by kernel_rfl
/-- internal/stringslite.CutPrefix -/
def pf_internal_stringslite_CutPrefix : PF := { ntmps := 15, results := [.tmp 4, .tmp 5], body :=
  (.seq (.region [.op ⟨(some 4), none, (.r (.mv (.c (.str []))))⟩,
    .op ⟨(some 5), none, (.r (.mv (.c (.bool false))))⟩])
  (.seq (.seq (.region [.op ⟨(some 6), none, (.r (.mv (.t 0)))⟩,
    .op ⟨(some 7), none, (.r (.mv (.t 1)))⟩,
    .op ⟨(some 8), none, (.e (.call n_internal_stringslite_HasPrefix [(.t 6), (.t 7)]))⟩,
    .op ⟨(some 9), none, (.r (.un .not (.t 8)))⟩])
  (.cond (.t 9)
   (.seq (.region [.op ⟨(some 10), none, (.r (.mv (.t 0)))⟩,
     .op ⟨(some 4), none, (.r (.mv (.t 10)))⟩,
     .op ⟨(some 5), none, (.r (.mv (.c (.bool false))))⟩])
   .ret)
   .skip))
  (.seq (.region [.op ⟨(some 11), none, (.r (.mv (.t 0)))⟩,
    .op ⟨(some 12), none, (.r (.mv (.t 1)))⟩,
    .op ⟨(some 13), none, (.r (.lens (.t 12)))⟩,
    .op ⟨(some 14), none, (.r (.slstr (.t 11) (some (.t 13)) none))⟩,
    .op ⟨(some 4), none, (.r (.mv (.t 14)))⟩,
    .op ⟨(some 5), none, (.r (.mv (.c (.bool true))))⟩])
  .ret))) }
theorem tr_internal_stringslite_CutPrefix : trF cx Tryd.f77 = pf_internal_stringslite_CutPrefix := by kernel_rfl
end Go.Proofs.YtkjmelfgopammaaDoor
