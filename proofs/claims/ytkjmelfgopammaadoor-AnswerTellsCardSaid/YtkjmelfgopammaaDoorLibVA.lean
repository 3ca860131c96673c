/- The functions that this seat's laws reach, for the clean machine; each is what the translation makes of the given text. Conditions: none. Printed by program. -/
import Derived.Test.YtkjmelfgopammaaDoorChecked
import Derived.KernelRfl
import Derived.Test.YtkjmelfgopammaaDoorQsD
namespace Go.Proofs.YtkjmelfgopammaaDoor
open Go.Dp
def nums : List Nat := [3, 4, 5, 6, 10, 11, 12, 13, 14, 19, 24, 25, 26, 27, 28, 32, 38, 39, 40, 41, 42, 43, 44, 45, 49, 56, 57, 58, 59, 60, 61, 62, 70, 71, 72]
abbrev n_depotlaw14_AnswerRuns : Nat := 3
abbrev n_depotlaw14_AnswerValues : Nat := 4
abbrev n_depotlaw14_AnswerLines : Nat := 5
abbrev n_depotlaw14_AnswerTells : Nat := 6
abbrev n_answer_Text : Nat := 10
abbrev n_depotlaw14_light : Nat := 11
abbrev n_depotref9_Text : Nat := 12
abbrev n_answer_Quiet : Nat := 13
abbrev n_strconv_FormatUint : Nat := 14
abbrev n_strconv_Itoa : Nat := 19
abbrev n_answer_values : Nat := 24
abbrev n_answer_stats : Nat := 25
abbrev n_answer_plain : Nat := 26
abbrev n_depotref9_digits : Nat := 27
abbrev n_internal_strconv_FormatUint : Nat := 28
abbrev n_internal_strconv_Itoa : Nat := 32
abbrev n_answer_number : Nat := 38
abbrev n_strings_Builder_WriteString : Nat := 39
abbrev n_strings_Join : Nat := 40
abbrev n_strings_Builder_String : Nat := 41
abbrev n_internal_strconv_small : Nat := 42
abbrev n_internal_strconv_numDigits : Nat := 43
abbrev n_internal_strconv_formatBase10 : Nat := 44
abbrev n_internal_strconv_formatBits : Nat := 45
abbrev n_internal_strconv_FormatInt : Nat := 49
abbrev n_strings_Builder_copyCheck : Nat := 56
abbrev n_strings_Builder_Grow : Nat := 57
abbrev n_internal_strconv_log10Pow2 : Nat := 58
abbrev n_math_bits_Len64 : Nat := 59
abbrev n_internal_strconv_bool2_int : Nat := 60
abbrev n_internal_strconv_isPowerOfTwo : Nat := 61
abbrev n_math_bits_TrailingZeros : Nat := 62
abbrev n_strings_Builder_grow : Nat := 70
abbrev n_math_bits_TrailingZeros32 : Nat := 71
abbrev n_math_bits_TrailingZeros64 : Nat := 72
noncomputable def cx : Cx := { P := Tryd.prog, fm := fmOf nums, gm := fun g => bif Nat.beq g 0 then some 0 else none, ext := extOf [(69, 2), (74, 1), (76, 3)], bt := some 68 }
/-- depot/depotlaw14.AnswerValues -/
def pf_depotlaw14_AnswerValues : PF := { ntmps := 64, results := [.tmp 6], body :=
  (.seq (.region [.op ⟨(some 6), none, (.r (.mv (.c (.bool false))))⟩])
  (.seq (.region [.op ⟨(some 12), none, (.r (.mv (.t 2)))⟩,
    .op ⟨(some 13), none, (.r (.mv (.t 0)))⟩,
    .op ⟨(some 14), none, (.r (.build [(.int .i64 (.ofNat 0)), .nils, (.bool false), (.int .u64 (.ofNat 0)), (.str []), (.int .i64 (.ofNat 0)), (.int .i64 (.ofNat 0)), (.int .i64 (.ofNat 0)), (.int .i64 (.ofNat 0))] [(0, 1, (.c (.int .i64 (.ofNat 1)))), (2, 1, (.t 12)), (1, 1, (.t 13))]))⟩,
    .op ⟨(some 15), none, (.r (.mv (.t 2)))⟩,
    .op ⟨(some 16), none, (.r (.mv (.t 1)))⟩,
    .op ⟨(some 17), none, (.r (.build [(.int .i64 (.ofNat 0)), .nils, (.bool false), (.int .u64 (.ofNat 0)), (.str []), (.int .i64 (.ofNat 0)), (.int .i64 (.ofNat 0)), (.int .i64 (.ofNat 0)), (.int .i64 (.ofNat 0))] [(0, 1, (.c (.int .i64 (.ofNat 1)))), (2, 1, (.t 15)), (1, 1, (.t 16))]))⟩,
    .op ⟨(some 7), none, (.n (.new 0 [(.int .i64 (.ofNat 0)), .nils, (.bool false), (.int .u64 (.ofNat 0)), (.str []), (.int .i64 (.ofNat 0)), (.int .i64 (.ofNat 0)), (.int .i64 (.ofNat 0)), (.int .i64 (.ofNat 0))]))⟩,
    .op ⟨(some 8), none, (.n (.new 0 [(.int .i64 (.ofNat 0)), .nils, (.bool false), (.int .u64 (.ofNat 0)), (.str []), (.int .i64 (.ofNat 0)), (.int .i64 (.ofNat 0)), (.int .i64 (.ofNat 0)), (.int .i64 (.ofNat 0))]))⟩,
    .op ⟨none, none, (.e (.store 9 (.t 7) (.t 14)))⟩,
    .op ⟨none, none, (.e (.store 9 (.t 8) (.t 17)))⟩])
  (.seq (.seq (.region [.op ⟨(some 18), none, (.r (.load true 9 (.t 7)))⟩,
    .op ⟨(some 19), none, (.e (.call n_depotlaw14_light [(.t 18)]))⟩,
    .op ⟨(some 20), none, (.r (.un .not (.t 19)))⟩,
    .op ⟨(some 21), none, (.r (.mv (.t 20)))⟩,
    .op ⟨(some 22), (some (21, false)), (.r (.load true 9 (.t 8)))⟩,
    .op ⟨(some 23), (some (21, false)), (.e (.call n_depotlaw14_light [(.t 22)]))⟩,
    .op ⟨(some 24), (some (21, false)), (.r (.un .not (.t 23)))⟩,
    .op ⟨(some 25), none, (.r (.pick (.t 21) (.c (.bool true)) (.t 24)))⟩])
  (.cond (.t 25)
   (.seq (.region [.op ⟨(some 26), none, (.e (.call n_depotlaw14_AnswerRuns []))⟩,
     .op ⟨(some 6), none, (.r (.mv (.t 26)))⟩])
   .ret)
   .skip))
  (.seq (.region [.op ⟨(some 27), none, (.r (.mv (.t 2)))⟩,
    .op ⟨(some 28), none, (.n (.bslice 0 4 0 [] []))⟩,
    .op ⟨(some 29), none, (.r (.mv (.t 0)))⟩,
    .op ⟨(some 30), none, (.e (.app 0 4 48 (.t 28) (.t 29)))⟩,
    .op ⟨(some 31), none, (.r (.mv (.t 1)))⟩,
    .op ⟨(some 32), none, (.e (.app 0 4 48 (.t 30) (.t 31)))⟩,
    .op ⟨(some 33), none, (.r (.build [(.int .i64 (.ofNat 0)), .nils, (.bool false), (.int .u64 (.ofNat 0)), (.str []), (.int .i64 (.ofNat 0)), (.int .i64 (.ofNat 0)), (.int .i64 (.ofNat 0)), (.int .i64 (.ofNat 0))] [(0, 1, (.c (.int .i64 (.ofNat 1)))), (2, 1, (.t 27)), (1, 1, (.t 32))]))⟩,
    .op ⟨(some 9), none, (.n (.new 0 [(.int .i64 (.ofNat 0)), .nils, (.bool false), (.int .u64 (.ofNat 0)), (.str []), (.int .i64 (.ofNat 0)), (.int .i64 (.ofNat 0)), (.int .i64 (.ofNat 0)), (.int .i64 (.ofNat 0))]))⟩,
    .op ⟨none, none, (.e (.store 9 (.t 9) (.t 33)))⟩])
  (.seq (.region [.op ⟨(some 34), none, (.r (.load true 9 (.t 7)))⟩,
    .op ⟨(some 36), none, (.r (.load true 9 (.t 8)))⟩,
    .op ⟨(some 35), none, (.e (.call n_answer_Text [(.t 34)]))⟩,
    .again ⟨(some 36), none, (.r (.load true 9 (.t 8)))⟩,
    .op ⟨(some 37), none, (.e (.call n_answer_Text [(.t 36)]))⟩,
    .op ⟨(some 10), none, (.r (.mv (.t 35)))⟩,
    .op ⟨(some 11), none, (.r (.mv (.t 37)))⟩])
  (.seq (.region [.op ⟨(some 38), none, (.r (.mv (.t 10)))⟩,
    .op ⟨(some 39), none, (.r (.lens (.t 38)))⟩,
    .op ⟨(some 40), none, (.r (.bin .geq (.t 39) (.c (.int .i64 (.ofNat 5)))))⟩,
    .op ⟨(some 41), none, (.r (.mv (.t 40)))⟩,
    .op ⟨(some 42), (some (41, true)), (.r (.mv (.t 10)))⟩,
    .op ⟨(some 43), (some (41, true)), (.r (.mv (.t 10)))⟩,
    .op ⟨(some 44), (some (41, true)), (.r (.lens (.t 43)))⟩,
    .op ⟨(some 45), (some (41, true)), (.r (.bin .sub (.t 44) (.c (.int .i64 (.ofNat 5)))))⟩,
    .op ⟨(some 46), (some (41, true)), (.r (.slstr (.t 42) none (some (.t 45))))⟩,
    .op ⟨(some 47), (some (41, true)), (.r (.mv (.t 11)))⟩,
    .op ⟨(some 48), (some (41, true)), (.r (.bin .add (.t 46) (.t 47)))⟩,
    .op ⟨(some 49), (some (41, true)), (.r (.load true 9 (.t 9)))⟩,
    .op ⟨(some 50), (some (41, true)), (.e (.call n_answer_Text [(.t 49)]))⟩,
    .op ⟨(some 51), (some (41, true)), (.r (.bin .eql (.t 48) (.t 50)))⟩,
    .op ⟨(some 52), none, (.r (.pick (.t 41) (.t 51) (.c (.bool false))))⟩,
    .op ⟨(some 53), none, (.r (.mv (.t 52)))⟩,
    .op ⟨(some 54), (some (53, true)), (.r (.mv (.t 10)))⟩,
    .op ⟨(some 55), (some (53, true)), (.r (.mv (.t 10)))⟩,
    .op ⟨(some 56), (some (53, true)), (.r (.lens (.t 55)))⟩,
    .op ⟨(some 57), (some (53, true)), (.r (.bin .sub (.t 56) (.c (.int .i64 (.ofNat 5)))))⟩,
    .op ⟨(some 58), (some (53, true)), (.r (.slstr (.t 54) (some (.t 57)) none))⟩,
    .op ⟨(some 59), (some (53, true)), (.r (.bin .eql (.t 58) (.c (.str [69, 78, 68, 13, 10]))))⟩,
    .op ⟨(some 60), none, (.r (.pick (.t 53) (.t 59) (.c (.bool false))))⟩,
    .op ⟨(some 61), none, (.r (.mv (.t 60)))⟩,
    .op ⟨(some 62), (some (61, true)), (.e (.call n_depotlaw14_AnswerRuns []))⟩,
    .op ⟨(some 63), none, (.r (.pick (.t 61) (.t 62) (.c (.bool false))))⟩,
    .op ⟨(some 6), none, (.r (.mv (.t 63)))⟩])
  .ret)))))) }
theorem tr_depotlaw14_AnswerValues : trF cx Tryd.f4 = pf_depotlaw14_AnswerValues := by kernel_rfl
/-- depot/depotlaw14.AnswerLines -/
def pf_depotlaw14_AnswerLines : PF := { ntmps := 65, results := [.tmp 4], body :=
  (.seq (.region [.op ⟨(some 2), none, (.n (.box (.t 0)))⟩,
    .op ⟨(some 3), none, (.n (.box (.t 1)))⟩,
    .op ⟨(some 4), none, (.r (.mv (.c (.bool false))))⟩])
  (.seq (.seq (.region [.op ⟨(some 8), none, (.r (.load true 9 (.t 2)))⟩,
    .op ⟨(some 9), none, (.e (.call n_depotlaw14_light [(.t 8)]))⟩,
    .op ⟨(some 10), none, (.r (.un .not (.t 9)))⟩,
    .op ⟨(some 11), none, (.r (.mv (.t 10)))⟩,
    .op ⟨(some 12), (some (11, false)), (.r (.load true 9 (.t 3)))⟩,
    .op ⟨(some 13), (some (11, false)), (.e (.call n_depotlaw14_light [(.t 12)]))⟩,
    .op ⟨(some 14), (some (11, false)), (.r (.un .not (.t 13)))⟩,
    .op ⟨(some 15), none, (.r (.pick (.t 11) (.c (.bool true)) (.t 14)))⟩])
  (.cond (.t 15)
   (.seq (.region [.op ⟨(some 16), none, (.e (.call n_depotlaw14_AnswerRuns []))⟩,
     .op ⟨(some 4), none, (.r (.mv (.t 16)))⟩])
   .ret)
   .skip))
  (.seq (.region [.op ⟨(some 17), none, (.r (.load true 9 (.t 2)))⟩,
    .op ⟨(some 18), none, (.e (.call n_answer_Text [(.t 17)]))⟩,
    .op ⟨(some 5), none, (.r (.mv (.t 18)))⟩])
  (.seq (.seq (.region [.op ⟨(some 19), none, (.r (.faddr 0 (.t 2)))⟩,
    .op ⟨(some 20), none, (.r (.load false 1 (.t 19)))⟩,
    .op ⟨(some 21), none, (.r (.bin .lss (.t 20) (.c (.int .i64 (.ofNat 1)))))⟩,
    .op ⟨(some 22), none, (.r (.mv (.t 21)))⟩,
    .op ⟨(some 23), (some (22, false)), (.r (.faddr 0 (.t 2)))⟩,
    .op ⟨(some 24), (some (22, false)), (.r (.load false 1 (.t 23)))⟩,
    .op ⟨(some 25), (some (22, false)), (.r (.bin .geq (.t 24) (.c (.int .i64 (.ofNat 15)))))⟩,
    .op ⟨(some 26), none, (.r (.pick (.t 22) (.c (.bool true)) (.t 25)))⟩])
  (.cond (.t 26)
   (.seq (.region [.op ⟨(some 27), none, (.r (.mv (.t 5)))⟩,
     .op ⟨(some 28), none, (.r (.bin .eql (.t 27) (.c (.str []))))⟩,
     .op ⟨(some 29), none, (.r (.mv (.t 28)))⟩,
     .op ⟨(some 30), (some (29, true)), (.e (.call n_depotlaw14_AnswerRuns []))⟩,
     .op ⟨(some 31), none, (.r (.pick (.t 29) (.t 30) (.c (.bool false))))⟩,
     .op ⟨(some 4), none, (.r (.mv (.t 31)))⟩])
   .ret)
   .skip))
  (.seq (.region [.op ⟨(some 32), none, (.r (.faddr 0 (.t 2)))⟩,
    .op ⟨(some 33), none, (.r (.load false 1 (.t 32)))⟩,
    .op ⟨(some 34), none, (.r (.build [(.int .i64 (.ofNat 0)), .nils, (.bool false), (.int .u64 (.ofNat 0)), (.str []), (.int .i64 (.ofNat 0)), (.int .i64 (.ofNat 0)), (.int .i64 (.ofNat 0)), (.int .i64 (.ofNat 0))] [(0, 1, (.t 33))]))⟩,
    .op ⟨(some 36), none, (.r (.faddr 0 (.t 3)))⟩,
    .op ⟨(some 37), none, (.r (.load false 1 (.t 36)))⟩,
    .op ⟨(some 38), none, (.r (.build [(.int .i64 (.ofNat 0)), .nils, (.bool false), (.int .u64 (.ofNat 0)), (.str []), (.int .i64 (.ofNat 0)), (.int .i64 (.ofNat 0)), (.int .i64 (.ofNat 0)), (.int .i64 (.ofNat 0))] [(0, 1, (.t 37))]))⟩,
    .op ⟨(some 35), none, (.e (.call n_answer_Text [(.t 34)]))⟩,
    .again ⟨(some 37), none, (.r (.load false 1 (.t 36)))⟩,
    .op ⟨(some 39), none, (.e (.call n_answer_Text [(.t 38)]))⟩,
    .op ⟨(some 6), none, (.r (.mv (.t 35)))⟩,
    .op ⟨(some 7), none, (.r (.mv (.t 39)))⟩])
  (.seq (.region [.op ⟨(some 40), none, (.r (.mv (.t 5)))⟩,
    .op ⟨(some 41), none, (.r (.lens (.t 40)))⟩,
    .op ⟨(some 42), none, (.r (.bin .geq (.t 41) (.c (.int .i64 (.ofNat 3)))))⟩,
    .op ⟨(some 43), none, (.r (.mv (.t 42)))⟩,
    .op ⟨(some 44), (some (43, true)), (.r (.mv (.t 5)))⟩,
    .op ⟨(some 45), (some (43, true)), (.r (.mv (.t 5)))⟩,
    .op ⟨(some 46), (some (43, true)), (.r (.lens (.t 45)))⟩,
    .op ⟨(some 47), (some (43, true)), (.r (.bin .sub (.t 46) (.c (.int .i64 (.ofNat 2)))))⟩,
    .op ⟨(some 48), (some (43, true)), (.r (.slstr (.t 44) (some (.t 47)) none))⟩,
    .op ⟨(some 49), (some (43, true)), (.r (.bin .eql (.t 48) (.c (.str [13, 10]))))⟩,
    .op ⟨(some 50), none, (.r (.pick (.t 43) (.t 49) (.c (.bool false))))⟩,
    .op ⟨(some 51), none, (.r (.mv (.t 50)))⟩,
    .op ⟨(some 52), (some (51, true)), (.r (.faddr 0 (.t 2)))⟩,
    .op ⟨(some 53), (some (51, true)), (.r (.load false 1 (.t 52)))⟩,
    .op ⟨(some 54), (some (51, true)), (.r (.faddr 0 (.t 3)))⟩,
    .op ⟨(some 55), (some (51, true)), (.r (.load false 1 (.t 54)))⟩,
    .op ⟨(some 56), (some (51, true)), (.r (.bin .eql (.t 53) (.t 55)))⟩,
    .op ⟨(some 57), (some (51, true)), (.r (.mv (.t 6)))⟩,
    .op ⟨(some 58), (some (51, true)), (.r (.mv (.t 7)))⟩,
    .op ⟨(some 59), (some (51, true)), (.r (.bin .eql (.t 57) (.t 58)))⟩,
    .op ⟨(some 60), (some (51, true)), (.r (.eqv false .b (.t 56) (.t 59)))⟩,
    .op ⟨(some 61), none, (.r (.pick (.t 51) (.t 60) (.c (.bool false))))⟩,
    .op ⟨(some 62), none, (.r (.mv (.t 61)))⟩,
    .op ⟨(some 63), (some (62, true)), (.e (.call n_depotlaw14_AnswerRuns []))⟩,
    .op ⟨(some 64), none, (.r (.pick (.t 62) (.t 63) (.c (.bool false))))⟩,
    .op ⟨(some 4), none, (.r (.mv (.t 64)))⟩])
  .ret)))))) }
theorem tr_depotlaw14_AnswerLines : trF cx Tryd.f5 = pf_depotlaw14_AnswerLines := by kernel_rfl
/-- depot/depotlaw14.AnswerTells -/
def pf_depotlaw14_AnswerTells : PF := { ntmps := 30, results := [.tmp 4], body :=
  (.seq (.region [.op ⟨(some 2), none, (.n (.box (.t 0)))⟩,
    .op ⟨(some 4), none, (.r (.mv (.c (.bool false))))⟩])
  (.seq (.seq (.region [.op ⟨(some 5), none, (.r (.load true 9 (.t 2)))⟩,
    .op ⟨(some 6), none, (.e (.call n_depotlaw14_light [(.t 5)]))⟩,
    .op ⟨(some 7), none, (.r (.un .not (.t 6)))⟩])
  (.cond (.t 7)
   (.seq (.region [.op ⟨(some 8), none, (.e (.call n_depotlaw14_AnswerRuns []))⟩,
     .op ⟨(some 4), none, (.r (.mv (.t 8)))⟩])
   .ret)
   .skip))
  (.seq (.region [.op ⟨(some 9), none, (.r (.load true 9 (.t 2)))⟩,
    .op ⟨(some 11), none, (.r (.load true 9 (.t 2)))⟩,
    .op ⟨(some 10), none, (.e (.call n_answer_Text [(.t 9)]))⟩,
    .again ⟨(some 11), none, (.r (.load true 9 (.t 2)))⟩,
    .op ⟨(some 12), none, (.e (.call n_depotref9_Text [(.t 11)]))⟩,
    .op ⟨(some 13), none, (.r (.bin .eql (.t 10) (.t 12)))⟩,
    .op ⟨(some 14), none, (.r (.mv (.t 13)))⟩,
    .op ⟨(some 15), (some (14, true)), (.r (.mv (.t 1)))⟩,
    .op ⟨(some 16), (some (14, true)), (.r (.build [(.int .i64 (.ofNat 0)), .nils, (.int .i64 (.ofNat 0)), (.int .i64 (.ofNat 0)), (.int .i64 (.ofNat 0)), (.int .i64 (.ofNat 0)), (.int .u64 (.ofNat 0)), (.bool false), (.str [])] [(7, 1, (.t 15))]))⟩,
    .op ⟨(some 17), (some (14, true)), (.r (.load true 9 (.t 2)))⟩,
    .op ⟨(some 19), (some (14, true)), (.r (.mv (.t 1)))⟩,
    .op ⟨(some 18), (some (14, true)), (.e (.call n_answer_Quiet [(.t 16), (.t 17)]))⟩,
    .op ⟨(some 20), (some (14, true)), (.r (.mv (.t 19)))⟩,
    .op ⟨(some 21), (some (20, true)), (.r (.faddr 0 (.t 2)))⟩,
    .op ⟨(some 22), (some (20, true)), (.r (.load false 1 (.t 21)))⟩,
    .op ⟨(some 23), (some (20, true)), (.r (.bin .neq (.t 22) (.c (.int .i64 (.ofNat 13)))))⟩,
    .op ⟨(some 24), (some (14, true)), (.r (.pick (.t 20) (.t 23) (.c (.bool false))))⟩,
    .op ⟨(some 25), (some (14, true)), (.r (.eqv false .b (.t 18) (.t 24)))⟩,
    .op ⟨(some 26), none, (.r (.pick (.t 14) (.t 25) (.c (.bool false))))⟩,
    .op ⟨(some 27), none, (.r (.mv (.t 26)))⟩,
    .op ⟨(some 28), (some (27, true)), (.e (.call n_depotlaw14_AnswerRuns []))⟩,
    .op ⟨(some 29), none, (.r (.pick (.t 27) (.t 28) (.c (.bool false))))⟩,
    .op ⟨(some 4), none, (.r (.mv (.t 29)))⟩])
  .ret))) }
theorem tr_depotlaw14_AnswerTells : trF cx Tryd.f6 = pf_depotlaw14_AnswerTells := by kernel_rfl
/-- depot/answer.Text -/
def pf_answer_Text : PF := { ntmps := 43, results := [.tmp 2], body :=
  (.seq (.region [.op ⟨(some 1), none, (.n (.box (.t 0)))⟩,
    .op ⟨(some 2), none, (.r (.mv (.c (.str []))))⟩])
  (.seq (.seq (.region [.op ⟨(some 4), none, (.r (.faddr 0 (.t 1)))⟩,
    .op ⟨(some 5), none, (.r (.load false 1 (.t 4)))⟩])
  (.block 0 (.seq (.region [.op ⟨(some 7), none, (.r (.bin .eql (.t 5) (.c (.int .i64 (.ofNat 1)))))⟩,
     .op ⟨(some 6), none, (.r (.mv (.t 7)))⟩])
   (.cond (.t 6)
    (.seq (.region [.op ⟨(some 8), none, (.r (.faddr 1 (.t 1)))⟩,
      .op ⟨(some 9), none, (.r (.load false 1 (.t 8)))⟩,
      .op ⟨(some 10), none, (.r (.faddr 2 (.t 1)))⟩,
      .op ⟨(some 11), none, (.r (.load false 1 (.t 10)))⟩,
      .op ⟨(some 12), none, (.e (.call n_answer_values [(.t 9), (.t 11)]))⟩,
      .op ⟨(some 2), none, (.r (.mv (.t 12)))⟩])
    .ret)
    (.seq (.region [.op ⟨(some 14), none, (.r (.bin .eql (.t 5) (.c (.int .i64 (.ofNat 8)))))⟩,
      .op ⟨(some 13), none, (.r (.mv (.t 14)))⟩])
    (.cond (.t 13)
     (.seq (.region [.op ⟨(some 15), none, (.r (.faddr 3 (.t 1)))⟩,
       .op ⟨(some 16), none, (.r (.load false 1 (.t 15)))⟩,
       .op ⟨(some 17), none, (.e (.call n_strconv_FormatUint [(.t 16), (.c (.int .i64 (.ofNat 10)))]))⟩,
       .op ⟨(some 18), none, (.r (.bin .add (.t 17) (.c (.str [13, 10]))))⟩,
       .op ⟨(some 2), none, (.r (.mv (.t 18)))⟩])
     .ret)
     (.seq (.region [.op ⟨(some 20), none, (.r (.bin .eql (.t 5) (.c (.int .i64 (.ofNat 11)))))⟩,
       .op ⟨(some 19), none, (.r (.mv (.t 20)))⟩])
     (.cond (.t 19)
      (.seq (.region [.op ⟨(some 21), none, (.r (.faddr 5 (.t 1)))⟩,
        .op ⟨(some 22), none, (.r (.load true 4 (.t 21)))⟩,
        .op ⟨(some 23), none, (.e (.call n_answer_stats [(.t 22)]))⟩,
        .op ⟨(some 2), none, (.r (.mv (.t 23)))⟩])
      .ret)
      (.seq (.region [.op ⟨(some 25), none, (.r (.bin .eql (.t 5) (.c (.int .i64 (.ofNat 13)))))⟩,
        .op ⟨(some 24), none, (.r (.mv (.t 25)))⟩])
      (.cond (.t 24)
       (.seq (.region [.op ⟨(some 26), none, (.r (.faddr 4 (.t 1)))⟩,
         .op ⟨(some 27), none, (.r (.load false 1 (.t 26)))⟩,
         .op ⟨(some 28), none, (.r (.bin .add (.c (.str [67, 76, 73, 69, 78, 84, 95, 69, 82, 82, 79, 82, 32])) (.t 27)))⟩,
         .op ⟨(some 29), none, (.r (.bin .add (.t 28) (.c (.str [13, 10]))))⟩,
         .op ⟨(some 2), none, (.r (.mv (.t 29)))⟩])
       .ret)
       (.seq (.region [.op ⟨(some 31), none, (.r (.bin .eql (.t 5) (.c (.int .i64 (.ofNat 14)))))⟩,
         .op ⟨(some 30), none, (.r (.mv (.t 31)))⟩])
       (.cond (.t 30)
        (.seq (.region [.op ⟨(some 32), none, (.r (.faddr 4 (.t 1)))⟩,
          .op ⟨(some 33), none, (.r (.load false 1 (.t 32)))⟩,
          .op ⟨(some 34), none, (.r (.bin .add (.c (.str [83, 69, 82, 86, 69, 82, 95, 69, 82, 82, 79, 82, 32])) (.t 33)))⟩,
          .op ⟨(some 35), none, (.r (.bin .add (.t 34) (.c (.str [13, 10]))))⟩,
          .op ⟨(some 2), none, (.r (.mv (.t 35)))⟩])
        .ret)
        .skip))))))))))))
  (.seq (.seq (.region [.op ⟨(some 36), none, (.r (.faddr 0 (.t 1)))⟩,
    .op ⟨(some 37), none, (.r (.load false 1 (.t 36)))⟩,
    .op ⟨(some 38), none, (.e (.call n_answer_plain [(.t 37)]))⟩,
    .op ⟨(some 3), none, (.r (.mv (.t 38)))⟩])
  (.seq (.region [.op ⟨(some 39), none, (.r (.mv (.t 3)))⟩,
    .op ⟨(some 40), none, (.r (.bin .neq (.t 39) (.c (.str []))))⟩])
  (.cond (.t 40)
   (.seq (.region [.op ⟨(some 41), none, (.r (.mv (.t 3)))⟩,
     .op ⟨(some 42), none, (.r (.bin .add (.t 41) (.c (.str [13, 10]))))⟩,
     .op ⟨(some 2), none, (.r (.mv (.t 42)))⟩])
   .ret)
   .skip)))
  (.seq (.region [.op ⟨(some 2), none, (.r (.mv (.c (.str []))))⟩])
  .ret)))) }
theorem tr_answer_Text : trF cx Tryd.f10 = pf_answer_Text := by kernel_rfl
def l0_depotlaw14_light : PC :=
  (.seq (.seq (.region [.op ⟨(some 8), none, (.r (.mv (.t 4)))⟩,
    .op ⟨(some 9), none, (.r (.faddr 1 (.t 1)))⟩,
    .op ⟨(some 10), none, (.r (.load false 1 (.t 9)))⟩,
    .op ⟨(some 11), none, (.r (.lensl (.t 10)))⟩,
    .op ⟨(some 12), none, (.r (.bin .lss (.t 8) (.t 11)))⟩])
  (.cond (.t 12)
   .skip
   (.exit 0)))
  (.seq (.block 1 (.seq (.region [.op ⟨(some 15), none, (.r (.mv (.t 3)))⟩,
     .op ⟨(some 16), none, (.r (.faddr 1 (.t 1)))⟩,
     .op ⟨(some 17), none, (.r (.load false 1 (.t 16)))⟩,
     .op ⟨(some 18), none, (.r (.mv (.t 4)))⟩,
     .op ⟨(some 19), none, (.r (.iasl 4 (.t 17) (.t 18)))⟩,
     .op ⟨(some 20), none, (.r (.faddr 0 (.t 19)))⟩,
     .op ⟨(some 21), none, (.r (.load false 1 (.t 20)))⟩,
     .op ⟨(some 22), none, (.r (.lens (.t 21)))⟩,
     .op ⟨(some 23), none, (.r (.bin .add (.t 15) (.t 22)))⟩,
     .op ⟨(some 24), none, (.r (.faddr 1 (.t 1)))⟩,
     .op ⟨(some 25), none, (.r (.load false 1 (.t 24)))⟩,
     .op ⟨(some 26), none, (.r (.mv (.t 4)))⟩,
     .op ⟨(some 27), none, (.r (.iasl 4 (.t 25) (.t 26)))⟩,
     .op ⟨(some 28), none, (.r (.faddr 2 (.t 27)))⟩,
     .op ⟨(some 29), none, (.r (.load false 1 (.t 28)))⟩,
     .op ⟨(some 30), none, (.r (.lens (.t 29)))⟩,
     .op ⟨(some 31), none, (.r (.bin .add (.t 23) (.t 30)))⟩,
     .op ⟨(some 32), none, (.r (.bin .add (.t 31) (.c (.int .i64 (.ofNat 1)))))⟩,
     .op ⟨(some 3), none, (.r (.mv (.t 32)))⟩])
   (.seq (.region [.op ⟨(some 33), none, (.r (.mv (.t 3)))⟩,
     .op ⟨(some 34), none, (.r (.bin .gtr (.t 33) (.c (.int .i64 (.ofNat 3000)))))⟩])
   (.cond (.t 34)
    (.seq (.region [.op ⟨(some 2), none, (.r (.mv (.c (.bool false))))⟩])
    .ret)
    .skip))))
  (.region [.op ⟨(some 13), none, (.r (.mv (.t 4)))⟩,
    .op ⟨(some 14), none, (.r (.bin .add (.t 13) (.c (.int .i64 (.ofNat 1)))))⟩,
    .op ⟨(some 4), none, (.r (.mv (.t 14)))⟩])))
/-- depot/depotlaw14.light -/
def pf_depotlaw14_light : PF := { ntmps := 37, results := [.tmp 2], body :=
  (.seq (.region [.op ⟨(some 1), none, (.n (.box (.t 0)))⟩,
    .op ⟨(some 2), none, (.r (.mv (.c (.bool false))))⟩])
  (.seq (.region [.op ⟨(some 5), none, (.r (.faddr 4 (.t 1)))⟩,
    .op ⟨(some 6), none, (.r (.load false 1 (.t 5)))⟩,
    .op ⟨(some 7), none, (.r (.lens (.t 6)))⟩,
    .op ⟨(some 3), none, (.r (.mv (.t 7)))⟩])
  (.seq (.seq (.region [.op ⟨(some 4), none, (.r (.mv (.c (.int .i64 (.ofNat 0)))))⟩])
  (.block 0 (.loop l0_depotlaw14_light)))
  (.seq (.region [.op ⟨(some 35), none, (.r (.mv (.t 3)))⟩,
    .op ⟨(some 36), none, (.r (.bin .leq (.t 35) (.c (.int .i64 (.ofNat 3000)))))⟩,
    .op ⟨(some 2), none, (.r (.mv (.t 36)))⟩])
  .ret)))) }
theorem tr_depotlaw14_light : trF cx Tryd.f11 = pf_depotlaw14_light := by kernel_rfl
def l0_depotref9_Text : PC :=
  (.seq (.seq (.region [.op ⟨(some 14), none, (.r (.mv (.t 4)))⟩,
    .op ⟨(some 15), none, (.r (.faddr 1 (.t 1)))⟩,
    .op ⟨(some 16), none, (.r (.load false 1 (.t 15)))⟩,
    .op ⟨(some 17), none, (.r (.lensl (.t 16)))⟩,
    .op ⟨(some 18), none, (.r (.bin .lss (.t 14) (.t 17)))⟩])
  (.cond (.t 18)
   .skip
   (.exit 1)))
  (.seq (.block 2 (.seq (.region [.op ⟨(some 21), none, (.r (.faddr 1 (.t 1)))⟩,
     .op ⟨(some 22), none, (.r (.load false 1 (.t 21)))⟩,
     .op ⟨(some 23), none, (.r (.mv (.t 4)))⟩,
     .op ⟨(some 24), none, (.r (.iasl 4 (.t 22) (.t 23)))⟩,
     .op ⟨(some 25), none, (.r (.load true 4 (.t 24)))⟩,
     .op ⟨(some 5), none, (.n (.new 0 [(.str []), (.int .i64 (.ofNat 0)), (.str []), (.int .i64 (.ofNat 0))]))⟩,
     .op ⟨none, none, (.e (.store 4 (.t 5) (.t 25)))⟩])
   (.seq (.region [.op ⟨(some 26), none, (.r (.mv (.t 3)))⟩,
     .op ⟨(some 27), none, (.r (.bin .add (.t 26) (.c (.str [86, 65, 76, 85, 69, 32]))))⟩,
     .op ⟨(some 28), none, (.r (.faddr 0 (.t 5)))⟩,
     .op ⟨(some 29), none, (.r (.load false 1 (.t 28)))⟩,
     .op ⟨(some 30), none, (.r (.bin .add (.t 27) (.t 29)))⟩,
     .op ⟨(some 31), none, (.r (.bin .add (.t 30) (.c (.str [32]))))⟩,
     .op ⟨(some 32), none, (.r (.faddr 1 (.t 5)))⟩,
     .op ⟨(some 33), none, (.r (.load false 1 (.t 32)))⟩,
     .op ⟨(some 34), none, (.r (.minmax true [(.t 33), (.c (.int .i64 (.ofNat 0)))]))⟩,
     .op ⟨(some 35), none, (.r (.cint .u64 (.t 34)))⟩,
     .op ⟨(some 39), none, (.r (.faddr 2 (.t 5)))⟩,
     .op ⟨(some 40), none, (.r (.load false 1 (.t 39)))⟩,
     .op ⟨(some 41), none, (.r (.lens (.t 40)))⟩,
     .op ⟨(some 42), none, (.r (.cint .u64 (.t 41)))⟩,
     .op ⟨(some 36), none, (.e (.call n_depotref9_digits [(.t 35)]))⟩,
     .again ⟨(some 40), none, (.r (.load false 1 (.t 39)))⟩,
     .again ⟨(some 29), none, (.r (.load false 1 (.t 28)))⟩,
     .op ⟨(some 37), none, (.r (.bin .add (.t 31) (.t 36)))⟩,
     .op ⟨(some 38), none, (.r (.bin .add (.t 37) (.c (.str [32]))))⟩,
     .op ⟨(some 43), none, (.e (.call n_depotref9_digits [(.t 42)]))⟩,
     .again ⟨(some 29), none, (.r (.load false 1 (.t 28)))⟩,
     .op ⟨(some 44), none, (.r (.bin .add (.t 38) (.t 43)))⟩,
     .op ⟨(some 3), none, (.r (.mv (.t 44)))⟩])
   (.seq (.seq (.region [.op ⟨(some 45), none, (.r (.faddr 2 (.t 1)))⟩,
     .op ⟨(some 46), none, (.r (.load false 1 (.t 45)))⟩])
   (.cond (.t 46)
    (.region [.op ⟨(some 47), none, (.r (.mv (.t 3)))⟩,
      .op ⟨(some 48), none, (.r (.bin .add (.t 47) (.c (.str [32]))))⟩,
      .op ⟨(some 49), none, (.r (.faddr 3 (.t 5)))⟩,
      .op ⟨(some 50), none, (.r (.load false 1 (.t 49)))⟩,
      .op ⟨(some 51), none, (.r (.minmax true [(.t 50), (.c (.int .i64 (.ofNat 0)))]))⟩,
      .op ⟨(some 52), none, (.r (.cint .u64 (.t 51)))⟩,
      .op ⟨(some 53), none, (.e (.call n_depotref9_digits [(.t 52)]))⟩,
      .op ⟨(some 54), none, (.r (.bin .add (.t 48) (.t 53)))⟩,
      .op ⟨(some 3), none, (.r (.mv (.t 54)))⟩])
    .skip))
   (.region [.op ⟨(some 55), none, (.r (.mv (.t 3)))⟩,
     .op ⟨(some 56), none, (.r (.bin .add (.t 55) (.c (.str [13, 10]))))⟩,
     .op ⟨(some 57), none, (.r (.faddr 2 (.t 5)))⟩,
     .op ⟨(some 58), none, (.r (.load false 1 (.t 57)))⟩,
     .op ⟨(some 59), none, (.r (.bin .add (.t 56) (.t 58)))⟩,
     .op ⟨(some 60), none, (.r (.bin .add (.t 59) (.c (.str [13, 10]))))⟩,
     .op ⟨(some 3), none, (.r (.mv (.t 60)))⟩])))))
  (.region [.op ⟨(some 19), none, (.r (.mv (.t 4)))⟩,
    .op ⟨(some 20), none, (.r (.bin .add (.t 19) (.c (.int .i64 (.ofNat 1)))))⟩,
    .op ⟨(some 4), none, (.r (.mv (.t 20)))⟩])))
def l1_depotref9_Text : PC :=
  (.seq (.seq (.region [.op ⟨(some 72), none, (.r (.mv (.t 8)))⟩,
    .op ⟨(some 73), none, (.r (.mv (.t 6)))⟩,
    .op ⟨(some 74), none, (.r (.lensl (.t 73)))⟩,
    .op ⟨(some 75), none, (.r (.bin .lss (.t 72) (.t 74)))⟩])
  (.cond (.t 75)
   .skip
   (.exit 3)))
  (.seq (.block 4 (.region [.op ⟨(some 78), none, (.r (.mv (.t 7)))⟩,
     .op ⟨(some 79), none, (.r (.bin .add (.t 78) (.c (.str [83, 84, 65, 84, 32]))))⟩,
     .op ⟨(some 80), none, (.r (.mv (.t 6)))⟩,
     .op ⟨(some 81), none, (.r (.mv (.t 8)))⟩,
     .op ⟨(some 82), none, (.r (.iasl 1 (.t 80) (.t 81)))⟩,
     .op ⟨(some 83), none, (.r (.load false 1 (.t 82)))⟩,
     .op ⟨(some 84), none, (.r (.bin .add (.t 79) (.t 83)))⟩,
     .op ⟨(some 85), none, (.r (.bin .add (.t 84) (.c (.str [32]))))⟩,
     .op ⟨(some 86), none, (.r (.mv (.t 8)))⟩,
     .op ⟨(some 87), none, (.r (.faddr 5 (.t 1)))⟩,
     .op ⟨(some 88), none, (.r (.iaarr 4 1 (.t 87) (.t 86)))⟩,
     .op ⟨(some 89), none, (.r (.load false 1 (.t 88)))⟩,
     .op ⟨(some 90), none, (.r (.minmax true [(.t 89), (.c (.int .i64 (.ofNat 0)))]))⟩,
     .op ⟨(some 91), none, (.r (.cint .u64 (.t 90)))⟩,
     .op ⟨(some 92), none, (.e (.call n_depotref9_digits [(.t 91)]))⟩,
     .again ⟨(some 83), none, (.r (.load false 1 (.t 82)))⟩,
     .op ⟨(some 93), none, (.r (.bin .add (.t 85) (.t 92)))⟩,
     .op ⟨(some 94), none, (.r (.bin .add (.t 93) (.c (.str [13, 10]))))⟩,
     .op ⟨(some 7), none, (.r (.mv (.t 94)))⟩]))
  (.region [.op ⟨(some 76), none, (.r (.mv (.t 8)))⟩,
    .op ⟨(some 77), none, (.r (.bin .add (.t 76) (.c (.int .i64 (.ofNat 1)))))⟩,
    .op ⟨(some 8), none, (.r (.mv (.t 77)))⟩])))
/-- depot/depotref9.Text -/
def pf_depotref9_Text : PF := { ntmps := 125, results := [.tmp 2], body :=
  (.seq (.region [.op ⟨(some 1), none, (.n (.box (.t 0)))⟩,
    .op ⟨(some 2), none, (.r (.mv (.c (.str []))))⟩])
  (.seq (.seq (.region [.op ⟨(some 10), none, (.r (.faddr 0 (.t 1)))⟩,
    .op ⟨(some 11), none, (.r (.load false 1 (.t 10)))⟩])
  (.block 0 (.seq (.region [.op ⟨(some 13), none, (.r (.bin .eql (.t 11) (.c (.int .i64 (.ofNat 1)))))⟩,
     .op ⟨(some 12), none, (.r (.mv (.t 13)))⟩])
   (.cond (.t 12)
    (.seq (.region [.op ⟨(some 3), none, (.r (.mv (.c (.str []))))⟩])
    (.seq (.seq (.region [.op ⟨(some 4), none, (.r (.mv (.c (.int .i64 (.ofNat 0)))))⟩])
    (.block 1 (.loop l0_depotref9_Text)))
    (.seq (.region [.op ⟨(some 61), none, (.r (.mv (.t 3)))⟩,
      .op ⟨(some 62), none, (.r (.bin .add (.t 61) (.c (.str [69, 78, 68, 13, 10]))))⟩,
      .op ⟨(some 2), none, (.r (.mv (.t 62)))⟩])
    .ret)))
    (.seq (.region [.op ⟨(some 64), none, (.r (.bin .eql (.t 11) (.c (.int .i64 (.ofNat 8)))))⟩,
      .op ⟨(some 63), none, (.r (.mv (.t 64)))⟩])
    (.cond (.t 63)
     (.seq (.region [.op ⟨(some 65), none, (.r (.faddr 3 (.t 1)))⟩,
       .op ⟨(some 66), none, (.r (.load false 1 (.t 65)))⟩,
       .op ⟨(some 67), none, (.e (.call n_depotref9_digits [(.t 66)]))⟩,
       .op ⟨(some 68), none, (.r (.bin .add (.t 67) (.c (.str [13, 10]))))⟩,
       .op ⟨(some 2), none, (.r (.mv (.t 68)))⟩])
     .ret)
     (.seq (.region [.op ⟨(some 70), none, (.r (.bin .eql (.t 11) (.c (.int .i64 (.ofNat 11)))))⟩,
       .op ⟨(some 69), none, (.r (.mv (.t 70)))⟩])
     (.cond (.t 69)
      (.seq (.region [.op ⟨(some 71), none, (.n (.bslice 0 1 4 [(.str []), (.str []), (.str []), (.str [])] [(0, 1, (.c (.str [115, 108, 111, 116, 115, 95, 117, 112]))), (1, 1, (.c (.str [99, 109, 100, 95, 103, 101, 116]))), (2, 1, (.c (.str [99, 109, 100, 95, 115, 101, 116]))), (3, 1, (.c (.str [103, 101, 116, 95, 104, 105, 116, 115])))]))⟩,
        .op ⟨(some 6), none, (.r (.mv (.t 71)))⟩])
      (.seq (.region [.op ⟨(some 7), none, (.r (.mv (.c (.str []))))⟩])
      (.seq (.seq (.region [.op ⟨(some 8), none, (.r (.mv (.c (.int .i64 (.ofNat 0)))))⟩])
      (.block 3 (.loop l1_depotref9_Text)))
      (.seq (.region [.op ⟨(some 95), none, (.r (.mv (.t 7)))⟩,
        .op ⟨(some 96), none, (.r (.bin .add (.t 95) (.c (.str [69, 78, 68, 13, 10]))))⟩,
        .op ⟨(some 2), none, (.r (.mv (.t 96)))⟩])
      .ret))))
      (.seq (.region [.op ⟨(some 98), none, (.r (.bin .eql (.t 11) (.c (.int .i64 (.ofNat 13)))))⟩,
        .op ⟨(some 97), none, (.r (.mv (.t 98)))⟩])
      (.cond (.t 97)
       (.seq (.region [.op ⟨(some 99), none, (.r (.faddr 4 (.t 1)))⟩,
         .op ⟨(some 100), none, (.r (.load false 1 (.t 99)))⟩,
         .op ⟨(some 101), none, (.r (.bin .add (.c (.str [67, 76, 73, 69, 78, 84, 95, 69, 82, 82, 79, 82, 32])) (.t 100)))⟩,
         .op ⟨(some 102), none, (.r (.bin .add (.t 101) (.c (.str [13, 10]))))⟩,
         .op ⟨(some 2), none, (.r (.mv (.t 102)))⟩])
       .ret)
       (.seq (.region [.op ⟨(some 104), none, (.r (.bin .eql (.t 11) (.c (.int .i64 (.ofNat 14)))))⟩,
         .op ⟨(some 103), none, (.r (.mv (.t 104)))⟩])
       (.cond (.t 103)
        (.seq (.region [.op ⟨(some 105), none, (.r (.faddr 4 (.t 1)))⟩,
          .op ⟨(some 106), none, (.r (.load false 1 (.t 105)))⟩,
          .op ⟨(some 107), none, (.r (.bin .add (.c (.str [83, 69, 82, 86, 69, 82, 95, 69, 82, 82, 79, 82, 32])) (.t 106)))⟩,
          .op ⟨(some 108), none, (.r (.bin .add (.t 107) (.c (.str [13, 10]))))⟩,
          .op ⟨(some 2), none, (.r (.mv (.t 108)))⟩])
        .ret)
        .skip))))))))))))
  (.seq (.seq (.region [.op ⟨(some 109), none, (.r (.faddr 0 (.t 1)))⟩,
    .op ⟨(some 110), none, (.r (.load false 1 (.t 109)))⟩,
    .op ⟨(some 111), none, (.r (.bin .lss (.t 110) (.c (.int .i64 (.ofNat 2)))))⟩,
    .op ⟨(some 112), none, (.r (.mv (.t 111)))⟩,
    .op ⟨(some 113), (some (112, false)), (.r (.faddr 0 (.t 1)))⟩,
    .op ⟨(some 114), (some (112, false)), (.r (.load false 1 (.t 113)))⟩,
    .op ⟨(some 115), (some (112, false)), (.r (.bin .gtr (.t 114) (.c (.int .i64 (.ofNat 12)))))⟩,
    .op ⟨(some 116), none, (.r (.pick (.t 112) (.c (.bool true)) (.t 115)))⟩])
  (.cond (.t 116)
   (.seq (.region [.op ⟨(some 2), none, (.r (.mv (.c (.str []))))⟩])
   .ret)
   .skip))
  (.seq (.region [.op ⟨(some 117), none, (.n (.bslice 0 1 11 (rep 11 [(.str [])]) [(0, 1, (.c (.str [83, 84, 79, 82, 69, 68]))), (1, 1, (.c (.str [78, 79, 84, 95, 83, 84, 79, 82, 69, 68]))), (2, 1, (.c (.str [69, 88, 73, 83, 84, 83]))), (3, 1, (.c (.str [78, 79, 84, 95, 70, 79, 85, 78, 68]))), (4, 1, (.c (.str [68, 69, 76, 69, 84, 69, 68]))), (5, 1, (.c (.str [84, 79, 85, 67, 72, 69, 68]))), (6, 1, (.c (.str []))), (7, 1, (.c (.str [79, 75]))), (8, 1, (.c (.str [86, 69, 82, 83, 73, 79, 78, 32, 100, 101, 112, 111, 116]))), (9, 1, (.c (.str []))), (10, 1, (.c (.str [69, 82, 82, 79, 82])))]))⟩,
    .op ⟨(some 9), none, (.r (.mv (.t 117)))⟩])
  (.seq (.region [.op ⟨(some 118), none, (.r (.mv (.t 9)))⟩,
    .op ⟨(some 119), none, (.r (.faddr 0 (.t 1)))⟩,
    .op ⟨(some 120), none, (.r (.load false 1 (.t 119)))⟩,
    .op ⟨(some 121), none, (.r (.bin .sub (.t 120) (.c (.int .i64 (.ofNat 2)))))⟩,
    .op ⟨(some 122), none, (.r (.iasl 1 (.t 118) (.t 121)))⟩,
    .op ⟨(some 123), none, (.r (.load false 1 (.t 122)))⟩,
    .op ⟨(some 124), none, (.r (.bin .add (.t 123) (.c (.str [13, 10]))))⟩,
    .op ⟨(some 2), none, (.r (.mv (.t 124)))⟩])
  .ret))))) }
theorem tr_depotref9_Text : trF cx Tryd.f12 = pf_depotref9_Text := by kernel_rfl
/-- depot/answer.Quiet -/
def pf_answer_Quiet : PF := { ntmps := 12, results := [.tmp 4], body :=
  (.seq (.region [.op ⟨(some 2), none, (.n (.box (.t 0)))⟩,
    .op ⟨(some 3), none, (.n (.box (.t 1)))⟩,
    .op ⟨(some 4), none, (.r (.mv (.c (.bool false))))⟩])
  (.seq (.region [.op ⟨(some 5), none, (.r (.faddr 7 (.t 2)))⟩,
    .op ⟨(some 6), none, (.r (.load false 1 (.t 5)))⟩,
    .op ⟨(some 7), none, (.r (.mv (.t 6)))⟩,
    .op ⟨(some 8), (some (7, true)), (.r (.faddr 0 (.t 3)))⟩,
    .op ⟨(some 9), (some (7, true)), (.r (.load false 1 (.t 8)))⟩,
    .op ⟨(some 10), (some (7, true)), (.r (.bin .neq (.t 9) (.c (.int .i64 (.ofNat 13)))))⟩,
    .op ⟨(some 11), none, (.r (.pick (.t 7) (.t 10) (.c (.bool false))))⟩,
    .op ⟨(some 4), none, (.r (.mv (.t 11)))⟩])
  .ret)) }
theorem tr_answer_Quiet : trF cx Tryd.f13 = pf_answer_Quiet := by kernel_rfl
/-- strconv.FormatUint -/
def pf_strconv_FormatUint : PF := { ntmps := 8, results := [.tmp 4], body :=
  (.seq (.region [.op ⟨(some 4), none, (.r (.mv (.c (.str []))))⟩])
  (.seq (.region [.op ⟨(some 5), none, (.r (.mv (.t 0)))⟩,
    .op ⟨(some 6), none, (.r (.mv (.t 1)))⟩,
    .op ⟨(some 7), none, (.e (.call n_internal_strconv_FormatUint [(.t 5), (.t 6)]))⟩,
    .op ⟨(some 4), none, (.r (.mv (.t 7)))⟩])
  .ret)) }
theorem tr_strconv_FormatUint : trF cx Tryd.f14 = pf_strconv_FormatUint := by kernel_rfl
/-- strconv.Itoa -/
def pf_strconv_Itoa : PF := { ntmps := 5, results := [.tmp 2], body :=
  (.seq (.region [.op ⟨(some 2), none, (.r (.mv (.c (.str []))))⟩])
  (.seq (.region [.op ⟨(some 3), none, (.r (.mv (.t 0)))⟩,
    .op ⟨(some 4), none, (.e (.call n_internal_strconv_Itoa [(.t 3)]))⟩,
    .op ⟨(some 2), none, (.r (.mv (.t 4)))⟩])
  .ret)) }
theorem tr_strconv_Itoa : trF cx Tryd.f19 = pf_strconv_Itoa := by kernel_rfl
def l0_answer_values : PC :=
  (.seq (.region [.op ⟨(some 12), none, (.r (.bin .lss (.t 11) (.t 10)))⟩])
  (.seq (.cond (.t 12)
   .skip
   (.exit 0))
  (.seq (.block 1 (.seq (.region [.op ⟨(some 13), none, (.r (.iasl 4 (.t 9) (.t 11)))⟩,
     .op ⟨(some 14), none, (.r (.load true 4 (.t 13)))⟩,
     .op ⟨(some 7), none, (.n (.new 0 [(.str []), (.int .i64 (.ofNat 0)), (.str []), (.int .i64 (.ofNat 0))]))⟩,
     .op ⟨none, none, (.e (.store 4 (.t 7) (.t 14)))⟩])
   (.seq (.region [.op ⟨(some 15), none, (.r (.faddr 0 (.t 7)))⟩,
     .op ⟨(some 16), none, (.r (.load false 1 (.t 15)))⟩,
     .op ⟨(some 17), none, (.r (.faddr 1 (.t 7)))⟩,
     .op ⟨(some 18), none, (.r (.load false 1 (.t 17)))⟩,
     .op ⟨(some 20), none, (.r (.faddr 2 (.t 7)))⟩,
     .op ⟨(some 21), none, (.r (.load false 1 (.t 20)))⟩,
     .op ⟨(some 22), none, (.r (.lens (.t 21)))⟩,
     .op ⟨(some 19), none, (.e (.call n_answer_number [(.t 18)]))⟩,
     .again ⟨(some 21), none, (.r (.load false 1 (.t 20)))⟩,
     .again ⟨(some 16), none, (.r (.load false 1 (.t 15)))⟩,
     .op ⟨(some 23), none, (.e (.call n_strconv_Itoa [(.t 22)]))⟩,
     .again ⟨(some 16), none, (.r (.load false 1 (.t 15)))⟩,
     .op ⟨(some 24), none, (.n (.bslice 0 1 4 [(.str []), (.str []), (.str []), (.str [])] [(0, 1, (.c (.str [86, 65, 76, 85, 69]))), (1, 1, (.t 16)), (2, 1, (.t 19)), (3, 1, (.t 23))]))⟩,
     .op ⟨(some 8), none, (.r (.mv (.t 24)))⟩])
   (.seq (.seq (.region [.op ⟨(some 25), none, (.r (.mv (.t 1)))⟩])
   (.cond (.t 25)
    (.region [.op ⟨(some 26), none, (.r (.mv (.t 8)))⟩,
      .op ⟨(some 27), none, (.r (.faddr 3 (.t 7)))⟩,
      .op ⟨(some 28), none, (.r (.load false 1 (.t 27)))⟩,
      .op ⟨(some 29), none, (.e (.call n_answer_number [(.t 28)]))⟩,
      .op ⟨(some 30), none, (.n (.bslice 0 1 1 [(.str [])] [(0, 1, (.t 29))]))⟩,
      .op ⟨(some 31), none, (.e (.app 0 1 16 (.t 26) (.t 30)))⟩,
      .op ⟨(some 8), none, (.r (.mv (.t 31)))⟩])
    .skip))
   (.region [.op ⟨(some 32), none, (.r (.mv (.t 8)))⟩,
     .op ⟨(some 35), none, (.r (.faddr 2 (.t 7)))⟩,
     .op ⟨(some 36), none, (.r (.load false 1 (.t 35)))⟩,
     .op ⟨(some 33), none, (.e (.call n_strings_Join [(.t 32), (.c (.str [32]))]))⟩,
     .again ⟨(some 36), none, (.r (.load false 1 (.t 35)))⟩,
     .op ⟨(some 34), none, (.r (.bin .add (.t 33) (.c (.str [13, 10]))))⟩,
     .op ⟨(some 37), none, (.r (.bin .add (.t 34) (.t 36)))⟩,
     .op ⟨(some 38), none, (.r (.bin .add (.t 37) (.c (.str [13, 10]))))⟩,
     .op ⟨(some 39), none, (.e (.call n_strings_Builder_WriteString [(.t 5), (.t 38)]))⟩])))))
  (.region [.op ⟨(some 40), none, (.r (.bin .add (.t 11) (.c (.int .i64 (.ofNat 1)))))⟩,
    .op ⟨(some 11), none, (.r (.mv (.t 40)))⟩]))))
/-- depot/answer.values -/
def pf_answer_values : PF := { ntmps := 44, results := [.tmp 4], body :=
  (.seq (.region [.op ⟨(some 4), none, (.r (.mv (.c (.str []))))⟩])
  (.seq (.region [.op ⟨(some 5), none, (.n (.new 1 [.nilp, .nils]))⟩])
  (.seq (.seq (.region [.op ⟨(some 9), none, (.r (.mv (.t 0)))⟩,
    .op ⟨(some 10), none, (.r (.lensl (.t 9)))⟩,
    .op ⟨(some 11), none, (.r (.mv (.c (.int .i64 (.ofNat 0)))))⟩])
  (.block 0 (.loop l0_answer_values)))
  (.seq (.region [.op ⟨(some 41), none, (.e (.call n_strings_Builder_String [(.t 5)]))⟩,
    .op ⟨(some 42), none, (.r (.bin .add (.t 41) (.c (.str [69, 78, 68]))))⟩,
    .op ⟨(some 43), none, (.r (.bin .add (.t 42) (.c (.str [13, 10]))))⟩,
    .op ⟨(some 4), none, (.r (.mv (.t 43)))⟩])
  .ret)))) }
theorem tr_answer_values : trF cx Tryd.f24 = pf_answer_values := by kernel_rfl
def l0_answer_stats : PC :=
  (.seq (.region [.op ⟨(some 9), none, (.r (.bin .lss (.t 8) (.t 7)))⟩])
  (.seq (.cond (.t 9)
   .skip
   (.exit 0))
  (.seq (.block 1 (.seq (.region [.op ⟨(some 10), none, (.r (.mv (.t 8)))⟩,
     .op ⟨(some 11), none, (.r (.iasl 1 (.t 6) (.t 8)))⟩,
     .op ⟨(some 12), none, (.r (.load false 1 (.t 11)))⟩,
     .op ⟨(some 4), none, (.r (.mv (.t 10)))⟩,
     .op ⟨(some 5), none, (.r (.mv (.t 12)))⟩])
   (.region [.op ⟨(some 13), none, (.r (.mv (.t 3)))⟩,
     .op ⟨(some 14), none, (.r (.mv (.t 5)))⟩,
     .op ⟨(some 15), none, (.r (.bin .add (.c (.str [83, 84, 65, 84, 32])) (.t 14)))⟩,
     .op ⟨(some 16), none, (.r (.bin .add (.t 15) (.c (.str [32]))))⟩,
     .op ⟨(some 17), none, (.r (.mv (.t 4)))⟩,
     .op ⟨(some 18), none, (.r (.iaarr 4 1 (.t 1) (.t 17)))⟩,
     .op ⟨(some 19), none, (.r (.load false 1 (.t 18)))⟩,
     .op ⟨(some 20), none, (.e (.call n_answer_number [(.t 19)]))⟩,
     .op ⟨(some 21), none, (.r (.bin .add (.t 16) (.t 20)))⟩,
     .op ⟨(some 22), none, (.r (.bin .add (.t 21) (.c (.str [13, 10]))))⟩,
     .op ⟨(some 23), none, (.r (.bin .add (.t 13) (.t 22)))⟩,
     .op ⟨(some 3), none, (.r (.mv (.t 23)))⟩])))
  (.region [.op ⟨(some 24), none, (.r (.bin .add (.t 8) (.c (.int .i64 (.ofNat 1)))))⟩,
    .op ⟨(some 8), none, (.r (.mv (.t 24)))⟩]))))
/-- depot/answer.stats -/
def pf_answer_stats : PF := { ntmps := 28, results := [.tmp 2], body :=
  (.seq (.region [.op ⟨(some 1), none, (.n (.box (.t 0)))⟩,
    .op ⟨(some 2), none, (.r (.mv (.c (.str []))))⟩])
  (.seq (.region [.op ⟨(some 3), none, (.r (.mv (.c (.str []))))⟩])
  (.seq (.seq (.region [.op ⟨(some 6), none, (.n (.bslice 0 1 4 [(.str []), (.str []), (.str []), (.str [])] [(0, 1, (.c (.str [115, 108, 111, 116, 115, 95, 117, 112]))), (1, 1, (.c (.str [99, 109, 100, 95, 103, 101, 116]))), (2, 1, (.c (.str [99, 109, 100, 95, 115, 101, 116]))), (3, 1, (.c (.str [103, 101, 116, 95, 104, 105, 116, 115])))]))⟩,
    .op ⟨(some 7), none, (.r (.lensl (.t 6)))⟩,
    .op ⟨(some 8), none, (.r (.mv (.c (.int .i64 (.ofNat 0)))))⟩])
  (.block 0 (.loop l0_answer_stats)))
  (.seq (.region [.op ⟨(some 25), none, (.r (.mv (.t 3)))⟩,
    .op ⟨(some 26), none, (.r (.bin .add (.t 25) (.c (.str [69, 78, 68]))))⟩,
    .op ⟨(some 27), none, (.r (.bin .add (.t 26) (.c (.str [13, 10]))))⟩,
    .op ⟨(some 2), none, (.r (.mv (.t 27)))⟩])
  .ret)))) }
theorem tr_answer_stats : trF cx Tryd.f25 = pf_answer_stats := by kernel_rfl
/-- depot/answer.plain -/
def pf_answer_plain : PF := { ntmps := 22, results := [.tmp 2], body :=
  (.seq (.region [.op ⟨(some 2), none, (.r (.mv (.c (.str []))))⟩])
  (.seq (.seq (.region [.op ⟨(some 3), none, (.r (.mv (.t 0)))⟩])
  (.block 0 (.seq (.region [.op ⟨(some 5), none, (.r (.bin .eql (.t 3) (.c (.int .i64 (.ofNat 2)))))⟩,
     .op ⟨(some 4), none, (.r (.mv (.t 5)))⟩])
   (.cond (.t 4)
    (.seq (.region [.op ⟨(some 2), none, (.r (.mv (.c (.str [83, 84, 79, 82, 69, 68]))))⟩])
    .ret)
    (.seq (.region [.op ⟨(some 7), none, (.r (.bin .eql (.t 3) (.c (.int .i64 (.ofNat 3)))))⟩,
      .op ⟨(some 6), none, (.r (.mv (.t 7)))⟩])
    (.cond (.t 6)
     (.seq (.region [.op ⟨(some 2), none, (.r (.mv (.c (.str [78, 79, 84, 95, 83, 84, 79, 82, 69, 68]))))⟩])
     .ret)
     (.seq (.region [.op ⟨(some 9), none, (.r (.bin .eql (.t 3) (.c (.int .i64 (.ofNat 4)))))⟩,
       .op ⟨(some 8), none, (.r (.mv (.t 9)))⟩])
     (.cond (.t 8)
      (.seq (.region [.op ⟨(some 2), none, (.r (.mv (.c (.str [69, 88, 73, 83, 84, 83]))))⟩])
      .ret)
      (.seq (.region [.op ⟨(some 11), none, (.r (.bin .eql (.t 3) (.c (.int .i64 (.ofNat 5)))))⟩,
        .op ⟨(some 10), none, (.r (.mv (.t 11)))⟩])
      (.cond (.t 10)
       (.seq (.region [.op ⟨(some 2), none, (.r (.mv (.c (.str [78, 79, 84, 95, 70, 79, 85, 78, 68]))))⟩])
       .ret)
       (.seq (.region [.op ⟨(some 13), none, (.r (.bin .eql (.t 3) (.c (.int .i64 (.ofNat 6)))))⟩,
         .op ⟨(some 12), none, (.r (.mv (.t 13)))⟩])
       (.cond (.t 12)
        (.seq (.region [.op ⟨(some 2), none, (.r (.mv (.c (.str [68, 69, 76, 69, 84, 69, 68]))))⟩])
        .ret)
        (.seq (.region [.op ⟨(some 15), none, (.r (.bin .eql (.t 3) (.c (.int .i64 (.ofNat 7)))))⟩,
          .op ⟨(some 14), none, (.r (.mv (.t 15)))⟩])
        (.cond (.t 14)
         (.seq (.region [.op ⟨(some 2), none, (.r (.mv (.c (.str [84, 79, 85, 67, 72, 69, 68]))))⟩])
         .ret)
         (.seq (.region [.op ⟨(some 17), none, (.r (.bin .eql (.t 3) (.c (.int .i64 (.ofNat 9)))))⟩,
           .op ⟨(some 16), none, (.r (.mv (.t 17)))⟩])
         (.cond (.t 16)
          (.seq (.region [.op ⟨(some 2), none, (.r (.mv (.c (.str [79, 75]))))⟩])
          .ret)
          (.seq (.region [.op ⟨(some 19), none, (.r (.bin .eql (.t 3) (.c (.int .i64 (.ofNat 12)))))⟩,
            .op ⟨(some 18), none, (.r (.mv (.t 19)))⟩])
          (.cond (.t 18)
           (.seq (.region [.op ⟨(some 2), none, (.r (.mv (.c (.str [69, 82, 82, 79, 82]))))⟩])
           .ret)
           (.seq (.region [.op ⟨(some 21), none, (.r (.bin .eql (.t 3) (.c (.int .i64 (.ofNat 10)))))⟩,
             .op ⟨(some 20), none, (.r (.mv (.t 21)))⟩])
           (.cond (.t 20)
            (.seq (.region [.op ⟨(some 2), none, (.r (.mv (.c (.str [86, 69, 82, 83, 73, 79, 78, 32, 100, 101, 112, 111, 116]))))⟩])
            .ret)
            .skip))))))))))))))))))))
  (.seq (.region [.op ⟨(some 2), none, (.r (.mv (.c (.str []))))⟩])
  .ret))) }
theorem tr_answer_plain : trF cx Tryd.f26 = pf_answer_plain := by kernel_rfl
def l0_depotref9_digits : PC :=
  (.seq (.seq (.region [.op ⟨(some 4), none, (.r (.mv (.t 0)))⟩,
    .op ⟨(some 5), none, (.r (.bin .gtr (.t 4) (.c (.int .u64 (.ofNat 0)))))⟩,
    .op ⟨(some 6), none, (.r (.mv (.t 5)))⟩,
    .op ⟨(some 7), (some (6, false)), (.r (.mv (.t 3)))⟩,
    .op ⟨(some 8), (some (6, false)), (.r (.bin .eql (.t 7) (.c (.str []))))⟩,
    .op ⟨(some 9), none, (.r (.pick (.t 6) (.c (.bool true)) (.t 8)))⟩])
  (.cond (.t 9)
   .skip
   (.exit 0)))
  (.block 1 (.seq (.region [.op ⟨(some 10), none, (.r (.mv (.t 0)))⟩,
     .op ⟨(some 11), none, (.r (.bin .rem (.t 10) (.c (.int .u64 (.ofNat 10)))))⟩,
     .op ⟨(some 12), none, (.r (.bin .add (.c (.int .u64 (.ofNat 48))) (.t 11)))⟩,
     .op ⟨(some 13), none, (.r (.cint .u8 (.t 12)))⟩,
     .op ⟨(some 14), none, (.n (.bslice 2 1 1 [(.int .u8 (.ofNat 0))] [(0, 1, (.t 13))]))⟩,
     .op ⟨(some 15), none, (.r (.b2s (.t 14)))⟩,
     .op ⟨(some 16), none, (.r (.mv (.t 3)))⟩,
     .op ⟨(some 17), none, (.r (.bin .add (.t 15) (.t 16)))⟩,
     .op ⟨(some 3), none, (.r (.mv (.t 17)))⟩])
   (.region [.op ⟨(some 18), none, (.r (.mv (.t 0)))⟩,
     .op ⟨(some 19), none, (.r (.bin .quo (.t 18) (.c (.int .u64 (.ofNat 10)))))⟩,
     .op ⟨(some 0), none, (.r (.mv (.t 19)))⟩]))))
/-- depot/depotref9.digits -/
def pf_depotref9_digits : PF := { ntmps := 21, results := [.tmp 2], body :=
  (.seq (.region [.op ⟨(some 2), none, (.r (.mv (.c (.str []))))⟩])
  (.seq (.region [.op ⟨(some 3), none, (.r (.mv (.c (.str []))))⟩])
  (.seq (.block 0 (.loop l0_depotref9_digits))
  (.seq (.region [.op ⟨(some 20), none, (.r (.mv (.t 3)))⟩,
    .op ⟨(some 2), none, (.r (.mv (.t 20)))⟩])
  .ret)))) }
theorem tr_depotref9_digits : trF cx Tryd.f27 = pf_depotref9_digits := by kernel_rfl
/-- internal/strconv.FormatUint -/
def pf_internal_strconv_FormatUint : PF := { ntmps := 32, results := [.tmp 4], body :=
  (.seq (.region [.op ⟨(some 4), none, (.r (.mv (.c (.str []))))⟩])
  (.seq (.seq (.region [.op ⟨(some 9), none, (.r (.mv (.t 1)))⟩,
    .op ⟨(some 10), none, (.r (.bin .eql (.t 9) (.c (.int .i64 (.ofNat 10)))))⟩])
  (.cond (.t 10)
   (.seq (.seq (.region [.op ⟨(some 11), none, (.r (.mv (.t 0)))⟩,
     .op ⟨(some 12), none, (.r (.bin .lss (.t 11) (.c (.int .u64 (.ofNat 100)))))⟩])
   (.cond (.t 12)
    (.seq (.region [.op ⟨(some 13), none, (.r (.mv (.t 0)))⟩,
      .op ⟨(some 14), none, (.r (.cint .i64 (.t 13)))⟩,
      .op ⟨(some 15), none, (.e (.call n_internal_strconv_small [(.t 14)]))⟩,
      .op ⟨(some 4), none, (.r (.mv (.t 15)))⟩])
    .ret)
    .skip))
   (.seq (.region [.op ⟨(some 5), none, (.n (.new 0 (rep 24 [(.int .u8 (.ofNat 0))])))⟩])
   (.seq (.region [.op ⟨(some 16), none, (.r (.mv (.t 0)))⟩,
     .op ⟨(some 17), none, (.e (.call n_internal_strconv_numDigits [(.t 16)]))⟩,
     .op ⟨(some 6), none, (.r (.mv (.t 17)))⟩])
   (.seq (.region [.op ⟨(some 18), none, (.r (.mv (.t 6)))⟩,
     .op ⟨(some 19), none, (.r (.slarr 24 1 (.t 5) none (some (.t 18))))⟩,
     .op ⟨(some 20), none, (.r (.mv (.t 0)))⟩,
     .op ⟨(some 21), none, (.e (.call n_internal_strconv_formatBase10 [(.t 19), (.t 20)]))⟩])
   (.seq (.region [.op ⟨(some 22), none, (.r (.mv (.t 6)))⟩,
     .op ⟨(some 23), none, (.r (.slarr 24 1 (.t 5) none (some (.t 22))))⟩,
     .op ⟨(some 24), none, (.r (.b2s (.t 23)))⟩,
     .op ⟨(some 4), none, (.r (.mv (.t 24)))⟩])
   .ret)))))
   .skip))
  (.seq (.region [.op ⟨(some 26), none, (.r (.mv (.t 0)))⟩,
    .op ⟨(some 27), none, (.r (.mv (.t 1)))⟩,
    .op ⟨(some 28), none, (.e (.call n_internal_strconv_formatBits [(.c .nils), (.t 26), (.t 27), (.c (.bool false)), (.c (.bool false))]))⟩,
    .op ⟨(some 25), none, (.r (.mv (.t 28)))⟩,
    .op ⟨(some 29), none, (.r (.ext 0 (.t 25)))⟩,
    .op ⟨(some 30), none, (.r (.ext 1 (.t 25)))⟩,
    .op ⟨(some 7), none, (.r (.mv (.t 29)))⟩,
    .op ⟨(some 8), none, (.r (.mv (.t 30)))⟩])
  (.seq (.region [.op ⟨(some 31), none, (.r (.mv (.t 8)))⟩,
    .op ⟨(some 4), none, (.r (.mv (.t 31)))⟩])
  .ret)))) }
theorem tr_internal_strconv_FormatUint : trF cx Tryd.f28 = pf_internal_strconv_FormatUint := by kernel_rfl
/-- internal/strconv.Itoa -/
def pf_internal_strconv_Itoa : PF := { ntmps := 5, results := [.tmp 2], body :=
  (.seq (.region [.op ⟨(some 2), none, (.r (.mv (.c (.str []))))⟩])
  (.seq (.region [.op ⟨(some 3), none, (.r (.mv (.t 0)))⟩,
    .op ⟨(some 4), none, (.e (.call n_internal_strconv_FormatInt [(.t 3), (.c (.int .i64 (.ofNat 10)))]))⟩,
    .op ⟨(some 2), none, (.r (.mv (.t 4)))⟩])
  .ret)) }
theorem tr_internal_strconv_Itoa : trF cx Tryd.f32 = pf_internal_strconv_Itoa := by kernel_rfl
/-- depot/answer.number -/
def pf_answer_number : PF := { ntmps := 6, results := [.tmp 2], body :=
  (.seq (.region [.op ⟨(some 2), none, (.r (.mv (.c (.str []))))⟩])
  (.seq (.region [.op ⟨(some 3), none, (.r (.mv (.t 0)))⟩,
    .op ⟨(some 4), none, (.r (.minmax true [(.t 3), (.c (.int .i64 (.ofNat 0)))]))⟩,
    .op ⟨(some 5), none, (.e (.call n_strconv_Itoa [(.t 4)]))⟩,
    .op ⟨(some 2), none, (.r (.mv (.t 5)))⟩])
  .ret)) }
theorem tr_answer_number : trF cx Tryd.f38 = pf_answer_number := by kernel_rfl
/-- (*strings.Builder).WriteString -/
def pf_strings_Builder_WriteString : PF := { ntmps := 19, results := [.tmp 4, .tmp 5], body :=
  (.seq (.region [.op ⟨(some 4), none, (.r (.mv (.c (.int .i64 (.ofNat 0)))))⟩,
    .op ⟨(some 5), none, (.r (.mv (.c .nili)))⟩])
  (.seq (.region [.op ⟨(some 6), none, (.r (.mv (.t 0)))⟩,
    .op ⟨(some 7), none, (.e (.call n_strings_Builder_copyCheck [(.t 6)]))⟩])
  (.seq (.region [.op ⟨(some 8), none, (.r (.mv (.t 0)))⟩,
    .op ⟨(some 9), none, (.r (.mv (.t 0)))⟩,
    .op ⟨(some 10), none, (.r (.nilck (.t 9)))⟩,
    .op ⟨(some 11), none, (.r (.faddr 1 (.t 10)))⟩,
    .op ⟨(some 12), none, (.r (.load false 1 (.t 11)))⟩,
    .op ⟨(some 13), none, (.r (.mv (.t 1)))⟩,
    .op ⟨(some 14), none, (.e (.app 2 1 1 (.t 12) (.t 13)))⟩,
    .op ⟨(some 15), none, (.r (.nilck (.t 8)))⟩,
    .op ⟨(some 16), none, (.r (.faddr 1 (.t 15)))⟩,
    .op ⟨none, none, (.e (.store 1 (.t 16) (.t 14)))⟩])
  (.seq (.region [.op ⟨(some 17), none, (.r (.mv (.t 1)))⟩,
    .op ⟨(some 18), none, (.r (.lens (.t 17)))⟩,
    .op ⟨(some 4), none, (.r (.mv (.t 18)))⟩,
    .op ⟨(some 5), none, (.r (.mv (.c .nili)))⟩])
  .ret)))) }
theorem tr_strings_Builder_WriteString : trF cx Tryd.f39 = pf_strings_Builder_WriteString := by kernel_rfl
def l0_strings_Join : PC :=
  (.seq (.region [.op ⟨(some 42), none, (.r (.bin .lss (.t 41) (.t 40)))⟩])
  (.seq (.cond (.t 42)
   .skip
   (.exit 1))
  (.seq (.block 2 (.seq (.region [.op ⟨(some 43), none, (.r (.iasl 1 (.t 39) (.t 41)))⟩,
     .op ⟨(some 44), none, (.r (.load false 1 (.t 43)))⟩,
     .op ⟨(some 7), none, (.r (.mv (.t 44)))⟩])
   (.seq (.seq (.region [.op ⟨(some 45), none, (.r (.mv (.t 7)))⟩,
     .op ⟨(some 46), none, (.r (.lens (.t 45)))⟩,
     .op ⟨(some 47), none, (.r (.mv (.t 5)))⟩,
     .op ⟨(some 48), none, (.r (.bin .sub (.c (.int .i64 (.ofNat 9223372036854775807))) (.t 47)))⟩,
     .op ⟨(some 49), none, (.r (.bin .gtr (.t 46) (.t 48)))⟩])
   (.cond (.t 49)
    (.region [.op ⟨(some 50), none, (.r (.bad))⟩,
      .op ⟨none, none, (.r (.bad))⟩])
    .skip))
   (.region [.op ⟨(some 51), none, (.r (.mv (.t 5)))⟩,
     .op ⟨(some 52), none, (.r (.mv (.t 7)))⟩,
     .op ⟨(some 53), none, (.r (.lens (.t 52)))⟩,
     .op ⟨(some 54), none, (.r (.bin .add (.t 51) (.t 53)))⟩,
     .op ⟨(some 5), none, (.r (.mv (.t 54)))⟩]))))
  (.region [.op ⟨(some 55), none, (.r (.bin .add (.t 41) (.c (.int .i64 (.ofNat 1)))))⟩,
    .op ⟨(some 41), none, (.r (.mv (.t 55)))⟩]))))
def l1_strings_Join : PC :=
  (.seq (.region [.op ⟨(some 66), none, (.r (.bin .lss (.t 65) (.t 64)))⟩])
  (.seq (.cond (.t 66)
   .skip
   (.exit 3))
  (.seq (.block 4 (.seq (.region [.op ⟨(some 67), none, (.r (.iasl 1 (.t 63) (.t 65)))⟩,
     .op ⟨(some 68), none, (.r (.load false 1 (.t 67)))⟩,
     .op ⟨(some 10), none, (.r (.mv (.t 68)))⟩])
   (.seq (.region [.op ⟨(some 69), none, (.r (.mv (.t 1)))⟩,
     .op ⟨(some 70), none, (.e (.call n_strings_Builder_WriteString [(.t 8), (.t 69)]))⟩])
   (.region [.op ⟨(some 71), none, (.r (.mv (.t 10)))⟩,
     .op ⟨(some 72), none, (.e (.call n_strings_Builder_WriteString [(.t 8), (.t 71)]))⟩]))))
  (.region [.op ⟨(some 73), none, (.r (.bin .add (.t 65) (.c (.int .i64 (.ofNat 1)))))⟩,
    .op ⟨(some 65), none, (.r (.mv (.t 73)))⟩]))))
/-- strings.Join -/
def pf_strings_Join : PF := { ntmps := 75, results := [.tmp 4], body :=
  (.seq (.region [.op ⟨(some 4), none, (.r (.mv (.c (.str []))))⟩])
  (.seq (.seq (.region [.op ⟨(some 11), none, (.r (.mv (.t 0)))⟩,
    .op ⟨(some 12), none, (.r (.lensl (.t 11)))⟩])
  (.block 0 (.seq (.region [.op ⟨(some 14), none, (.r (.bin .eql (.t 12) (.c (.int .i64 (.ofNat 0)))))⟩,
     .op ⟨(some 13), none, (.r (.mv (.t 14)))⟩])
   (.cond (.t 13)
    (.seq (.region [.op ⟨(some 4), none, (.r (.mv (.c (.str []))))⟩])
    .ret)
    (.seq (.region [.op ⟨(some 16), none, (.r (.bin .eql (.t 12) (.c (.int .i64 (.ofNat 1)))))⟩,
      .op ⟨(some 15), none, (.r (.mv (.t 16)))⟩])
    (.cond (.t 15)
     (.seq (.region [.op ⟨(some 17), none, (.r (.mv (.t 0)))⟩,
       .op ⟨(some 18), none, (.r (.iasl 1 (.t 17) (.c (.int .i64 (.ofNat 0)))))⟩,
       .op ⟨(some 19), none, (.r (.load false 1 (.t 18)))⟩,
       .op ⟨(some 4), none, (.r (.mv (.t 19)))⟩])
     .ret)
     .skip))))))
  (.seq (.region [.op ⟨(some 5), none, (.r (.mv (.c (.int .i64 (.ofNat 0)))))⟩])
  (.seq (.seq (.region [.op ⟨(some 20), none, (.r (.mv (.t 1)))⟩,
    .op ⟨(some 21), none, (.r (.lens (.t 20)))⟩,
    .op ⟨(some 22), none, (.r (.bin .gtr (.t 21) (.c (.int .i64 (.ofNat 0)))))⟩])
  (.cond (.t 22)
   (.seq (.seq (.region [.op ⟨(some 23), none, (.r (.mv (.t 1)))⟩,
     .op ⟨(some 24), none, (.r (.lens (.t 23)))⟩,
     .op ⟨(some 25), none, (.r (.mv (.t 0)))⟩,
     .op ⟨(some 26), none, (.r (.lensl (.t 25)))⟩,
     .op ⟨(some 27), none, (.r (.bin .sub (.t 26) (.c (.int .i64 (.ofNat 1)))))⟩,
     .op ⟨(some 28), none, (.r (.bin .quo (.c (.int .i64 (.ofNat 9223372036854775807))) (.t 27)))⟩,
     .op ⟨(some 29), none, (.r (.bin .geq (.t 24) (.t 28)))⟩])
   (.cond (.t 29)
    (.region [.op ⟨(some 30), none, (.r (.bad))⟩,
      .op ⟨none, none, (.r (.bad))⟩])
    .skip))
   (.region [.op ⟨(some 31), none, (.r (.mv (.t 5)))⟩,
     .op ⟨(some 32), none, (.r (.mv (.t 1)))⟩,
     .op ⟨(some 33), none, (.r (.lens (.t 32)))⟩,
     .op ⟨(some 34), none, (.r (.mv (.t 0)))⟩,
     .op ⟨(some 35), none, (.r (.lensl (.t 34)))⟩,
     .op ⟨(some 36), none, (.r (.bin .sub (.t 35) (.c (.int .i64 (.ofNat 1)))))⟩,
     .op ⟨(some 37), none, (.r (.bin .mul (.t 33) (.t 36)))⟩,
     .op ⟨(some 38), none, (.r (.bin .add (.t 31) (.t 37)))⟩,
     .op ⟨(some 5), none, (.r (.mv (.t 38)))⟩]))
   .skip))
  (.seq (.seq (.region [.op ⟨(some 39), none, (.r (.mv (.t 0)))⟩,
    .op ⟨(some 40), none, (.r (.lensl (.t 39)))⟩,
    .op ⟨(some 41), none, (.r (.mv (.c (.int .i64 (.ofNat 0)))))⟩])
  (.block 1 (.loop l0_strings_Join)))
  (.seq (.region [.op ⟨(some 8), none, (.n (.new 1 [.nilp, .nils]))⟩])
  (.seq (.region [.op ⟨(some 56), none, (.r (.mv (.t 5)))⟩,
    .op ⟨(some 57), none, (.e (.call n_strings_Builder_Grow [(.t 8), (.t 56)]))⟩])
  (.seq (.region [.op ⟨(some 58), none, (.r (.mv (.t 0)))⟩,
    .op ⟨(some 59), none, (.r (.iasl 1 (.t 58) (.c (.int .i64 (.ofNat 0)))))⟩,
    .op ⟨(some 60), none, (.r (.load false 1 (.t 59)))⟩,
    .op ⟨(some 61), none, (.e (.call n_strings_Builder_WriteString [(.t 8), (.t 60)]))⟩])
  (.seq (.seq (.region [.op ⟨(some 62), none, (.r (.mv (.t 0)))⟩,
    .op ⟨(some 63), none, (.r (.slsl 1 (.t 62) (some (.c (.int .i64 (.ofNat 1)))) none none))⟩,
    .op ⟨(some 64), none, (.r (.lensl (.t 63)))⟩,
    .op ⟨(some 65), none, (.r (.mv (.c (.int .i64 (.ofNat 0)))))⟩])
  (.block 3 (.loop l1_strings_Join)))
  (.seq (.region [.op ⟨(some 74), none, (.e (.call n_strings_Builder_String [(.t 8)]))⟩,
    .op ⟨(some 4), none, (.r (.mv (.t 74)))⟩])
  .ret)))))))))) }
theorem tr_strings_Join : trF cx Tryd.f40 = pf_strings_Join := by kernel_rfl
/-- (*strings.Builder).String -/
def pf_strings_Builder_String : PF := { ntmps := 14, results := [.tmp 2], body :=
  (.seq (.region [.op ⟨(some 2), none, (.r (.mv (.c (.str []))))⟩])
  (.seq (.region [.op ⟨(some 3), none, (.r (.mv (.t 0)))⟩,
    .op ⟨(some 4), none, (.r (.nilck (.t 3)))⟩,
    .op ⟨(some 5), none, (.r (.faddr 1 (.t 4)))⟩,
    .op ⟨(some 6), none, (.r (.load false 1 (.t 5)))⟩,
    .op ⟨(some 7), none, (.r (.sdata (.t 6)))⟩,
    .op ⟨(some 8), none, (.r (.mv (.t 0)))⟩,
    .op ⟨(some 9), none, (.r (.nilck (.t 8)))⟩,
    .op ⟨(some 10), none, (.r (.faddr 1 (.t 9)))⟩,
    .op ⟨(some 11), none, (.r (.load false 1 (.t 10)))⟩,
    .op ⟨(some 12), none, (.r (.lensl (.t 11)))⟩,
    .op ⟨(some 13), none, (.e (.ustr (.t 7) (.t 12)))⟩,
    .op ⟨(some 2), none, (.r (.mv (.t 13)))⟩])
  .ret)) }
theorem tr_strings_Builder_String : trF cx Tryd.f41 = pf_strings_Builder_String := by kernel_rfl
/-- internal/strconv.small -/
def pf_internal_strconv_small : PF := { ntmps := 15, results := [.tmp 2], body :=
  (.seq (.region [.op ⟨(some 2), none, (.r (.mv (.c (.str []))))⟩])
  (.seq (.seq (.region [.op ⟨(some 3), none, (.r (.mv (.t 0)))⟩,
    .op ⟨(some 4), none, (.r (.bin .lss (.t 3) (.c (.int .i64 (.ofNat 10)))))⟩])
  (.cond (.t 4)
   (.seq (.region [.op ⟨(some 5), none, (.r (.mv (.t 0)))⟩,
     .op ⟨(some 6), none, (.r (.mv (.t 0)))⟩,
     .op ⟨(some 7), none, (.r (.bin .add (.t 6) (.c (.int .i64 (.ofNat 1)))))⟩,
     .op ⟨(some 8), none, (.r (.slstr (.c (.str [48, 49, 50, 51, 52, 53, 54, 55, 56, 57, 97, 98, 99, 100, 101, 102, 103, 104, 105, 106, 107, 108, 109, 110, 111, 112, 113, 114, 115, 116, 117, 118, 119, 120, 121, 122])) (some (.t 5)) (some (.t 7))))⟩,
     .op ⟨(some 2), none, (.r (.mv (.t 8)))⟩])
   .ret)
   .skip))
  (.seq (.region [.op ⟨(some 9), none, (.r (.mv (.t 0)))⟩,
    .op ⟨(some 10), none, (.r (.bin .mul (.t 9) (.c (.int .i64 (.ofNat 2)))))⟩,
    .op ⟨(some 11), none, (.r (.mv (.t 0)))⟩,
    .op ⟨(some 12), none, (.r (.bin .mul (.t 11) (.c (.int .i64 (.ofNat 2)))))⟩,
    .op ⟨(some 13), none, (.r (.bin .add (.t 12) (.c (.int .i64 (.ofNat 2)))))⟩,
    .op ⟨(some 14), none, (.r (.slstr (.c (.str [48, 48, 48, 49, 48, 50, 48, 51, 48, 52, 48, 53, 48, 54, 48, 55, 48, 56, 48, 57, 49, 48, 49, 49, 49, 50, 49, 51, 49, 52, 49, 53, 49, 54, 49, 55, 49, 56, 49, 57, 50, 48, 50, 49, 50, 50, 50, 51, 50, 52, 50, 53, 50, 54, 50, 55, 50, 56, 50, 57, 51, 48, 51, 49, 51, 50, 51, 51, 51, 52, 51, 53, 51, 54, 51, 55, 51, 56, 51, 57, 52, 48, 52, 49, 52, 50, 52, 51, 52, 52, 52, 53, 52, 54, 52, 55, 52, 56, 52, 57, 53, 48, 53, 49, 53, 50, 53, 51, 53, 52, 53, 53, 53, 54, 53, 55, 53, 56, 53, 57, 54, 48, 54, 49, 54, 50, 54, 51, 54, 52, 54, 53, 54, 54, 54, 55, 54, 56, 54, 57, 55, 48, 55, 49, 55, 50, 55, 51, 55, 52, 55, 53, 55, 54, 55, 55, 55, 56, 55, 57, 56, 48, 56, 49, 56, 50, 56, 51, 56, 52, 56, 53, 56, 54, 56, 55, 56, 56, 56, 57, 57, 48, 57, 49, 57, 50, 57, 51, 57, 52, 57, 53, 57, 54, 57, 55, 57, 56, 57, 57])) (some (.t 10)) (some (.t 13))))⟩,
    .op ⟨(some 2), none, (.r (.mv (.t 14)))⟩])
  .ret))) }
theorem tr_internal_strconv_small : trF cx Tryd.f42 = pf_internal_strconv_small := by kernel_rfl
/-- internal/strconv.numDigits -/
def pf_internal_strconv_numDigits : PF := { ntmps := 15, results := [.tmp 2], body :=
  (.seq (.region [.op ⟨(some 2), none, (.r (.mv (.c (.int .i64 (.ofNat 0)))))⟩])
  (.seq (.region [.op ⟨(some 4), none, (.r (.mv (.t 0)))⟩,
    .op ⟨(some 5), none, (.e (.call n_math_bits_Len64 [(.t 4)]))⟩,
    .op ⟨(some 6), none, (.e (.call n_internal_strconv_log10Pow2 [(.t 5)]))⟩,
    .op ⟨(some 3), none, (.r (.mv (.t 6)))⟩])
  (.seq (.region [.op ⟨(some 7), none, (.r (.mv (.t 3)))⟩,
    .op ⟨(some 8), none, (.r (.mv (.t 0)))⟩,
    .op ⟨(some 9), none, (.r (.mv (.t 3)))⟩,
    .op ⟨(some 10), none, (.r (.iaarr 20 1 (.c (.ptr 0 0)) (.t 9)))⟩,
    .op ⟨(some 11), none, (.r (.load false 1 (.t 10)))⟩,
    .op ⟨(some 12), none, (.r (.bin .geq (.t 8) (.t 11)))⟩,
    .op ⟨(some 13), none, (.e (.call n_internal_strconv_bool2_int [(.t 12)]))⟩,
    .op ⟨(some 14), none, (.r (.bin .add (.t 7) (.t 13)))⟩,
    .op ⟨(some 2), none, (.r (.mv (.t 14)))⟩])
  .ret))) }
theorem tr_internal_strconv_numDigits : trF cx Tryd.f43 = pf_internal_strconv_numDigits := by kernel_rfl
def l0_internal_strconv_formatBase10 : PC :=
  (.seq (.seq (.region [.op ⟨(some 19), none, (.r (.mv (.t 4)))⟩,
    .op ⟨(some 20), none, (.r (.bin .geq (.t 19) (.c (.int .i64 (.ofNat 8)))))⟩])
  (.cond (.t 20)
   .skip
   (.exit 0)))
  (.block 1 (.seq (.region [.op ⟨(some 21), none, (.r (.mv (.t 1)))⟩,
     .op ⟨(some 22), none, (.r (.bin .rem (.t 21) (.c (.int .u64 (.ofNat 100000000)))))⟩,
     .op ⟨(some 23), none, (.r (.cint .u32 (.t 22)))⟩,
     .op ⟨(some 5), none, (.r (.mv (.t 23)))⟩])
   (.seq (.region [.op ⟨(some 24), none, (.r (.mv (.t 1)))⟩,
     .op ⟨(some 25), none, (.r (.bin .quo (.t 24) (.c (.int .u64 (.ofNat 100000000)))))⟩,
     .op ⟨(some 1), none, (.r (.mv (.t 25)))⟩])
   (.seq (.region [.op ⟨(some 26), none, (.r (.mv (.t 5)))⟩,
     .op ⟨(some 27), none, (.r (.bin .quo (.t 26) (.c (.int .u32 (.ofNat 10000)))))⟩,
     .op ⟨(some 28), none, (.r (.mv (.t 5)))⟩,
     .op ⟨(some 29), none, (.r (.bin .rem (.t 28) (.c (.int .u32 (.ofNat 10000)))))⟩,
     .op ⟨(some 6), none, (.r (.mv (.t 27)))⟩,
     .op ⟨(some 7), none, (.r (.mv (.t 29)))⟩])
   (.seq (.region [.op ⟨(some 30), none, (.r (.mv (.t 7)))⟩,
     .op ⟨(some 31), none, (.r (.bin .quo (.t 30) (.c (.int .u32 (.ofNat 100)))))⟩,
     .op ⟨(some 32), none, (.r (.bin .mul (.t 31) (.c (.int .u32 (.ofNat 2)))))⟩,
     .op ⟨(some 33), none, (.r (.mv (.t 7)))⟩,
     .op ⟨(some 34), none, (.r (.bin .rem (.t 33) (.c (.int .u32 (.ofNat 100)))))⟩,
     .op ⟨(some 35), none, (.r (.bin .mul (.t 34) (.c (.int .u32 (.ofNat 2)))))⟩,
     .op ⟨(some 8), none, (.r (.mv (.t 32)))⟩,
     .op ⟨(some 9), none, (.r (.mv (.t 35)))⟩])
   (.seq (.region [.op ⟨(some 36), none, (.r (.mv (.t 6)))⟩,
     .op ⟨(some 37), none, (.r (.bin .quo (.t 36) (.c (.int .u32 (.ofNat 100)))))⟩,
     .op ⟨(some 38), none, (.r (.bin .mul (.t 37) (.c (.int .u32 (.ofNat 2)))))⟩,
     .op ⟨(some 39), none, (.r (.mv (.t 6)))⟩,
     .op ⟨(some 40), none, (.r (.bin .rem (.t 39) (.c (.int .u32 (.ofNat 100)))))⟩,
     .op ⟨(some 41), none, (.r (.bin .mul (.t 40) (.c (.int .u32 (.ofNat 2)))))⟩,
     .op ⟨(some 10), none, (.r (.mv (.t 38)))⟩,
     .op ⟨(some 11), none, (.r (.mv (.t 41)))⟩])
   (.seq (.region [.op ⟨(some 42), none, (.r (.mv (.t 0)))⟩,
     .op ⟨(some 43), none, (.r (.mv (.t 4)))⟩,
     .op ⟨(some 44), none, (.r (.bin .sub (.t 43) (.c (.int .i64 (.ofNat 1)))))⟩,
     .op ⟨(some 45), none, (.r (.mv (.t 0)))⟩,
     .op ⟨(some 46), none, (.r (.mv (.t 4)))⟩,
     .op ⟨(some 47), none, (.r (.bin .sub (.t 46) (.c (.int .i64 (.ofNat 2)))))⟩,
     .op ⟨(some 48), none, (.r (.mv (.t 9)))⟩,
     .op ⟨(some 49), none, (.r (.bin .add (.t 48) (.c (.int .u32 (.ofNat 1)))))⟩,
     .op ⟨(some 50), none, (.r (.ixstr (.c (.str [48, 48, 48, 49, 48, 50, 48, 51, 48, 52, 48, 53, 48, 54, 48, 55, 48, 56, 48, 57, 49, 48, 49, 49, 49, 50, 49, 51, 49, 52, 49, 53, 49, 54, 49, 55, 49, 56, 49, 57, 50, 48, 50, 49, 50, 50, 50, 51, 50, 52, 50, 53, 50, 54, 50, 55, 50, 56, 50, 57, 51, 48, 51, 49, 51, 50, 51, 51, 51, 52, 51, 53, 51, 54, 51, 55, 51, 56, 51, 57, 52, 48, 52, 49, 52, 50, 52, 51, 52, 52, 52, 53, 52, 54, 52, 55, 52, 56, 52, 57, 53, 48, 53, 49, 53, 50, 53, 51, 53, 52, 53, 53, 53, 54, 53, 55, 53, 56, 53, 57, 54, 48, 54, 49, 54, 50, 54, 51, 54, 52, 54, 53, 54, 54, 54, 55, 54, 56, 54, 57, 55, 48, 55, 49, 55, 50, 55, 51, 55, 52, 55, 53, 55, 54, 55, 55, 55, 56, 55, 57, 56, 48, 56, 49, 56, 50, 56, 51, 56, 52, 56, 53, 56, 54, 56, 55, 56, 56, 56, 57, 57, 48, 57, 49, 57, 50, 57, 51, 57, 52, 57, 53, 57, 54, 57, 55, 57, 56, 57, 57])) (.t 49)))⟩,
     .op ⟨(some 51), none, (.r (.mv (.t 9)))⟩,
     .op ⟨(some 52), none, (.r (.ixstr (.c (.str [48, 48, 48, 49, 48, 50, 48, 51, 48, 52, 48, 53, 48, 54, 48, 55, 48, 56, 48, 57, 49, 48, 49, 49, 49, 50, 49, 51, 49, 52, 49, 53, 49, 54, 49, 55, 49, 56, 49, 57, 50, 48, 50, 49, 50, 50, 50, 51, 50, 52, 50, 53, 50, 54, 50, 55, 50, 56, 50, 57, 51, 48, 51, 49, 51, 50, 51, 51, 51, 52, 51, 53, 51, 54, 51, 55, 51, 56, 51, 57, 52, 48, 52, 49, 52, 50, 52, 51, 52, 52, 52, 53, 52, 54, 52, 55, 52, 56, 52, 57, 53, 48, 53, 49, 53, 50, 53, 51, 53, 52, 53, 53, 53, 54, 53, 55, 53, 56, 53, 57, 54, 48, 54, 49, 54, 50, 54, 51, 54, 52, 54, 53, 54, 54, 54, 55, 54, 56, 54, 57, 55, 48, 55, 49, 55, 50, 55, 51, 55, 52, 55, 53, 55, 54, 55, 55, 55, 56, 55, 57, 56, 48, 56, 49, 56, 50, 56, 51, 56, 52, 56, 53, 56, 54, 56, 55, 56, 56, 56, 57, 57, 48, 57, 49, 57, 50, 57, 51, 57, 52, 57, 53, 57, 54, 57, 55, 57, 56, 57, 57])) (.t 51)))⟩,
     .op ⟨(some 53), none, (.r (.iasl 1 (.t 42) (.t 44)))⟩,
     .op ⟨none, none, (.e (.store 1 (.t 53) (.t 50)))⟩,
     .op ⟨(some 54), none, (.r (.iasl 1 (.t 45) (.t 47)))⟩,
     .op ⟨none, none, (.e (.store 1 (.t 54) (.t 52)))⟩])
   (.seq (.region [.op ⟨(some 55), none, (.r (.mv (.t 0)))⟩,
     .op ⟨(some 56), none, (.r (.mv (.t 4)))⟩,
     .op ⟨(some 57), none, (.r (.bin .sub (.t 56) (.c (.int .i64 (.ofNat 3)))))⟩,
     .op ⟨(some 58), none, (.r (.mv (.t 0)))⟩,
     .op ⟨(some 59), none, (.r (.mv (.t 4)))⟩,
     .op ⟨(some 60), none, (.r (.bin .sub (.t 59) (.c (.int .i64 (.ofNat 4)))))⟩,
     .op ⟨(some 61), none, (.r (.mv (.t 8)))⟩,
     .op ⟨(some 62), none, (.r (.bin .add (.t 61) (.c (.int .u32 (.ofNat 1)))))⟩,
     .op ⟨(some 63), none, (.r (.ixstr (.c (.str [48, 48, 48, 49, 48, 50, 48, 51, 48, 52, 48, 53, 48, 54, 48, 55, 48, 56, 48, 57, 49, 48, 49, 49, 49, 50, 49, 51, 49, 52, 49, 53, 49, 54, 49, 55, 49, 56, 49, 57, 50, 48, 50, 49, 50, 50, 50, 51, 50, 52, 50, 53, 50, 54, 50, 55, 50, 56, 50, 57, 51, 48, 51, 49, 51, 50, 51, 51, 51, 52, 51, 53, 51, 54, 51, 55, 51, 56, 51, 57, 52, 48, 52, 49, 52, 50, 52, 51, 52, 52, 52, 53, 52, 54, 52, 55, 52, 56, 52, 57, 53, 48, 53, 49, 53, 50, 53, 51, 53, 52, 53, 53, 53, 54, 53, 55, 53, 56, 53, 57, 54, 48, 54, 49, 54, 50, 54, 51, 54, 52, 54, 53, 54, 54, 54, 55, 54, 56, 54, 57, 55, 48, 55, 49, 55, 50, 55, 51, 55, 52, 55, 53, 55, 54, 55, 55, 55, 56, 55, 57, 56, 48, 56, 49, 56, 50, 56, 51, 56, 52, 56, 53, 56, 54, 56, 55, 56, 56, 56, 57, 57, 48, 57, 49, 57, 50, 57, 51, 57, 52, 57, 53, 57, 54, 57, 55, 57, 56, 57, 57])) (.t 62)))⟩,
     .op ⟨(some 64), none, (.r (.mv (.t 8)))⟩,
     .op ⟨(some 65), none, (.r (.ixstr (.c (.str [48, 48, 48, 49, 48, 50, 48, 51, 48, 52, 48, 53, 48, 54, 48, 55, 48, 56, 48, 57, 49, 48, 49, 49, 49, 50, 49, 51, 49, 52, 49, 53, 49, 54, 49, 55, 49, 56, 49, 57, 50, 48, 50, 49, 50, 50, 50, 51, 50, 52, 50, 53, 50, 54, 50, 55, 50, 56, 50, 57, 51, 48, 51, 49, 51, 50, 51, 51, 51, 52, 51, 53, 51, 54, 51, 55, 51, 56, 51, 57, 52, 48, 52, 49, 52, 50, 52, 51, 52, 52, 52, 53, 52, 54, 52, 55, 52, 56, 52, 57, 53, 48, 53, 49, 53, 50, 53, 51, 53, 52, 53, 53, 53, 54, 53, 55, 53, 56, 53, 57, 54, 48, 54, 49, 54, 50, 54, 51, 54, 52, 54, 53, 54, 54, 54, 55, 54, 56, 54, 57, 55, 48, 55, 49, 55, 50, 55, 51, 55, 52, 55, 53, 55, 54, 55, 55, 55, 56, 55, 57, 56, 48, 56, 49, 56, 50, 56, 51, 56, 52, 56, 53, 56, 54, 56, 55, 56, 56, 56, 57, 57, 48, 57, 49, 57, 50, 57, 51, 57, 52, 57, 53, 57, 54, 57, 55, 57, 56, 57, 57])) (.t 64)))⟩,
     .op ⟨(some 66), none, (.r (.iasl 1 (.t 55) (.t 57)))⟩,
     .op ⟨none, none, (.e (.store 1 (.t 66) (.t 63)))⟩,
     .op ⟨(some 67), none, (.r (.iasl 1 (.t 58) (.t 60)))⟩,
     .op ⟨none, none, (.e (.store 1 (.t 67) (.t 65)))⟩])
   (.seq (.region [.op ⟨(some 68), none, (.r (.mv (.t 0)))⟩,
     .op ⟨(some 69), none, (.r (.mv (.t 4)))⟩,
     .op ⟨(some 70), none, (.r (.bin .sub (.t 69) (.c (.int .i64 (.ofNat 5)))))⟩,
     .op ⟨(some 71), none, (.r (.mv (.t 0)))⟩,
     .op ⟨(some 72), none, (.r (.mv (.t 4)))⟩,
     .op ⟨(some 73), none, (.r (.bin .sub (.t 72) (.c (.int .i64 (.ofNat 6)))))⟩,
     .op ⟨(some 74), none, (.r (.mv (.t 11)))⟩,
     .op ⟨(some 75), none, (.r (.bin .add (.t 74) (.c (.int .u32 (.ofNat 1)))))⟩,
     .op ⟨(some 76), none, (.r (.ixstr (.c (.str [48, 48, 48, 49, 48, 50, 48, 51, 48, 52, 48, 53, 48, 54, 48, 55, 48, 56, 48, 57, 49, 48, 49, 49, 49, 50, 49, 51, 49, 52, 49, 53, 49, 54, 49, 55, 49, 56, 49, 57, 50, 48, 50, 49, 50, 50, 50, 51, 50, 52, 50, 53, 50, 54, 50, 55, 50, 56, 50, 57, 51, 48, 51, 49, 51, 50, 51, 51, 51, 52, 51, 53, 51, 54, 51, 55, 51, 56, 51, 57, 52, 48, 52, 49, 52, 50, 52, 51, 52, 52, 52, 53, 52, 54, 52, 55, 52, 56, 52, 57, 53, 48, 53, 49, 53, 50, 53, 51, 53, 52, 53, 53, 53, 54, 53, 55, 53, 56, 53, 57, 54, 48, 54, 49, 54, 50, 54, 51, 54, 52, 54, 53, 54, 54, 54, 55, 54, 56, 54, 57, 55, 48, 55, 49, 55, 50, 55, 51, 55, 52, 55, 53, 55, 54, 55, 55, 55, 56, 55, 57, 56, 48, 56, 49, 56, 50, 56, 51, 56, 52, 56, 53, 56, 54, 56, 55, 56, 56, 56, 57, 57, 48, 57, 49, 57, 50, 57, 51, 57, 52, 57, 53, 57, 54, 57, 55, 57, 56, 57, 57])) (.t 75)))⟩,
     .op ⟨(some 77), none, (.r (.mv (.t 11)))⟩,
     .op ⟨(some 78), none, (.r (.ixstr (.c (.str [48, 48, 48, 49, 48, 50, 48, 51, 48, 52, 48, 53, 48, 54, 48, 55, 48, 56, 48, 57, 49, 48, 49, 49, 49, 50, 49, 51, 49, 52, 49, 53, 49, 54, 49, 55, 49, 56, 49, 57, 50, 48, 50, 49, 50, 50, 50, 51, 50, 52, 50, 53, 50, 54, 50, 55, 50, 56, 50, 57, 51, 48, 51, 49, 51, 50, 51, 51, 51, 52, 51, 53, 51, 54, 51, 55, 51, 56, 51, 57, 52, 48, 52, 49, 52, 50, 52, 51, 52, 52, 52, 53, 52, 54, 52, 55, 52, 56, 52, 57, 53, 48, 53, 49, 53, 50, 53, 51, 53, 52, 53, 53, 53, 54, 53, 55, 53, 56, 53, 57, 54, 48, 54, 49, 54, 50, 54, 51, 54, 52, 54, 53, 54, 54, 54, 55, 54, 56, 54, 57, 55, 48, 55, 49, 55, 50, 55, 51, 55, 52, 55, 53, 55, 54, 55, 55, 55, 56, 55, 57, 56, 48, 56, 49, 56, 50, 56, 51, 56, 52, 56, 53, 56, 54, 56, 55, 56, 56, 56, 57, 57, 48, 57, 49, 57, 50, 57, 51, 57, 52, 57, 53, 57, 54, 57, 55, 57, 56, 57, 57])) (.t 77)))⟩,
     .op ⟨(some 79), none, (.r (.iasl 1 (.t 68) (.t 70)))⟩,
     .op ⟨none, none, (.e (.store 1 (.t 79) (.t 76)))⟩,
     .op ⟨(some 80), none, (.r (.iasl 1 (.t 71) (.t 73)))⟩,
     .op ⟨none, none, (.e (.store 1 (.t 80) (.t 78)))⟩])
   (.seq (.region [.op ⟨(some 81), none, (.r (.mv (.t 0)))⟩,
     .op ⟨(some 82), none, (.r (.mv (.t 4)))⟩,
     .op ⟨(some 83), none, (.r (.bin .sub (.t 82) (.c (.int .i64 (.ofNat 7)))))⟩,
     .op ⟨(some 84), none, (.r (.mv (.t 0)))⟩,
     .op ⟨(some 85), none, (.r (.mv (.t 4)))⟩,
     .op ⟨(some 86), none, (.r (.bin .sub (.t 85) (.c (.int .i64 (.ofNat 8)))))⟩,
     .op ⟨(some 87), none, (.r (.mv (.t 10)))⟩,
     .op ⟨(some 88), none, (.r (.bin .add (.t 87) (.c (.int .u32 (.ofNat 1)))))⟩,
     .op ⟨(some 89), none, (.r (.ixstr (.c (.str [48, 48, 48, 49, 48, 50, 48, 51, 48, 52, 48, 53, 48, 54, 48, 55, 48, 56, 48, 57, 49, 48, 49, 49, 49, 50, 49, 51, 49, 52, 49, 53, 49, 54, 49, 55, 49, 56, 49, 57, 50, 48, 50, 49, 50, 50, 50, 51, 50, 52, 50, 53, 50, 54, 50, 55, 50, 56, 50, 57, 51, 48, 51, 49, 51, 50, 51, 51, 51, 52, 51, 53, 51, 54, 51, 55, 51, 56, 51, 57, 52, 48, 52, 49, 52, 50, 52, 51, 52, 52, 52, 53, 52, 54, 52, 55, 52, 56, 52, 57, 53, 48, 53, 49, 53, 50, 53, 51, 53, 52, 53, 53, 53, 54, 53, 55, 53, 56, 53, 57, 54, 48, 54, 49, 54, 50, 54, 51, 54, 52, 54, 53, 54, 54, 54, 55, 54, 56, 54, 57, 55, 48, 55, 49, 55, 50, 55, 51, 55, 52, 55, 53, 55, 54, 55, 55, 55, 56, 55, 57, 56, 48, 56, 49, 56, 50, 56, 51, 56, 52, 56, 53, 56, 54, 56, 55, 56, 56, 56, 57, 57, 48, 57, 49, 57, 50, 57, 51, 57, 52, 57, 53, 57, 54, 57, 55, 57, 56, 57, 57])) (.t 88)))⟩,
     .op ⟨(some 90), none, (.r (.mv (.t 10)))⟩,
     .op ⟨(some 91), none, (.r (.ixstr (.c (.str [48, 48, 48, 49, 48, 50, 48, 51, 48, 52, 48, 53, 48, 54, 48, 55, 48, 56, 48, 57, 49, 48, 49, 49, 49, 50, 49, 51, 49, 52, 49, 53, 49, 54, 49, 55, 49, 56, 49, 57, 50, 48, 50, 49, 50, 50, 50, 51, 50, 52, 50, 53, 50, 54, 50, 55, 50, 56, 50, 57, 51, 48, 51, 49, 51, 50, 51, 51, 51, 52, 51, 53, 51, 54, 51, 55, 51, 56, 51, 57, 52, 48, 52, 49, 52, 50, 52, 51, 52, 52, 52, 53, 52, 54, 52, 55, 52, 56, 52, 57, 53, 48, 53, 49, 53, 50, 53, 51, 53, 52, 53, 53, 53, 54, 53, 55, 53, 56, 53, 57, 54, 48, 54, 49, 54, 50, 54, 51, 54, 52, 54, 53, 54, 54, 54, 55, 54, 56, 54, 57, 55, 48, 55, 49, 55, 50, 55, 51, 55, 52, 55, 53, 55, 54, 55, 55, 55, 56, 55, 57, 56, 48, 56, 49, 56, 50, 56, 51, 56, 52, 56, 53, 56, 54, 56, 55, 56, 56, 56, 57, 57, 48, 57, 49, 57, 50, 57, 51, 57, 52, 57, 53, 57, 54, 57, 55, 57, 56, 57, 57])) (.t 90)))⟩,
     .op ⟨(some 92), none, (.r (.iasl 1 (.t 81) (.t 83)))⟩,
     .op ⟨none, none, (.e (.store 1 (.t 92) (.t 89)))⟩,
     .op ⟨(some 93), none, (.r (.iasl 1 (.t 84) (.t 86)))⟩,
     .op ⟨none, none, (.e (.store 1 (.t 93) (.t 91)))⟩])
   (.region [.op ⟨(some 94), none, (.r (.mv (.t 4)))⟩,
     .op ⟨(some 95), none, (.r (.bin .sub (.t 94) (.c (.int .i64 (.ofNat 8)))))⟩,
     .op ⟨(some 4), none, (.r (.mv (.t 95)))⟩]))))))))))))
/-- internal/strconv.formatBase10 -/
def pf_internal_strconv_formatBase10 : PF := { ntmps := 167, results := [], body :=
  (.seq (.region [.op ⟨(some 17), none, (.r (.mv (.t 0)))⟩,
    .op ⟨(some 18), none, (.r (.lensl (.t 17)))⟩,
    .op ⟨(some 4), none, (.r (.mv (.t 18)))⟩])
  (.seq (.block 0 (.loop l0_internal_strconv_formatBase10))
  (.seq (.region [.op ⟨(some 96), none, (.r (.mv (.t 1)))⟩,
    .op ⟨(some 97), none, (.r (.cint .u32 (.t 96)))⟩,
    .op ⟨(some 12), none, (.r (.mv (.t 97)))⟩])
  (.seq (.seq (.region [.op ⟨(some 98), none, (.r (.mv (.t 4)))⟩,
    .op ⟨(some 99), none, (.r (.bin .geq (.t 98) (.c (.int .i64 (.ofNat 4)))))⟩])
  (.cond (.t 99)
   (.seq (.region [.op ⟨(some 100), none, (.r (.mv (.t 12)))⟩,
     .op ⟨(some 101), none, (.r (.bin .rem (.t 100) (.c (.int .u32 (.ofNat 10000)))))⟩,
     .op ⟨(some 13), none, (.r (.mv (.t 101)))⟩])
   (.seq (.region [.op ⟨(some 102), none, (.r (.mv (.t 12)))⟩,
     .op ⟨(some 103), none, (.r (.bin .quo (.t 102) (.c (.int .u32 (.ofNat 10000)))))⟩,
     .op ⟨(some 12), none, (.r (.mv (.t 103)))⟩])
   (.seq (.region [.op ⟨(some 104), none, (.r (.mv (.t 13)))⟩,
     .op ⟨(some 105), none, (.r (.bin .quo (.t 104) (.c (.int .u32 (.ofNat 100)))))⟩,
     .op ⟨(some 106), none, (.r (.bin .mul (.t 105) (.c (.int .u32 (.ofNat 2)))))⟩,
     .op ⟨(some 107), none, (.r (.mv (.t 13)))⟩,
     .op ⟨(some 108), none, (.r (.bin .rem (.t 107) (.c (.int .u32 (.ofNat 100)))))⟩,
     .op ⟨(some 109), none, (.r (.bin .mul (.t 108) (.c (.int .u32 (.ofNat 2)))))⟩,
     .op ⟨(some 14), none, (.r (.mv (.t 106)))⟩,
     .op ⟨(some 15), none, (.r (.mv (.t 109)))⟩])
   (.seq (.region [.op ⟨(some 110), none, (.r (.mv (.t 0)))⟩,
     .op ⟨(some 111), none, (.r (.mv (.t 4)))⟩,
     .op ⟨(some 112), none, (.r (.bin .sub (.t 111) (.c (.int .i64 (.ofNat 1)))))⟩,
     .op ⟨(some 113), none, (.r (.mv (.t 0)))⟩,
     .op ⟨(some 114), none, (.r (.mv (.t 4)))⟩,
     .op ⟨(some 115), none, (.r (.bin .sub (.t 114) (.c (.int .i64 (.ofNat 2)))))⟩,
     .op ⟨(some 116), none, (.r (.mv (.t 15)))⟩,
     .op ⟨(some 117), none, (.r (.bin .add (.t 116) (.c (.int .u32 (.ofNat 1)))))⟩,
     .op ⟨(some 118), none, (.r (.ixstr (.c (.str [48, 48, 48, 49, 48, 50, 48, 51, 48, 52, 48, 53, 48, 54, 48, 55, 48, 56, 48, 57, 49, 48, 49, 49, 49, 50, 49, 51, 49, 52, 49, 53, 49, 54, 49, 55, 49, 56, 49, 57, 50, 48, 50, 49, 50, 50, 50, 51, 50, 52, 50, 53, 50, 54, 50, 55, 50, 56, 50, 57, 51, 48, 51, 49, 51, 50, 51, 51, 51, 52, 51, 53, 51, 54, 51, 55, 51, 56, 51, 57, 52, 48, 52, 49, 52, 50, 52, 51, 52, 52, 52, 53, 52, 54, 52, 55, 52, 56, 52, 57, 53, 48, 53, 49, 53, 50, 53, 51, 53, 52, 53, 53, 53, 54, 53, 55, 53, 56, 53, 57, 54, 48, 54, 49, 54, 50, 54, 51, 54, 52, 54, 53, 54, 54, 54, 55, 54, 56, 54, 57, 55, 48, 55, 49, 55, 50, 55, 51, 55, 52, 55, 53, 55, 54, 55, 55, 55, 56, 55, 57, 56, 48, 56, 49, 56, 50, 56, 51, 56, 52, 56, 53, 56, 54, 56, 55, 56, 56, 56, 57, 57, 48, 57, 49, 57, 50, 57, 51, 57, 52, 57, 53, 57, 54, 57, 55, 57, 56, 57, 57])) (.t 117)))⟩,
     .op ⟨(some 119), none, (.r (.mv (.t 15)))⟩,
     .op ⟨(some 120), none, (.r (.ixstr (.c (.str [48, 48, 48, 49, 48, 50, 48, 51, 48, 52, 48, 53, 48, 54, 48, 55, 48, 56, 48, 57, 49, 48, 49, 49, 49, 50, 49, 51, 49, 52, 49, 53, 49, 54, 49, 55, 49, 56, 49, 57, 50, 48, 50, 49, 50, 50, 50, 51, 50, 52, 50, 53, 50, 54, 50, 55, 50, 56, 50, 57, 51, 48, 51, 49, 51, 50, 51, 51, 51, 52, 51, 53, 51, 54, 51, 55, 51, 56, 51, 57, 52, 48, 52, 49, 52, 50, 52, 51, 52, 52, 52, 53, 52, 54, 52, 55, 52, 56, 52, 57, 53, 48, 53, 49, 53, 50, 53, 51, 53, 52, 53, 53, 53, 54, 53, 55, 53, 56, 53, 57, 54, 48, 54, 49, 54, 50, 54, 51, 54, 52, 54, 53, 54, 54, 54, 55, 54, 56, 54, 57, 55, 48, 55, 49, 55, 50, 55, 51, 55, 52, 55, 53, 55, 54, 55, 55, 55, 56, 55, 57, 56, 48, 56, 49, 56, 50, 56, 51, 56, 52, 56, 53, 56, 54, 56, 55, 56, 56, 56, 57, 57, 48, 57, 49, 57, 50, 57, 51, 57, 52, 57, 53, 57, 54, 57, 55, 57, 56, 57, 57])) (.t 119)))⟩,
     .op ⟨(some 121), none, (.r (.iasl 1 (.t 110) (.t 112)))⟩,
     .op ⟨none, none, (.e (.store 1 (.t 121) (.t 118)))⟩,
     .op ⟨(some 122), none, (.r (.iasl 1 (.t 113) (.t 115)))⟩,
     .op ⟨none, none, (.e (.store 1 (.t 122) (.t 120)))⟩])
   (.seq (.region [.op ⟨(some 123), none, (.r (.mv (.t 0)))⟩,
     .op ⟨(some 124), none, (.r (.mv (.t 4)))⟩,
     .op ⟨(some 125), none, (.r (.bin .sub (.t 124) (.c (.int .i64 (.ofNat 3)))))⟩,
     .op ⟨(some 126), none, (.r (.mv (.t 0)))⟩,
     .op ⟨(some 127), none, (.r (.mv (.t 4)))⟩,
     .op ⟨(some 128), none, (.r (.bin .sub (.t 127) (.c (.int .i64 (.ofNat 4)))))⟩,
     .op ⟨(some 129), none, (.r (.mv (.t 14)))⟩,
     .op ⟨(some 130), none, (.r (.bin .add (.t 129) (.c (.int .u32 (.ofNat 1)))))⟩,
     .op ⟨(some 131), none, (.r (.ixstr (.c (.str [48, 48, 48, 49, 48, 50, 48, 51, 48, 52, 48, 53, 48, 54, 48, 55, 48, 56, 48, 57, 49, 48, 49, 49, 49, 50, 49, 51, 49, 52, 49, 53, 49, 54, 49, 55, 49, 56, 49, 57, 50, 48, 50, 49, 50, 50, 50, 51, 50, 52, 50, 53, 50, 54, 50, 55, 50, 56, 50, 57, 51, 48, 51, 49, 51, 50, 51, 51, 51, 52, 51, 53, 51, 54, 51, 55, 51, 56, 51, 57, 52, 48, 52, 49, 52, 50, 52, 51, 52, 52, 52, 53, 52, 54, 52, 55, 52, 56, 52, 57, 53, 48, 53, 49, 53, 50, 53, 51, 53, 52, 53, 53, 53, 54, 53, 55, 53, 56, 53, 57, 54, 48, 54, 49, 54, 50, 54, 51, 54, 52, 54, 53, 54, 54, 54, 55, 54, 56, 54, 57, 55, 48, 55, 49, 55, 50, 55, 51, 55, 52, 55, 53, 55, 54, 55, 55, 55, 56, 55, 57, 56, 48, 56, 49, 56, 50, 56, 51, 56, 52, 56, 53, 56, 54, 56, 55, 56, 56, 56, 57, 57, 48, 57, 49, 57, 50, 57, 51, 57, 52, 57, 53, 57, 54, 57, 55, 57, 56, 57, 57])) (.t 130)))⟩,
     .op ⟨(some 132), none, (.r (.mv (.t 14)))⟩,
     .op ⟨(some 133), none, (.r (.ixstr (.c (.str [48, 48, 48, 49, 48, 50, 48, 51, 48, 52, 48, 53, 48, 54, 48, 55, 48, 56, 48, 57, 49, 48, 49, 49, 49, 50, 49, 51, 49, 52, 49, 53, 49, 54, 49, 55, 49, 56, 49, 57, 50, 48, 50, 49, 50, 50, 50, 51, 50, 52, 50, 53, 50, 54, 50, 55, 50, 56, 50, 57, 51, 48, 51, 49, 51, 50, 51, 51, 51, 52, 51, 53, 51, 54, 51, 55, 51, 56, 51, 57, 52, 48, 52, 49, 52, 50, 52, 51, 52, 52, 52, 53, 52, 54, 52, 55, 52, 56, 52, 57, 53, 48, 53, 49, 53, 50, 53, 51, 53, 52, 53, 53, 53, 54, 53, 55, 53, 56, 53, 57, 54, 48, 54, 49, 54, 50, 54, 51, 54, 52, 54, 53, 54, 54, 54, 55, 54, 56, 54, 57, 55, 48, 55, 49, 55, 50, 55, 51, 55, 52, 55, 53, 55, 54, 55, 55, 55, 56, 55, 57, 56, 48, 56, 49, 56, 50, 56, 51, 56, 52, 56, 53, 56, 54, 56, 55, 56, 56, 56, 57, 57, 48, 57, 49, 57, 50, 57, 51, 57, 52, 57, 53, 57, 54, 57, 55, 57, 56, 57, 57])) (.t 132)))⟩,
     .op ⟨(some 134), none, (.r (.iasl 1 (.t 123) (.t 125)))⟩,
     .op ⟨none, none, (.e (.store 1 (.t 134) (.t 131)))⟩,
     .op ⟨(some 135), none, (.r (.iasl 1 (.t 126) (.t 128)))⟩,
     .op ⟨none, none, (.e (.store 1 (.t 135) (.t 133)))⟩])
   (.region [.op ⟨(some 136), none, (.r (.mv (.t 4)))⟩,
     .op ⟨(some 137), none, (.r (.bin .sub (.t 136) (.c (.int .i64 (.ofNat 4)))))⟩,
     .op ⟨(some 4), none, (.r (.mv (.t 137)))⟩]))))))
   .skip))
  (.seq (.seq (.region [.op ⟨(some 138), none, (.r (.mv (.t 4)))⟩,
    .op ⟨(some 139), none, (.r (.bin .geq (.t 138) (.c (.int .i64 (.ofNat 2)))))⟩])
  (.cond (.t 139)
   (.seq (.region [.op ⟨(some 140), none, (.r (.mv (.t 12)))⟩,
     .op ⟨(some 141), none, (.r (.bin .rem (.t 140) (.c (.int .u32 (.ofNat 100)))))⟩,
     .op ⟨(some 142), none, (.r (.bin .mul (.t 141) (.c (.int .u32 (.ofNat 2)))))⟩,
     .op ⟨(some 16), none, (.r (.mv (.t 142)))⟩])
   (.seq (.region [.op ⟨(some 143), none, (.r (.mv (.t 12)))⟩,
     .op ⟨(some 144), none, (.r (.bin .quo (.t 143) (.c (.int .u32 (.ofNat 100)))))⟩,
     .op ⟨(some 12), none, (.r (.mv (.t 144)))⟩])
   (.seq (.region [.op ⟨(some 145), none, (.r (.mv (.t 0)))⟩,
     .op ⟨(some 146), none, (.r (.mv (.t 4)))⟩,
     .op ⟨(some 147), none, (.r (.bin .sub (.t 146) (.c (.int .i64 (.ofNat 1)))))⟩,
     .op ⟨(some 148), none, (.r (.mv (.t 0)))⟩,
     .op ⟨(some 149), none, (.r (.mv (.t 4)))⟩,
     .op ⟨(some 150), none, (.r (.bin .sub (.t 149) (.c (.int .i64 (.ofNat 2)))))⟩,
     .op ⟨(some 151), none, (.r (.mv (.t 16)))⟩,
     .op ⟨(some 152), none, (.r (.bin .add (.t 151) (.c (.int .u32 (.ofNat 1)))))⟩,
     .op ⟨(some 153), none, (.r (.ixstr (.c (.str [48, 48, 48, 49, 48, 50, 48, 51, 48, 52, 48, 53, 48, 54, 48, 55, 48, 56, 48, 57, 49, 48, 49, 49, 49, 50, 49, 51, 49, 52, 49, 53, 49, 54, 49, 55, 49, 56, 49, 57, 50, 48, 50, 49, 50, 50, 50, 51, 50, 52, 50, 53, 50, 54, 50, 55, 50, 56, 50, 57, 51, 48, 51, 49, 51, 50, 51, 51, 51, 52, 51, 53, 51, 54, 51, 55, 51, 56, 51, 57, 52, 48, 52, 49, 52, 50, 52, 51, 52, 52, 52, 53, 52, 54, 52, 55, 52, 56, 52, 57, 53, 48, 53, 49, 53, 50, 53, 51, 53, 52, 53, 53, 53, 54, 53, 55, 53, 56, 53, 57, 54, 48, 54, 49, 54, 50, 54, 51, 54, 52, 54, 53, 54, 54, 54, 55, 54, 56, 54, 57, 55, 48, 55, 49, 55, 50, 55, 51, 55, 52, 55, 53, 55, 54, 55, 55, 55, 56, 55, 57, 56, 48, 56, 49, 56, 50, 56, 51, 56, 52, 56, 53, 56, 54, 56, 55, 56, 56, 56, 57, 57, 48, 57, 49, 57, 50, 57, 51, 57, 52, 57, 53, 57, 54, 57, 55, 57, 56, 57, 57])) (.t 152)))⟩,
     .op ⟨(some 154), none, (.r (.mv (.t 16)))⟩,
     .op ⟨(some 155), none, (.r (.ixstr (.c (.str [48, 48, 48, 49, 48, 50, 48, 51, 48, 52, 48, 53, 48, 54, 48, 55, 48, 56, 48, 57, 49, 48, 49, 49, 49, 50, 49, 51, 49, 52, 49, 53, 49, 54, 49, 55, 49, 56, 49, 57, 50, 48, 50, 49, 50, 50, 50, 51, 50, 52, 50, 53, 50, 54, 50, 55, 50, 56, 50, 57, 51, 48, 51, 49, 51, 50, 51, 51, 51, 52, 51, 53, 51, 54, 51, 55, 51, 56, 51, 57, 52, 48, 52, 49, 52, 50, 52, 51, 52, 52, 52, 53, 52, 54, 52, 55, 52, 56, 52, 57, 53, 48, 53, 49, 53, 50, 53, 51, 53, 52, 53, 53, 53, 54, 53, 55, 53, 56, 53, 57, 54, 48, 54, 49, 54, 50, 54, 51, 54, 52, 54, 53, 54, 54, 54, 55, 54, 56, 54, 57, 55, 48, 55, 49, 55, 50, 55, 51, 55, 52, 55, 53, 55, 54, 55, 55, 55, 56, 55, 57, 56, 48, 56, 49, 56, 50, 56, 51, 56, 52, 56, 53, 56, 54, 56, 55, 56, 56, 56, 57, 57, 48, 57, 49, 57, 50, 57, 51, 57, 52, 57, 53, 57, 54, 57, 55, 57, 56, 57, 57])) (.t 154)))⟩,
     .op ⟨(some 156), none, (.r (.iasl 1 (.t 145) (.t 147)))⟩,
     .op ⟨none, none, (.e (.store 1 (.t 156) (.t 153)))⟩,
     .op ⟨(some 157), none, (.r (.iasl 1 (.t 148) (.t 150)))⟩,
     .op ⟨none, none, (.e (.store 1 (.t 157) (.t 155)))⟩])
   (.region [.op ⟨(some 158), none, (.r (.mv (.t 4)))⟩,
     .op ⟨(some 159), none, (.r (.bin .sub (.t 158) (.c (.int .i64 (.ofNat 2)))))⟩,
     .op ⟨(some 4), none, (.r (.mv (.t 159)))⟩]))))
   .skip))
  (.seq (.region [.op ⟨(some 160), none, (.r (.mv (.t 4)))⟩,
    .op ⟨(some 161), none, (.r (.bin .gtr (.t 160) (.c (.int .i64 (.ofNat 0)))))⟩])
  (.cond (.t 161)
   (.region [.op ⟨(some 162), none, (.r (.mv (.t 0)))⟩,
     .op ⟨(some 163), none, (.r (.mv (.t 12)))⟩,
     .op ⟨(some 164), none, (.r (.bin .add (.c (.int .u32 (.ofNat 48))) (.t 163)))⟩,
     .op ⟨(some 165), none, (.r (.cint .u8 (.t 164)))⟩,
     .op ⟨(some 166), none, (.r (.iasl 1 (.t 162) (.c (.int .i64 (.ofNat 0)))))⟩,
     .op ⟨none, none, (.e (.store 1 (.t 166) (.t 165)))⟩])
   .skip))))))) }
theorem tr_internal_strconv_formatBase10 : trF cx Tryd.f44 = pf_internal_strconv_formatBase10 := by kernel_rfl
def l0_internal_strconv_formatBits : PC :=
  (.seq (.seq (.region [.op ⟨(some 44), none, (.r (.mv (.t 1)))⟩,
    .op ⟨(some 45), none, (.r (.mv (.t 15)))⟩,
    .op ⟨(some 46), none, (.r (.bin .geq (.t 44) (.t 45)))⟩])
  (.cond (.t 46)
   .skip
   (.exit 0)))
  (.block 1 (.seq (.region [.op ⟨(some 47), none, (.r (.mv (.t 13)))⟩,
     .op ⟨(some 48), none, (.r (.bin .sub (.t 47) (.c (.int .i64 (.ofNat 1)))))⟩,
     .op ⟨(some 13), none, (.r (.mv (.t 48)))⟩])
   (.seq (.region [.op ⟨(some 49), none, (.r (.mv (.t 13)))⟩,
     .op ⟨(some 50), none, (.r (.mv (.t 1)))⟩,
     .op ⟨(some 51), none, (.r (.mv (.t 16)))⟩,
     .op ⟨(some 52), none, (.r (.bin .and (.t 50) (.t 51)))⟩,
     .op ⟨(some 53), none, (.r (.ixstr (.c (.str [48, 49, 50, 51, 52, 53, 54, 55, 56, 57, 97, 98, 99, 100, 101, 102, 103, 104, 105, 106, 107, 108, 109, 110, 111, 112, 113, 114, 115, 116, 117, 118, 119, 120, 121, 122])) (.t 52)))⟩,
     .op ⟨(some 54), none, (.r (.iaarr 65 1 (.t 12) (.t 49)))⟩,
     .op ⟨none, none, (.e (.store 1 (.t 54) (.t 53)))⟩])
   (.region [.op ⟨(some 55), none, (.r (.mv (.t 1)))⟩,
     .op ⟨(some 56), none, (.r (.mv (.t 14)))⟩,
     .op ⟨(some 57), none, (.r (.bin .shr (.t 55) (.t 56)))⟩,
     .op ⟨(some 1), none, (.r (.mv (.t 57)))⟩])))))
def l1_internal_strconv_formatBits : PC :=
  (.seq (.seq (.region [.op ⟨(some 66), none, (.r (.mv (.t 1)))⟩,
    .op ⟨(some 67), none, (.r (.mv (.t 17)))⟩,
    .op ⟨(some 68), none, (.r (.bin .geq (.t 66) (.t 67)))⟩])
  (.cond (.t 68)
   .skip
   (.exit 2)))
  (.block 3 (.seq (.region [.op ⟨(some 69), none, (.r (.mv (.t 13)))⟩,
     .op ⟨(some 70), none, (.r (.bin .sub (.t 69) (.c (.int .i64 (.ofNat 1)))))⟩,
     .op ⟨(some 13), none, (.r (.mv (.t 70)))⟩])
   (.seq (.region [.op ⟨(some 71), none, (.r (.mv (.t 1)))⟩,
     .op ⟨(some 72), none, (.r (.mv (.t 17)))⟩,
     .op ⟨(some 73), none, (.r (.bin .quo (.t 71) (.t 72)))⟩,
     .op ⟨(some 18), none, (.r (.mv (.t 73)))⟩])
   (.seq (.region [.op ⟨(some 74), none, (.r (.mv (.t 13)))⟩,
     .op ⟨(some 75), none, (.r (.mv (.t 1)))⟩,
     .op ⟨(some 76), none, (.r (.mv (.t 18)))⟩,
     .op ⟨(some 77), none, (.r (.mv (.t 17)))⟩,
     .op ⟨(some 78), none, (.r (.bin .mul (.t 76) (.t 77)))⟩,
     .op ⟨(some 79), none, (.r (.bin .sub (.t 75) (.t 78)))⟩,
     .op ⟨(some 80), none, (.r (.ixstr (.c (.str [48, 49, 50, 51, 52, 53, 54, 55, 56, 57, 97, 98, 99, 100, 101, 102, 103, 104, 105, 106, 107, 108, 109, 110, 111, 112, 113, 114, 115, 116, 117, 118, 119, 120, 121, 122])) (.t 79)))⟩,
     .op ⟨(some 81), none, (.r (.iaarr 65 1 (.t 12) (.t 74)))⟩,
     .op ⟨none, none, (.e (.store 1 (.t 81) (.t 80)))⟩])
   (.region [.op ⟨(some 82), none, (.r (.mv (.t 18)))⟩,
     .op ⟨(some 1), none, (.r (.mv (.t 82)))⟩]))))))
/-- internal/strconv.formatBits -/
def pf_internal_strconv_formatBits : PF := { ntmps := 102, results := [.tmp 10, .tmp 11], body :=
  (.seq (.region [.op ⟨(some 10), none, (.r (.mv (.c .nils)))⟩,
    .op ⟨(some 11), none, (.r (.mv (.c (.str []))))⟩])
  (.seq (.seq (.region [.op ⟨(some 19), none, (.r (.mv (.t 2)))⟩,
    .op ⟨(some 20), none, (.r (.bin .lss (.t 19) (.c (.int .i64 (.ofNat 2)))))⟩,
    .op ⟨(some 21), none, (.r (.mv (.t 20)))⟩,
    .op ⟨(some 22), (some (21, false)), (.r (.mv (.t 2)))⟩,
    .op ⟨(some 23), (some (21, false)), (.r (.bin .eql (.t 22) (.c (.int .i64 (.ofNat 10)))))⟩,
    .op ⟨(some 24), none, (.r (.pick (.t 21) (.c (.bool true)) (.t 23)))⟩,
    .op ⟨(some 25), none, (.r (.mv (.t 24)))⟩,
    .op ⟨(some 26), (some (25, false)), (.r (.mv (.t 2)))⟩,
    .op ⟨(some 27), (some (25, false)), (.r (.bin .gtr (.t 26) (.c (.int .i64 (.ofNat 36)))))⟩,
    .op ⟨(some 28), none, (.r (.pick (.t 25) (.c (.bool true)) (.t 27)))⟩])
  (.cond (.t 28)
   (.region [.op ⟨(some 29), none, (.r (.bad))⟩,
     .op ⟨none, none, (.r (.bad))⟩])
   .skip))
  (.seq (.region [.op ⟨(some 12), none, (.n (.new 0 (rep 65 [(.int .u8 (.ofNat 0))])))⟩])
  (.seq (.region [.op ⟨(some 13), none, (.r (.mv (.c (.int .i64 (.ofNat 65)))))⟩])
  (.seq (.seq (.region [.op ⟨(some 30), none, (.r (.mv (.t 3)))⟩])
  (.cond (.t 30)
   (.region [.op ⟨(some 31), none, (.r (.mv (.t 1)))⟩,
     .op ⟨(some 32), none, (.r (.un .neg (.t 31)))⟩,
     .op ⟨(some 1), none, (.r (.mv (.t 32)))⟩])
   .skip))
  (.seq (.seq (.region [.op ⟨(some 33), none, (.r (.mv (.t 2)))⟩,
    .op ⟨(some 34), none, (.e (.call n_internal_strconv_isPowerOfTwo [(.t 33)]))⟩])
  (.cond (.t 34)
   (.seq (.region [.op ⟨(some 35), none, (.r (.mv (.t 2)))⟩,
     .op ⟨(some 36), none, (.r (.cint .u64 (.t 35)))⟩,
     .op ⟨(some 37), none, (.e (.call n_math_bits_TrailingZeros [(.t 36)]))⟩,
     .op ⟨(some 38), none, (.r (.cint .u64 (.t 37)))⟩,
     .op ⟨(some 14), none, (.r (.mv (.t 38)))⟩])
   (.seq (.region [.op ⟨(some 39), none, (.r (.mv (.t 2)))⟩,
     .op ⟨(some 40), none, (.r (.cint .u64 (.t 39)))⟩,
     .op ⟨(some 15), none, (.r (.mv (.t 40)))⟩])
   (.seq (.region [.op ⟨(some 41), none, (.r (.mv (.t 2)))⟩,
     .op ⟨(some 42), none, (.r (.cint .u64 (.t 41)))⟩,
     .op ⟨(some 43), none, (.r (.bin .sub (.t 42) (.c (.int .u64 (.ofNat 1)))))⟩,
     .op ⟨(some 16), none, (.r (.mv (.t 43)))⟩])
   (.seq (.block 0 (.loop l0_internal_strconv_formatBits))
   (.seq (.region [.op ⟨(some 58), none, (.r (.mv (.t 13)))⟩,
     .op ⟨(some 59), none, (.r (.bin .sub (.t 58) (.c (.int .i64 (.ofNat 1)))))⟩,
     .op ⟨(some 13), none, (.r (.mv (.t 59)))⟩])
   (.region [.op ⟨(some 60), none, (.r (.mv (.t 13)))⟩,
     .op ⟨(some 61), none, (.r (.mv (.t 1)))⟩,
     .op ⟨(some 62), none, (.r (.ixstr (.c (.str [48, 49, 50, 51, 52, 53, 54, 55, 56, 57, 97, 98, 99, 100, 101, 102, 103, 104, 105, 106, 107, 108, 109, 110, 111, 112, 113, 114, 115, 116, 117, 118, 119, 120, 121, 122])) (.t 61)))⟩,
     .op ⟨(some 63), none, (.r (.iaarr 65 1 (.t 12) (.t 60)))⟩,
     .op ⟨none, none, (.e (.store 1 (.t 63) (.t 62)))⟩]))))))
   (.seq (.region [.op ⟨(some 64), none, (.r (.mv (.t 2)))⟩,
     .op ⟨(some 65), none, (.r (.cint .u64 (.t 64)))⟩,
     .op ⟨(some 17), none, (.r (.mv (.t 65)))⟩])
   (.seq (.block 2 (.loop l1_internal_strconv_formatBits))
   (.seq (.region [.op ⟨(some 83), none, (.r (.mv (.t 13)))⟩,
     .op ⟨(some 84), none, (.r (.bin .sub (.t 83) (.c (.int .i64 (.ofNat 1)))))⟩,
     .op ⟨(some 13), none, (.r (.mv (.t 84)))⟩])
   (.region [.op ⟨(some 85), none, (.r (.mv (.t 13)))⟩,
     .op ⟨(some 86), none, (.r (.mv (.t 1)))⟩,
     .op ⟨(some 87), none, (.r (.ixstr (.c (.str [48, 49, 50, 51, 52, 53, 54, 55, 56, 57, 97, 98, 99, 100, 101, 102, 103, 104, 105, 106, 107, 108, 109, 110, 111, 112, 113, 114, 115, 116, 117, 118, 119, 120, 121, 122])) (.t 86)))⟩,
     .op ⟨(some 88), none, (.r (.iaarr 65 1 (.t 12) (.t 85)))⟩,
     .op ⟨none, none, (.e (.store 1 (.t 88) (.t 87)))⟩]))))))
  (.seq (.seq (.region [.op ⟨(some 89), none, (.r (.mv (.t 3)))⟩])
  (.cond (.t 89)
   (.seq (.region [.op ⟨(some 90), none, (.r (.mv (.t 13)))⟩,
     .op ⟨(some 91), none, (.r (.bin .sub (.t 90) (.c (.int .i64 (.ofNat 1)))))⟩,
     .op ⟨(some 13), none, (.r (.mv (.t 91)))⟩])
   (.region [.op ⟨(some 92), none, (.r (.mv (.t 13)))⟩,
     .op ⟨(some 93), none, (.r (.iaarr 65 1 (.t 12) (.t 92)))⟩,
     .op ⟨none, none, (.e (.store 1 (.t 93) (.c (.int .u8 (.ofNat 45)))))⟩]))
   .skip))
  (.seq (.seq (.region [.op ⟨(some 94), none, (.r (.mv (.t 4)))⟩])
  (.cond (.t 94)
   (.seq (.region [.op ⟨(some 95), none, (.r (.mv (.t 0)))⟩,
     .op ⟨(some 96), none, (.r (.mv (.t 13)))⟩,
     .op ⟨(some 97), none, (.r (.slarr 65 1 (.t 12) (some (.t 96)) none))⟩,
     .op ⟨(some 98), none, (.e (.app 2 1 1 (.t 95) (.t 97)))⟩,
     .op ⟨(some 10), none, (.r (.mv (.t 98)))⟩])
   .ret)
   .skip))
  (.seq (.region [.op ⟨(some 99), none, (.r (.mv (.t 13)))⟩,
    .op ⟨(some 100), none, (.r (.slarr 65 1 (.t 12) (some (.t 99)) none))⟩,
    .op ⟨(some 101), none, (.r (.b2s (.t 100)))⟩,
    .op ⟨(some 11), none, (.r (.mv (.t 101)))⟩])
  .ret))))))))) }
theorem tr_internal_strconv_formatBits : trF cx Tryd.f45 = pf_internal_strconv_formatBits := by kernel_rfl
/-- internal/strconv.FormatInt -/
def pf_internal_strconv_FormatInt : PF := { ntmps := 54, results := [.tmp 4], body :=
  (.seq (.region [.op ⟨(some 4), none, (.r (.mv (.c (.str []))))⟩])
  (.seq (.seq (.region [.op ⟨(some 10), none, (.r (.mv (.t 1)))⟩,
    .op ⟨(some 11), none, (.r (.bin .eql (.t 10) (.c (.int .i64 (.ofNat 10)))))⟩])
  (.cond (.t 11)
   (.seq (.seq (.region [.op ⟨(some 12), none, (.r (.mv (.t 0)))⟩,
     .op ⟨(some 13), none, (.r (.bin .leq (.c (.int .i64 (.ofNat 0))) (.t 12)))⟩,
     .op ⟨(some 14), none, (.r (.mv (.t 13)))⟩,
     .op ⟨(some 15), (some (14, true)), (.r (.mv (.t 0)))⟩,
     .op ⟨(some 16), (some (14, true)), (.r (.bin .lss (.t 15) (.c (.int .i64 (.ofNat 100)))))⟩,
     .op ⟨(some 17), none, (.r (.pick (.t 14) (.t 16) (.c (.bool false))))⟩])
   (.cond (.t 17)
    (.seq (.region [.op ⟨(some 18), none, (.r (.mv (.t 0)))⟩,
      .op ⟨(some 19), none, (.e (.call n_internal_strconv_small [(.t 18)]))⟩,
      .op ⟨(some 4), none, (.r (.mv (.t 19)))⟩])
    .ret)
    .skip))
   (.seq (.region [.op ⟨(some 5), none, (.n (.new 0 (rep 24 [(.int .u8 (.ofNat 0))])))⟩])
   (.seq (.region [.op ⟨(some 20), none, (.r (.mv (.t 0)))⟩,
     .op ⟨(some 21), none, (.r (.cint .u64 (.t 20)))⟩,
     .op ⟨(some 6), none, (.r (.mv (.t 21)))⟩])
   (.seq (.seq (.region [.op ⟨(some 22), none, (.r (.mv (.t 0)))⟩,
     .op ⟨(some 23), none, (.r (.bin .lss (.t 22) (.c (.int .i64 (.ofNat 0)))))⟩])
   (.cond (.t 23)
    (.region [.op ⟨(some 24), none, (.r (.mv (.t 6)))⟩,
      .op ⟨(some 25), none, (.r (.un .neg (.t 24)))⟩,
      .op ⟨(some 6), none, (.r (.mv (.t 25)))⟩])
    .skip))
   (.seq (.region [.op ⟨(some 26), none, (.r (.mv (.t 6)))⟩,
     .op ⟨(some 27), none, (.e (.call n_internal_strconv_numDigits [(.t 26)]))⟩,
     .op ⟨(some 7), none, (.r (.mv (.t 27)))⟩])
   (.seq (.region [.op ⟨(some 28), none, (.r (.mv (.t 7)))⟩,
     .op ⟨(some 29), none, (.r (.bin .add (.c (.int .i64 (.ofNat 1))) (.t 28)))⟩,
     .op ⟨(some 30), none, (.r (.slarr 24 1 (.t 5) (some (.c (.int .i64 (.ofNat 1)))) (some (.t 29))))⟩,
     .op ⟨(some 31), none, (.r (.mv (.t 6)))⟩,
     .op ⟨(some 32), none, (.e (.call n_internal_strconv_formatBase10 [(.t 30), (.t 31)]))⟩])
   (.seq (.seq (.region [.op ⟨(some 33), none, (.r (.mv (.t 0)))⟩,
     .op ⟨(some 34), none, (.r (.bin .lss (.t 33) (.c (.int .i64 (.ofNat 0)))))⟩])
   (.cond (.t 34)
    (.seq (.region [.op ⟨(some 35), none, (.r (.iaarr 24 1 (.t 5) (.c (.int .i64 (.ofNat 0)))))⟩,
      .op ⟨none, none, (.e (.store 1 (.t 35) (.c (.int .u8 (.ofNat 45)))))⟩])
    (.seq (.region [.op ⟨(some 36), none, (.r (.mv (.t 7)))⟩,
      .op ⟨(some 37), none, (.r (.bin .add (.c (.int .i64 (.ofNat 1))) (.t 36)))⟩,
      .op ⟨(some 38), none, (.r (.slarr 24 1 (.t 5) none (some (.t 37))))⟩,
      .op ⟨(some 39), none, (.r (.b2s (.t 38)))⟩,
      .op ⟨(some 4), none, (.r (.mv (.t 39)))⟩])
    .ret))
    .skip))
   (.seq (.region [.op ⟨(some 40), none, (.r (.mv (.t 7)))⟩,
     .op ⟨(some 41), none, (.r (.bin .add (.c (.int .i64 (.ofNat 1))) (.t 40)))⟩,
     .op ⟨(some 42), none, (.r (.slarr 24 1 (.t 5) (some (.c (.int .i64 (.ofNat 1)))) (some (.t 41))))⟩,
     .op ⟨(some 43), none, (.r (.b2s (.t 42)))⟩,
     .op ⟨(some 4), none, (.r (.mv (.t 43)))⟩])
   .ret))))))))
   .skip))
  (.seq (.region [.op ⟨(some 45), none, (.r (.mv (.t 0)))⟩,
    .op ⟨(some 46), none, (.r (.cint .u64 (.t 45)))⟩,
    .op ⟨(some 47), none, (.r (.mv (.t 1)))⟩,
    .op ⟨(some 48), none, (.r (.mv (.t 0)))⟩,
    .op ⟨(some 49), none, (.r (.bin .lss (.t 48) (.c (.int .i64 (.ofNat 0)))))⟩,
    .op ⟨(some 50), none, (.e (.call n_internal_strconv_formatBits [(.c .nils), (.t 46), (.t 47), (.t 49), (.c (.bool false))]))⟩,
    .op ⟨(some 44), none, (.r (.mv (.t 50)))⟩,
    .op ⟨(some 51), none, (.r (.ext 0 (.t 44)))⟩,
    .op ⟨(some 52), none, (.r (.ext 1 (.t 44)))⟩,
    .op ⟨(some 8), none, (.r (.mv (.t 51)))⟩,
    .op ⟨(some 9), none, (.r (.mv (.t 52)))⟩])
  (.seq (.region [.op ⟨(some 53), none, (.r (.mv (.t 9)))⟩,
    .op ⟨(some 4), none, (.r (.mv (.t 53)))⟩])
  .ret)))) }
theorem tr_internal_strconv_FormatInt : trF cx Tryd.f49 = pf_internal_strconv_FormatInt := by kernel_rfl
/-- (*strings.Builder).copyCheck -/
def pf_strings_Builder_copyCheck : PF := { ntmps := 20, results := [], body :=
  (.seq (.region [.op ⟨(some 2), none, (.r (.mv (.t 0)))⟩,
    .op ⟨(some 3), none, (.r (.nilck (.t 2)))⟩,
    .op ⟨(some 4), none, (.r (.faddr 0 (.t 3)))⟩,
    .op ⟨(some 5), none, (.r (.load false 1 (.t 4)))⟩,
    .op ⟨(some 6), none, (.r (.eqc false (.t 5) (.c .nilp)))⟩])
  (.cond (.t 6)
   (.region [.op ⟨(some 7), none, (.r (.mv (.t 0)))⟩,
     .op ⟨(some 8), none, (.r (.mv (.t 0)))⟩,
     .op ⟨(some 9), none, (.r (.p2u (.t 8)))⟩,
     .op ⟨(some 10), none, (.r (.same (.t 9)))⟩,
     .op ⟨(some 11), none, (.r (.u2b 2 (.t 10)))⟩,
     .op ⟨(some 12), none, (.r (.nilck (.t 7)))⟩,
     .op ⟨(some 13), none, (.r (.faddr 0 (.t 12)))⟩,
     .op ⟨none, none, (.e (.store 1 (.t 13) (.t 11)))⟩])
   (.seq (.region [.op ⟨(some 14), none, (.r (.mv (.t 0)))⟩,
     .op ⟨(some 15), none, (.r (.nilck (.t 14)))⟩,
     .op ⟨(some 16), none, (.r (.faddr 0 (.t 15)))⟩,
     .op ⟨(some 17), none, (.r (.load false 1 (.t 16)))⟩,
     .op ⟨(some 18), none, (.r (.mv (.t 0)))⟩,
     .op ⟨(some 19), none, (.r (.eqc true (.t 17) (.t 18)))⟩])
   (.cond (.t 19)
    .stuck
    .skip)))) }
theorem tr_strings_Builder_copyCheck : trF cx Tryd.f56 = pf_strings_Builder_copyCheck := by kernel_rfl
/-- (*strings.Builder).Grow -/
def pf_strings_Builder_Grow : PF := { ntmps := 25, results := [], body :=
  (.seq (.region [.op ⟨(some 4), none, (.r (.mv (.t 0)))⟩,
    .op ⟨(some 5), none, (.e (.call n_strings_Builder_copyCheck [(.t 4)]))⟩])
  (.seq (.seq (.region [.op ⟨(some 6), none, (.r (.mv (.t 1)))⟩,
    .op ⟨(some 7), none, (.r (.bin .lss (.t 6) (.c (.int .i64 (.ofNat 0)))))⟩])
  (.cond (.t 7)
   (.region [.op ⟨(some 8), none, (.r (.bad))⟩,
     .op ⟨none, none, (.r (.bad))⟩])
   .skip))
  (.seq (.region [.op ⟨(some 9), none, (.r (.mv (.t 0)))⟩,
    .op ⟨(some 10), none, (.r (.nilck (.t 9)))⟩,
    .op ⟨(some 11), none, (.r (.faddr 1 (.t 10)))⟩,
    .op ⟨(some 12), none, (.r (.load false 1 (.t 11)))⟩,
    .op ⟨(some 13), none, (.r (.cap (.t 12)))⟩,
    .op ⟨(some 14), none, (.r (.mv (.t 0)))⟩,
    .op ⟨(some 15), none, (.r (.nilck (.t 14)))⟩,
    .op ⟨(some 16), none, (.r (.faddr 1 (.t 15)))⟩,
    .op ⟨(some 17), none, (.r (.load false 1 (.t 16)))⟩,
    .op ⟨(some 18), none, (.r (.lensl (.t 17)))⟩,
    .op ⟨(some 19), none, (.r (.bin .sub (.t 13) (.t 18)))⟩,
    .op ⟨(some 20), none, (.r (.mv (.t 1)))⟩,
    .op ⟨(some 21), none, (.r (.bin .lss (.t 19) (.t 20)))⟩])
  (.cond (.t 21)
   (.region [.op ⟨(some 22), none, (.r (.mv (.t 0)))⟩,
     .op ⟨(some 23), none, (.r (.mv (.t 1)))⟩,
     .op ⟨(some 24), none, (.e (.call n_strings_Builder_grow [(.t 22), (.t 23)]))⟩])
   .skip)))) }
theorem tr_strings_Builder_Grow : trF cx Tryd.f57 = pf_strings_Builder_Grow := by kernel_rfl
/-- internal/strconv.log10Pow2 -/
def pf_internal_strconv_log10Pow2 : PF := { ntmps := 6, results := [.tmp 2], body :=
  (.seq (.region [.op ⟨(some 2), none, (.r (.mv (.c (.int .i64 (.ofNat 0)))))⟩])
  (.seq (.region [.op ⟨(some 3), none, (.r (.mv (.t 0)))⟩,
    .op ⟨(some 4), none, (.r (.bin .mul (.t 3) (.c (.int .i64 (.ofNat 78913)))))⟩,
    .op ⟨(some 5), none, (.r (.bin .shr (.t 4) (.c (.int .u64 (.ofNat 18)))))⟩,
    .op ⟨(some 2), none, (.r (.mv (.t 5)))⟩])
  .ret)) }
theorem tr_internal_strconv_log10Pow2 : trF cx Tryd.f58 = pf_internal_strconv_log10Pow2 := by kernel_rfl
/-- math/bits.Len64 -/
def pf_math_bits_Len64 : PF := { ntmps := 25, results := [.tmp 2], body :=
  (.seq (.region [.op ⟨(some 2), none, (.r (.mv (.c (.int .i64 (.ofNat 0)))))⟩])
  (.seq (.seq (.region [.op ⟨(some 3), none, (.r (.mv (.t 0)))⟩,
    .op ⟨(some 4), none, (.r (.bin .geq (.t 3) (.c (.int .u64 (.ofNat 4294967296)))))⟩])
  (.cond (.t 4)
   (.seq (.region [.op ⟨(some 5), none, (.r (.mv (.t 0)))⟩,
     .op ⟨(some 6), none, (.r (.bin .shr (.t 5) (.c (.int .u64 (.ofNat 32)))))⟩,
     .op ⟨(some 0), none, (.r (.mv (.t 6)))⟩])
   (.region [.op ⟨(some 2), none, (.r (.mv (.c (.int .i64 (.ofNat 32)))))⟩]))
   .skip))
  (.seq (.seq (.region [.op ⟨(some 7), none, (.r (.mv (.t 0)))⟩,
    .op ⟨(some 8), none, (.r (.bin .geq (.t 7) (.c (.int .u64 (.ofNat 65536)))))⟩])
  (.cond (.t 8)
   (.seq (.region [.op ⟨(some 9), none, (.r (.mv (.t 0)))⟩,
     .op ⟨(some 10), none, (.r (.bin .shr (.t 9) (.c (.int .u64 (.ofNat 16)))))⟩,
     .op ⟨(some 0), none, (.r (.mv (.t 10)))⟩])
   (.region [.op ⟨(some 11), none, (.r (.mv (.t 2)))⟩,
     .op ⟨(some 12), none, (.r (.bin .add (.t 11) (.c (.int .i64 (.ofNat 16)))))⟩,
     .op ⟨(some 2), none, (.r (.mv (.t 12)))⟩]))
   .skip))
  (.seq (.seq (.region [.op ⟨(some 13), none, (.r (.mv (.t 0)))⟩,
    .op ⟨(some 14), none, (.r (.bin .geq (.t 13) (.c (.int .u64 (.ofNat 256)))))⟩])
  (.cond (.t 14)
   (.seq (.region [.op ⟨(some 15), none, (.r (.mv (.t 0)))⟩,
     .op ⟨(some 16), none, (.r (.bin .shr (.t 15) (.c (.int .u64 (.ofNat 8)))))⟩,
     .op ⟨(some 0), none, (.r (.mv (.t 16)))⟩])
   (.region [.op ⟨(some 17), none, (.r (.mv (.t 2)))⟩,
     .op ⟨(some 18), none, (.r (.bin .add (.t 17) (.c (.int .i64 (.ofNat 8)))))⟩,
     .op ⟨(some 2), none, (.r (.mv (.t 18)))⟩]))
   .skip))
  (.seq (.region [.op ⟨(some 19), none, (.r (.mv (.t 2)))⟩,
    .op ⟨(some 20), none, (.r (.mv (.t 0)))⟩,
    .op ⟨(some 21), none, (.r (.cint .u8 (.t 20)))⟩,
    .op ⟨(some 22), none, (.r (.ixstr (.c (.str [0, 1, 2, 2, 3, 3, 3, 3, 4, 4, 4, 4, 4, 4, 4, 4, 5, 5, 5, 5, 5, 5, 5, 5, 5, 5, 5, 5, 5, 5, 5, 5, 6, 6, 6, 6, 6, 6, 6, 6, 6, 6, 6, 6, 6, 6, 6, 6, 6, 6, 6, 6, 6, 6, 6, 6, 6, 6, 6, 6, 6, 6, 6, 6, 7, 7, 7, 7, 7, 7, 7, 7, 7, 7, 7, 7, 7, 7, 7, 7, 7, 7, 7, 7, 7, 7, 7, 7, 7, 7, 7, 7, 7, 7, 7, 7, 7, 7, 7, 7, 7, 7, 7, 7, 7, 7, 7, 7, 7, 7, 7, 7, 7, 7, 7, 7, 7, 7, 7, 7, 7, 7, 7, 7, 7, 7, 7, 7, 8, 8, 8, 8, 8, 8, 8, 8, 8, 8, 8, 8, 8, 8, 8, 8, 8, 8, 8, 8, 8, 8, 8, 8, 8, 8, 8, 8, 8, 8, 8, 8, 8, 8, 8, 8, 8, 8, 8, 8, 8, 8, 8, 8, 8, 8, 8, 8, 8, 8, 8, 8, 8, 8, 8, 8, 8, 8, 8, 8, 8, 8, 8, 8, 8, 8, 8, 8, 8, 8, 8, 8, 8, 8, 8, 8, 8, 8, 8, 8, 8, 8, 8, 8, 8, 8, 8, 8, 8, 8, 8, 8, 8, 8, 8, 8, 8, 8, 8, 8, 8, 8, 8, 8, 8, 8, 8, 8, 8, 8, 8, 8, 8, 8, 8, 8, 8, 8, 8, 8, 8, 8, 8, 8, 8, 8, 8, 8])) (.t 21)))⟩,
    .op ⟨(some 23), none, (.r (.cint .i64 (.t 22)))⟩,
    .op ⟨(some 24), none, (.r (.bin .add (.t 19) (.t 23)))⟩,
    .op ⟨(some 2), none, (.r (.mv (.t 24)))⟩])
  .ret))))) }
theorem tr_math_bits_Len64 : trF cx Tryd.f59 = pf_math_bits_Len64 := by kernel_rfl
/-- internal/strconv.bool2[int] -/
def pf_internal_strconv_bool2_int : PF := { ntmps := 4, results := [.tmp 2], body :=
  (.seq (.region [.op ⟨(some 2), none, (.r (.mv (.c (.int .i64 (.ofNat 0)))))⟩])
  (.seq (.seq (.region [.op ⟨(some 3), none, (.r (.mv (.t 0)))⟩])
  (.cond (.t 3)
   (.seq (.region [.op ⟨(some 2), none, (.r (.mv (.c (.int .i64 (.ofNat 1)))))⟩])
   .ret)
   .skip))
  (.seq (.region [.op ⟨(some 2), none, (.r (.mv (.c (.int .i64 (.ofNat 0)))))⟩])
  .ret))) }
theorem tr_internal_strconv_bool2_int : trF cx Tryd.f60 = pf_internal_strconv_bool2_int := by kernel_rfl
/-- internal/strconv.isPowerOfTwo -/
def pf_internal_strconv_isPowerOfTwo : PF := { ntmps := 8, results := [.tmp 2], body :=
  (.seq (.region [.op ⟨(some 2), none, (.r (.mv (.c (.bool false))))⟩])
  (.seq (.region [.op ⟨(some 3), none, (.r (.mv (.t 0)))⟩,
    .op ⟨(some 4), none, (.r (.mv (.t 0)))⟩,
    .op ⟨(some 5), none, (.r (.bin .sub (.t 4) (.c (.int .i64 (.ofNat 1)))))⟩,
    .op ⟨(some 6), none, (.r (.bin .and (.t 3) (.t 5)))⟩,
    .op ⟨(some 7), none, (.r (.bin .eql (.t 6) (.c (.int .i64 (.ofNat 0)))))⟩,
    .op ⟨(some 2), none, (.r (.mv (.t 7)))⟩])
  .ret)) }
theorem tr_internal_strconv_isPowerOfTwo : trF cx Tryd.f61 = pf_internal_strconv_isPowerOfTwo := by kernel_rfl
/-- math/bits.TrailingZeros -/
def pf_math_bits_TrailingZeros : PF := { ntmps := 8, results := [.tmp 2], body :=
  (.seq (.region [.op ⟨(some 2), none, (.r (.mv (.c (.int .i64 (.ofNat 0)))))⟩])
  (.seq (.cond (.c (.bool false))
   (.seq (.region [.op ⟨(some 3), none, (.r (.mv (.t 0)))⟩,
     .op ⟨(some 4), none, (.r (.cint .u32 (.t 3)))⟩,
     .op ⟨(some 5), none, (.e (.call n_math_bits_TrailingZeros32 [(.t 4)]))⟩,
     .op ⟨(some 2), none, (.r (.mv (.t 5)))⟩])
   .ret)
   .skip)
  (.seq (.region [.op ⟨(some 6), none, (.r (.mv (.t 0)))⟩,
    .op ⟨(some 7), none, (.e (.call n_math_bits_TrailingZeros64 [(.t 6)]))⟩,
    .op ⟨(some 2), none, (.r (.mv (.t 7)))⟩])
  .ret))) }
theorem tr_math_bits_TrailingZeros : trF cx Tryd.f62 = pf_math_bits_TrailingZeros := by kernel_rfl
/-- (*strings.Builder).grow -/
def pf_strings_Builder_grow : PF := { ntmps := 30, results := [], body :=
  (.seq (.region [.op ⟨(some 5), none, (.r (.mv (.t 0)))⟩,
    .op ⟨(some 6), none, (.r (.nilck (.t 5)))⟩,
    .op ⟨(some 7), none, (.r (.faddr 1 (.t 6)))⟩,
    .op ⟨(some 8), none, (.r (.load false 1 (.t 7)))⟩,
    .op ⟨(some 9), none, (.r (.cap (.t 8)))⟩,
    .op ⟨(some 10), none, (.r (.bin .mul (.c (.int .i64 (.ofNat 2))) (.t 9)))⟩,
    .op ⟨(some 11), none, (.r (.mv (.t 1)))⟩,
    .op ⟨(some 12), none, (.r (.bin .add (.t 10) (.t 11)))⟩,
    .op ⟨(some 13), none, (.n (.nozero (.t 12)))⟩,
    .op ⟨(some 14), none, (.r (.mv (.t 0)))⟩,
    .op ⟨(some 15), none, (.r (.nilck (.t 14)))⟩,
    .op ⟨(some 16), none, (.r (.faddr 1 (.t 15)))⟩,
    .op ⟨(some 17), none, (.r (.load false 1 (.t 16)))⟩,
    .op ⟨(some 18), none, (.r (.lensl (.t 17)))⟩,
    .op ⟨(some 19), none, (.r (.slsl 1 (.t 13) none (some (.t 18)) none))⟩,
    .op ⟨(some 4), none, (.r (.mv (.t 19)))⟩])
  (.seq (.region [.op ⟨(some 20), none, (.r (.mv (.t 4)))⟩,
    .op ⟨(some 21), none, (.r (.mv (.t 0)))⟩,
    .op ⟨(some 22), none, (.r (.nilck (.t 21)))⟩,
    .op ⟨(some 23), none, (.r (.faddr 1 (.t 22)))⟩,
    .op ⟨(some 24), none, (.r (.load false 1 (.t 23)))⟩,
    .op ⟨(some 25), none, (.e (.copy 1 (.t 20) (.t 24)))⟩])
  (.region [.op ⟨(some 26), none, (.r (.mv (.t 0)))⟩,
    .op ⟨(some 27), none, (.r (.mv (.t 4)))⟩,
    .op ⟨(some 28), none, (.r (.nilck (.t 26)))⟩,
    .op ⟨(some 29), none, (.r (.faddr 1 (.t 28)))⟩,
    .op ⟨none, none, (.e (.store 1 (.t 29) (.t 27)))⟩]))) }
theorem tr_strings_Builder_grow : trF cx Tryd.f70 = pf_strings_Builder_grow := by kernel_rfl
/-- math/bits.TrailingZeros32 -/
def pf_math_bits_TrailingZeros32 : PF := { ntmps := 14, results := [.tmp 2], body :=
  (.seq (.region [.op ⟨(some 2), none, (.r (.mv (.c (.int .i64 (.ofNat 0)))))⟩])
  (.seq (.seq (.region [.op ⟨(some 3), none, (.r (.mv (.t 0)))⟩,
    .op ⟨(some 4), none, (.r (.bin .eql (.t 3) (.c (.int .u32 (.ofNat 0)))))⟩])
  (.cond (.t 4)
   (.seq (.region [.op ⟨(some 2), none, (.r (.mv (.c (.int .i64 (.ofNat 32)))))⟩])
   .ret)
   .skip))
  (.seq (.region [.op ⟨(some 5), none, (.r (.mv (.t 0)))⟩,
    .op ⟨(some 6), none, (.r (.mv (.t 0)))⟩,
    .op ⟨(some 7), none, (.r (.un .neg (.t 6)))⟩,
    .op ⟨(some 8), none, (.r (.bin .and (.t 5) (.t 7)))⟩,
    .op ⟨(some 9), none, (.r (.bin .mul (.t 8) (.c (.int .u32 (.ofNat 125613361)))))⟩,
    .op ⟨(some 10), none, (.r (.bin .shr (.t 9) (.c (.int .u64 (.ofNat 27)))))⟩,
    .op ⟨(some 11), none, (.r (.bad))⟩,
    .op ⟨(some 12), none, (.r (.load false 1 (.t 11)))⟩,
    .op ⟨(some 13), none, (.r (.cint .i64 (.t 12)))⟩,
    .op ⟨(some 2), none, (.r (.mv (.t 13)))⟩])
  .ret))) }
theorem tr_math_bits_TrailingZeros32 : trF cx Tryd.f71 = pf_math_bits_TrailingZeros32 := by kernel_rfl
/-- math/bits.TrailingZeros64 -/
def pf_math_bits_TrailingZeros64 : PF := { ntmps := 14, results := [.tmp 2], body :=
  (.seq (.region [.op ⟨(some 2), none, (.r (.mv (.c (.int .i64 (.ofNat 0)))))⟩])
  (.seq (.seq (.region [.op ⟨(some 3), none, (.r (.mv (.t 0)))⟩,
    .op ⟨(some 4), none, (.r (.bin .eql (.t 3) (.c (.int .u64 (.ofNat 0)))))⟩])
  (.cond (.t 4)
   (.seq (.region [.op ⟨(some 2), none, (.r (.mv (.c (.int .i64 (.ofNat 64)))))⟩])
   .ret)
   .skip))
  (.seq (.region [.op ⟨(some 5), none, (.r (.mv (.t 0)))⟩,
    .op ⟨(some 6), none, (.r (.mv (.t 0)))⟩,
    .op ⟨(some 7), none, (.r (.un .neg (.t 6)))⟩,
    .op ⟨(some 8), none, (.r (.bin .and (.t 5) (.t 7)))⟩,
    .op ⟨(some 9), none, (.r (.bin .mul (.t 8) (.c (.int .u64 (.ofNat 285870213051353865)))))⟩,
    .op ⟨(some 10), none, (.r (.bin .shr (.t 9) (.c (.int .u64 (.ofNat 58)))))⟩,
    .op ⟨(some 11), none, (.r (.bad))⟩,
    .op ⟨(some 12), none, (.r (.load false 1 (.t 11)))⟩,
    .op ⟨(some 13), none, (.r (.cint .i64 (.t 12)))⟩,
    .op ⟨(some 2), none, (.r (.mv (.t 13)))⟩])
  .ret))) }
theorem tr_math_bits_TrailingZeros64 : trF cx Tryd.f72 = pf_math_bits_TrailingZeros64 := by kernel_rfl
end Go.Proofs.YtkjmelfgopammaaDoor
