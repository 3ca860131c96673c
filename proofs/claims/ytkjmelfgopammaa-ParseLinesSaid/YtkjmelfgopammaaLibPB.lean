/- The functions that this seat's laws reach, for the clean machine; each is what the translation makes of the given text. Conditions: none. Printed by program. -/
import Derived.Test.YtkjmelfgopammaaLibPA
namespace Go.Proofs.Ytkjmelfgopammaa
open Go.Dp
/-- (*depot/depotref9.Parser).line -/
def pf_depotref9_Parser_line : PF := { ntmps := 64, results := [.cell 4 true 18], body :=
  (.seq (.region [.op ⟨(some 4), none, (.n (.new 0 [(.int .i64 (.ofNat 0)), .nils, (.int .i64 (.ofNat 0)), (.int .i64 (.ofNat 0)), (.int .i64 (.ofNat 0)), (.int .i64 (.ofNat 0)), (.int .u64 (.ofNat 0)), (.bool false), (.str []), (.int .i64 (.ofNat 0)), .nils, (.bool false), (.int .u64 (.ofNat 0)), (.str []), (.int .i64 (.ofNat 0)), (.int .i64 (.ofNat 0)), (.int .i64 (.ofNat 0)), (.int .i64 (.ofNat 0))]))⟩])
  (.seq (.region [.op ⟨(some 8), none, (.r (.mv (.t 1)))⟩,
    .op ⟨(some 9), none, (.e (.call n_depotref9_Line [(.t 8)]))⟩,
    .op ⟨(some 7), none, (.r (.mv (.t 9)))⟩,
    .op ⟨(some 10), none, (.r (.ext 0 (.t 7)))⟩,
    .op ⟨(some 11), none, (.r (.ext 1 (.t 7)))⟩,
    .op ⟨(some 5), none, (.n (.new 0 [(.int .i64 (.ofNat 0)), .nils, (.int .i64 (.ofNat 0)), (.int .i64 (.ofNat 0)), (.int .i64 (.ofNat 0)), (.int .i64 (.ofNat 0)), (.int .u64 (.ofNat 0)), (.bool false), (.str [])]))⟩,
    .op ⟨none, none, (.e (.store 9 (.t 5) (.t 10)))⟩,
    .op ⟨(some 6), none, (.r (.mv (.t 11)))⟩])
  (.seq (.block 0 (.seq (.region [.op ⟨(some 13), none, (.r (.mv (.t 6)))⟩,
     .op ⟨(some 14), none, (.r (.bin .eql (.t 13) (.c (.int .i64 (.ofNat 4)))))⟩,
     .op ⟨(some 12), none, (.r (.mv (.t 14)))⟩])
   (.cond (.t 12)
    (.seq (.region [.op ⟨(some 15), none, (.r (.build [(.int .i64 (.ofNat 0)), .nils, (.bool false), (.int .u64 (.ofNat 0)), (.str []), (.int .i64 (.ofNat 0)), (.int .i64 (.ofNat 0)), (.int .i64 (.ofNat 0)), (.int .i64 (.ofNat 0))] [(0, 1, (.c (.int .i64 (.ofNat 12))))]))⟩,
      .op ⟨(some 16), none, (.r (.build [(.int .i64 (.ofNat 0)), .nils, (.int .i64 (.ofNat 0)), (.int .i64 (.ofNat 0)), (.int .i64 (.ofNat 0)), (.int .i64 (.ofNat 0)), (.int .u64 (.ofNat 0)), (.bool false), (.str []), (.int .i64 (.ofNat 0)), .nils, (.bool false), (.int .u64 (.ofNat 0)), (.str []), (.int .i64 (.ofNat 0)), (.int .i64 (.ofNat 0)), (.int .i64 (.ofNat 0)), (.int .i64 (.ofNat 0))] [(9, 9, (.t 15))]))⟩,
      .op ⟨none, none, (.e (.store 18 (.t 4) (.t 16)))⟩])
    .ret)
    (.seq (.region [.op ⟨(some 18), none, (.r (.mv (.t 6)))⟩,
      .op ⟨(some 19), none, (.r (.bin .neq (.t 18) (.c (.int .i64 (.ofNat 0)))))⟩,
      .op ⟨(some 17), none, (.r (.mv (.t 19)))⟩])
    (.cond (.t 17)
     (.seq (.region [.op ⟨(some 20), none, (.e (.call n_depotref9_client [(.c (.str [98, 97, 100, 32, 99, 111, 109, 109, 97, 110, 100, 32, 108, 105, 110, 101, 32, 102, 111, 114, 109, 97, 116]))]))⟩,
       .op ⟨none, none, (.e (.store 18 (.t 4) (.t 20)))⟩])
     .ret)
     (.seq (.region [.op ⟨(some 22), none, (.r (.faddr 0 (.t 5)))⟩,
       .op ⟨(some 23), none, (.r (.load false 1 (.t 22)))⟩,
       .op ⟨(some 24), none, (.r (.bin .eql (.t 23) (.c (.int .i64 (.ofNat 17)))))⟩,
       .op ⟨(some 21), none, (.r (.mv (.t 24)))⟩])
     (.cond (.t 21)
      (.seq (.region [.op ⟨(some 25), none, (.r (.mv (.t 0)))⟩,
        .op ⟨(some 26), none, (.r (.mv (.t 0)))⟩,
        .op ⟨(some 27), none, (.r (.nilck (.t 25)))⟩,
        .op ⟨(some 28), none, (.r (.faddr 12 (.t 27)))⟩,
        .op ⟨none, none, (.e (.store 1 (.t 28) (.c (.bool true))))⟩,
        .op ⟨(some 29), none, (.r (.nilck (.t 26)))⟩,
        .op ⟨(some 30), none, (.r (.faddr 0 (.t 29)))⟩,
        .op ⟨none, none, (.e (.store 1 (.t 30) (.c (.str []))))⟩])
      (.seq (.region [.op ⟨(some 31), none, (.r (.build [(.int .i64 (.ofNat 0)), .nils, (.bool false), (.int .u64 (.ofNat 0)), (.str []), (.int .i64 (.ofNat 0)), (.int .i64 (.ofNat 0)), (.int .i64 (.ofNat 0)), (.int .i64 (.ofNat 0))] [(0, 1, (.c (.int .i64 (.ofNat 15))))]))⟩,
        .op ⟨(some 32), none, (.r (.build [(.int .i64 (.ofNat 0)), .nils, (.int .i64 (.ofNat 0)), (.int .i64 (.ofNat 0)), (.int .i64 (.ofNat 0)), (.int .i64 (.ofNat 0)), (.int .u64 (.ofNat 0)), (.bool false), (.str []), (.int .i64 (.ofNat 0)), .nils, (.bool false), (.int .u64 (.ofNat 0)), (.str []), (.int .i64 (.ofNat 0)), (.int .i64 (.ofNat 0)), (.int .i64 (.ofNat 0)), (.int .i64 (.ofNat 0))] [(9, 9, (.t 31))]))⟩,
        .op ⟨none, none, (.e (.store 18 (.t 4) (.t 32)))⟩])
      .ret))
      (.seq (.region [.op ⟨(some 34), none, (.r (.faddr 0 (.t 5)))⟩,
        .op ⟨(some 35), none, (.r (.load false 1 (.t 34)))⟩,
        .op ⟨(some 36), none, (.e (.call n_depotref9_Storing [(.t 35)]))⟩,
        .op ⟨(some 37), none, (.r (.mv (.t 36)))⟩,
        .op ⟨(some 38), (some (37, true)), (.r (.faddr 4 (.t 5)))⟩,
        .op ⟨(some 39), (some (37, true)), (.r (.load false 1 (.t 38)))⟩,
        .op ⟨(some 40), (some (37, true)), (.r (.bin .gtr (.t 39) (.c (.int .i64 (.ofNat 1048576)))))⟩,
        .op ⟨(some 41), none, (.r (.pick (.t 37) (.t 40) (.c (.bool false))))⟩,
        .op ⟨(some 33), none, (.r (.mv (.t 41)))⟩])
      (.cond (.t 33)
       (.seq (.region [.op ⟨(some 42), none, (.r (.mv (.t 0)))⟩,
         .op ⟨(some 43), none, (.r (.faddr 4 (.t 5)))⟩,
         .op ⟨(some 44), none, (.r (.load false 1 (.t 43)))⟩,
         .op ⟨(some 45), none, (.r (.bin .add (.t 44) (.c (.int .i64 (.ofNat 2)))))⟩,
         .op ⟨(some 46), none, (.r (.nilck (.t 42)))⟩,
         .op ⟨(some 47), none, (.r (.faddr 10 (.t 46)))⟩,
         .op ⟨none, none, (.e (.store 1 (.t 47) (.t 45)))⟩])
       (.seq (.seq (.region [.op ⟨(some 48), none, (.r (.faddr 7 (.t 5)))⟩,
         .op ⟨(some 49), none, (.r (.load false 1 (.t 48)))⟩])
       (.cond (.t 49)
        (.seq (.region [.op ⟨(some 50), none, (.r (.build [(.int .i64 (.ofNat 0)), .nils, (.int .i64 (.ofNat 0)), (.int .i64 (.ofNat 0)), (.int .i64 (.ofNat 0)), (.int .i64 (.ofNat 0)), (.int .u64 (.ofNat 0)), (.bool false), (.str []), (.int .i64 (.ofNat 0)), .nils, (.bool false), (.int .u64 (.ofNat 0)), (.str []), (.int .i64 (.ofNat 0)), (.int .i64 (.ofNat 0)), (.int .i64 (.ofNat 0)), (.int .i64 (.ofNat 0))] []))⟩,
          .op ⟨none, none, (.e (.store 18 (.t 4) (.t 50)))⟩])
        .ret)
        .skip))
       (.seq (.region [.op ⟨(some 51), none, (.r (.build [(.int .i64 (.ofNat 0)), .nils, (.bool false), (.int .u64 (.ofNat 0)), (.str []), (.int .i64 (.ofNat 0)), (.int .i64 (.ofNat 0)), (.int .i64 (.ofNat 0)), (.int .i64 (.ofNat 0))] [(0, 1, (.c (.int .i64 (.ofNat 14)))), (4, 1, (.c (.str [111, 98, 106, 101, 99, 116, 32, 116, 111, 111, 32, 108, 97, 114, 103, 101, 32, 102, 111, 114, 32, 99, 97, 99, 104, 101])))]))⟩,
         .op ⟨(some 52), none, (.r (.build [(.int .i64 (.ofNat 0)), .nils, (.int .i64 (.ofNat 0)), (.int .i64 (.ofNat 0)), (.int .i64 (.ofNat 0)), (.int .i64 (.ofNat 0)), (.int .u64 (.ofNat 0)), (.bool false), (.str []), (.int .i64 (.ofNat 0)), .nils, (.bool false), (.int .u64 (.ofNat 0)), (.str []), (.int .i64 (.ofNat 0)), (.int .i64 (.ofNat 0)), (.int .i64 (.ofNat 0)), (.int .i64 (.ofNat 0))] [(9, 9, (.t 51))]))⟩,
         .op ⟨none, none, (.e (.store 18 (.t 4) (.t 52)))⟩])
       .ret)))
       (.seq (.region [.op ⟨(some 54), none, (.r (.faddr 0 (.t 5)))⟩,
         .op ⟨(some 55), none, (.r (.load false 1 (.t 54)))⟩,
         .op ⟨(some 56), none, (.e (.call n_depotref9_Storing [(.t 55)]))⟩,
         .op ⟨(some 53), none, (.r (.mv (.t 56)))⟩])
       (.cond (.t 53)
        (.seq (.region [.op ⟨(some 57), none, (.r (.mv (.t 0)))⟩,
          .op ⟨(some 58), none, (.r (.load true 9 (.t 5)))⟩,
          .op ⟨(some 59), none, (.r (.nilck (.t 57)))⟩,
          .op ⟨(some 60), none, (.r (.faddr 1 (.t 59)))⟩,
          .op ⟨none, none, (.e (.store 9 (.t 60) (.t 58)))⟩])
        (.seq (.region [.op ⟨(some 61), none, (.r (.build [(.int .i64 (.ofNat 0)), .nils, (.int .i64 (.ofNat 0)), (.int .i64 (.ofNat 0)), (.int .i64 (.ofNat 0)), (.int .i64 (.ofNat 0)), (.int .u64 (.ofNat 0)), (.bool false), (.str []), (.int .i64 (.ofNat 0)), .nils, (.bool false), (.int .u64 (.ofNat 0)), (.str []), (.int .i64 (.ofNat 0)), (.int .i64 (.ofNat 0)), (.int .i64 (.ofNat 0)), (.int .i64 (.ofNat 0))] []))⟩,
          .op ⟨none, none, (.e (.store 18 (.t 4) (.t 61)))⟩])
        .ret))
        .skip)))))))))))
  (.seq (.region [.op ⟨(some 62), none, (.r (.load true 9 (.t 5)))⟩,
    .op ⟨(some 63), none, (.r (.build [(.int .i64 (.ofNat 0)), .nils, (.int .i64 (.ofNat 0)), (.int .i64 (.ofNat 0)), (.int .i64 (.ofNat 0)), (.int .i64 (.ofNat 0)), (.int .u64 (.ofNat 0)), (.bool false), (.str []), (.int .i64 (.ofNat 0)), .nils, (.bool false), (.int .u64 (.ofNat 0)), (.str []), (.int .i64 (.ofNat 0)), (.int .i64 (.ofNat 0)), (.int .i64 (.ofNat 0)), (.int .i64 (.ofNat 0))] [(0, 9, (.t 62))]))⟩,
    .op ⟨none, none, (.e (.store 18 (.t 4) (.t 63)))⟩])
  .ret)))) }
theorem tr_depotref9_Parser_line : trF cx Try.f51 = pf_depotref9_Parser_line := by kernel_rfl
def l0_depotbook_Same_api_Found : PC :=
  (.seq (.seq (.region [.op ⟨(some 11), none, (.r (.mv (.t 5)))⟩,
    .op ⟨(some 12), none, (.r (.mv (.t 0)))⟩,
    .op ⟨(some 13), none, (.r (.lensl (.t 12)))⟩,
    .op ⟨(some 14), none, (.r (.bin .lss (.t 11) (.t 13)))⟩])
  (.cond (.t 14)
   .skip
   (.exit 0)))
  (.seq (.block 1 (.seq (.region [.op ⟨(some 17), none, (.r (.mv (.t 0)))⟩,
     .op ⟨(some 18), none, (.r (.mv (.t 5)))⟩,
     .op ⟨(some 19), none, (.r (.iasl 4 (.t 17) (.t 18)))⟩,
     .op ⟨(some 20), none, (.r (.load true 4 (.t 19)))⟩,
     .op ⟨(some 21), none, (.r (.mv (.t 1)))⟩,
     .op ⟨(some 22), none, (.r (.mv (.t 5)))⟩,
     .op ⟨(some 23), none, (.r (.iasl 4 (.t 21) (.t 22)))⟩,
     .op ⟨(some 24), none, (.r (.load true 4 (.t 23)))⟩,
     .op ⟨(some 25), none, (.r (.eqa true [.s, (.i .i64), .s, (.i .i64)] (.t 20) (.t 24)))⟩])
   (.cond (.t 25)
    (.seq (.region [.op ⟨(some 4), none, (.r (.mv (.c (.bool false))))⟩])
    .ret)
    .skip)))
  (.region [.op ⟨(some 15), none, (.r (.mv (.t 5)))⟩,
    .op ⟨(some 16), none, (.r (.bin .add (.t 15) (.c (.int .i64 (.ofNat 1)))))⟩,
    .op ⟨(some 5), none, (.r (.mv (.t 16)))⟩])))
/-- depot/depotbook.Same[depot/api.Found] -/
def pf_depotbook_Same_api_Found : PF := { ntmps := 26, results := [.tmp 4], body :=
  (.seq (.region [.op ⟨(some 4), none, (.r (.mv (.c (.bool false))))⟩])
  (.seq (.seq (.region [.op ⟨(some 6), none, (.r (.mv (.t 0)))⟩,
    .op ⟨(some 7), none, (.r (.lensl (.t 6)))⟩,
    .op ⟨(some 8), none, (.r (.mv (.t 1)))⟩,
    .op ⟨(some 9), none, (.r (.lensl (.t 8)))⟩,
    .op ⟨(some 10), none, (.r (.bin .neq (.t 7) (.t 9)))⟩])
  (.cond (.t 10)
   (.seq (.region [.op ⟨(some 4), none, (.r (.mv (.c (.bool false))))⟩])
   .ret)
   .skip))
  (.seq (.seq (.region [.op ⟨(some 5), none, (.r (.mv (.c (.int .i64 (.ofNat 0)))))⟩])
  (.block 0 (.loop l0_depotbook_Same_api_Found)))
  (.seq (.region [.op ⟨(some 4), none, (.r (.mv (.c (.bool true))))⟩])
  .ret)))) }
theorem tr_depotbook_Same_api_Found : trF cx Try.f52 = pf_depotbook_Same_api_Found := by kernel_rfl
/-- strings.CutPrefix -/
def pf_strings_CutPrefix : PF := { ntmps := 11, results := [.tmp 4, .tmp 5], body :=
  (.seq (.region [.op ⟨(some 4), none, (.r (.mv (.c (.str []))))⟩,
    .op ⟨(some 5), none, (.r (.mv (.c (.bool false))))⟩])
  (.seq (.region [.op ⟨(some 6), none, (.r (.mv (.t 0)))⟩,
    .op ⟨(some 7), none, (.r (.mv (.t 1)))⟩,
    .op ⟨(some 8), none, (.e (.call n_internal_stringslite_CutPrefix [(.t 6), (.t 7)]))⟩,
    .op ⟨(some 9), none, (.r (.ext 0 (.t 8)))⟩,
    .op ⟨(some 10), none, (.r (.ext 1 (.t 8)))⟩,
    .op ⟨(some 4), none, (.r (.mv (.t 9)))⟩,
    .op ⟨(some 5), none, (.r (.mv (.t 10)))⟩])
  .ret)) }
theorem tr_strings_CutPrefix : trF cx Try.f53 = pf_strings_CutPrefix := by kernel_rfl
/-- internal/stringslite.IndexByte -/
def pf_internal_stringslite_IndexByte : PF := { ntmps := 8, results := [.tmp 4], body :=
  (.seq (.region [.op ⟨(some 4), none, (.r (.mv (.c (.int .i64 (.ofNat 0)))))⟩])
  (.seq (.region [.op ⟨(some 5), none, (.r (.mv (.t 0)))⟩,
    .op ⟨(some 6), none, (.r (.mv (.t 1)))⟩,
    .op ⟨(some 7), none, (.r (.index (.t 5) (.t 6)))⟩,
    .op ⟨(some 4), none, (.r (.mv (.t 7)))⟩])
  .ret)) }
theorem tr_internal_stringslite_IndexByte : trF cx Try.f54 = pf_internal_stringslite_IndexByte := by kernel_rfl
/-- internal/stringslite.TrimSuffix -/
def pf_internal_stringslite_TrimSuffix : PF := { ntmps := 16, results := [.tmp 4], body :=
  (.seq (.region [.op ⟨(some 4), none, (.r (.mv (.c (.str []))))⟩])
  (.seq (.seq (.region [.op ⟨(some 5), none, (.r (.mv (.t 0)))⟩,
    .op ⟨(some 6), none, (.r (.mv (.t 1)))⟩,
    .op ⟨(some 7), none, (.e (.call n_internal_stringslite_HasSuffix [(.t 5), (.t 6)]))⟩])
  (.cond (.t 7)
   (.seq (.region [.op ⟨(some 8), none, (.r (.mv (.t 0)))⟩,
     .op ⟨(some 9), none, (.r (.mv (.t 0)))⟩,
     .op ⟨(some 10), none, (.r (.lens (.t 9)))⟩,
     .op ⟨(some 11), none, (.r (.mv (.t 1)))⟩,
     .op ⟨(some 12), none, (.r (.lens (.t 11)))⟩,
     .op ⟨(some 13), none, (.r (.bin .sub (.t 10) (.t 12)))⟩,
     .op ⟨(some 14), none, (.r (.slstr (.t 8) none (some (.t 13))))⟩,
     .op ⟨(some 4), none, (.r (.mv (.t 14)))⟩])
   .ret)
   .skip))
  (.seq (.region [.op ⟨(some 15), none, (.r (.mv (.t 0)))⟩,
    .op ⟨(some 4), none, (.r (.mv (.t 15)))⟩])
  .ret))) }
theorem tr_internal_stringslite_TrimSuffix : trF cx Try.f55 = pf_internal_stringslite_TrimSuffix := by kernel_rfl
/-- internal/stringslite.HasPrefix -/
def pf_internal_stringslite_HasPrefix : PF := { ntmps := 18, results := [.tmp 4], body :=
  (.seq (.region [.op ⟨(some 4), none, (.r (.mv (.c (.bool false))))⟩])
  (.seq (.region [.op ⟨(some 5), none, (.r (.mv (.t 0)))⟩,
    .op ⟨(some 6), none, (.r (.lens (.t 5)))⟩,
    .op ⟨(some 7), none, (.r (.mv (.t 1)))⟩,
    .op ⟨(some 8), none, (.r (.lens (.t 7)))⟩,
    .op ⟨(some 9), none, (.r (.bin .geq (.t 6) (.t 8)))⟩,
    .op ⟨(some 10), none, (.r (.mv (.t 9)))⟩,
    .op ⟨(some 11), (some (10, true)), (.r (.mv (.t 0)))⟩,
    .op ⟨(some 12), (some (10, true)), (.r (.mv (.t 1)))⟩,
    .op ⟨(some 13), (some (10, true)), (.r (.lens (.t 12)))⟩,
    .op ⟨(some 14), (some (10, true)), (.r (.slstr (.t 11) none (some (.t 13))))⟩,
    .op ⟨(some 15), (some (10, true)), (.r (.mv (.t 1)))⟩,
    .op ⟨(some 16), (some (10, true)), (.r (.bin .eql (.t 14) (.t 15)))⟩,
    .op ⟨(some 17), none, (.r (.pick (.t 10) (.t 16) (.c (.bool false))))⟩,
    .op ⟨(some 4), none, (.r (.mv (.t 17)))⟩])
  .ret)) }
theorem tr_internal_stringslite_HasPrefix : trF cx Try.f56 = pf_internal_stringslite_HasPrefix := by kernel_rfl
/-- depot/depotref9.client -/
def pf_depotref9_client : PF := { ntmps := 6, results := [.cell 2 true 18], body :=
  (.seq (.region [.op ⟨(some 2), none, (.n (.new 0 [(.int .i64 (.ofNat 0)), .nils, (.int .i64 (.ofNat 0)), (.int .i64 (.ofNat 0)), (.int .i64 (.ofNat 0)), (.int .i64 (.ofNat 0)), (.int .u64 (.ofNat 0)), (.bool false), (.str []), (.int .i64 (.ofNat 0)), .nils, (.bool false), (.int .u64 (.ofNat 0)), (.str []), (.int .i64 (.ofNat 0)), (.int .i64 (.ofNat 0)), (.int .i64 (.ofNat 0)), (.int .i64 (.ofNat 0))]))⟩])
  (.seq (.region [.op ⟨(some 3), none, (.r (.mv (.t 0)))⟩,
    .op ⟨(some 4), none, (.r (.build [(.int .i64 (.ofNat 0)), .nils, (.bool false), (.int .u64 (.ofNat 0)), (.str []), (.int .i64 (.ofNat 0)), (.int .i64 (.ofNat 0)), (.int .i64 (.ofNat 0)), (.int .i64 (.ofNat 0))] [(0, 1, (.c (.int .i64 (.ofNat 13)))), (4, 1, (.t 3))]))⟩,
    .op ⟨(some 5), none, (.r (.build [(.int .i64 (.ofNat 0)), .nils, (.int .i64 (.ofNat 0)), (.int .i64 (.ofNat 0)), (.int .i64 (.ofNat 0)), (.int .i64 (.ofNat 0)), (.int .u64 (.ofNat 0)), (.bool false), (.str []), (.int .i64 (.ofNat 0)), .nils, (.bool false), (.int .u64 (.ofNat 0)), (.str []), (.int .i64 (.ofNat 0)), (.int .i64 (.ofNat 0)), (.int .i64 (.ofNat 0)), (.int .i64 (.ofNat 0))] [(9, 9, (.t 4))]))⟩,
    .op ⟨none, none, (.e (.store 18 (.t 2) (.t 5)))⟩])
  .ret)) }
theorem tr_depotref9_client : trF cx Try.f57 = pf_depotref9_client := by kernel_rfl
/-- depot/depotref9.Storing -/
def pf_depotref9_Storing : PF := { ntmps := 9, results := [.tmp 2], body :=
  (.seq (.region [.op ⟨(some 2), none, (.r (.mv (.c (.bool false))))⟩])
  (.seq (.region [.op ⟨(some 3), none, (.r (.mv (.t 0)))⟩,
    .op ⟨(some 4), none, (.r (.bin .geq (.t 3) (.c (.int .i64 (.ofNat 3)))))⟩,
    .op ⟨(some 5), none, (.r (.mv (.t 4)))⟩,
    .op ⟨(some 6), (some (5, true)), (.r (.mv (.t 0)))⟩,
    .op ⟨(some 7), (some (5, true)), (.r (.bin .leq (.t 6) (.c (.int .i64 (.ofNat 8)))))⟩,
    .op ⟨(some 8), none, (.r (.pick (.t 5) (.t 7) (.c (.bool false))))⟩,
    .op ⟨(some 2), none, (.r (.mv (.t 8)))⟩])
  .ret)) }
theorem tr_depotref9_Storing : trF cx Try.f58 = pf_depotref9_Storing := by kernel_rfl
/-- internal/stringslite.CutPrefix -/
def pf_internal_stringslite_CutPrefix : PF := { ntmps := 15, results := [.tmp 4, .tmp 5], body :=
  (.seq (.region [.op ⟨(some 4), none, (.r (.mv (.c (.str []))))⟩,
    .op ⟨(some 5), none, (.r (.mv (.c (.bool false))))⟩])
  (.seq (.seq (.region [.op ⟨(some 6), none, (.r (.mv (.t 0)))⟩,
    .op ⟨(some 7), none, (.r (.mv (.t 1)))⟩,
    .op ⟨(some 8), none, (.e (.call n_internal_stringslite_HasPrefix [(.t 6), (.t 7)]))⟩,
    .op ⟨(some 9), none, (.r (.un .not (.t 8)))⟩])
  (.cond (.t 9)
   (.seq (.region [.op ⟨(some 10), none, (.r (.mv (.t 0)))⟩,
     .op ⟨(some 4), none, (.r (.mv (.t 10)))⟩,
     .op ⟨(some 5), none, (.r (.mv (.c (.bool false))))⟩])
   .ret)
   .skip))
  (.seq (.region [.op ⟨(some 11), none, (.r (.mv (.t 0)))⟩,
    .op ⟨(some 12), none, (.r (.mv (.t 1)))⟩,
    .op ⟨(some 13), none, (.r (.lens (.t 12)))⟩,
    .op ⟨(some 14), none, (.r (.slstr (.t 11) (some (.t 13)) none))⟩,
    .op ⟨(some 4), none, (.r (.mv (.t 14)))⟩,
    .op ⟨(some 5), none, (.r (.mv (.c (.bool true))))⟩])
  .ret))) }
theorem tr_internal_stringslite_CutPrefix : trF cx Try.f59 = pf_internal_stringslite_CutPrefix := by kernel_rfl
/-- internal/stringslite.HasSuffix -/
def pf_internal_stringslite_HasSuffix : PF := { ntmps := 21, results := [.tmp 4], body :=
  (.seq (.region [.op ⟨(some 4), none, (.r (.mv (.c (.bool false))))⟩])
  (.seq (.region [.op ⟨(some 5), none, (.r (.mv (.t 0)))⟩,
    .op ⟨(some 6), none, (.r (.lens (.t 5)))⟩,
    .op ⟨(some 7), none, (.r (.mv (.t 1)))⟩,
    .op ⟨(some 8), none, (.r (.lens (.t 7)))⟩,
    .op ⟨(some 9), none, (.r (.bin .geq (.t 6) (.t 8)))⟩,
    .op ⟨(some 10), none, (.r (.mv (.t 9)))⟩,
    .op ⟨(some 11), (some (10, true)), (.r (.mv (.t 0)))⟩,
    .op ⟨(some 12), (some (10, true)), (.r (.mv (.t 0)))⟩,
    .op ⟨(some 13), (some (10, true)), (.r (.lens (.t 12)))⟩,
    .op ⟨(some 14), (some (10, true)), (.r (.mv (.t 1)))⟩,
    .op ⟨(some 15), (some (10, true)), (.r (.lens (.t 14)))⟩,
    .op ⟨(some 16), (some (10, true)), (.r (.bin .sub (.t 13) (.t 15)))⟩,
    .op ⟨(some 17), (some (10, true)), (.r (.slstr (.t 11) (some (.t 16)) none))⟩,
    .op ⟨(some 18), (some (10, true)), (.r (.mv (.t 1)))⟩,
    .op ⟨(some 19), (some (10, true)), (.r (.bin .eql (.t 17) (.t 18)))⟩,
    .op ⟨(some 20), none, (.r (.pick (.t 10) (.t 19) (.c (.bool false))))⟩,
    .op ⟨(some 4), none, (.r (.mv (.t 20)))⟩])
  .ret)) }
theorem tr_internal_stringslite_HasSuffix : trF cx Try.f61 = pf_internal_stringslite_HasSuffix := by kernel_rfl
end Go.Proofs.Ytkjmelfgopammaa
