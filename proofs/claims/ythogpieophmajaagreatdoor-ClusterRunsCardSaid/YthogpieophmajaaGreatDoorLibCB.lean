/- The functions that this seat's laws reach, for the clean machine; each is what the translation makes of the given text. Conditions: none. Printed by program. -/
import Derived.Test.YthogpieophmajaaGreatDoorLibCA
namespace Go.Proofs.YthogpieophmajaaGreatDoor
open Go.Dp
/-- (*depot/parse.Parser).data -/
def pf161 : PF := { ntmps := 75, results := [.tmp 2], body :=
  (.seq (.region [o 2 (.mv (.c (.bool false)))])
  (.seq (.region [m 6 0,
 o 7 (.nilck (.t 6)),
 o 8 (.faddr 3 (.t 7)),
 o 9 (.faddr 4 (.t 8)),
 o 10 (.load false 1 (.t 9)),
 m 3 10])
  (.seq (.seq (.region [m 11 0,
 o 12 (.nilck (.t 11)),
 o 13 (.faddr 1 (.t 12)),
 o 14 (.load false 1 (.t 13)),
 o 15 (.lens (.t 14)),
 m 16 3,
 o 17 (.bin .leq (.t 15) (.t 16))])
  (.cond (.t 17)
   (.seq (.region [o 2 (.mv (.c (.bool false)))])
   .ret)
   .skip))
  (.seq (.region [m 18 0,
 o 19 (.nilck (.t 18)),
 o 20 (.faddr 1 (.t 19)),
 o 21 (.load false 1 (.t 20)),
 m 22 3,
 o 23 (.slstr (.t 21) (some (.t 22)) none),
 m 4 23])
  (.seq (.seq (.region [m 24 4,
 o 25 (.bin .eql (.t 24) (.c (.str [13])))])
  (.cond (.t 25)
   (.seq (.region [o 2 (.mv (.c (.bool false)))])
   .ret)
   .skip))
  (.seq (.seq (.region [m 26 4,
 e 27 (.call 221 [(.t 26), (.c (.str [13, 10]))])])
  (.cond (.t 27)
   (.seq (.region [m 28 0,
 o 29 (.nilck (.t 28)),
 o 30 (.faddr 3 (.t 29)),
 o 31 (.load true 9 (.t 30)),
 n 5 (.new 0 [(.int .i64 (.ofNat 0)), .nils, (.int .i64 (.ofNat 0)), (.int .i64 (.ofNat 0)), (.int .i64 (.ofNat 0)), (.int .i64 (.ofNat 0)), (.int .u64 (.ofNat 0)), (.bool false), (.str [])]),
 x (.store 9 (.t 5) (.t 31))])
   (.seq (.region [m 32 0,
 o 33 (.nilck (.t 32)),
 o 34 (.faddr 1 (.t 33)),
 o 35 (.load false 1 (.t 34)),
 m 36 3,
 o 37 (.slstr (.t 35) none (some (.t 36))),
 o 38 (.faddr 8 (.t 5)),
 x (.store 1 (.t 38) (.t 37))])
   (.seq (.region [m 39 0,
 m 40 0,
 o 41 (.nilck (.t 40)),
 o 42 (.faddr 13 (.t 41)),
 o 43 (.load false 1 (.t 42)),
 o 44 (.load true 9 (.t 5)),
 o 45 (.build [(.int .i64 (.ofNat 0)), .nils, (.int .i64 (.ofNat 0)), (.int .i64 (.ofNat 0)), (.int .i64 (.ofNat 0)), (.int .i64 (.ofNat 0)), (.int .u64 (.ofNat 0)), (.bool false), (.str []), (.int .i64 (.ofNat 0)), .nils, (.bool false), (.int .u64 (.ofNat 0)), (.str []), (.int .i64 (.ofNat 0)), (.int .i64 (.ofNat 0)), (.int .i64 (.ofNat 0)), (.int .i64 (.ofNat 0))] [(0, 9, (.t 44))]),
 n 46 (.bslice 0 18 1 [(.int .i64 (.ofNat 0)), .nils, (.int .i64 (.ofNat 0)), (.int .i64 (.ofNat 0)), (.int .i64 (.ofNat 0)), (.int .i64 (.ofNat 0)), (.int .u64 (.ofNat 0)), (.bool false), (.str []), (.int .i64 (.ofNat 0)), .nils, (.bool false), (.int .u64 (.ofNat 0)), (.str []), (.int .i64 (.ofNat 0)), (.int .i64 (.ofNat 0)), (.int .i64 (.ofNat 0)), (.int .i64 (.ofNat 0))] [(0, 18, (.t 45))]),
 e 47 (.app 0 18 192 (.t 43) (.t 46)),
 o 48 (.nilck (.t 39)),
 o 49 (.faddr 13 (.t 48)),
 x (.store 1 (.t 49) (.t 47))])
   (.seq (.region [m 50 0,
 m 51 0,
 m 52 0,
 m 53 4,
 o 54 (.slstr (.t 53) (some (ci 2)) none),
 o 55 (.build [(.int .i64 (.ofNat 0)), .nils, (.int .i64 (.ofNat 0)), (.int .i64 (.ofNat 0)), (.int .i64 (.ofNat 0)), (.int .i64 (.ofNat 0)), (.int .u64 (.ofNat 0)), (.bool false), (.str [])] []),
 o 56 (.nilck (.t 50)),
 o 57 (.faddr 0 (.t 56)),
 x (.store 1 (.t 57) (ci 0)),
 o 58 (.nilck (.t 51)),
 o 59 (.faddr 1 (.t 58)),
 x (.store 1 (.t 59) (.t 54)),
 o 60 (.nilck (.t 52)),
 o 61 (.faddr 3 (.t 60)),
 x (.store 9 (.t 61) (.t 55))])
   (.seq (.region [o 2 (.mv (.c (.bool true)))])
   .ret)))))
   .skip))
  (.seq (.region [m 62 0,
 e 63 (.call 220 [(.t 62), (ci 13), (.c (.str [98, 97, 100, 32, 100, 97, 116, 97, 32, 99, 104, 117, 110, 107]))])])
  (.seq (.region [m 64 0,
 m 65 0,
 m 66 0,
 m 67 4,
 o 68 (.build [(.int .i64 (.ofNat 0)), .nils, (.int .i64 (.ofNat 0)), (.int .i64 (.ofNat 0)), (.int .i64 (.ofNat 0)), (.int .i64 (.ofNat 0)), (.int .u64 (.ofNat 0)), (.bool false), (.str [])] []),
 o 69 (.nilck (.t 64)),
 o 70 (.faddr 0 (.t 69)),
 x (.store 1 (.t 70) (ci 3)),
 o 71 (.nilck (.t 65)),
 o 72 (.faddr 1 (.t 71)),
 x (.store 1 (.t 72) (.t 67)),
 o 73 (.nilck (.t 66)),
 o 74 (.faddr 3 (.t 73)),
 x (.store 9 (.t 74) (.t 68))])
  (.seq (.region [o 2 (.mv (.c (.bool true)))])
  .ret))))))))) }
theorem tr161 : trF cx Tryz.f161 = pf161 := by kernel_rfl
/-- slices.Delete[[]depot/api.Frame,depot/api.Frame] -/
def pf164 : PF := { ntmps := 33, results := [.tmp 6], body :=
  (.seq (.region [o 6 (.mv (.c .nils))])
  (.seq (.region [m 8 0,
 m 9 1,
 m 10 2,
 m 11 0,
 o 12 (.lensl (.t 11)),
 o 13 (.slsl 9 (.t 8) (some (.t 9)) (some (.t 10)) (some (.t 12)))])
  (.seq (.seq (.region [m 14 1,
 m 15 2,
 o 16 (.bin .eql (.t 14) (.t 15))])
  (.cond (.t 16)
   (.seq (.region [m 17 0,
 m 6 17])
   .ret)
   .skip))
  (.seq (.region [m 18 0,
 o 19 (.lensl (.t 18)),
 m 7 19])
  (.seq (.region [m 20 0,
 m 21 1,
 o 22 (.slsl 9 (.t 20) none (some (.t 21)) none),
 m 23 0,
 m 24 2,
 o 25 (.slsl 9 (.t 23) (some (.t 24)) none none),
 e 26 (.app 0 9 88 (.t 22) (.t 25)),
 m 0 26])
  (.seq (.region [m 27 0,
 m 28 0,
 o 29 (.lensl (.t 28)),
 m 30 7,
 o 31 (.slsl 9 (.t 27) (some (.t 29)) (some (.t 30)) none),
 x (.clear [(.int .i64 (.ofNat 0)), (.int .i64 (.ofNat 0)), (.int .i64 (.ofNat 0)), (.int .i64 (.ofNat 0)), (.int .i64 (.ofNat 0)), (.int .i64 (.ofNat 0)), (.str []), (.int .i64 (.ofNat 0)), (.str [])] (.t 31))])
  (.seq (.region [m 32 0,
 m 6 32])
  .ret))))))) }
theorem tr164 : trF cx Tryz.f164 = pf164 := by kernel_rfl
/-- (*depot/ask.Asks).floor -/
def pf165 : PF := { ntmps := 32, results := [.tmp 6], body :=
  (.seq (.region [o 6 (.mv (ci 0))])
  (.scope (.seq (.region [m 10 2,
 m 7 10])
   (.seq .skip
   (.seq (.seq (.region [m 11 0,
 o 12 (.nilck (.t 11)),
 o 13 (.faddr 0 (.t 12)),
 o 14 (.load false 1 (.t 13)),
 o 15 (.lensl (.t 14)),
 o 16 (.mv (ci 0))])
   (.block 0 (.loop (.seq (.region [o 17 (.bin .lss (.t 16) (.t 15))])
     (.seq (.cond (.t 17)
      .skip
      (.exit 0))
     (.seq (.block 1 (.seq (.region [o 18 (.iasl 10 (.t 14) (.t 16)),
 o 19 (.load true 10 (.t 18)),
 n 9 (.new 0 [(.int .i64 (.ofNat 0)), (.int .i64 (.ofNat 0)), (.int .i64 (.ofNat 0)), (.int .i64 (.ofNat 0)), (.int .i64 (.ofNat 0)), (.int .i64 (.ofNat 0)), (.str []), (.int .i64 (.ofNat 0)), (.str []), (.int .i64 (.ofNat 0))]),
 x (.store 10 (.t 9) (.t 19))])
      (.seq (.seq (.region [o 20 (.faddr 0 (.t 9)),
 o 21 (.faddr 1 (.t 20)),
 o 22 (.load false 1 (.t 21)),
 m 23 1,
 o 24 (.bin .neq (.t 22) (.t 23))])
      (.cond (.t 24)
       (.exit 1)
       .skip))
      (.seq (.region [m 25 7,
 o 26 (.faddr 0 (.t 9)),
 o 27 (.faddr 3 (.t 26)),
 o 28 (.load false 1 (.t 27)),
 o 29 (.minmax false [(.t 25), (.t 28)]),
 m 7 29])
      (.exit 0)))))
     (.region [o 30 (.bin .add (.t 16) (ci 1)),
 m 16 30])))))))
   (.seq (.region [m 31 7,
 m 6 31])
   .ret)))))) }
theorem tr165 : trF cx Tryz.f165 = pf165 := by kernel_rfl
/-- internal/strconv.FormatInt -/
def pf167 : PF := { ntmps := 54, results := [.tmp 4], body :=
  (.seq (.region [o 4 (.mv (.c (.str [])))])
  (.seq (.seq (.region [m 10 1,
 o 11 (.bin .eql (.t 10) (ci 10))])
  (.cond (.t 11)
   (.seq (.seq (.region [m 12 0,
 o 13 (.bin .leq (ci 0) (.t 12)),
 m 14 13,
 gm 15 14 true 0,
 go 16 14 true (.bin .lss (.t 15) (ci 100)),
 o 17 (.pick (.t 14) (.t 16) (.c (.bool false)))])
   (.cond (.t 17)
    (.seq (.region [m 18 0,
 e 19 (.call 223 [(.t 18)]),
 m 4 19])
    .ret)
    .skip))
   (.seq (.region [n 5 (.new 0 (rep 24 [(.int .u8 (.ofNat 0))]))])
   (.seq (.region [m 20 0,
 o 21 (.cint .u64 (.t 20)),
 m 6 21])
   (.seq (.seq (.region [m 22 0,
 o 23 (.bin .lss (.t 22) (ci 0))])
   (.cond (.t 23)
    (.region [m 24 6,
 o 25 (.un .neg (.t 24)),
 m 6 25])
    .skip))
   (.seq (.region [m 26 6,
 o 27 (.bad),
 m 7 27])
   (.seq (.region [m 28 7,
 o 29 (.bin .add (ci 1) (.t 28)),
 o 30 (.slarr 24 1 (.t 5) (some (ci 1)) (some (.t 29))),
 m 31 6,
 o 32 (.bad)])
   (.seq (.seq (.region [m 33 0,
 o 34 (.bin .lss (.t 33) (ci 0))])
   (.cond (.t 34)
    (.seq (.region [o 35 (.iaarr 24 1 (.t 5) (ci 0)),
 x (.store 1 (.t 35) (.c (.int .u8 (.ofNat 45))))])
    (.seq (.region [m 36 7,
 o 37 (.bin .add (ci 1) (.t 36)),
 o 38 (.slarr 24 1 (.t 5) none (some (.t 37))),
 o 39 (.b2s (.t 38)),
 m 4 39])
    .ret))
    .skip))
   (.seq (.region [m 40 7,
 o 41 (.bin .add (ci 1) (.t 40)),
 o 42 (.slarr 24 1 (.t 5) (some (ci 1)) (some (.t 41))),
 o 43 (.b2s (.t 42)),
 m 4 43])
   .ret))))))))
   .skip))
  (.seq (.region [m 45 0,
 o 46 (.cint .u64 (.t 45)),
 m 47 1,
 m 48 0,
 o 49 (.bin .lss (.t 48) (ci 0)),
 o 50 (.bad),
 m 44 50,
 o 51 (.ext 0 (.t 44)),
 o 52 (.ext 1 (.t 44)),
 m 8 51,
 m 9 52])
  (.seq (.region [m 53 9,
 m 4 53])
  .ret)))) }
theorem tr167 : trF cx Tryz.f167 = pf167 := by kernel_rfl
/-- strings.IndexByte -/
def pf170 : PF := { ntmps := 8, results := [.tmp 4], body :=
  (.seq (.region [o 4 (.mv (ci 0))])
  (.seq (.region [m 5 0,
 m 6 1,
 e 7 (.call 232 [(.t 5), (.t 6)]),
 m 4 7])
  .ret)) }
theorem tr170 : trF cx Tryz.f170 = pf170 := by kernel_rfl
/-- depot/matrix.Identity -/
def pf176 : PF := { ntmps := 31, results := [.tmp 2], body :=
  (.seq (.region [o 2 (.mv (.c .nils))])
  (.seq (.seq (.region [m 5 0,
 o 6 (.bin .lss (.t 5) (ci 1)),
 m 7 6,
 gm 8 7 false 0,
 go 9 7 false (.bin .gtr (.t 8) (ci 12)),
 o 10 (.pick (.t 7) (.c (.bool true)) (.t 9))])
  (.cond (.t 10)
   (.seq (.region [o 2 (.mv (.c .nils))])
   .ret)
   .skip))
  (.seq (.region [m 11 0,
 n 12 (.mksl 0 1 24 [.nils] (.t 11) (.t 11)),
 m 3 12])
  (.seq (.seq (.region [m 13 3,
 o 14 (.lensl (.t 13)),
 o 15 (.mv (ci 0))])
  (.block 0 (.loop (.seq (.region [o 16 (.bin .lss (.t 15) (.t 14))])
    (.seq (.cond (.t 16)
     .skip
     (.exit 0))
    (.seq (.block 1 (.seq (.region [m 17 15,
 m 4 17])
     (.seq (.region [m 18 3,
 m 19 4,
 m 20 0,
 n 21 (.mksl 2 1 1 [(.int .u8 (.ofNat 0))] (.t 20) (.t 20)),
 o 22 (.iasl 1 (.t 18) (.t 19)),
 x (.store 1 (.t 22) (.t 21))])
     (.region [m 23 3,
 m 24 4,
 o 25 (.iasl 1 (.t 23) (.t 24)),
 o 26 (.load false 1 (.t 25)),
 m 27 4,
 o 28 (.iasl 1 (.t 26) (.t 27)),
 x (.store 1 (.t 28) (.c (.int .u8 (.ofNat 1))))]))))
    (.region [o 29 (.bin .add (.t 15) (ci 1)),
 m 15 29])))))))
  (.seq (.region [m 30 3,
 m 2 30])
  .ret))))) }
theorem tr176 : trF cx Tryz.f176 = pf176 := by kernel_rfl
/-- depot/gf.Inv -/
def pf177 : PF := { ntmps := 20, results := [.tmp 4], body :=
  (.seq (.region [o 4 (.mv (.c (.int .u8 (.ofNat 0))))])
  (.seq (.seq (.region [m 5 1,
 o 6 (.bin .eql (.t 5) (.c (.int .u8 (.ofNat 0))))])
  (.cond (.t 6)
   (.seq (.region [o 4 (.mv (.c (.int .u8 (.ofNat 0))))])
   .ret)
   .skip))
  (.seq (.region [m 7 0,
 m 8 0,
 m 9 1,
 o 10 (.nilck (.t 8)),
 o 11 (.faddr 510 (.t 10)),
 o 12 (.iaarr 256 1 (.t 11) (.t 9)),
 o 13 (.load false 1 (.t 12)),
 o 14 (.cint .i64 (.t 13)),
 o 15 (.bin .sub (ci 255) (.t 14)),
 o 16 (.nilck (.t 7)),
 o 17 (.faddr 0 (.t 16)),
 o 18 (.iaarr 510 1 (.t 17) (.t 15)),
 o 19 (.load false 1 (.t 18)),
 m 4 19])
  .ret))) }
theorem tr177 : trF cx Tryz.f177 = pf177 := by kernel_rfl
/-- (*depot/item.Store).Peek -/
def pf180 : PF := { ntmps := 41, results := [.tmp 4, .tmp 5], body :=
  (.seq (.region [o 4 (.mv (.c (.str []))),
 o 5 (.mv (.c (.bool false)))])
  (.seq (.region [m 11 0,
 o 12 (.nilck (.t 11)),
 o 13 (.faddr 1 (.t 12)),
 o 14 (.load false 1 (.t 13)),
 m 15 1,
 e 16 (.call 136 [(.t 14), (.t 15)]),
 m 10 16,
 o 17 (.ext 0 (.t 10)),
 o 18 (.ext 1 (.t 10)),
 m 6 17,
 m 7 18])
  (.seq (.seq (.region [m 19 7,
 o 20 (.un .not (.t 19))])
  (.cond (.t 20)
   (.seq (.region [o 4 (.mv (.c (.str []))),
 o 5 (.mv (.c (.bool false)))])
   .ret)
   .skip))
  (.seq (.region [m 22 0,
 o 23 (.nilck (.t 22)),
 o 24 (.faddr 0 (.t 23)),
 o 25 (.load false 1 (.t 24)),
 m 26 0,
 o 27 (.nilck (.t 26)),
 o 28 (.faddr 2 (.t 27)),
 o 29 (.load false 1 (.t 28)),
 m 30 6,
 o 31 (.iasl 6 (.t 29) (.t 30)),
 o 32 (.faddr 1 (.t 31)),
 o 33 (.load true 2 (.t 32)),
 e 34 (.call 248 [(.t 25), (.t 33)]),
 m 21 34,
 o 35 (.ext 0 (.t 21)),
 o 36 (.ext 1 (.t 21)),
 m 8 35,
 m 9 36])
  (.seq (.region [m 37 8,
 m 38 1,
 o 39 (.lens (.t 38)),
 o 40 (.slstr (.t 37) (some (.t 39)) none),
 m 4 40,
 o 5 (.mv (.c (.bool true)))])
  .ret))))) }
theorem tr180 : trF cx Tryz.f180 = pf180 := by kernel_rfl
/-- (*depot/item.Store).out -/
def pf181 : PF := { ntmps := 32, results := [], body :=
  (.seq (.region [m 5 0,
 o 6 (.nilck (.t 5)),
 o 7 (.faddr 2 (.t 6)),
 o 8 (.load false 1 (.t 7)),
 m 9 1,
 o 10 (.iasl 6 (.t 8) (.t 9)),
 o 11 (.load true 6 (.t 10)),
 n 4 (.new 0 [(.str []), (.int .i64 (.ofNat 0)), (.int .i64 (.ofNat 0)), (.bool false), (.int .i64 (.ofNat 0)), (.int .i64 (.ofNat 0))]),
 x (.store 6 (.t 4) (.t 11))])
  (.region [m 12 0,
 o 13 (.nilck (.t 12)),
 o 14 (.faddr 2 (.t 13)),
 o 15 (.load false 1 (.t 14)),
 o 16 (.faddr 5 (.t 4)),
 o 17 (.load false 1 (.t 16)),
 m 18 0,
 o 19 (.nilck (.t 18)),
 o 20 (.faddr 2 (.t 19)),
 o 21 (.load false 1 (.t 20)),
 o 22 (.faddr 4 (.t 4)),
 o 23 (.load false 1 (.t 22)),
 o 24 (.faddr 4 (.t 4)),
 o 25 (.load false 1 (.t 24)),
 o 26 (.faddr 5 (.t 4)),
 o 27 (.load false 1 (.t 26)),
 o 28 (.iasl 6 (.t 15) (.t 17)),
 o 29 (.faddr 4 (.t 28)),
 x (.store 1 (.t 29) (.t 25)),
 .again ⟨(some 27), none, (.r (.load false 1 (.t 26)))⟩,
 .again ⟨(some 23), none, (.r (.load false 1 (.t 22)))⟩,
 o 30 (.iasl 6 (.t 21) (.t 23)),
 o 31 (.faddr 5 (.t 30)),
 x (.store 1 (.t 31) (.t 27))])) }
theorem tr181 : trF cx Tryz.f181 = pf181 := by kernel_rfl
/-- (*depot/pack.Reader).fail -/
def pf182 : PF := { ntmps := 14, results := [], body :=
  (.region [m 6 0,
 m 7 0,
 m 8 1,
 m 9 2,
 o 10 (.nilck (.t 6)),
 o 11 (.faddr 1 (.t 10)),
 x (.store 1 (.t 11) (.t 8)),
 o 12 (.nilck (.t 7)),
 o 13 (.faddr 2 (.t 12)),
 x (.store 1 (.t 13) (.t 9))]) }
theorem tr182 : trF cx Tryz.f182 = pf182 := by kernel_rfl
/-- (*depot/chain.Chain).step -/
def pf185 : PF := { ntmps := 84, results := [], body :=
  (.seq (.seq (.region [m 6 0,
 o 7 (.nilck (.t 6)),
 o 8 (.faddr 1 (.t 7)),
 o 9 (.load false 1 (.t 8)),
 o 10 (.lensl (.t 9)),
 o 11 (.bin .eql (.t 10) (ci 0))])
  (.cond (.t 11)
   .ret
   .skip))
  (.seq (.region [m 12 0,
 o 13 (.nilck (.t 12)),
 o 14 (.faddr 1 (.t 13)),
 o 15 (.load false 1 (.t 14)),
 m 16 0,
 o 17 (.nilck (.t 16)),
 o 18 (.faddr 2 (.t 17)),
 o 19 (.load false 1 (.t 18)),
 o 20 (.iasl 1 (.t 15) (.t 19)),
 o 21 (.load false 1 (.t 20)),
 m 2 21])
  (.seq (.region [m 22 0,
 o 23 (.nilck (.t 22)),
 o 24 (.faddr 1 (.t 23)),
 o 25 (.load false 1 (.t 24)),
 m 26 0,
 o 27 (.nilck (.t 26)),
 o 28 (.faddr 2 (.t 27)),
 o 29 (.load false 1 (.t 28)),
 o 30 (.iasl 1 (.t 25) (.t 29)),
 x (.store 1 (.t 30) (.c .nils))])
  (.seq (.region [m 31 0,
 o 32 (.nilck (.t 31)),
 o 33 (.faddr 2 (.t 32)),
 o 34 (.load false 1 (.t 33)),
 o 35 (.bin .add (.t 34) (ci 1)),
 o 36 (.nilck (.t 31)),
 o 37 (.faddr 2 (.t 36)),
 x (.store 1 (.t 37) (.t 35))])
  (.seq (.seq (.region [m 38 2,
 o 39 (.lensl (.t 38)),
 o 40 (.mv (ci 0))])
  (.block 0 (.loop (.seq (.region [o 41 (.bin .lss (.t 40) (.t 39))])
    (.seq (.cond (.t 41)
     .skip
     (.exit 0))
    (.seq (.block 1 (.seq (.region [o 42 (.iasl 2 (.t 38) (.t 40)),
 o 43 (.load true 2 (.t 42)),
 n 4 (.new 0 [(.str []), (.int .i64 (.ofNat 0))]),
 x (.store 2 (.t 4) (.t 43))])
     (.seq (.region [m 44 0,
 o 45 (.nilck (.t 44)),
 o 46 (.faddr 0 (.t 45)),
 o 47 (.load false 1 (.t 46)),
 o 48 (.faddr 0 (.t 4)),
 o 49 (.load false 1 (.t 48)),
 m 52 0,
 o 53 (.nilck (.t 52)),
 o 54 (.faddr 0 (.t 53)),
 o 55 (.load false 1 (.t 54)),
 o 56 (.lensl (.t 55)),
 e 50 (.call 249 [(.t 49)]),
 .again ⟨(some 55), none, (.r (.load false 1 (.t 54)))⟩,
 .again ⟨(some 47), none, (.r (.load false 1 (.t 46)))⟩,
 o 51 (.cint .i64 (.t 50)),
 o 57 (.bin .rem (.t 51) (.t 56)),
 o 58 (.iasl 1 (.t 47) (.t 57)),
 m 5 58])
     (.region [m 59 5,
 m 60 5,
 o 61 (.nilck (.t 60)),
 o 62 (.load false 1 (.t 61)),
 o 63 (.load true 2 (.t 4)),
 n 64 (.bslice 0 2 1 [(.str []), (.int .i64 (.ofNat 0))] [(0, 2, (.t 63))]),
 e 65 (.app 0 2 24 (.t 62) (.t 64)),
 o 66 (.nilck (.t 59)),
 x (.store 1 (.t 66) (.t 65))]))))
    (.region [o 67 (.bin .add (.t 40) (ci 1)),
 m 40 67])))))))
  (.seq (.region [m 68 0,
 o 69 (.nilck (.t 68)),
 o 70 (.faddr 2 (.t 69)),
 o 71 (.load false 1 (.t 70)),
 m 72 0,
 o 73 (.nilck (.t 72)),
 o 74 (.faddr 1 (.t 73)),
 o 75 (.load false 1 (.t 74)),
 o 76 (.lensl (.t 75)),
 o 77 (.bin .eql (.t 71) (.t 76))])
  (.cond (.t 77)
   (.region [m 78 0,
 m 79 0,
 o 80 (.nilck (.t 78)),
 o 81 (.faddr 1 (.t 80)),
 x (.store 1 (.t 81) (.c .nils)),
 o 82 (.nilck (.t 79)),
 o 83 (.faddr 2 (.t 82)),
 x (.store 1 (.t 83) (ci 0))])
   .skip))))))) }
theorem tr185 : trF cx Tryz.f185 = pf185 := by kernel_rfl
/-- (*depot/chain.Chain).bucket -/
def pf186 : PF := { ntmps := 47, results := [.tmp 4], body :=
  (.seq (.region [o 4 (.mv (.c .nilp))])
  (.seq (.region [m 7 1,
 e 8 (.call 249 [(.t 7)]),
 o 9 (.cint .i64 (.t 8)),
 m 5 9])
  (.seq (.seq (.region [m 10 0,
 o 11 (.nilck (.t 10)),
 o 12 (.faddr 1 (.t 11)),
 o 13 (.load false 1 (.t 12)),
 o 14 (.lensl (.t 13)),
 m 6 14])
  (.seq (.region [m 15 6,
 o 16 (.bin .gtr (.t 15) (ci 0)),
 m 17 16,
 gm 18 17 true 5,
 gm 19 17 true 6,
 go 20 17 true (.bin .rem (.t 18) (.t 19)),
 gm 21 17 true 0,
 go 22 17 true (.nilck (.t 21)),
 go 23 17 true (.faddr 2 (.t 22)),
 go 24 17 true (.load false 1 (.t 23)),
 go 25 17 true (.bin .geq (.t 20) (.t 24)),
 o 26 (.pick (.t 17) (.t 25) (.c (.bool false)))])
  (.cond (.t 26)
   (.seq (.region [m 27 0,
 o 28 (.nilck (.t 27)),
 o 29 (.faddr 1 (.t 28)),
 o 30 (.load false 1 (.t 29)),
 m 31 5,
 m 32 6,
 o 33 (.bin .rem (.t 31) (.t 32)),
 o 34 (.iasl 1 (.t 30) (.t 33)),
 m 4 34])
   .ret)
   .skip)))
  (.seq (.region [m 35 0,
 o 36 (.nilck (.t 35)),
 o 37 (.faddr 0 (.t 36)),
 o 38 (.load false 1 (.t 37)),
 m 39 5,
 m 40 0,
 o 41 (.nilck (.t 40)),
 o 42 (.faddr 0 (.t 41)),
 o 43 (.load false 1 (.t 42)),
 o 44 (.lensl (.t 43)),
 o 45 (.bin .rem (.t 39) (.t 44)),
 o 46 (.iasl 1 (.t 38) (.t 45)),
 m 4 46])
  .ret)))) }
theorem tr186 : trF cx Tryz.f186 = pf186 := by kernel_rfl
/-- depot/chain.find -/
def pf187 : PF := { ntmps := 22, results := [.tmp 4], body :=
  (.seq (.region [o 4 (.mv (ci 0))])
  (.scope (.seq (.region [o 5 (.mv (.c (.int .i64 (.negSucc 0))))])
   (.seq .skip
   (.seq (.seq (.region [m 8 0,
 o 9 (.lensl (.t 8)),
 o 10 (.mv (ci 0))])
   (.block 0 (.loop (.seq (.region [o 11 (.bin .lss (.t 10) (.t 9))])
     (.seq (.cond (.t 11)
      .skip
      (.exit 0))
     (.seq (.block 1 (.seq (.region [m 12 10,
 o 13 (.iasl 2 (.t 8) (.t 10)),
 o 14 (.load true 2 (.t 13)),
 n 7 (.new 0 [(.str []), (.int .i64 (.ofNat 0))]),
 m 6 12,
 x (.store 2 (.t 7) (.t 14))])
      (.seq (.region [o 15 (.faddr 0 (.t 7)),
 o 16 (.load false 1 (.t 15)),
 m 17 1,
 o 18 (.bin .eql (.t 16) (.t 17))])
      (.cond (.t 18)
       (.seq (.region [m 19 6,
 m 5 19])
       (.exit 0))
       .skip))))
     (.region [o 20 (.bin .add (.t 10) (ci 1)),
 m 10 20])))))))
   (.seq (.region [m 21 5,
 m 4 21])
   .ret)))))) }
theorem tr187 : trF cx Tryz.f187 = pf187 := by kernel_rfl
/-- (*depot/pack.Reader).End -/
def pf188 : PF := { ntmps := 27, results := [.tmp 2], body :=
  (.seq (.region [o 2 (.mv (ci 0))])
  (.seq (.seq (.region [m 3 0,
 o 4 (.nilck (.t 3)),
 o 5 (.faddr 2 (.t 4)),
 o 6 (.load false 1 (.t 5)),
 o 7 (.bin .eql (.t 6) (ci 0)),
 m 8 7,
 gm 9 8 true 0,
 go 10 8 true (.nilck (.t 9)),
 go 11 8 true (.faddr 1 (.t 10)),
 go 12 8 true (.load false 1 (.t 11)),
 gm 13 8 true 0,
 go 14 8 true (.nilck (.t 13)),
 go 15 8 true (.faddr 0 (.t 14)),
 go 16 8 true (.load false 1 (.t 15)),
 go 17 8 true (.lensl (.t 16)),
 go 18 8 true (.bin .lss (.t 12) (.t 17)),
 o 19 (.pick (.t 8) (.t 18) (.c (.bool false)))])
  (.cond (.t 19)
   (.region [m 20 0,
 o 21 (.nilck (.t 20)),
 o 22 (.faddr 2 (.t 21)),
 x (.store 1 (.t 22) (ci 5))])
   .skip))
  (.seq (.region [m 23 0,
 o 24 (.nilck (.t 23)),
 o 25 (.faddr 2 (.t 24)),
 o 26 (.load false 1 (.t 25)),
 m 2 26])
  .ret))) }
theorem tr188 : trF cx Tryz.f188 = pf188 := by kernel_rfl
/-- depot/place.Stripe -/
def pf189 : PF := { ntmps := 44, results := [.tmp 6], body :=
  (.seq (.region [o 6 (.mv (.c .nils))])
  (.seq (.seq (.region [m 10 2,
 o 11 (.bin .lss (.t 10) (ci 1)),
 m 12 11,
 gm 13 12 false 2,
 go 14 12 false (.bin .gtr (.t 13) (ci 12)),
 o 15 (.pick (.t 12) (.c (.bool true)) (.t 14)),
 m 16 15,
 gm 17 16 false 1,
 go 18 16 false (.bin .lss (.t 17) (ci 0)),
 o 19 (.pick (.t 16) (.c (.bool true)) (.t 18)),
 m 20 19,
 gm 21 20 false 1,
 gm 22 20 false 2,
 go 23 20 false (.bin .gtr (.t 21) (.t 22)),
 o 24 (.pick (.t 20) (.c (.bool true)) (.t 23))])
  (.cond (.t 24)
   (.seq (.region [o 6 (.mv (.c .nils))])
   .ret)
   .skip))
  (.seq (.region [m 25 0,
 e 26 (.call 249 [(.t 25)]),
 o 27 (.cint .i64 (.t 26)),
 m 28 2,
 o 29 (.bin .rem (.t 27) (.t 28)),
 m 7 29])
  (.seq (.region [o 8 (.mv (.c .nils))])
  (.seq (.seq (.region [m 30 1,
 o 31 (.mv (ci 0))])
  (.block 0 (.loop (.seq (.region [o 32 (.bin .lss (.t 31) (.t 30))])
    (.seq (.cond (.t 32)
     .skip
     (.exit 0))
    (.seq (.block 1 (.seq (.region [m 33 31,
 m 9 33])
     (.region [m 34 8,
 m 35 7,
 m 36 9,
 o 37 (.bin .add (.t 35) (.t 36)),
 m 38 2,
 o 39 (.bin .rem (.t 37) (.t 38)),
 n 40 (.bslice 0 1 1 [(.int .i64 (.ofNat 0))] [(0, 1, (.t 39))]),
 e 41 (.app 0 1 8 (.t 34) (.t 40)),
 m 8 41])))
    (.region [o 42 (.bin .add (.t 31) (ci 1)),
 m 31 42])))))))
  (.seq (.region [m 43 8,
 m 6 43])
  .ret)))))) }
theorem tr189 : trF cx Tryz.f189 = pf189 := by kernel_rfl
/-- (*depot/gather.Gather).Next -/
def pf190 : PF := { ntmps := 74, results := [.tmp 2], body :=
  (.seq (.region [o 2 (.mv (.c .nils))])
  (.scope (.seq (.region [o 3 (.mv (.c .nils))])
   (.seq .skip
   (.seq (.block 0 (.loop (.seq (.seq (.region [m 4 0,
 o 5 (.nilck (.t 4)),
 o 6 (.faddr 3 (.t 5)),
 o 7 (.load false 1 (.t 6)),
 m 8 0,
 o 9 (.nilck (.t 8)),
 o 10 (.faddr 2 (.t 9)),
 o 11 (.load false 1 (.t 10)),
 o 12 (.lensl (.t 11)),
 o 13 (.bin .lss (.t 7) (.t 12))])
     (.cond (.t 13)
      .skip
      (.exit 0)))
     (.block 1 (.seq (.seq (.region [m 14 0,
 o 15 (.nilck (.t 14)),
 o 16 (.faddr 5 (.t 15)),
 o 17 (.load false 1 (.t 16)),
 o 18 (.lensl (.t 17)),
 m 19 0,
 o 20 (.nilck (.t 19)),
 o 21 (.faddr 0 (.t 20)),
 o 22 (.load false 1 (.t 21)),
 o 23 (.bin .geq (.t 18) (.t 22)),
 m 24 23,
 gm 25 24 false 0,
 go 26 24 false (.nilck (.t 25)),
 go 27 24 false (.faddr 5 (.t 26)),
 go 28 24 false (.load false 1 (.t 27)),
 go 29 24 false (.lensl (.t 28)),
 gm 30 24 false 0,
 go 31 24 false (.nilck (.t 30)),
 go 32 24 false (.faddr 4 (.t 31)),
 go 33 24 false (.load false 1 (.t 32)),
 go 34 24 false (.bin .add (.t 29) (.t 33)),
 gm 35 24 false 0,
 go 36 24 false (.nilck (.t 35)),
 go 37 24 false (.faddr 0 (.t 36)),
 go 38 24 false (.load false 1 (.t 37)),
 gm 39 24 false 0,
 go 40 24 false (.nilck (.t 39)),
 go 41 24 false (.faddr 1 (.t 40)),
 go 42 24 false (.load false 1 (.t 41)),
 go 43 24 false (.bin .add (.t 38) (.t 42)),
 go 44 24 false (.bin .geq (.t 34) (.t 43)),
 o 45 (.pick (.t 24) (.c (.bool true)) (.t 44))])
      (.cond (.t 45)
       (.exit 0)
       .skip))
      (.seq (.region [m 46 3,
 m 47 0,
 o 48 (.nilck (.t 47)),
 o 49 (.faddr 2 (.t 48)),
 o 50 (.load false 1 (.t 49)),
 m 51 0,
 o 52 (.nilck (.t 51)),
 o 53 (.faddr 3 (.t 52)),
 o 54 (.load false 1 (.t 53)),
 o 55 (.iasl 1 (.t 50) (.t 54)),
 o 56 (.load false 1 (.t 55)),
 n 57 (.bslice 0 1 1 [(.int .i64 (.ofNat 0))] [(0, 1, (.t 56))]),
 e 58 (.app 0 1 8 (.t 46) (.t 57)),
 m 3 58])
      (.seq (.region [m 59 0,
 o 60 (.nilck (.t 59)),
 o 61 (.faddr 3 (.t 60)),
 o 62 (.load false 1 (.t 61)),
 o 63 (.bin .add (.t 62) (ci 1)),
 o 64 (.nilck (.t 59)),
 o 65 (.faddr 3 (.t 64)),
 x (.store 1 (.t 65) (.t 63))])
      (.region [m 66 0,
 o 67 (.nilck (.t 66)),
 o 68 (.faddr 4 (.t 67)),
 o 69 (.load false 1 (.t 68)),
 o 70 (.bin .add (.t 69) (ci 1)),
 o 71 (.nilck (.t 66)),
 o 72 (.faddr 4 (.t 71)),
 x (.store 1 (.t 72) (.t 70))]))))))))
   (.seq (.region [m 73 3,
 m 2 73])
   .ret)))))) }
theorem tr190 : trF cx Tryz.f190 = pf190 := by kernel_rfl
/-- (*depot/task.Task).ask -/
def pf191 : PF := { ntmps := 30, results := [], body :=
  (.seq (.region [n 5 (.box (.t 2))])
  (.seq (.region [m 6 1,
 m 7 0,
 o 8 (.nilck (.t 7)),
 o 9 (.faddr 7 (.t 8)),
 o 10 (.load false 1 (.t 9)),
 o 11 (.faddr 1 (.t 5)),
 x (.store 1 (.t 11) (.t 6)),
 .again ⟨(some 10), none, (.r (.load false 1 (.t 9)))⟩,
 o 12 (.faddr 6 (.t 5)),
 x (.store 1 (.t 12) (.t 10))])
  (.seq (.region [m 13 0,
 m 14 0,
 o 15 (.nilck (.t 14)),
 o 16 (.faddr 36 (.t 15)),
 o 17 (.load false 1 (.t 16)),
 o 18 (.load true 9 (.t 5)),
 n 19 (.bslice 0 9 1 [(.int .i64 (.ofNat 0)), (.int .i64 (.ofNat 0)), (.int .i64 (.ofNat 0)), (.int .i64 (.ofNat 0)), (.int .i64 (.ofNat 0)), (.int .i64 (.ofNat 0)), (.str []), (.int .i64 (.ofNat 0)), (.str [])] [(0, 9, (.t 18))]),
 e 20 (.app 0 9 88 (.t 17) (.t 19)),
 o 21 (.nilck (.t 13)),
 o 22 (.faddr 36 (.t 21)),
 x (.store 1 (.t 22) (.t 20))])
  (.region [m 23 0,
 o 24 (.nilck (.t 23)),
 o 25 (.faddr 22 (.t 24)),
 o 26 (.load false 1 (.t 25)),
 o 27 (.bin .add (.t 26) (ci 1)),
 o 28 (.nilck (.t 23)),
 o 29 (.faddr 22 (.t 28)),
 x (.store 1 (.t 29) (.t 27))])))) }
theorem tr191 : trF cx Tryz.f191 = pf191 := by kernel_rfl
/-- (*depot/task.Task).gathered -/
def pf192 : PF := { ntmps := 84, results := [], body :=
  (.seq (.region [n 3 (.box (.t 1))])
  (.seq (.region [m 6 0,
 o 7 (.nilck (.t 6)),
 o 8 (.faddr 44 (.t 7)),
 o 9 (.load false 1 (.t 8)),
 e 10 (.call 250 [(.t 9)]),
 m 4 10])
  (.seq (.seq (.region [m 11 4,
 o 12 (.bin .eql (.t 11) (ci 0))])
  (.cond (.t 12)
   .ret
   .skip))
  (.seq (.region [o 5 (.mv (ci 3))])
  (.seq (.seq (.region [m 13 4,
 o 14 (.bin .eql (.t 13) (ci 1))])
  (.cond (.t 14)
   (.region [m 16 0,
 m 17 0,
 o 18 (.nilck (.t 17)),
 o 19 (.faddr 6 (.t 18)),
 o 20 (.load false 1 (.t 19)),
 m 21 0,
 o 22 (.nilck (.t 21)),
 o 23 (.faddr 37 (.t 22)),
 o 24 (.faddr 4 (.t 23)),
 o 25 (.load false 1 (.t 24)),
 m 26 0,
 o 27 (.nilck (.t 26)),
 o 28 (.faddr 44 (.t 27)),
 o 29 (.load false 1 (.t 28)),
 e 30 (.call 252 [(.t 29)]),
 .again ⟨(some 25), none, (.r (.load false 1 (.t 24)))⟩,
 .again ⟨(some 20), none, (.r (.load false 1 (.t 19)))⟩,
 e 31 (.call 251 [(.t 20), (.t 25), (.t 30)]),
 m 15 31,
 o 32 (.ext 0 (.t 15)),
 o 33 (.ext 1 (.t 15)),
 o 34 (.nilck (.t 16)),
 o 35 (.faddr 45 (.t 34)),
 x (.store 1 (.t 35) (.t 32)),
 m 5 33])
   .skip))
  (.block 0 (.seq (.region [m 49 5,
 o 50 (.bin .neq (.t 49) (ci 0)),
 m 48 50])
   (.cond (.t 48)
    (.seq (.region [m 51 0,
 o 52 (.nilck (.t 51)),
 o 53 (.faddr 43 (.t 52)),
 x (.store 1 (.t 53) (.c (.bool false)))])
    (.seq (.region [m 54 0,
 m 55 0,
 o 56 (.nilck (.t 55)),
 o 57 (.faddr 51 (.t 56)),
 o 58 (.load false 1 (.t 57)),
 m 59 0,
 o 60 (.nilck (.t 59)),
 o 61 (.faddr 37 (.t 60)),
 o 62 (.faddr 0 (.t 61)),
 o 63 (.load false 1 (.t 62)),
 n 64 (.bslice 0 1 1 [(.int .i64 (.ofNat 0))] [(0, 1, (.t 63))]),
 e 65 (.app 0 1 8 (.t 58) (.t 64)),
 o 66 (.nilck (.t 54)),
 o 67 (.faddr 51 (.t 66)),
 x (.store 1 (.t 67) (.t 65))])
    (.region [m 68 0,
 o 69 (.load true 14 (.t 3)),
 m 70 0,
 o 71 (.nilck (.t 70)),
 o 72 (.faddr 42 (.t 71)),
 o 73 (.load false 1 (.t 72)),
 o 74 (.bad)])))
    (.seq (.region [m 76 0,
 o 77 (.nilck (.t 76)),
 o 78 (.faddr 17 (.t 77)),
 o 79 (.load false 1 (.t 78)),
 o 80 (.bin .lss (.t 79) (ci 0)),
 m 75 80])
    (.cond (.t 75)
     (.region [m 81 0,
 o 82 (.load true 14 (.t 3)),
 e 83 (.call 197 [(.t 81), (.t 82)])])
     (.region [m 36 0,
 o 37 (.load true 14 (.t 3)),
 m 38 0,
 o 39 (.nilck (.t 38)),
 o 40 (.faddr 6 (.t 39)),
 o 41 (.load false 1 (.t 40)),
 m 42 0,
 o 43 (.nilck (.t 42)),
 o 44 (.faddr 45 (.t 43)),
 o 45 (.load false 1 (.t 44)),
 e 46 (.call 255 [(.t 41), (.t 45)]),
 .again ⟨(some 37), none, (.r (.load true 14 (.t 3)))⟩,
 o 47 (.bad)]))))))))))) }
theorem tr192 : trF cx Tryz.f192 = pf192 := by kernel_rfl
/-- (*depot/task.Task).found -/
def pf193 : PF := { ntmps := 117, results := [], body :=
  (.seq (.region [n 3 (.box (.t 1))])
  (.seq (.region [m 4 0,
 m 5 0,
 o 6 (.nilck (.t 5)),
 o 7 (.faddr 42 (.t 6)),
 o 8 (.load false 1 (.t 7)),
 o 9 (.faddr 13 (.t 3)),
 o 10 (.load false 1 (.t 9)),
 o 11 (.bin .gtr (.t 8) (.t 10)),
 m 12 11,
 gm 13 12 true 0,
 go 14 12 true (.nilck (.t 13)),
 go 15 12 true (.faddr 42 (.t 14)),
 go 16 12 true (.load false 1 (.t 15)),
 go 17 12 true (.bin .gtr (.t 16) (ci 0)),
 o 18 (.pick (.t 12) (.t 17) (.c (.bool false))),
 m 19 18,
 gm 20 19 true 0,
 go 21 19 true (.nilck (.t 20)),
 go 22 19 true (.faddr 37 (.t 21)),
 go 23 19 true (.faddr 3 (.t 22)),
 go 24 19 true (.load false 1 (.t 23)),
 go 25 19 true (.faddr 12 (.t 3)),
 go 26 19 true (.load false 1 (.t 25)),
 .op ⟨(some 27), (some (19, true)), (.e (.call 256 [(.t 24), (.t 26)]))⟩,
 o 28 (.pick (.t 19) (.t 27) (.c (.bool false))),
 o 29 (.nilck (.t 4)),
 o 30 (.faddr 43 (.t 29)),
 x (.store 1 (.t 30) (.t 28))])
  (.seq (.seq (.region [m 31 0,
 o 32 (.nilck (.t 31)),
 o 33 (.faddr 42 (.t 32)),
 o 34 (.load false 1 (.t 33)),
 o 35 (.bin .gtr (.t 34) (ci 0)),
 m 36 35,
 gm 37 36 true 0,
 go 38 36 true (.nilck (.t 37)),
 go 39 36 true (.faddr 43 (.t 38)),
 go 40 36 true (.load false 1 (.t 39)),
 go 41 36 true (.un .not (.t 40)),
 o 42 (.pick (.t 36) (.t 41) (.c (.bool false)))])
  (.cond (.t 42)
   (.region [m 43 0,
 m 44 0,
 o 45 (.nilck (.t 44)),
 o 46 (.faddr 51 (.t 45)),
 o 47 (.load false 1 (.t 46)),
 m 48 0,
 o 49 (.nilck (.t 48)),
 o 50 (.faddr 37 (.t 49)),
 o 51 (.faddr 0 (.t 50)),
 o 52 (.load false 1 (.t 51)),
 n 53 (.bslice 0 1 1 [(.int .i64 (.ofNat 0))] [(0, 1, (.t 52))]),
 e 54 (.app 0 1 8 (.t 47) (.t 53)),
 o 55 (.nilck (.t 43)),
 o 56 (.faddr 51 (.t 55)),
 x (.store 1 (.t 56) (.t 54))])
   .skip))
  (.block 0 (.seq (.region [m 61 0,
 o 62 (.nilck (.t 61)),
 o 63 (.faddr 17 (.t 62)),
 o 64 (.load false 1 (.t 63)),
 o 65 (.bin .geq (.t 64) (ci 0)),
 m 66 65,
 gm 67 66 true 0,
 go 68 66 true (.nilck (.t 67)),
 go 69 66 true (.faddr 43 (.t 68)),
 go 70 66 true (.load false 1 (.t 69)),
 go 71 66 true (.un .not (.t 70)),
 o 72 (.pick (.t 66) (.t 71) (.c (.bool false))),
 m 60 72])
   (.cond (.t 60)
    (.region [m 73 0,
 o 74 (.load true 14 (.t 3)),
 e 75 (.call 196 [(.t 73), (.t 74)])])
    (.seq (.region [m 77 0,
 o 78 (.nilck (.t 77)),
 o 79 (.faddr 42 (.t 78)),
 o 80 (.load false 1 (.t 79)),
 o 81 (.bin .eql (.t 80) (ci 0)),
 m 82 81,
 gm 83 82 true 0,
 go 84 82 true (.load true 14 (.t 3)),
 .op ⟨(some 85), (some (82, true)), (.e (.call 257 [(.t 83), (.t 84)]))⟩,
 o 86 (.pick (.t 82) (.t 85) (.c (.bool false))),
 m 76 86])
    (.cond (.t 76)
     (.region [m 87 0,
 o 88 (.load true 14 (.t 3)),
 m 89 0,
 o 90 (.nilck (.t 89)),
 o 91 (.faddr 18 (.t 90)),
 o 92 (.load false 1 (.t 91)),
 o 93 (.bad)])
     (.seq (.region [m 95 0,
 o 96 (.nilck (.t 95)),
 o 97 (.faddr 43 (.t 96)),
 o 98 (.load false 1 (.t 97)),
 m 99 98,
 gm 100 99 true 0,
 go 101 99 true (.nilck (.t 100)),
 go 102 99 true (.faddr 17 (.t 101)),
 go 103 99 true (.load false 1 (.t 102)),
 go 104 99 true (.bin .geq (.t 103) (ci 0)),
 gm 105 99 true 104,
 gm 106 105 false 0,
 go 107 105 false (.nilck (.t 106)),
 go 108 105 false (.faddr 8 (.t 107)),
 go 109 105 false (.faddr 0 (.t 108)),
 go 110 105 false (.load false 1 (.t 109)),
 .op ⟨(some 111), (some (105, false)), (.e (.call 258 [(.t 110)]))⟩,
 go 112 99 true (.pick (.t 105) (.c (.bool true)) (.t 111)),
 o 113 (.pick (.t 99) (.t 112) (.c (.bool false))),
 m 94 113])
     (.cond (.t 94)
      (.region [m 114 0,
 o 115 (.load true 14 (.t 3)),
 e 116 (.call 259 [(.t 114), (.t 115)])])
      (.region [m 57 0,
 o 58 (.load true 14 (.t 3)),
 e 59 (.call 197 [(.t 57), (.t 58)])]))))))))))) }
theorem tr193 : trF cx Tryz.f193 = pf193 := by kernel_rfl
/-- (*depot/task.Task).scattered -/
def pf194 : PF := { ntmps := 31, results := [], body :=
  (.seq (.region [n 3 (.box (.t 1))])
  (.seq (.seq (.region [m 4 0,
 o 5 (.nilck (.t 4)),
 o 6 (.faddr 23 (.t 5)),
 o 7 (.load false 1 (.t 6)),
 m 8 0,
 o 9 (.nilck (.t 8)),
 o 10 (.faddr 0 (.t 9)),
 o 11 (.faddr 0 (.t 10)),
 o 12 (.load false 1 (.t 11)),
 o 13 (.bin .geq (.t 7) (.t 12))])
  (.cond (.t 13)
   (.seq (.region [m 14 0,
 o 15 (.load true 14 (.t 3)),
 e 16 (.call 260 [(.t 14), (.t 15)])])
   .ret)
   .skip))
  (.seq (.region [m 17 0,
 o 18 (.build [(.int .i64 (.ofNat 0)), .nils, (.bool false), (.int .u64 (.ofNat 0)), (.str []), (.int .i64 (.ofNat 0)), (.int .i64 (.ofNat 0)), (.int .i64 (.ofNat 0)), (.int .i64 (.ofNat 0))] [(0, 1, (ci 14)), (4, 1, (.c (.str [111, 117, 116, 32, 111, 102, 32, 109, 101, 109, 111, 114, 121, 32, 115, 116, 111, 114, 105, 110, 103, 32, 111, 98, 106, 101, 99, 116])))]),
 e 19 (.call 198 [(.t 17), (.t 18)])])
  (.seq (.region [m 20 0,
 m 21 0,
 o 22 (.nilck (.t 21)),
 o 23 (.faddr 18 (.t 22)),
 o 24 (.load false 1 (.t 23)),
 n 25 (.bslice 0 1 1 [(.int .i64 (.ofNat 0))] [(0, 1, (.t 24))]),
 o 26 (.nilck (.t 20)),
 o 27 (.faddr 51 (.t 26)),
 x (.store 1 (.t 27) (.t 25))])
  (.region [m 28 0,
 o 29 (.load true 14 (.t 3)),
 e 30 (.call 196 [(.t 28), (.t 29)])]))))) }
theorem tr194 : trF cx Tryz.f194 = pf194 := by kernel_rfl
/-- (*depot/task.Task).written -/
def pf195 : PF := { ntmps := 66, results := [], body :=
  (.seq (.region [n 3 (.box (.t 1))])
  (.seq (.seq (.region [m 4 0,
 o 5 (.nilck (.t 4)),
 o 6 (.faddr 23 (.t 5)),
 o 7 (.load false 1 (.t 6)),
 o 8 (.bin .gtr (.t 7) (ci 0))])
  (.cond (.t 8)
   (.region [m 9 0,
 m 10 0,
 o 11 (.nilck (.t 10)),
 o 12 (.faddr 52 (.t 11)),
 o 13 (.load true 9 (.t 12)),
 e 14 (.call 198 [(.t 9), (.t 13)])])
   (.seq (.region [m 15 0,
 o 16 (.build [(.int .i64 (.ofNat 0)), .nils, (.bool false), (.int .u64 (.ofNat 0)), (.str []), (.int .i64 (.ofNat 0)), (.int .i64 (.ofNat 0)), (.int .i64 (.ofNat 0)), (.int .i64 (.ofNat 0))] [(0, 1, (ci 14)), (4, 1, (.c (.str [111, 117, 116, 32, 111, 102, 32, 109, 101, 109, 111, 114, 121, 32, 115, 116, 111, 114, 105, 110, 103, 32, 111, 98, 106, 101, 99, 116])))]),
 e 17 (.call 198 [(.t 15), (.t 16)])])
   (.region [m 18 0,
 m 19 0,
 o 20 (.nilck (.t 19)),
 o 21 (.faddr 51 (.t 20)),
 o 22 (.load false 1 (.t 21)),
 m 23 0,
 o 24 (.nilck (.t 23)),
 o 25 (.faddr 46 (.t 24)),
 o 26 (.faddr 0 (.t 25)),
 o 27 (.load false 1 (.t 26)),
 n 28 (.bslice 0 1 1 [(.int .i64 (.ofNat 0))] [(0, 1, (.t 27))]),
 e 29 (.app 0 1 8 (.t 22) (.t 28)),
 o 30 (.nilck (.t 18)),
 o 31 (.faddr 51 (.t 30)),
 x (.store 1 (.t 31) (.t 29))]))))
  (.seq (.seq (.region [m 32 0,
 o 33 (.nilck (.t 32)),
 o 34 (.faddr 43 (.t 33)),
 o 35 (.load false 1 (.t 34)),
 m 36 35,
 gm 37 36 true 0,
 go 38 36 true (.nilck (.t 37)),
 go 39 36 true (.faddr 37 (.t 38)),
 go 40 36 true (.faddr 0 (.t 39)),
 go 41 36 true (.load false 1 (.t 40)),
 gm 42 36 true 0,
 go 43 36 true (.nilck (.t 42)),
 go 44 36 true (.faddr 46 (.t 43)),
 go 45 36 true (.faddr 0 (.t 44)),
 go 46 36 true (.load false 1 (.t 45)),
 go 47 36 true (.bin .neq (.t 41) (.t 46)),
 o 48 (.pick (.t 36) (.t 47) (.c (.bool false)))])
  (.cond (.t 48)
   (.region [m 49 0,
 m 50 0,
 o 51 (.nilck (.t 50)),
 o 52 (.faddr 51 (.t 51)),
 o 53 (.load false 1 (.t 52)),
 m 54 0,
 o 55 (.nilck (.t 54)),
 o 56 (.faddr 37 (.t 55)),
 o 57 (.faddr 0 (.t 56)),
 o 58 (.load false 1 (.t 57)),
 n 59 (.bslice 0 1 1 [(.int .i64 (.ofNat 0))] [(0, 1, (.t 58))]),
 e 60 (.app 0 1 8 (.t 53) (.t 59)),
 o 61 (.nilck (.t 49)),
 o 62 (.faddr 51 (.t 61)),
 x (.store 1 (.t 62) (.t 60))])
   .skip))
  (.region [m 63 0,
 o 64 (.load true 14 (.t 3)),
 e 65 (.call 196 [(.t 63), (.t 64)])])))) }
theorem tr195 : trF cx Tryz.f195 = pf195 := by kernel_rfl
/-- (*depot/task.Task).clean -/
def pf196 : PF := { ntmps := 30, results := [], body :=
  (.seq (.region [n 3 (.box (.t 1))])
  (.seq (.region [m 6 0,
 e 7 (.call 212 [(.t 6), (ci 8)])])
  (.seq (.seq (.region [m 8 0,
 o 9 (.nilck (.t 8)),
 o 10 (.faddr 51 (.t 9)),
 o 11 (.load false 1 (.t 10)),
 o 12 (.lensl (.t 11)),
 o 13 (.mv (ci 0))])
  (.block 0 (.loop (.seq (.region [o 14 (.bin .lss (.t 13) (.t 12))])
    (.seq (.cond (.t 14)
     .skip
     (.exit 0))
    (.seq (.block 1 (.seq (.region [o 15 (.iasl 1 (.t 11) (.t 13)),
 o 16 (.load false 1 (.t 15)),
 m 5 16])
     (.region [m 17 0,
 o 18 (.load true 14 (.t 3)),
 m 19 0,
 o 20 (.nilck (.t 19)),
 o 21 (.faddr 19 (.t 20)),
 o 22 (.load false 1 (.t 21)),
 m 23 5,
 o 24 (.build [(.int .i64 (.ofNat 0)), (.int .i64 (.ofNat 0)), (.int .i64 (.ofNat 0)), (.int .i64 (.ofNat 0)), (.int .i64 (.ofNat 0)), (.int .i64 (.ofNat 0)), (.str []), (.int .i64 (.ofNat 0)), (.str [])] [(0, 1, (ci 3)), (5, 1, (ci 2)), (7, 1, (.t 23))]),
 e 25 (.call 261 [(.t 17), (.t 18), (.t 22), (.t 24)])])))
    (.region [o 26 (.bin .add (.t 13) (ci 1)),
 m 13 26])))))))
  (.region [m 27 0,
 o 28 (.load true 14 (.t 3)),
 e 29 (.call 146 [(.t 27), (.t 28)])])))) }
theorem tr196 : trF cx Tryz.f196 = pf196 := by kernel_rfl
/-- (*depot/task.Task).decide -/
def pf197 : PF := { ntmps := 182, results := [], body :=
  (.seq (.region [n 3 (.box (.t 1))])
  (.seq (.region [m 11 0,
 o 12 (.nilck (.t 11)),
 o 13 (.faddr 37 (.t 12)),
 o 14 (.load true 5 (.t 13)),
 n 4 (.new 0 [(.int .i64 (.ofNat 0)), (.int .i64 (.ofNat 0)), (.int .i64 (.ofNat 0)), (.int .i64 (.ofNat 0)), (.int .i64 (.ofNat 0))]),
 x (.store 5 (.t 4) (.t 14))])
  (.seq (.seq (.region [m 15 0,
 o 16 (.nilck (.t 15)),
 o 17 (.faddr 8 (.t 16)),
 o 18 (.faddr 0 (.t 17)),
 o 19 (.load false 1 (.t 18)),
 o 20 (.bin .eql (.t 19) (ci 1)),
 m 21 20,
 gm 22 21 false 0,
 go 23 21 false (.nilck (.t 22)),
 go 24 21 false (.faddr 8 (.t 23)),
 go 25 21 false (.faddr 0 (.t 24)),
 go 26 21 false (.load false 1 (.t 25)),
 go 27 21 false (.bin .eql (.t 26) (ci 2)),
 o 28 (.pick (.t 21) (.c (.bool true)) (.t 27))])
  (.cond (.t 28)
   (.seq (.region [m 29 0,
 o 30 (.nilck (.t 29)),
 o 31 (.faddr 8 (.t 30)),
 o 32 (.faddr 0 (.t 31)),
 o 33 (.load false 1 (.t 32)),
 o 34 (.bin .eql (.t 33) (ci 2)),
 o 35 (.build [(.int .i64 (.ofNat 0)), .nils, (.bool false), (.int .u64 (.ofNat 0)), (.str []), (.int .i64 (.ofNat 0)), (.int .i64 (.ofNat 0)), (.int .i64 (.ofNat 0)), (.int .i64 (.ofNat 0))] [(0, 1, (ci 1)), (2, 1, (.t 34))]),
 n 5 (.new 0 [(.int .i64 (.ofNat 0)), .nils, (.bool false), (.int .u64 (.ofNat 0)), (.str []), (.int .i64 (.ofNat 0)), (.int .i64 (.ofNat 0)), (.int .i64 (.ofNat 0)), (.int .i64 (.ofNat 0))]),
 x (.store 9 (.t 5) (.t 35))])
   (.seq (.seq (.region [m 36 0,
 o 37 (.nilck (.t 36)),
 o 38 (.faddr 43 (.t 37)),
 o 39 (.load false 1 (.t 38))])
   (.cond (.t 39)
    (.region [m 40 0,
 o 41 (.nilck (.t 40)),
 o 42 (.faddr 7 (.t 41)),
 o 43 (.load false 1 (.t 42)),
 o 44 (.faddr 2 (.t 4)),
 o 45 (.load false 1 (.t 44)),
 m 46 0,
 o 47 (.nilck (.t 46)),
 o 48 (.faddr 45 (.t 47)),
 o 49 (.load false 1 (.t 48)),
 o 50 (.faddr 1 (.t 4)),
 o 51 (.load false 1 (.t 50)),
 o 52 (.build [(.str []), (.int .i64 (.ofNat 0)), (.str []), (.int .i64 (.ofNat 0))] [(0, 1, (.t 43)), (1, 1, (.t 45)), (2, 1, (.t 49)), (3, 1, (.t 51))]),
 n 53 (.bslice 0 4 1 [(.str []), (.int .i64 (.ofNat 0)), (.str []), (.int .i64 (.ofNat 0))] [(0, 4, (.t 52))]),
 o 54 (.faddr 1 (.t 5)),
 x (.store 1 (.t 54) (.t 53))])
    .skip))
   (.seq (.region [m 55 0,
 o 56 (.load true 9 (.t 5)),
 e 57 (.call 198 [(.t 55), (.t 56)])])
   (.seq (.region [m 58 0,
 o 59 (.load true 14 (.t 3)),
 e 60 (.call 196 [(.t 58), (.t 59)])])
   .ret))))
   .skip))
  (.seq (.region [m 61 0,
 o 62 (.nilck (.t 61)),
 o 63 (.faddr 7 (.t 62)),
 o 64 (.load false 1 (.t 63)),
 o 65 (.faddr 2 (.t 4)),
 o 66 (.load false 1 (.t 65)),
 o 67 (.faddr 3 (.t 4)),
 o 68 (.load false 1 (.t 67)),
 m 69 0,
 o 70 (.nilck (.t 69)),
 o 71 (.faddr 45 (.t 70)),
 o 72 (.load false 1 (.t 71)),
 o 73 (.faddr 1 (.t 4)),
 o 74 (.load false 1 (.t 73)),
 o 75 (.build [(.str []), (.int .i64 (.ofNat 0)), (.int .i64 (.ofNat 0)), (.str []), (.int .i64 (.ofNat 0))] [(0, 1, (.t 64)), (1, 1, (.t 66)), (2, 1, (.t 68)), (3, 1, (.t 72)), (4, 1, (.t 74))]),
 n 6 (.new 0 [(.str []), (.int .i64 (.ofNat 0)), (.int .i64 (.ofNat 0)), (.str []), (.int .i64 (.ofNat 0))]),
 x (.store 5 (.t 6) (.t 75))])
  (.seq (.region [m 77 0,
 o 78 (.nilck (.t 77)),
 o 79 (.faddr 8 (.t 78)),
 o 80 (.load true 9 (.t 79)),
 o 81 (.load true 5 (.t 6)),
 m 82 0,
 o 83 (.nilck (.t 82)),
 o 84 (.faddr 43 (.t 83)),
 o 85 (.load false 1 (.t 84)),
 o 86 (.faddr 12 (.t 3)),
 o 87 (.load false 1 (.t 86)),
 m 88 0,
 o 89 (.nilck (.t 88)),
 o 90 (.faddr 18 (.t 89)),
 o 91 (.load false 1 (.t 90)),
 n 7 (.new 0 [(.int .i64 (.ofNat 0)), .nils, (.bool false), (.int .u64 (.ofNat 0)), (.str []), (.int .i64 (.ofNat 0)), (.int .i64 (.ofNat 0)), (.int .i64 (.ofNat 0)), (.int .i64 (.ofNat 0))]),
 n 8 (.new 0 [(.str []), (.int .i64 (.ofNat 0)), (.int .i64 (.ofNat 0)), (.str []), (.int .i64 (.ofNat 0))]),
 e 92 (.call 262 [(.t 80), (.t 81), (.t 85), (.t 87), (.t 91)]),
 m 76 92,
 o 93 (.ext 0 (.t 76)),
 o 94 (.ext 1 (.t 76)),
 o 95 (.ext 2 (.t 76)),
 o 96 (.ext 3 (.t 76)),
 x (.store 9 (.t 7) (.t 93)),
 x (.store 5 (.t 8) (.t 94)),
 m 9 95,
 m 10 96])
  (.seq (.region [m 97 0,
 o 98 (.load true 9 (.t 7)),
 o 99 (.nilck (.t 97)),
 o 100 (.faddr 52 (.t 99)),
 x (.store 9 (.t 100) (.t 98))])
  (.block 0 (.seq (.region [m 124 10,
 m 123 124])
   (.cond (.t 123)
    (.seq (.region [m 125 0,
 m 126 0,
 o 127 (.nilck (.t 126)),
 o 128 (.faddr 51 (.t 127)),
 o 129 (.load false 1 (.t 128)),
 o 130 (.faddr 0 (.t 4)),
 o 131 (.load false 1 (.t 130)),
 n 132 (.bslice 0 1 1 [(.int .i64 (.ofNat 0))] [(0, 1, (.t 131))]),
 e 133 (.app 0 1 8 (.t 129) (.t 132)),
 o 134 (.nilck (.t 125)),
 o 135 (.faddr 51 (.t 134)),
 x (.store 1 (.t 135) (.t 133))])
    (.seq (.region [m 136 0,
 e 137 (.call 212 [(.t 136), (ci 6)])])
    (.seq (.region [m 138 0,
 o 139 (.load true 14 (.t 3)),
 m 140 0,
 o 141 (.nilck (.t 140)),
 o 142 (.faddr 20 (.t 141)),
 o 143 (.load false 1 (.t 142)),
 m 144 0,
 o 145 (.nilck (.t 144)),
 o 146 (.faddr 18 (.t 145)),
 o 147 (.load false 1 (.t 146)),
 o 148 (.build [(.int .i64 (.ofNat 0)), (.int .i64 (.ofNat 0)), (.int .i64 (.ofNat 0)), (.int .i64 (.ofNat 0)), (.int .i64 (.ofNat 0)), (.int .i64 (.ofNat 0)), (.str []), (.int .i64 (.ofNat 0)), (.str [])] [(0, 1, (ci 3)), (5, 1, (ci 1)), (7, 1, (.t 147))]),
 e 149 (.call 261 [(.t 138), (.t 139), (.t 143), (.t 148)])])
    (.region [m 150 0,
 o 151 (.load true 14 (.t 3)),
 e 152 (.call 146 [(.t 150), (.t 151)])]))))
    (.seq (.region [m 154 9,
 o 155 (.un .not (.t 154)),
 m 153 155])
    (.cond (.t 153)
     (.seq (.region [m 156 0,
 o 157 (.load true 9 (.t 7)),
 e 158 (.call 198 [(.t 156), (.t 157)])])
     (.region [m 159 0,
 o 160 (.load true 14 (.t 3)),
 e 161 (.call 196 [(.t 159), (.t 160)])]))
     (.seq (.region [m 163 0,
 o 164 (.nilck (.t 163)),
 o 165 (.faddr 8 (.t 164)),
 o 166 (.faddr 0 (.t 165)),
 o 167 (.load false 1 (.t 166)),
 o 168 (.bin .eql (.t 167) (ci 12)),
 m 162 168])
     (.cond (.t 162)
      (.seq (.region [m 169 0,
 o 170 (.load true 5 (.t 4)),
 o 171 (.nilck (.t 169)),
 o 172 (.faddr 46 (.t 171)),
 x (.store 5 (.t 172) (.t 170))])
      (.seq (.region [m 173 0,
 o 174 (.faddr 2 (.t 8)),
 o 175 (.load false 1 (.t 174)),
 o 176 (.nilck (.t 173)),
 o 177 (.faddr 46 (.t 176)),
 o 178 (.faddr 3 (.t 177)),
 x (.store 1 (.t 178) (.t 175))])
      (.region [m 179 0,
 o 180 (.load true 14 (.t 3)),
 e 181 (.call 260 [(.t 179), (.t 180)])])))
      (.seq (.region [m 101 0,
 m 102 0,
 o 103 (.nilck (.t 102)),
 o 104 (.faddr 18 (.t 103)),
 o 105 (.load false 1 (.t 104)),
 o 106 (.faddr 4 (.t 8)),
 o 107 (.load false 1 (.t 106)),
 o 108 (.faddr 1 (.t 8)),
 o 109 (.load false 1 (.t 108)),
 o 110 (.faddr 2 (.t 8)),
 o 111 (.load false 1 (.t 110)),
 o 112 (.faddr 3 (.t 8)),
 o 113 (.load false 1 (.t 112)),
 o 114 (.lens (.t 113)),
 o 115 (.build [(.int .i64 (.ofNat 0)), (.int .i64 (.ofNat 0)), (.int .i64 (.ofNat 0)), (.int .i64 (.ofNat 0)), (.int .i64 (.ofNat 0))] [(0, 1, (.t 105)), (1, 1, (.t 107)), (2, 1, (.t 109)), (3, 1, (.t 111)), (4, 1, (.t 114))]),
 o 116 (.nilck (.t 101)),
 o 117 (.faddr 46 (.t 116)),
 x (.store 5 (.t 117) (.t 115))])
      (.region [m 118 0,
 o 119 (.load true 14 (.t 3)),
 o 120 (.faddr 3 (.t 8)),
 o 121 (.load false 1 (.t 120)),
 e 122 (.call 263 [(.t 118), (.t 119), (.t 121)])]))))))))))))))) }
theorem tr197 : trF cx Tryz.f197 = pf197 := by kernel_rfl
/-- (*depot/task.Task).tell -/
def pf198 : PF := { ntmps := 11, results := [], body :=
  (.seq (.region [n 3 (.box (.t 1))])
  (.region [m 4 0,
 m 5 0,
 o 6 (.load true 9 (.t 3)),
 o 7 (.nilck (.t 4)),
 o 8 (.faddr 61 (.t 7)),
 x (.store 9 (.t 8) (.t 6)),
 o 9 (.nilck (.t 5)),
 o 10 (.faddr 70 (.t 9)),
 x (.store 1 (.t 10) (.c (.bool true)))])) }
theorem tr198 : trF cx Tryz.f198 = pf198 := by kernel_rfl
/-- slices.IndexFunc[[]*depot/router.ticket,*depot/router.ticket] -/
def pf199 : PF := { ntmps := 19, results := [.tmp 4], body :=
  (.seq (.region [o 4 (.mv (ci 0))])
  (.seq (.seq (.region [m 6 0,
 o 7 (.lensl (.t 6)),
 o 8 (.mv (ci 0))])
  (.block 0 (.loop (.seq (.region [o 9 (.bin .lss (.t 8) (.t 7))])
    (.seq (.cond (.t 9)
     .skip
     (.exit 0))
    (.seq (.block 1 (.seq (.region [m 10 8,
 m 5 10])
     (.seq (.region [m 11 1,
 m 12 0,
 m 13 5,
 o 14 (.iasl 1 (.t 12) (.t 13)),
 o 15 (.load false 1 (.t 14)),
 e 16 (.callv (.t 11) [(.t 15)])])
     (.cond (.t 16)
      (.seq (.region [m 17 5,
 m 4 17])
      .ret)
      .skip))))
    (.region [o 18 (.bin .add (.t 8) (ci 1)),
 m 8 18])))))))
  (.seq (.region [o 4 (.mv (.c (.int .i64 (.negSucc 0))))])
  .ret))) }
theorem tr199 : trF cx Tryz.f199 = pf199 := by kernel_rfl
/-- (*depot/router.Router).tell$1 -/
def pf200 : PF := { ntmps := 11, results := [.tmp 3], body :=
  (.seq (.region [o 3 (.mv (.c (.bool false)))])
  (.seq (.region [m 4 0,
 o 5 (.nilck (.t 4)),
 o 6 (.faddr 0 (.t 5)),
 o 7 (.load false 1 (.t 6)),
 o 8 (.faddr 10 (.t 1)),
 o 9 (.load false 1 (.t 8)),
 o 10 (.bin .eql (.t 7) (.t 9)),
 m 3 10])
  .ret)) }
theorem tr200 : trF cx Tryz.f200 = pf200 := by kernel_rfl
/-- slices.Delete[[]*depot/router.ticket,*depot/router.ticket] -/
def pf201 : PF := { ntmps := 33, results := [.tmp 6], body :=
  (.seq (.region [o 6 (.mv (.c .nils))])
  (.seq (.region [m 8 0,
 m 9 1,
 m 10 2,
 m 11 0,
 o 12 (.lensl (.t 11)),
 o 13 (.slsl 1 (.t 8) (some (.t 9)) (some (.t 10)) (some (.t 12)))])
  (.seq (.seq (.region [m 14 1,
 m 15 2,
 o 16 (.bin .eql (.t 14) (.t 15))])
  (.cond (.t 16)
   (.seq (.region [m 17 0,
 m 6 17])
   .ret)
   .skip))
  (.seq (.region [m 18 0,
 o 19 (.lensl (.t 18)),
 m 7 19])
  (.seq (.region [m 20 0,
 m 21 1,
 o 22 (.slsl 1 (.t 20) none (some (.t 21)) none),
 m 23 0,
 m 24 2,
 o 25 (.slsl 1 (.t 23) (some (.t 24)) none none),
 e 26 (.app 0 1 8 (.t 22) (.t 25)),
 m 0 26])
  (.seq (.region [m 27 0,
 m 28 0,
 o 29 (.lensl (.t 28)),
 m 30 7,
 o 31 (.slsl 1 (.t 27) (some (.t 29)) (some (.t 30)) none),
 x (.clear [.nilp] (.t 31))])
  (.seq (.region [m 32 0,
 m 6 32])
  .ret))))))) }
theorem tr201 : trF cx Tryz.f201 = pf201 := by kernel_rfl
/-- slices.DeleteFunc[[]*depot/router.job,*depot/router.job] -/
def pf202 : PF := { ntmps := 42, results := [.tmp 4], body :=
  (.seq (.region [o 4 (.mv (.c .nils))])
  (.seq (.region [m 8 0,
 m 9 1,
 e 10 (.call 264 [(.t 8), (.t 9)]),
 m 5 10])
  (.seq (.seq (.region [m 11 5,
 o 12 (.bin .eql (.t 11) (.c (.int .i64 (.negSucc 0))))])
  (.cond (.t 12)
   (.seq (.region [m 13 0,
 m 4 13])
   .ret)
   .skip))
  (.seq (.seq (.region [m 14 5,
 o 15 (.bin .add (.t 14) (ci 1)),
 m 6 15])
  (.block 0 (.loop (.seq (.seq (.region [m 16 6,
 m 17 0,
 o 18 (.lensl (.t 17)),
 o 19 (.bin .lss (.t 16) (.t 18))])
    (.cond (.t 19)
     .skip
     (.exit 0)))
    (.seq (.block 1 (.seq (.region [m 22 0,
 m 23 6,
 o 24 (.iasl 1 (.t 22) (.t 23)),
 o 25 (.load false 1 (.t 24)),
 m 7 25])
     (.seq (.region [m 26 1,
 m 27 7,
 e 28 (.callv (.t 26) [(.t 27)]),
 o 29 (.un .not (.t 28))])
     (.cond (.t 29)
      (.seq (.region [m 30 0,
 m 31 5,
 m 32 7,
 o 33 (.iasl 1 (.t 30) (.t 31)),
 x (.store 1 (.t 33) (.t 32))])
      (.region [m 34 5,
 o 35 (.bin .add (.t 34) (ci 1)),
 m 5 35]))
      .skip))))
    (.region [m 20 6,
 o 21 (.bin .add (.t 20) (ci 1)),
 m 6 21]))))))
  (.seq (.region [m 36 0,
 m 37 5,
 o 38 (.slsl 1 (.t 36) (some (.t 37)) none none),
 x (.clear [.nilp] (.t 38))])
  (.seq (.region [m 39 0,
 m 40 5,
 o 41 (.slsl 1 (.t 39) none (some (.t 40)) none),
 m 4 41])
  .ret)))))) }
theorem tr202 : trF cx Tryz.f202 = pf202 := by kernel_rfl
/-- (*depot/router.Router).over$1 -/
def pf203 : PF := { ntmps := 7, results := [.tmp 3], body :=
  (.seq (.region [o 3 (.mv (.c (.bool false)))])
  (.seq (.region [m 4 0,
 o 5 (.load false 1 (.t 1)),
 o 6 (.eqc false (.t 4) (.t 5)),
 m 3 6])
  .ret)) }
theorem tr203 : trF cx Tryz.f203 = pf203 := by kernel_rfl
/-- slices.IndexFunc[[]depot/router.want,depot/router.want] -/
def pf206 : PF := { ntmps := 19, results := [.tmp 4], body :=
  (.seq (.region [o 4 (.mv (ci 0))])
  (.seq (.seq (.region [m 6 0,
 o 7 (.lensl (.t 6)),
 o 8 (.mv (ci 0))])
  (.block 0 (.loop (.seq (.region [o 9 (.bin .lss (.t 8) (.t 7))])
    (.seq (.cond (.t 9)
     .skip
     (.exit 0))
    (.seq (.block 1 (.seq (.region [m 10 8,
 m 5 10])
     (.seq (.region [m 11 1,
 m 12 0,
 m 13 5,
 o 14 (.iasl 14 (.t 12) (.t 13)),
 o 15 (.load true 14 (.t 14)),
 e 16 (.callv (.t 11) [(.t 15)])])
     (.cond (.t 16)
      (.seq (.region [m 17 5,
 m 4 17])
      .ret)
      .skip))))
    (.region [o 18 (.bin .add (.t 8) (ci 1)),
 m 8 18])))))))
  (.seq (.region [o 4 (.mv (.c (.int .i64 (.negSucc 0))))])
  .ret))) }
theorem tr206 : trF cx Tryz.f206 = pf206 := by kernel_rfl
/-- (*depot/router.Router).over$2 -/
def pf207 : PF := { ntmps := 12, results := [.tmp 3], body :=
  (.seq (.region [n 2 (.box (.t 0)),
 o 3 (.mv (.c (.bool false)))])
  (.seq (.region [o 4 (.faddr 0 (.t 2)),
 o 5 (.load false 1 (.t 4)),
 o 6 (.load false 1 (.t 1)),
 o 7 (.nilck (.t 6)),
 o 8 (.faddr 1 (.t 7)),
 o 9 (.faddr 0 (.t 8)),
 o 10 (.load false 1 (.t 9)),
 o 11 (.bin .eql (.t 5) (.t 10)),
 m 3 11])
  .ret)) }
theorem tr207 : trF cx Tryz.f207 = pf207 := by kernel_rfl
/-- slices.Delete[[]depot/router.want,depot/router.want] -/
def pf208 : PF := { ntmps := 33, results := [.tmp 6], body :=
  (.seq (.region [o 6 (.mv (.c .nils))])
  (.seq (.region [m 8 0,
 m 9 1,
 m 10 2,
 m 11 0,
 o 12 (.lensl (.t 11)),
 o 13 (.slsl 14 (.t 8) (some (.t 9)) (some (.t 10)) (some (.t 12)))])
  (.seq (.seq (.region [m 14 1,
 m 15 2,
 o 16 (.bin .eql (.t 14) (.t 15))])
  (.cond (.t 16)
   (.seq (.region [m 17 0,
 m 6 17])
   .ret)
   .skip))
  (.seq (.region [m 18 0,
 o 19 (.lensl (.t 18)),
 m 7 19])
  (.seq (.region [m 20 0,
 m 21 1,
 o 22 (.slsl 14 (.t 20) none (some (.t 21)) none),
 m 23 0,
 m 24 2,
 o 25 (.slsl 14 (.t 23) (some (.t 24)) none none),
 e 26 (.app 0 14 144 (.t 22) (.t 25)),
 m 0 26])
  (.seq (.region [m 27 0,
 m 28 0,
 o 29 (.lensl (.t 28)),
 m 30 7,
 o 31 (.slsl 14 (.t 27) (some (.t 29)) (some (.t 30)) none),
 x (.clear [(.str []), (.int .i64 (.ofNat 0)), .nils, (.int .i64 (.ofNat 0)), (.int .i64 (.ofNat 0)), (.int .i64 (.ofNat 0)), (.int .i64 (.ofNat 0)), (.int .u64 (.ofNat 0)), (.bool false), (.str []), (.int .i64 (.ofNat 0)), (.int .i64 (.ofNat 0)), (.int .i64 (.ofNat 0)), (.int .i64 (.ofNat 0))] (.t 31))])
  (.seq (.region [m 32 0,
 m 6 32])
  .ret))))))) }
theorem tr208 : trF cx Tryz.f208 = pf208 := by kernel_rfl
/-- slices.Index[[]int,int] -/
def pf210 : PF := { ntmps := 19, results := [.tmp 4], body :=
  (.seq (.region [o 4 (.mv (ci 0))])
  (.seq (.seq (.region [m 6 0,
 o 7 (.lensl (.t 6)),
 o 8 (.mv (ci 0))])
  (.block 0 (.loop (.seq (.region [o 9 (.bin .lss (.t 8) (.t 7))])
    (.seq (.cond (.t 9)
     .skip
     (.exit 0))
    (.seq (.block 1 (.seq (.region [m 10 8,
 m 5 10])
     (.seq (.region [m 11 1,
 m 12 0,
 m 13 5,
 o 14 (.iasl 1 (.t 12) (.t 13)),
 o 15 (.load false 1 (.t 14)),
 o 16 (.bin .eql (.t 11) (.t 15))])
     (.cond (.t 16)
      (.seq (.region [m 17 5,
 m 4 17])
      .ret)
      .skip))))
    (.region [o 18 (.bin .add (.t 8) (ci 1)),
 m 8 18])))))))
  (.seq (.region [o 4 (.mv (.c (.int .i64 (.negSucc 0))))])
  .ret))) }
theorem tr210 : trF cx Tryz.f210 = pf210 := by kernel_rfl
/-- depot/place.Metas -/
def pf211 : PF := { ntmps := 19, results := [.tmp 6], body :=
  (.seq (.region [o 6 (.mv (.c .nils))])
  (.seq (.seq (.region [m 7 1,
 o 8 (.bin .lss (.t 7) (ci 0)),
 m 9 8,
 gm 10 9 false 1,
 gm 11 9 false 2,
 go 12 9 false (.bin .geq (.t 10) (.t 11)),
 o 13 (.pick (.t 9) (.c (.bool true)) (.t 12))])
  (.cond (.t 13)
   (.seq (.region [o 6 (.mv (.c .nils))])
   .ret)
   .skip))
  (.seq (.region [m 14 0,
 m 15 1,
 o 16 (.bin .add (.t 15) (ci 1)),
 m 17 2,
 e 18 (.call 189 [(.t 14), (.t 16), (.t 17)]),
 m 6 18])
  .ret))) }
theorem tr211 : trF cx Tryz.f211 = pf211 := by kernel_rfl
/-- (*depot/task.Task).enter -/
def pf212 : PF := { ntmps := 14, results := [], body :=
  (.region [m 4 0,
 m 5 0,
 m 6 0,
 m 7 1,
 o 8 (.nilck (.t 4)),
 o 9 (.faddr 21 (.t 8)),
 x (.store 1 (.t 9) (.t 7)),
 o 10 (.nilck (.t 5)),
 o 11 (.faddr 22 (.t 10)),
 x (.store 1 (.t 11) (ci 0)),
 o 12 (.nilck (.t 6)),
 o 13 (.faddr 23 (.t 12)),
 x (.store 1 (.t 13) (ci 0))]) }
theorem tr212 : trF cx Tryz.f212 = pf212 := by kernel_rfl
/-- depot/answer.values -/
def pf213 : PF := { ntmps := 44, results := [.tmp 4], body :=
  (.seq (.region [o 4 (.mv (.c (.str [])))])
  (.seq (.region [n 5 (.new 1 [.nilp, .nils])])
  (.seq (.seq (.region [m 9 0,
 o 10 (.lensl (.t 9)),
 o 11 (.mv (ci 0))])
  (.block 0 (.loop (.seq (.region [o 12 (.bin .lss (.t 11) (.t 10))])
    (.seq (.cond (.t 12)
     .skip
     (.exit 0))
    (.seq (.block 1 (.seq (.region [o 13 (.iasl 4 (.t 9) (.t 11)),
 o 14 (.load true 4 (.t 13)),
 n 7 (.new 0 [(.str []), (.int .i64 (.ofNat 0)), (.str []), (.int .i64 (.ofNat 0))]),
 x (.store 4 (.t 7) (.t 14))])
     (.seq (.region [o 15 (.faddr 0 (.t 7)),
 o 16 (.load false 1 (.t 15)),
 o 17 (.faddr 1 (.t 7)),
 o 18 (.load false 1 (.t 17)),
 o 20 (.faddr 2 (.t 7)),
 o 21 (.load false 1 (.t 20)),
 o 22 (.lens (.t 21)),
 e 19 (.call 267 [(.t 18)]),
 .again ⟨(some 21), none, (.r (.load false 1 (.t 20)))⟩,
 .again ⟨(some 16), none, (.r (.load false 1 (.t 15)))⟩,
 e 23 (.call 62 [(.t 22)]),
 .again ⟨(some 16), none, (.r (.load false 1 (.t 15)))⟩,
 n 24 (.bslice 0 1 4 [(.str []), (.str []), (.str []), (.str [])] [(0, 1, (.c (.str [86, 65, 76, 85, 69]))), (1, 1, (.t 16)), (2, 1, (.t 19)), (3, 1, (.t 23))]),
 m 8 24])
     (.seq (.seq (.region [m 25 1])
     (.cond (.t 25)
      (.region [m 26 8,
 o 27 (.faddr 3 (.t 7)),
 o 28 (.load false 1 (.t 27)),
 e 29 (.call 267 [(.t 28)]),
 n 30 (.bslice 0 1 1 [(.str [])] [(0, 1, (.t 29))]),
 e 31 (.app 0 1 16 (.t 26) (.t 30)),
 m 8 31])
      .skip))
     (.region [m 32 8,
 o 35 (.faddr 2 (.t 7)),
 o 36 (.load false 1 (.t 35)),
 e 33 (.call 268 [(.t 32), (.c (.str [32]))]),
 .again ⟨(some 36), none, (.r (.load false 1 (.t 35)))⟩,
 o 34 (.bin .add (.t 33) (.c (.str [13, 10]))),
 o 37 (.bin .add (.t 34) (.t 36)),
 o 38 (.bin .add (.t 37) (.c (.str [13, 10]))),
 e 39 (.call 67 [(.t 5), (.t 38)])])))))
    (.region [o 40 (.bin .add (.t 11) (ci 1)),
 m 11 40])))))))
  (.seq (.region [e 41 (.call 68 [(.t 5)]),
 o 42 (.bin .add (.t 41) (.c (.str [69, 78, 68]))),
 o 43 (.bin .add (.t 42) (.c (.str [13, 10]))),
 m 4 43])
  .ret)))) }
theorem tr213 : trF cx Tryz.f213 = pf213 := by kernel_rfl
/-- depot/answer.plain -/
def pf216 : PF := { ntmps := 22, results := [.tmp 2], body :=
  (.seq (.region [o 2 (.mv (.c (.str [])))])
  (.seq (.seq (.region [m 3 0])
  (.block 0 (.seq (.region [o 5 (.bin .eql (.t 3) (ci 2)),
 m 4 5])
   (.cond (.t 4)
    (.seq (.region [o 2 (.mv (.c (.str [83, 84, 79, 82, 69, 68])))])
    .ret)
    (.seq (.region [o 7 (.bin .eql (.t 3) (ci 3)),
 m 6 7])
    (.cond (.t 6)
     (.seq (.region [o 2 (.mv (.c (.str [78, 79, 84, 95, 83, 84, 79, 82, 69, 68])))])
     .ret)
     (.seq (.region [o 9 (.bin .eql (.t 3) (ci 4)),
 m 8 9])
     (.cond (.t 8)
      (.seq (.region [o 2 (.mv (.c (.str [69, 88, 73, 83, 84, 83])))])
      .ret)
      (.seq (.region [o 11 (.bin .eql (.t 3) (ci 5)),
 m 10 11])
      (.cond (.t 10)
       (.seq (.region [o 2 (.mv (.c (.str [78, 79, 84, 95, 70, 79, 85, 78, 68])))])
       .ret)
       (.seq (.region [o 13 (.bin .eql (.t 3) (ci 6)),
 m 12 13])
       (.cond (.t 12)
        (.seq (.region [o 2 (.mv (.c (.str [68, 69, 76, 69, 84, 69, 68])))])
        .ret)
        (.seq (.region [o 15 (.bin .eql (.t 3) (ci 7)),
 m 14 15])
        (.cond (.t 14)
         (.seq (.region [o 2 (.mv (.c (.str [84, 79, 85, 67, 72, 69, 68])))])
         .ret)
         (.seq (.region [o 17 (.bin .eql (.t 3) (ci 9)),
 m 16 17])
         (.cond (.t 16)
          (.seq (.region [o 2 (.mv (.c (.str [79, 75])))])
          .ret)
          (.seq (.region [o 19 (.bin .eql (.t 3) (ci 12)),
 m 18 19])
          (.cond (.t 18)
           (.seq (.region [o 2 (.mv (.c (.str [69, 82, 82, 79, 82])))])
           .ret)
           (.seq (.region [o 21 (.bin .eql (.t 3) (ci 10)),
 m 20 21])
           (.cond (.t 20)
            (.seq (.region [o 2 (.mv (.c (.str [86, 69, 82, 83, 73, 79, 78, 32, 100, 101, 112, 111, 116])))])
            .ret)
            .skip))))))))))))))))))))
  (.seq (.region [o 2 (.mv (.c (.str [])))])
  .ret))) }
theorem tr216 : trF cx Tryz.f216 = pf216 := by kernel_rfl
/-- strings.TrimSuffix -/
def pf218 : PF := { ntmps := 8, results := [.tmp 4], body :=
  (.seq (.region [o 4 (.mv (.c (.str [])))])
  (.seq (.region [m 5 0,
 m 6 1,
 e 7 (.call 270 [(.t 5), (.t 6)]),
 m 4 7])
  .ret)) }
theorem tr218 : trF cx Tryz.f218 = pf218 := by kernel_rfl
/-- depot/words.Line -/
def pf219 : PF := { ntmps := 72, results := [.cell 2 true 9, .tmp 3], body :=
  (.seq (.region [n 2 (.new 0 [(.int .i64 (.ofNat 0)), .nils, (.int .i64 (.ofNat 0)), (.int .i64 (.ofNat 0)), (.int .i64 (.ofNat 0)), (.int .i64 (.ofNat 0)), (.int .u64 (.ofNat 0)), (.bool false), (.str [])]),
 o 3 (.mv (ci 0))])
  (.seq (.region [m 9 0,
 e 10 (.call 271 [(.t 9)]),
 m 4 10])
  (.seq (.seq (.region [m 11 4,
 o 12 (.lensl (.t 11)),
 o 13 (.bin .eql (.t 12) (ci 0))])
  (.cond (.t 13)
   (.seq (.region [o 14 (.build [(.int .i64 (.ofNat 0)), .nils, (.int .i64 (.ofNat 0)), (.int .i64 (.ofNat 0)), (.int .i64 (.ofNat 0)), (.int .i64 (.ofNat 0)), (.int .u64 (.ofNat 0)), (.bool false), (.str [])] []),
 x (.store 9 (.t 2) (.t 14)),
 o 3 (.mv (ci 4))])
   .ret)
   .skip))
  (.seq (.region [m 16 4,
 o 17 (.iasl 1 (.t 16) (ci 0)),
 o 18 (.load false 1 (.t 17)),
 e 19 (.call 272 [(.t 18)]),
 m 15 19,
 o 20 (.ext 0 (.t 15)),
 o 21 (.ext 1 (.t 15)),
 n 5 (.new 0 [(.int .i64 (.ofNat 0)), (.int .i64 (.ofNat 0)), (.int .i64 (.ofNat 0)), (.bool false)]),
 x (.store 4 (.t 5) (.t 20)),
 m 6 21])
  (.seq (.region [m 22 4,
 o 23 (.slsl 1 (.t 22) (some (ci 1)) none none),
 m 4 23])
  (.seq (.region [o 24 (.faddr 0 (.t 5)),
 o 25 (.load false 1 (.t 24)),
 o 26 (.build [(.int .i64 (.ofNat 0)), .nils, (.int .i64 (.ofNat 0)), (.int .i64 (.ofNat 0)), (.int .i64 (.ofNat 0)), (.int .i64 (.ofNat 0)), (.int .u64 (.ofNat 0)), (.bool false), (.str [])] [(0, 1, (.t 25))]),
 n 7 (.new 0 [(.int .i64 (.ofNat 0)), .nils, (.int .i64 (.ofNat 0)), (.int .i64 (.ofNat 0)), (.int .i64 (.ofNat 0)), (.int .i64 (.ofNat 0)), (.int .u64 (.ofNat 0)), (.bool false), (.str [])]),
 x (.store 9 (.t 7) (.t 26))])
  (.seq (.seq (.region [m 27 4,
 o 28 (.lensl (.t 27)),
 m 8 28])
  (.seq (.region [o 29 (.faddr 3 (.t 5)),
 o 30 (.load false 1 (.t 29)),
 m 31 30,
 gm 32 31 true 8,
 go 33 31 true (.faddr 1 (.t 5)),
 go 34 31 true (.load false 1 (.t 33)),
 go 35 31 true (.bin .gtr (.t 32) (.t 34)),
 o 36 (.pick (.t 31) (.t 35) (.c (.bool false))),
 m 37 36,
 gm 38 37 true 4,
 gm 39 37 true 8,
 go 40 37 true (.bin .sub (.t 39) (ci 1)),
 go 41 37 true (.iasl 1 (.t 38) (.t 40)),
 go 42 37 true (.load false 1 (.t 41)),
 go 43 37 true (.bin .eql (.t 42) (.c (.str [110, 111, 114, 101, 112, 108, 121]))),
 o 44 (.pick (.t 37) (.t 43) (.c (.bool false)))])
  (.cond (.t 44)
   (.region [m 45 4,
 m 46 8,
 o 47 (.bin .sub (.t 46) (ci 1)),
 o 48 (.slsl 1 (.t 45) none (some (.t 47)) none),
 o 49 (.faddr 7 (.t 7)),
 x (.store 1 (.t 49) (.c (.bool true))),
 .again ⟨(some 48), none, (.r (.slsl 1 (.t 45) none (some (.t 47)) none))⟩,
 m 4 48])
   .skip)))
  (.seq (.seq (.region [m 50 6,
 o 51 (.un .not (.t 50)),
 m 52 51,
 gm 53 52 false 4,
 go 54 52 false (.lensl (.t 53)),
 go 55 52 false (.faddr 1 (.t 5)),
 go 56 52 false (.load false 1 (.t 55)),
 go 57 52 false (.bin .lss (.t 54) (.t 56)),
 o 58 (.pick (.t 52) (.c (.bool true)) (.t 57)),
 m 59 58,
 gm 60 59 false 4,
 go 61 59 false (.lensl (.t 60)),
 go 62 59 false (.faddr 2 (.t 5)),
 go 63 59 false (.load false 1 (.t 62)),
 go 64 59 false (.bin .gtr (.t 61) (.t 63)),
 o 65 (.pick (.t 59) (.c (.bool true)) (.t 64))])
  (.cond (.t 65)
   (.seq (.region [o 66 (.build [(.int .i64 (.ofNat 0)), .nils, (.int .i64 (.ofNat 0)), (.int .i64 (.ofNat 0)), (.int .i64 (.ofNat 0)), (.int .i64 (.ofNat 0)), (.int .u64 (.ofNat 0)), (.bool false), (.str [])] []),
 x (.store 9 (.t 2) (.t 66)),
 o 3 (.mv (ci 4))])
   .ret)
   .skip))
  (.seq (.seq (.region [m 67 4,
 e 68 (.call 273 [(.t 7), (.t 67)]),
 o 69 (.un .not (.t 68))])
  (.cond (.t 69)
   (.seq (.region [o 70 (.build [(.int .i64 (.ofNat 0)), .nils, (.int .i64 (.ofNat 0)), (.int .i64 (.ofNat 0)), (.int .i64 (.ofNat 0)), (.int .i64 (.ofNat 0)), (.int .u64 (.ofNat 0)), (.bool false), (.str [])] []),
 x (.store 9 (.t 2) (.t 70)),
 o 3 (.mv (ci 1))])
   .ret)
   .skip))
  (.seq (.region [o 71 (.load true 9 (.t 7)),
 x (.store 9 (.t 2) (.t 71)),
 o 3 (.mv (ci 0))])
  .ret)))))))))) }
theorem tr219 : trF cx Tryz.f219 = pf219 := by kernel_rfl
/-- (*depot/parse.Parser).say -/
def pf220 : PF := { ntmps := 19, results := [], body :=
  (.region [m 6 0,
 m 7 0,
 o 8 (.nilck (.t 7)),
 o 9 (.faddr 13 (.t 8)),
 o 10 (.load false 1 (.t 9)),
 m 11 1,
 m 12 2,
 o 13 (.build [(.int .i64 (.ofNat 0)), .nils, (.bool false), (.int .u64 (.ofNat 0)), (.str []), (.int .i64 (.ofNat 0)), (.int .i64 (.ofNat 0)), (.int .i64 (.ofNat 0)), (.int .i64 (.ofNat 0))] [(0, 1, (.t 11)), (4, 1, (.t 12))]),
 o 14 (.build [(.int .i64 (.ofNat 0)), .nils, (.int .i64 (.ofNat 0)), (.int .i64 (.ofNat 0)), (.int .i64 (.ofNat 0)), (.int .i64 (.ofNat 0)), (.int .u64 (.ofNat 0)), (.bool false), (.str []), (.int .i64 (.ofNat 0)), .nils, (.bool false), (.int .u64 (.ofNat 0)), (.str []), (.int .i64 (.ofNat 0)), (.int .i64 (.ofNat 0)), (.int .i64 (.ofNat 0)), (.int .i64 (.ofNat 0))] [(9, 9, (.t 13))]),
 n 15 (.bslice 0 18 1 [(.int .i64 (.ofNat 0)), .nils, (.int .i64 (.ofNat 0)), (.int .i64 (.ofNat 0)), (.int .i64 (.ofNat 0)), (.int .i64 (.ofNat 0)), (.int .u64 (.ofNat 0)), (.bool false), (.str []), (.int .i64 (.ofNat 0)), .nils, (.bool false), (.int .u64 (.ofNat 0)), (.str []), (.int .i64 (.ofNat 0)), (.int .i64 (.ofNat 0)), (.int .i64 (.ofNat 0)), (.int .i64 (.ofNat 0))] [(0, 18, (.t 14))]),
 e 16 (.app 0 18 192 (.t 10) (.t 15)),
 o 17 (.nilck (.t 6)),
 o 18 (.faddr 13 (.t 17)),
 x (.store 1 (.t 18) (.t 16))]) }
theorem tr220 : trF cx Tryz.f220 = pf220 := by kernel_rfl
/-- strings.HasPrefix -/
def pf221 : PF := { ntmps := 8, results := [.tmp 4], body :=
  (.seq (.region [o 4 (.mv (.c (.bool false)))])
  (.seq (.region [m 5 0,
 m 6 1,
 e 7 (.call 274 [(.t 5), (.t 6)]),
 m 4 7])
  .ret)) }
theorem tr221 : trF cx Tryz.f221 = pf221 := by kernel_rfl
/-- internal/strconv.small -/
def pf223 : PF := { ntmps := 15, results := [.tmp 2], body :=
  (.seq (.region [o 2 (.mv (.c (.str [])))])
  (.seq (.seq (.region [m 3 0,
 o 4 (.bin .lss (.t 3) (ci 10))])
  (.cond (.t 4)
   (.seq (.region [m 5 0,
 m 6 0,
 o 7 (.bin .add (.t 6) (ci 1)),
 o 8 (.slstr (.c (.str [48, 49, 50, 51, 52, 53, 54, 55, 56, 57, 97, 98, 99, 100, 101, 102, 103, 104, 105, 106, 107, 108, 109, 110, 111, 112, 113, 114, 115, 116, 117, 118, 119, 120, 121, 122])) (some (.t 5)) (some (.t 7))),
 m 2 8])
   .ret)
   .skip))
  (.seq (.region [m 9 0,
 o 10 (.bin .mul (.t 9) (ci 2)),
 m 11 0,
 o 12 (.bin .mul (.t 11) (ci 2)),
 o 13 (.bin .add (.t 12) (ci 2)),
 o 14 (.slstr (.c (.str [48, 48, 48, 49, 48, 50, 48, 51, 48, 52, 48, 53, 48, 54, 48, 55, 48, 56, 48, 57, 49, 48, 49, 49, 49, 50, 49, 51, 49, 52, 49, 53, 49, 54, 49, 55, 49, 56, 49, 57, 50, 48, 50, 49, 50, 50, 50, 51, 50, 52, 50, 53, 50, 54, 50, 55, 50, 56, 50, 57, 51, 48, 51, 49, 51, 50, 51, 51, 51, 52, 51, 53, 51, 54, 51, 55, 51, 56, 51, 57, 52, 48, 52, 49, 52, 50, 52, 51, 52, 52, 52, 53, 52, 54, 52, 55, 52, 56, 52, 57, 53, 48, 53, 49, 53, 50, 53, 51, 53, 52, 53, 53, 53, 54, 53, 55, 53, 56, 53, 57, 54, 48, 54, 49, 54, 50, 54, 51, 54, 52, 54, 53, 54, 54, 54, 55, 54, 56, 54, 57, 55, 48, 55, 49, 55, 50, 55, 51, 55, 52, 55, 53, 55, 54, 55, 55, 55, 56, 55, 57, 56, 48, 56, 49, 56, 50, 56, 51, 56, 52, 56, 53, 56, 54, 56, 55, 56, 56, 56, 57, 57, 48, 57, 49, 57, 50, 57, 51, 57, 52, 57, 53, 57, 54, 57, 55, 57, 56, 57, 57])) (some (.t 10)) (some (.t 13))),
 m 2 14])
  .ret))) }
theorem tr223 : trF cx Tryz.f223 = pf223 := by kernel_rfl
/-- internal/stringslite.IndexByte -/
def pf232 : PF := { ntmps := 8, results := [.tmp 4], body :=
  (.seq (.region [o 4 (.mv (ci 0))])
  (.seq (.region [m 5 0,
 m 6 1,
 o 7 (.index (.t 5) (.t 6)),
 m 4 7])
  .ret)) }
theorem tr232 : trF cx Tryz.f232 = pf232 := by kernel_rfl
/-- (*depot/slab.Slab).Read -/
def pf248 : PF := { ntmps := 39, results := [.tmp 4, .tmp 5], body :=
  (.seq (.region [n 3 (.box (.t 1)),
 o 4 (.mv (.c (.str []))),
 o 5 (.mv (.c (.bool false)))])
  (.seq (.seq (.region [o 8 (.faddr 0 (.t 3)),
 o 9 (.load false 1 (.t 8)),
 o 10 (.bin .lss (.t 9) (ci 0)),
 m 11 10,
 go 12 11 false (.faddr 0 (.t 3)),
 go 13 11 false (.load false 1 (.t 12)),
 gm 14 11 false 0,
 go 15 11 false (.nilck (.t 14)),
 go 16 11 false (.faddr 3 (.t 15)),
 go 17 11 false (.load false 1 (.t 16)),
 go 18 11 false (.lensl (.t 17)),
 go 19 11 false (.bin .geq (.t 13) (.t 18)),
 o 20 (.pick (.t 11) (.c (.bool true)) (.t 19))])
  (.cond (.t 20)
   (.seq (.region [o 4 (.mv (.c (.str []))),
 o 5 (.mv (.c (.bool false)))])
   .ret)
   .skip))
  (.seq (.region [m 22 0,
 o 23 (.nilck (.t 22)),
 o 24 (.faddr 3 (.t 23)),
 o 25 (.load false 1 (.t 24)),
 o 26 (.faddr 0 (.t 3)),
 o 27 (.load false 1 (.t 26)),
 o 28 (.iasl 4 (.t 25) (.t 27)),
 o 29 (.faddr 2 (.t 28)),
 o 30 (.load false 1 (.t 29)),
 o 31 (.faddr 1 (.t 3)),
 o 32 (.load false 1 (.t 31)),
 o 33 (.look false (.str []) true (.t 30) (.t 32)),
 m 21 33,
 o 34 (.ext 0 (.t 21)),
 o 35 (.ext 1 (.t 21)),
 m 6 34,
 m 7 35])
  (.seq (.seq (.region [m 36 7,
 o 37 (.un .not (.t 36))])
  (.cond (.t 37)
   (.seq (.region [o 4 (.mv (.c (.str []))),
 o 5 (.mv (.c (.bool false)))])
   .ret)
   .skip))
  (.seq (.region [m 38 6,
 m 4 38,
 o 5 (.mv (.c (.bool true)))])
  .ret))))) }
theorem tr248 : trF cx Tryz.f248 = pf248 := by kernel_rfl
/-- depot/chain.Hash -/
def pf249 : PF := { ntmps := 20, results := [.tmp 2], body :=
  (.seq (.region [o 2 (.mv (.c (.int .u32 (.ofNat 0))))])
  (.seq (.region [o 3 (.mv (.c (.int .u32 (.ofNat 2166136261))))])
  (.seq (.seq (.region [m 5 0,
 o 6 (.lens (.t 5)),
 o 7 (.mv (ci 0))])
  (.block 0 (.loop (.seq (.region [o 8 (.bin .lss (.t 7) (.t 6))])
    (.seq (.cond (.t 8)
     .skip
     (.exit 0))
    (.seq (.block 1 (.seq (.region [m 9 7,
 m 4 9])
     (.seq (.region [m 10 3,
 m 11 0,
 m 12 4,
 o 13 (.ixstr (.t 11) (.t 12)),
 o 14 (.cint .u32 (.t 13)),
 o 15 (.bin .xor (.t 10) (.t 14)),
 m 3 15])
     (.region [m 16 3,
 o 17 (.bin .mul (.t 16) (.c (.int .u32 (.ofNat 16777619)))),
 m 3 17]))))
    (.region [o 18 (.bin .add (.t 7) (ci 1)),
 m 7 18])))))))
  (.seq (.region [m 19 3,
 m 2 19])
  .ret)))) }
theorem tr249 : trF cx Tryz.f249 = pf249 := by kernel_rfl
/-- (*depot/gather.Gather).State -/
def pf250 : PF := { ntmps := 32, results := [.tmp 2], body :=
  (.seq (.region [o 2 (.mv (ci 0))])
  (.seq (.block 0 (.seq (.region [m 4 0,
 o 5 (.nilck (.t 4)),
 o 6 (.faddr 5 (.t 5)),
 o 7 (.load false 1 (.t 6)),
 o 8 (.lensl (.t 7)),
 m 9 0,
 o 10 (.nilck (.t 9)),
 o 11 (.faddr 0 (.t 10)),
 o 12 (.load false 1 (.t 11)),
 o 13 (.bin .geq (.t 8) (.t 12)),
 m 3 13])
   (.cond (.t 3)
    (.seq (.region [o 2 (.mv (ci 1))])
    .ret)
    (.seq (.region [m 15 0,
 o 16 (.nilck (.t 15)),
 o 17 (.faddr 4 (.t 16)),
 o 18 (.load false 1 (.t 17)),
 o 19 (.bin .eql (.t 18) (ci 0)),
 m 20 19,
 gm 21 20 true 0,
 go 22 20 true (.nilck (.t 21)),
 go 23 20 true (.faddr 3 (.t 22)),
 go 24 20 true (.load false 1 (.t 23)),
 gm 25 20 true 0,
 go 26 20 true (.nilck (.t 25)),
 go 27 20 true (.faddr 2 (.t 26)),
 go 28 20 true (.load false 1 (.t 27)),
 go 29 20 true (.lensl (.t 28)),
 go 30 20 true (.bin .eql (.t 24) (.t 29)),
 o 31 (.pick (.t 20) (.t 30) (.c (.bool false))),
 m 14 31])
    (.cond (.t 14)
     (.seq (.region [o 2 (.mv (ci 2))])
     .ret)
     .skip)))))
  (.seq (.region [o 2 (.mv (ci 0))])
  .ret))) }
theorem tr250 : trF cx Tryz.f250 = pf250 := by kernel_rfl
/-- (*depot/rs.Code).Decode -/
def pf251 : PF := { ntmps := 112, results := [.tmp 6, .tmp 7], body :=
  (.seq (.region [o 6 (.mv (.c (.str []))),
 o 7 (.mv (ci 0))])
  (.seq (.seq (.region [m 20 1,
 o 21 (.bin .lss (.t 20) (ci 0)),
 m 22 21,
 gm 23 22 false 1,
 go 24 22 false (.bin .gtr (.t 23) (ci 1048576)),
 o 25 (.pick (.t 22) (.c (.bool true)) (.t 24))])
  (.cond (.t 25)
   (.seq (.region [o 6 (.mv (.c (.str []))),
 o 7 (.mv (ci 1))])
   .ret)
   .skip))
  (.seq (.region [m 26 0,
 m 27 1,
 e 28 (.call 144 [(.t 26), (.t 27)]),
 m 8 28])
  (.seq (.seq (.region [m 29 2,
 o 30 (.lensl (.t 29)),
 o 31 (.mv (ci 0))])
  (.block 0 (.loop (.seq (.region [o 32 (.bin .lss (.t 31) (.t 30))])
    (.seq (.cond (.t 32)
     .skip
     (.exit 0))
    (.seq (.block 1 (.seq (.region [o 33 (.iasl 2 (.t 29) (.t 31)),
 o 34 (.load true 2 (.t 33)),
 n 10 (.new 0 [(.int .i64 (.ofNat 0)), (.str [])]),
 x (.store 2 (.t 10) (.t 34))])
     (.seq (.region [o 35 (.faddr 0 (.t 10)),
 o 36 (.load false 1 (.t 35)),
 o 37 (.bin .lss (.t 36) (ci 0)),
 m 38 37,
 go 39 38 false (.faddr 0 (.t 10)),
 go 40 38 false (.load false 1 (.t 39)),
 gm 41 38 false 0,
 go 42 38 false (.nilck (.t 41)),
 go 43 38 false (.faddr 1 (.t 42)),
 go 44 38 false (.load false 1 (.t 43)),
 go 45 38 false (.bin .geq (.t 40) (.t 44)),
 o 46 (.pick (.t 38) (.c (.bool true)) (.t 45)),
 m 47 46,
 go 48 47 false (.faddr 1 (.t 10)),
 go 49 47 false (.load false 1 (.t 48)),
 go 50 47 false (.lens (.t 49)),
 gm 51 47 false 8,
 go 52 47 false (.bin .neq (.t 50) (.t 51)),
 o 53 (.pick (.t 47) (.c (.bool true)) (.t 52))])
     (.cond (.t 53)
      (.seq (.region [o 6 (.mv (.c (.str []))),
 o 7 (.mv (ci 4))])
      .ret)
      .skip))))
    (.region [o 54 (.bin .add (.t 31) (ci 1)),
 m 31 54])))))))
  (.seq (.region [m 56 0,
 m 57 2,
 e 58 (.call 302 [(.t 56), (.t 57)]),
 m 55 58,
 o 59 (.ext 0 (.t 55)),
 o 60 (.ext 1 (.t 55)),
 m 11 59,
 m 12 60])
  (.seq (.seq (.region [m 61 11,
 o 62 (.lensl (.t 61)),
 m 63 0,
 o 64 (.nilck (.t 63)),
 o 65 (.faddr 0 (.t 64)),
 o 66 (.load false 1 (.t 65)),
 o 67 (.bin .lss (.t 62) (.t 66))])
  (.cond (.t 67)
   (.seq (.region [o 6 (.mv (.c (.str []))),
 o 7 (.mv (ci 3))])
   .ret)
   .skip))
  (.seq (.region [m 69 0,
 o 70 (.nilck (.t 69)),
 o 71 (.faddr 2 (.t 70)),
 m 72 11,
 e 73 (.call 303 [(.t 71), (.t 72)]),
 m 68 73,
 o 74 (.ext 0 (.t 68)),
 o 75 (.ext 1 (.t 68)),
 m 13 74,
 m 14 75])
  (.seq (.region [m 76 0,
 o 77 (.nilck (.t 76)),
 o 78 (.faddr 0 (.t 77)),
 o 79 (.load false 1 (.t 78)),
 m 80 8,
 o 81 (.bin .mul (.t 79) (.t 80)),
 n 82 (.mksl 2 1 1 [(.int .u8 (.ofNat 0))] (ci 0) (.t 81)),
 m 15 82])
  (.seq (.seq (.region [m 83 13,
 o 84 (.lensl (.t 83)),
 o 85 (.mv (ci 0))])
  (.block 2 (.loop (.seq (.region [o 86 (.bin .lss (.t 85) (.t 84))])
    (.seq (.cond (.t 86)
     .skip
     (.exit 2))
    (.seq (.block 3 (.seq (.region [o 87 (.iasl 1 (.t 83) (.t 85)),
 o 88 (.load false 1 (.t 87)),
 m 17 88])
     (.region [m 89 15,
 m 90 0,
 m 91 17,
 m 92 12,
 m 93 8,
 e 94 (.call 304 [(.t 90), (.t 91), (.t 92), (.t 93)]),
 e 95 (.app 2 1 1 (.t 89) (.t 94)),
 m 15 95])))
    (.region [o 96 (.bin .add (.t 85) (ci 1)),
 m 85 96])))))))
  (.seq (.seq (.region [m 97 15,
 m 98 1,
 o 99 (.slsl 1 (.t 97) (some (.t 98)) none none),
 o 100 (.lensl (.t 99)),
 o 101 (.mv (ci 0))])
  (.block 4 (.loop (.seq (.region [o 102 (.bin .lss (.t 101) (.t 100))])
    (.seq (.cond (.t 102)
     .skip
     (.exit 4))
    (.seq (.block 5 (.seq (.region [o 103 (.iasl 1 (.t 99) (.t 101)),
 o 104 (.load false 1 (.t 103)),
 m 19 104])
     (.seq (.region [m 105 19,
 o 106 (.bin .neq (.t 105) (.c (.int .u8 (.ofNat 0))))])
     (.cond (.t 106)
      (.seq (.region [o 6 (.mv (.c (.str []))),
 o 7 (.mv (ci 4))])
      .ret)
      .skip))))
    (.region [o 107 (.bin .add (.t 101) (ci 1)),
 m 101 107])))))))
  (.seq (.region [m 108 15,
 m 109 1,
 o 110 (.slsl 1 (.t 108) none (some (.t 109)) none),
 o 111 (.b2s (.t 110)),
 m 6 111,
 o 7 (.mv (ci 0))])
  .ret))))))))))) }
theorem tr251 : trF cx Tryz.f251 = pf251 := by kernel_rfl
/-- (*depot/gather.Gather).Parts -/
def pf252 : PF := { ntmps := 8, results := [.tmp 2], body :=
  (.seq (.region [o 2 (.mv (.c .nils))])
  (.seq (.region [m 3 0,
 o 4 (.nilck (.t 3)),
 o 5 (.faddr 5 (.t 4)),
 o 6 (.load false 1 (.t 5)),
 e 7 (.call 305 [(.t 6)]),
 m 2 7])
  .ret)) }
theorem tr252 : trF cx Tryz.f252 = pf252 := by kernel_rfl
/-- (*depot/rs.Code).Encode -/
def pf255 : PF := { ntmps := 75, results := [.tmp 4], body :=
  (.seq (.region [o 4 (.mv (.c .nils))])
  (.seq (.region [m 12 0,
 m 13 1,
 o 14 (.lens (.t 13)),
 e 15 (.call 144 [(.t 12), (.t 14)]),
 m 5 15])
  (.seq (.region [m 16 0,
 o 17 (.nilck (.t 16)),
 o 18 (.faddr 0 (.t 17)),
 o 19 (.load false 1 (.t 18)),
 m 20 5,
 o 21 (.bin .mul (.t 19) (.t 20)),
 n 22 (.mksl 2 1 1 [(.int .u8 (.ofNat 0))] (.t 21) (.t 21)),
 m 6 22])
  (.seq (.region [m 23 6,
 m 24 1,
 e 25 (.copy 1 (.t 23) (.t 24))])
  (.seq (.region [m 26 0,
 o 27 (.nilck (.t 26)),
 o 28 (.faddr 0 (.t 27)),
 o 29 (.load false 1 (.t 28)),
 n 30 (.mksl 0 1 24 [.nils] (.t 29) (.t 29)),
 m 7 30])
  (.seq (.seq (.region [m 31 7,
 o 32 (.lensl (.t 31)),
 o 33 (.mv (ci 0))])
  (.block 0 (.loop (.seq (.region [o 34 (.bin .lss (.t 33) (.t 32))])
    (.seq (.cond (.t 34)
     .skip
     (.exit 0))
    (.seq (.block 1 (.seq (.region [m 35 33,
 m 8 35])
     (.region [m 36 7,
 m 37 8,
 m 38 6,
 m 39 8,
 m 40 5,
 o 41 (.bin .mul (.t 39) (.t 40)),
 m 42 8,
 o 43 (.bin .add (.t 42) (ci 1)),
 m 44 5,
 o 45 (.bin .mul (.t 43) (.t 44)),
 o 46 (.slsl 1 (.t 38) (some (.t 41)) (some (.t 45)) none),
 o 47 (.iasl 1 (.t 36) (.t 37)),
 x (.store 1 (.t 47) (.t 46))])))
    (.region [o 48 (.bin .add (.t 33) (ci 1)),
 m 33 48])))))))
  (.seq (.region [m 49 0,
 o 50 (.nilck (.t 49)),
 o 51 (.faddr 1 (.t 50)),
 o 52 (.load false 1 (.t 51)),
 n 53 (.mksl 0 1 16 [(.str [])] (.t 52) (.t 52)),
 m 9 53])
  (.seq (.seq (.region [m 54 0,
 o 55 (.nilck (.t 54)),
 o 56 (.faddr 768 (.t 55)),
 o 57 (.load false 1 (.t 56)),
 o 58 (.lensl (.t 57)),
 o 59 (.mv (ci 0))])
  (.block 2 (.loop (.seq (.region [o 60 (.bin .lss (.t 59) (.t 58))])
    (.seq (.cond (.t 60)
     .skip
     (.exit 2))
    (.seq (.block 3 (.seq (.region [m 61 59,
 o 62 (.iasl 1 (.t 57) (.t 59)),
 o 63 (.load false 1 (.t 62)),
 m 10 61,
 m 11 63])
     (.region [m 64 9,
 m 65 10,
 m 66 0,
 m 67 11,
 m 68 7,
 m 69 5,
 e 70 (.call 304 [(.t 66), (.t 67), (.t 68), (.t 69)]),
 o 71 (.b2s (.t 70)),
 o 72 (.iasl 1 (.t 64) (.t 65)),
 x (.store 1 (.t 72) (.t 71))])))
    (.region [o 73 (.bin .add (.t 59) (ci 1)),
 m 59 73])))))))
  (.seq (.region [m 74 9,
 m 4 74])
  .ret))))))))) }
theorem tr255 : trF cx Tryz.f255 = pf255 := by kernel_rfl
/-- depot/when.Live -/
def pf256 : PF := { ntmps := 16, results := [.tmp 4], body :=
  (.seq (.region [o 4 (.mv (.c (.bool false)))])
  (.seq (.region [m 5 0,
 o 6 (.bin .eql (.t 5) (ci 0)),
 m 7 6,
 gm 8 7 false 0,
 go 9 7 false (.bin .gtr (.t 8) (ci 0)),
 gm 10 7 false 9,
 gm 11 10 true 0,
 gm 12 10 true 1,
 go 13 10 true (.bin .gtr (.t 11) (.t 12)),
 go 14 7 false (.pick (.t 10) (.t 13) (.c (.bool false))),
 o 15 (.pick (.t 7) (.c (.bool true)) (.t 14)),
 m 4 15])
  .ret)) }
theorem tr256 : trF cx Tryz.f256 = pf256 := by kernel_rfl
/-- (*depot/task.Task).unseen -/
def pf257 : PF := { ntmps := 31, results := [.tmp 4], body :=
  (.seq (.region [n 3 (.box (.t 1)),
 o 4 (.mv (.c (.bool false)))])
  (.seq (.seq (.region [m 7 0,
 o 8 (.nilck (.t 7)),
 o 9 (.faddr 20 (.t 8)),
 o 10 (.load false 1 (.t 9)),
 o 11 (.lensl (.t 10)),
 o 12 (.mv (ci 0))])
  (.block 0 (.loop (.seq (.region [o 13 (.bin .lss (.t 12) (.t 11))])
    (.seq (.cond (.t 13)
     .skip
     (.exit 0))
    (.seq (.block 1 (.seq (.region [o 14 (.iasl 1 (.t 10) (.t 12)),
 o 15 (.load false 1 (.t 14)),
 m 6 15])
     (.seq (.region [m 16 6,
 o 17 (.faddr 0 (.t 3)),
 o 18 (.iaarr 12 1 (.t 17) (.t 16)),
 o 19 (.load false 1 (.t 18)),
 o 20 (.bin .neq (.t 19) (ci 0)),
 m 21 20,
 gm 22 21 true 0,
 gm 23 21 true 6,
 go 24 21 true (.nilck (.t 22)),
 go 25 21 true (.faddr 24 (.t 24)),
 go 26 21 true (.iaarr 12 1 (.t 25) (.t 23)),
 go 27 21 true (.load false 1 (.t 26)),
 go 28 21 true (.bin .eql (.t 27) (ci 0)),
 o 29 (.pick (.t 21) (.t 28) (.c (.bool false)))])
     (.cond (.t 29)
      (.seq (.region [o 4 (.mv (.c (.bool true)))])
      .ret)
      .skip))))
    (.region [o 30 (.bin .add (.t 12) (ci 1)),
 m 12 30])))))))
  (.seq (.region [o 4 (.mv (.c (.bool false)))])
  .ret))) }
theorem tr257 : trF cx Tryz.f257 = pf257 := by kernel_rfl
/-- depot/task.reads -/
def pf258 : PF := { ntmps := 11, results := [.tmp 2], body :=
  (.seq (.region [o 2 (.mv (.c (.bool false)))])
  (.seq (.seq (.region [m 3 0])
  (.block 0 (.seq (.seq (.region [o 5 (.bin .eql (.t 3) (ci 1)),
 m 4 5])
   (.cond (.t 4)
    .skip
    (.seq (.region [o 6 (.bin .eql (.t 3) (ci 2)),
 m 4 6])
    (.cond (.t 4)
     .skip
     (.seq (.region [o 7 (.bin .eql (.t 3) (ci 6)),
 m 4 7])
     (.cond (.t 4)
      .skip
      (.seq (.region [o 8 (.bin .eql (.t 3) (ci 7)),
 m 4 8])
      (.cond (.t 4)
       .skip
       (.seq (.region [o 9 (.bin .eql (.t 3) (ci 10)),
 m 4 9])
       (.cond (.t 4)
        .skip
        (.region [o 10 (.bin .eql (.t 3) (ci 11)),
 m 4 10])))))))))))
   (.cond (.t 4)
    (.seq (.region [o 2 (.mv (.c (.bool true)))])
    .ret)
    .skip))))
  (.seq (.region [o 2 (.mv (.c (.bool false)))])
  .ret))) }
theorem tr258 : trF cx Tryz.f258 = pf258 := by kernel_rfl
/-- (*depot/task.Task).gather -/
def pf259 : PF := { ntmps := 82, results := [], body :=
  (.seq (.region [n 3 (.box (.t 1))])
  (.seq (.seq (.region [m 7 0,
 o 8 (.nilck (.t 7)),
 o 9 (.faddr 17 (.t 8)),
 o 10 (.load false 1 (.t 9)),
 o 11 (.bin .geq (.t 10) (ci 0)),
 m 12 11,
 gm 13 12 true 0,
 go 14 12 true (.nilck (.t 13)),
 go 15 12 true (.faddr 7 (.t 14)),
 go 16 12 true (.load false 1 (.t 15)),
 gm 17 12 true 0,
 go 18 12 true (.nilck (.t 17)),
 go 19 12 true (.faddr 19 (.t 18)),
 go 20 12 true (.load false 1 (.t 19)),
 go 21 12 true (.lensl (.t 20)),
 gm 22 12 true 0,
 go 23 12 true (.nilck (.t 22)),
 go 24 12 true (.faddr 0 (.t 23)),
 go 25 12 true (.faddr 3 (.t 24)),
 go 26 12 true (.load false 1 (.t 25)),
 gm 27 12 true 0,
 go 28 12 true (.nilck (.t 27)),
 go 29 12 true (.faddr 17 (.t 28)),
 go 30 12 true (.load false 1 (.t 29)),
 .op ⟨(some 31), (some (12, true)), (.e (.call 142 [(.t 16), (.t 21), (.t 26), (.t 30)]))⟩,
 go 32 12 true (.bin .lss (.t 31) (ci 0)),
 o 33 (.pick (.t 12) (.t 32) (.c (.bool false)))])
  (.cond (.t 33)
   (.seq (.region [m 34 0,
 o 35 (.load true 14 (.t 3)),
 o 36 (.bad)])
   .ret)
   .skip))
  (.seq (.region [m 37 0,
 e 38 (.call 212 [(.t 37), (ci 2)])])
  (.seq (.region [o 4 (.mv (.c .nils))])
  (.seq (.seq (.region [m 39 0,
 o 40 (.nilck (.t 39)),
 o 41 (.faddr 19 (.t 40)),
 o 42 (.load false 1 (.t 41)),
 o 43 (.lensl (.t 42)),
 o 44 (.mv (ci 0))])
  (.block 0 (.loop (.seq (.region [o 45 (.bin .lss (.t 44) (.t 43))])
    (.seq (.cond (.t 45)
     .skip
     (.exit 0))
    (.seq (.block 1 (.seq (.region [m 46 44,
 o 47 (.iasl 1 (.t 42) (.t 44)),
 o 48 (.load false 1 (.t 47)),
 m 5 46,
 m 6 48])
     (.seq (.region [m 49 6,
 o 50 (.faddr 0 (.t 3)),
 o 51 (.iaarr 12 1 (.t 50) (.t 49)),
 o 52 (.load false 1 (.t 51)),
 o 53 (.bin .eql (.t 52) (ci 2))])
     (.cond (.t 53)
      (.region [m 54 4,
 m 55 5,
 n 56 (.bslice 0 1 1 [(.int .i64 (.ofNat 0))] [(0, 1, (.t 55))]),
 e 57 (.app 0 1 8 (.t 54) (.t 56)),
 m 4 57])
      .skip))))
    (.region [o 58 (.bin .add (.t 44) (ci 1)),
 m 44 58])))))))
  (.seq (.region [m 60 0,
 m 61 0,
 o 62 (.nilck (.t 61)),
 o 63 (.faddr 0 (.t 62)),
 o 64 (.faddr 0 (.t 63)),
 o 65 (.load false 1 (.t 64)),
 m 66 0,
 o 67 (.nilck (.t 66)),
 o 68 (.faddr 0 (.t 67)),
 o 69 (.faddr 2 (.t 68)),
 o 70 (.load false 1 (.t 69)),
 m 71 4,
 e 72 (.call 307 [(.t 65), (.t 70), (.t 71)]),
 m 59 72,
 o 73 (.ext 0 (.t 59)),
 o 74 (.ext 1 (.t 59)),
 o 75 (.nilck (.t 60)),
 o 76 (.faddr 44 (.t 75)),
 x (.store 1 (.t 76) (.t 73))])
  (.seq (.region [m 77 0,
 e 78 (.call 145 [(.t 77)])])
  (.region [m 79 0,
 o 80 (.load true 14 (.t 3)),
 e 81 (.call 146 [(.t 79), (.t 80)])])))))))) }
theorem tr259 : trF cx Tryz.f259 = pf259 := by kernel_rfl
/-- (*depot/task.Task).write -/
def pf260 : PF := { ntmps := 26, results := [], body :=
  (.seq (.region [n 3 (.box (.t 1))])
  (.seq (.region [m 4 0,
 e 5 (.call 212 [(.t 4), (ci 4)])])
  (.seq (.region [m 6 0,
 o 7 (.load true 14 (.t 3)),
 m 8 0,
 o 9 (.nilck (.t 8)),
 o 10 (.faddr 20 (.t 9)),
 o 11 (.load false 1 (.t 10)),
 m 12 0,
 o 13 (.nilck (.t 12)),
 o 14 (.faddr 18 (.t 13)),
 o 15 (.load false 1 (.t 14)),
 m 16 0,
 o 17 (.nilck (.t 16)),
 o 18 (.faddr 46 (.t 17)),
 o 19 (.load true 5 (.t 18)),
 e 20 (.call 306 [(.t 19)]),
 .again ⟨(some 15), none, (.r (.load false 1 (.t 14)))⟩,
 .again ⟨(some 11), none, (.r (.load false 1 (.t 10)))⟩,
 .again ⟨(some 7), none, (.r (.load true 14 (.t 3)))⟩,
 o 21 (.build [(.int .i64 (.ofNat 0)), (.int .i64 (.ofNat 0)), (.int .i64 (.ofNat 0)), (.int .i64 (.ofNat 0)), (.int .i64 (.ofNat 0)), (.int .i64 (.ofNat 0)), (.str []), (.int .i64 (.ofNat 0)), (.str [])] [(0, 1, (ci 1)), (5, 1, (ci 1)), (7, 1, (.t 15)), (8, 1, (.t 20))]),
 e 22 (.call 261 [(.t 6), (.t 7), (.t 11), (.t 21)])])
  (.region [m 23 0,
 o 24 (.load true 14 (.t 3)),
 e 25 (.call 146 [(.t 23), (.t 24)])])))) }
theorem tr260 : trF cx Tryz.f260 = pf260 := by kernel_rfl
/-- (*depot/task.Task).all -/
def pf261 : PF := { ntmps := 26, results := [], body :=
  (.seq (.region [n 5 (.box (.t 1)),
 n 7 (.box (.t 3))])
  (.seq (.region [m 10 2,
 o 11 (.lensl (.t 10)),
 o 12 (.mv (ci 0))])
  (.block 0 (.loop (.seq (.region [o 13 (.bin .lss (.t 12) (.t 11))])
    (.seq (.cond (.t 13)
     .skip
     (.exit 0))
    (.seq (.block 1 (.seq (.region [o 14 (.iasl 1 (.t 10) (.t 12)),
 o 15 (.load false 1 (.t 14)),
 m 9 15])
     (.seq (.region [m 16 9,
 o 17 (.faddr 0 (.t 5)),
 o 18 (.iaarr 12 1 (.t 17) (.t 16)),
 o 19 (.load false 1 (.t 18)),
 o 20 (.bin .neq (.t 19) (ci 0))])
     (.cond (.t 20)
      (.region [m 21 0,
 m 22 9,
 o 23 (.load true 9 (.t 7)),
 e 24 (.call 191 [(.t 21), (.t 22), (.t 23)])])
      .skip))))
    (.region [o 25 (.bin .add (.t 12) (ci 1)),
 m 12 25])))))))) }
theorem tr261 : trF cx Tryz.f261 = pf261 := by kernel_rfl
/-- depot/model.Next -/
def pf262 : PF := { ntmps := 120, results := [.cell 10 true 9, .cell 11 true 5, .tmp 12, .tmp 13], body :=
  (.seq (.region [n 5 (.box (.t 0)),
 n 6 (.box (.t 1)),
 n 10 (.new 0 [(.int .i64 (.ofNat 0)), .nils, (.bool false), (.int .u64 (.ofNat 0)), (.str []), (.int .i64 (.ofNat 0)), (.int .i64 (.ofNat 0)), (.int .i64 (.ofNat 0)), (.int .i64 (.ofNat 0))]),
 n 11 (.new 0 [(.str []), (.int .i64 (.ofNat 0)), (.int .i64 (.ofNat 0)), (.str []), (.int .i64 (.ofNat 0))]),
 o 12 (.mv (.c (.bool false))),
 o 13 (.mv (.c (.bool false)))])
  (.seq (.region [o 16 (.faddr 0 (.t 6)),
 o 17 (.load false 1 (.t 16)),
 o 18 (.faddr 2 (.t 5)),
 o 19 (.load false 1 (.t 18)),
 o 20 (.faddr 3 (.t 5)),
 o 21 (.load false 1 (.t 20)),
 m 22 3,
 o 24 (.faddr 8 (.t 5)),
 o 25 (.load false 1 (.t 24)),
 m 26 4,
 n 14 (.new 0 [(.str []), (.int .i64 (.ofNat 0)), (.int .i64 (.ofNat 0)), (.str []), (.int .i64 (.ofNat 0))]),
 e 23 (.call 308 [(.t 21), (.t 22)]),
 .again ⟨(some 25), none, (.r (.load false 1 (.t 24)))⟩,
 .again ⟨(some 19), none, (.r (.load false 1 (.t 18)))⟩,
 .again ⟨(some 17), none, (.r (.load false 1 (.t 16)))⟩,
 o 27 (.build [(.str []), (.int .i64 (.ofNat 0)), (.int .i64 (.ofNat 0)), (.str []), (.int .i64 (.ofNat 0))] [(0, 1, (.t 17)), (1, 1, (.t 19)), (2, 1, (.t 23)), (3, 1, (.t 25)), (4, 1, (.t 26))]),
 x (.store 5 (.t 14) (.t 27))])
  (.seq (.region [o 15 (.mv (.c (.fn 309 [])))])
  (.seq (.seq (.region [o 28 (.faddr 0 (.t 5)),
 o 29 (.load false 1 (.t 28))])
  (.block 0 (.seq (.region [o 33 (.bin .eql (.t 29) (ci 3)),
 m 32 33])
   (.cond (.t 32)
    (.seq (.region [m 34 15,
 o 36 (.load true 5 (.t 14)),
 e 35 (.callv (.t 34) [(ci 2)]),
 .again ⟨(some 36), none, (.r (.load true 5 (.t 14)))⟩,
 x (.store 9 (.t 10) (.t 35)),
 .again ⟨(some 36), none, (.r (.load true 5 (.t 14)))⟩,
 x (.store 5 (.t 11) (.t 36)),
 o 12 (.mv (.c (.bool true))),
 o 13 (.mv (.c (.bool false)))])
    .ret)
    (.seq (.seq (.region [o 38 (.bin .eql (.t 29) (ci 4)),
 m 37 38])
    (.cond (.t 37)
     .skip
     (.region [o 39 (.bin .eql (.t 29) (ci 5)),
 m 37 39])))
    (.cond (.t 37)
     (.seq (.seq (.region [m 40 2,
 o 41 (.faddr 0 (.t 5)),
 o 42 (.load false 1 (.t 41)),
 o 43 (.bin .eql (.t 42) (ci 4)),
 o 44 (.eqv false .b (.t 40) (.t 43))])
     (.cond (.t 44)
      (.seq (.region [m 45 15,
 o 47 (.load true 5 (.t 6)),
 e 46 (.callv (.t 45) [(ci 3)]),
 .again ⟨(some 47), none, (.r (.load true 5 (.t 6)))⟩,
 x (.store 9 (.t 10) (.t 46)),
 .again ⟨(some 47), none, (.r (.load true 5 (.t 6)))⟩,
 x (.store 5 (.t 11) (.t 47)),
 o 12 (.mv (.c (.bool false))),
 o 13 (.mv (.c (.bool false)))])
      .ret)
      .skip))
     (.seq (.region [m 48 15,
 o 50 (.load true 5 (.t 14)),
 e 49 (.callv (.t 48) [(ci 2)]),
 .again ⟨(some 50), none, (.r (.load true 5 (.t 14)))⟩,
 x (.store 9 (.t 10) (.t 49)),
 .again ⟨(some 50), none, (.r (.load true 5 (.t 14)))⟩,
 x (.store 5 (.t 11) (.t 50)),
 o 12 (.mv (.c (.bool true))),
 o 13 (.mv (.c (.bool false)))])
     .ret))
     (.seq (.seq (.region [o 52 (.bin .eql (.t 29) (ci 6)),
 m 51 52])
     (.cond (.t 51)
      .skip
      (.region [o 53 (.bin .eql (.t 29) (ci 7)),
 m 51 53])))
     (.cond (.t 51)
      (.seq (.seq (.region [m 54 2,
 o 55 (.un .not (.t 54))])
      (.cond (.t 55)
       (.seq (.region [m 56 15,
 o 58 (.load true 5 (.t 6)),
 e 57 (.callv (.t 56) [(ci 3)]),
 .again ⟨(some 58), none, (.r (.load true 5 (.t 6)))⟩,
 x (.store 9 (.t 10) (.t 57)),
 .again ⟨(some 58), none, (.r (.load true 5 (.t 6)))⟩,
 x (.store 5 (.t 11) (.t 58)),
 o 12 (.mv (.c (.bool false))),
 o 13 (.mv (.c (.bool false)))])
       .ret)
       .skip))
      (.seq (.region [o 60 (.load true 9 (.t 5)),
 o 61 (.load true 5 (.t 6)),
 m 62 4,
 o 63 (.bad),
 m 59 63,
 o 64 (.ext 0 (.t 59)),
 o 65 (.ext 1 (.t 59)),
 o 66 (.ext 2 (.t 59)),
 x (.store 9 (.t 10) (.t 64)),
 x (.store 5 (.t 11) (.t 65)),
 m 12 66])
      (.seq (.region [o 67 (.load true 9 (.t 10)),
 o 68 (.load true 5 (.t 11)),
 m 69 12,
 x (.store 9 (.t 10) (.t 67)),
 .again ⟨(some 68), none, (.r (.load true 5 (.t 11)))⟩,
 x (.store 5 (.t 11) (.t 68)),
 m 12 69,
 o 13 (.mv (.c (.bool false)))])
      .ret)))
      (.seq (.seq (.region [o 71 (.bin .eql (.t 29) (ci 8)),
 m 70 71])
      (.cond (.t 70)
       .skip
       (.seq (.region [o 72 (.bin .eql (.t 29) (ci 9)),
 m 70 72])
       (.cond (.t 70)
        .skip
        (.seq (.region [o 73 (.bin .eql (.t 29) (ci 12)),
 m 70 73])
        (.cond (.t 70)
         .skip
         (.seq (.region [o 74 (.bin .eql (.t 29) (ci 10)),
 m 70 74])
         (.cond (.t 70)
          .skip
          (.region [o 75 (.bin .eql (.t 29) (ci 11)),
 m 70 75])))))))))
      (.cond (.t 70)
       (.seq (.region [m 76 2,
 o 77 (.un .not (.t 76))])
       (.cond (.t 77)
        (.seq (.region [m 78 15,
 o 80 (.load true 5 (.t 6)),
 e 79 (.callv (.t 78) [(ci 5)]),
 .again ⟨(some 80), none, (.r (.load true 5 (.t 6)))⟩,
 x (.store 9 (.t 10) (.t 79)),
 .again ⟨(some 80), none, (.r (.load true 5 (.t 6)))⟩,
 x (.store 5 (.t 11) (.t 80)),
 o 12 (.mv (.c (.bool false))),
 o 13 (.mv (.c (.bool false)))])
        .ret)
        .skip))
       (.seq (.region [o 30 (.build [(.int .i64 (.ofNat 0)), .nils, (.bool false), (.int .u64 (.ofNat 0)), (.str []), (.int .i64 (.ofNat 0)), (.int .i64 (.ofNat 0)), (.int .i64 (.ofNat 0)), (.int .i64 (.ofNat 0))] []),
 o 31 (.load true 5 (.t 6)),
 x (.store 9 (.t 10) (.t 30)),
 .again ⟨(some 31), none, (.r (.load true 5 (.t 6)))⟩,
 x (.store 5 (.t 11) (.t 31)),
 o 12 (.mv (.c (.bool false))),
 o 13 (.mv (.c (.bool false)))])
       .ret)))))))))))
  (.seq (.seq (.region [o 81 (.faddr 0 (.t 5)),
 o 82 (.load false 1 (.t 81))])
  (.block 1 (.seq (.region [o 84 (.bin .eql (.t 82) (ci 8)),
 m 83 84])
   (.cond (.t 83)
    (.seq (.seq (.region [o 85 (.faddr 4 (.t 6)),
 o 86 (.load false 1 (.t 85)),
 o 87 (.faddr 5 (.t 5)),
 o 88 (.load false 1 (.t 87)),
 o 89 (.bin .neq (.t 86) (.t 88))])
    (.cond (.t 89)
     (.seq (.region [m 90 15,
 o 92 (.load true 5 (.t 6)),
 e 91 (.callv (.t 90) [(ci 4)]),
 .again ⟨(some 92), none, (.r (.load true 5 (.t 6)))⟩,
 x (.store 9 (.t 10) (.t 91)),
 .again ⟨(some 92), none, (.r (.load true 5 (.t 6)))⟩,
 x (.store 5 (.t 11) (.t 92)),
 o 12 (.mv (.c (.bool false))),
 o 13 (.mv (.c (.bool false)))])
     .ret)
     .skip))
    (.seq (.region [m 93 15,
 o 95 (.load true 5 (.t 14)),
 e 94 (.callv (.t 93) [(ci 2)]),
 .again ⟨(some 95), none, (.r (.load true 5 (.t 14)))⟩,
 x (.store 9 (.t 10) (.t 94)),
 .again ⟨(some 95), none, (.r (.load true 5 (.t 14)))⟩,
 x (.store 5 (.t 11) (.t 95)),
 o 12 (.mv (.c (.bool true))),
 o 13 (.mv (.c (.bool false)))])
    .ret))
    (.seq (.region [o 97 (.bin .eql (.t 82) (ci 9)),
 m 96 97])
    (.cond (.t 96)
     (.seq (.region [m 98 15,
 o 100 (.load true 5 (.t 6)),
 e 99 (.callv (.t 98) [(ci 6)]),
 .again ⟨(some 100), none, (.r (.load true 5 (.t 6)))⟩,
 x (.store 9 (.t 10) (.t 99)),
 .again ⟨(some 100), none, (.r (.load true 5 (.t 6)))⟩,
 x (.store 5 (.t 11) (.t 100)),
 o 12 (.mv (.c (.bool false))),
 o 13 (.mv (.c (.bool true)))])
     .ret)
     (.seq (.region [o 102 (.bin .eql (.t 82) (ci 12)),
 m 101 102])
     (.cond (.t 101)
      (.seq (.region [o 103 (.faddr 2 (.t 14)),
 o 104 (.load false 1 (.t 103)),
 o 105 (.faddr 2 (.t 6)),
 x (.store 1 (.t 105) (.t 104))])
      (.seq (.region [m 106 15,
 o 108 (.load true 5 (.t 6)),
 e 107 (.callv (.t 106) [(ci 7)]),
 .again ⟨(some 108), none, (.r (.load true 5 (.t 6)))⟩,
 x (.store 9 (.t 10) (.t 107)),
 .again ⟨(some 108), none, (.r (.load true 5 (.t 6)))⟩,
 x (.store 5 (.t 11) (.t 108)),
 o 12 (.mv (.c (.bool true))),
 o 13 (.mv (.c (.bool false)))])
      .ret))
      .skip))))))))
  (.seq (.region [o 110 (.load true 9 (.t 5)),
 o 111 (.load true 5 (.t 6)),
 m 112 4,
 o 113 (.bad),
 m 109 113,
 o 114 (.ext 0 (.t 109)),
 o 115 (.ext 1 (.t 109)),
 o 116 (.ext 2 (.t 109)),
 x (.store 9 (.t 10) (.t 114)),
 x (.store 5 (.t 11) (.t 115)),
 m 12 116])
  (.seq (.region [o 117 (.load true 9 (.t 10)),
 o 118 (.load true 5 (.t 11)),
 m 119 12,
 x (.store 9 (.t 10) (.t 117)),
 .again ⟨(some 118), none, (.r (.load true 5 (.t 11)))⟩,
 x (.store 5 (.t 11) (.t 118)),
 m 12 119,
 o 13 (.mv (.c (.bool false)))])
  .ret))))))) }
theorem tr262 : trF cx Tryz.f262 = pf262 := by kernel_rfl
/-- (*depot/task.Task).scatter -/
def pf263 : PF := { ntmps := 48, results := [], body :=
  (.seq (.region [n 4 (.box (.t 1))])
  (.scope (.seq (.region [m 9 0,
 e 10 (.call 212 [(.t 9), (ci 3)])])
   (.seq (.region [m 11 0,
 o 12 (.nilck (.t 11)),
 o 13 (.faddr 6 (.t 12)),
 o 14 (.load false 1 (.t 13)),
 m 15 2,
 e 16 (.call 255 [(.t 14), (.t 15)]),
 m 6 16])
   (.seq .skip
   (.seq (.seq (.region [m 17 0,
 o 18 (.nilck (.t 17)),
 o 19 (.faddr 19 (.t 18)),
 o 20 (.load false 1 (.t 19)),
 o 21 (.lensl (.t 20)),
 o 22 (.mv (ci 0))])
   (.block 0 (.loop (.seq (.region [o 23 (.bin .lss (.t 22) (.t 21))])
     (.seq (.cond (.t 23)
      .skip
      (.exit 0))
     (.seq (.block 1 (.seq (.region [m 24 22,
 o 25 (.iasl 1 (.t 20) (.t 22)),
 o 26 (.load false 1 (.t 25)),
 m 7 24,
 m 8 26])
      (.seq (.seq (.region [m 27 8,
 o 28 (.faddr 0 (.t 4)),
 o 29 (.iaarr 12 1 (.t 28) (.t 27)),
 o 30 (.load false 1 (.t 29)),
 o 31 (.bin .eql (.t 30) (ci 0))])
      (.cond (.t 31)
       (.exit 1)
       .skip))
      (.region [m 32 0,
 m 33 8,
 m 34 0,
 o 35 (.nilck (.t 34)),
 o 36 (.faddr 18 (.t 35)),
 o 37 (.load false 1 (.t 36)),
 m 38 6,
 m 39 7,
 o 40 (.iasl 1 (.t 38) (.t 39)),
 o 41 (.load false 1 (.t 40)),
 o 42 (.build [(.int .i64 (.ofNat 0)), (.int .i64 (.ofNat 0)), (.int .i64 (.ofNat 0)), (.int .i64 (.ofNat 0)), (.int .i64 (.ofNat 0)), (.int .i64 (.ofNat 0)), (.str []), (.int .i64 (.ofNat 0)), (.str [])] [(0, 1, (ci 1)), (5, 1, (ci 2)), (7, 1, (.t 37)), (8, 1, (.t 41))]),
 e 43 (.call 191 [(.t 32), (.t 33), (.t 42)])]))))
     (.region [o 44 (.bin .add (.t 22) (ci 1)),
 m 22 44])))))))
   (.region [m 45 0,
 o 46 (.load true 14 (.t 4)),
 e 47 (.call 146 [(.t 45), (.t 46)])]))))))) }
theorem tr263 : trF cx Tryz.f263 = pf263 := by kernel_rfl
/-- slices.IndexFunc[[]*depot/router.job,*depot/router.job] -/
def pf264 : PF := { ntmps := 19, results := [.tmp 4], body :=
  (.seq (.region [o 4 (.mv (ci 0))])
  (.seq (.seq (.region [m 6 0,
 o 7 (.lensl (.t 6)),
 o 8 (.mv (ci 0))])
  (.block 0 (.loop (.seq (.region [o 9 (.bin .lss (.t 8) (.t 7))])
    (.seq (.cond (.t 9)
     .skip
     (.exit 0))
    (.seq (.block 1 (.seq (.region [m 10 8,
 m 5 10])
     (.seq (.region [m 11 1,
 m 12 0,
 m 13 5,
 o 14 (.iasl 1 (.t 12) (.t 13)),
 o 15 (.load false 1 (.t 14)),
 e 16 (.callv (.t 11) [(.t 15)])])
     (.cond (.t 16)
      (.seq (.region [m 17 5,
 m 4 17])
      .ret)
      .skip))))
    (.region [o 18 (.bin .add (.t 8) (ci 1)),
 m 8 18])))))))
  (.seq (.region [o 4 (.mv (.c (.int .i64 (.negSucc 0))))])
  .ret))) }
theorem tr264 : trF cx Tryz.f264 = pf264 := by kernel_rfl
/-- depot/answer.number -/
def pf267 : PF := { ntmps := 6, results := [.tmp 2], body :=
  (.seq (.region [o 2 (.mv (.c (.str [])))])
  (.seq (.region [m 3 0,
 o 4 (.minmax true [(.t 3), (ci 0)]),
 e 5 (.call 62 [(.t 4)]),
 m 2 5])
  .ret)) }
theorem tr267 : trF cx Tryz.f267 = pf267 := by kernel_rfl
/-- strings.Join -/
def pf268 : PF := { ntmps := 75, results := [.tmp 4], body :=
  (.seq (.region [o 4 (.mv (.c (.str [])))])
  (.seq (.seq (.region [m 11 0,
 o 12 (.lensl (.t 11))])
  (.block 0 (.seq (.region [o 14 (.bin .eql (.t 12) (ci 0)),
 m 13 14])
   (.cond (.t 13)
    (.seq (.region [o 4 (.mv (.c (.str [])))])
    .ret)
    (.seq (.region [o 16 (.bin .eql (.t 12) (ci 1)),
 m 15 16])
    (.cond (.t 15)
     (.seq (.region [m 17 0,
 o 18 (.iasl 1 (.t 17) (ci 0)),
 o 19 (.load false 1 (.t 18)),
 m 4 19])
     .ret)
     .skip))))))
  (.seq (.region [o 5 (.mv (ci 0))])
  (.seq (.seq (.region [m 20 1,
 o 21 (.lens (.t 20)),
 o 22 (.bin .gtr (.t 21) (ci 0))])
  (.cond (.t 22)
   (.seq (.seq (.region [m 23 1,
 o 24 (.lens (.t 23)),
 m 25 0,
 o 26 (.lensl (.t 25)),
 o 27 (.bin .sub (.t 26) (ci 1)),
 o 28 (.bin .quo (ci 9223372036854775807) (.t 27)),
 o 29 (.bin .geq (.t 24) (.t 28))])
   (.cond (.t 29)
    (.region [o 30 (.bad),
 .op ⟨none, none, (.r (.bad))⟩])
    .skip))
   (.region [m 31 5,
 m 32 1,
 o 33 (.lens (.t 32)),
 m 34 0,
 o 35 (.lensl (.t 34)),
 o 36 (.bin .sub (.t 35) (ci 1)),
 o 37 (.bin .mul (.t 33) (.t 36)),
 o 38 (.bin .add (.t 31) (.t 37)),
 m 5 38]))
   .skip))
  (.seq (.seq (.region [m 39 0,
 o 40 (.lensl (.t 39)),
 o 41 (.mv (ci 0))])
  (.block 1 (.loop (.seq (.region [o 42 (.bin .lss (.t 41) (.t 40))])
    (.seq (.cond (.t 42)
     .skip
     (.exit 1))
    (.seq (.block 2 (.seq (.region [o 43 (.iasl 1 (.t 39) (.t 41)),
 o 44 (.load false 1 (.t 43)),
 m 7 44])
     (.seq (.seq (.region [m 45 7,
 o 46 (.lens (.t 45)),
 m 47 5,
 o 48 (.bin .sub (ci 9223372036854775807) (.t 47)),
 o 49 (.bin .gtr (.t 46) (.t 48))])
     (.cond (.t 49)
      (.region [o 50 (.bad),
 .op ⟨none, none, (.r (.bad))⟩])
      .skip))
     (.region [m 51 5,
 m 52 7,
 o 53 (.lens (.t 52)),
 o 54 (.bin .add (.t 51) (.t 53)),
 m 5 54]))))
    (.region [o 55 (.bin .add (.t 41) (ci 1)),
 m 41 55])))))))
  (.seq (.region [n 8 (.new 1 [.nilp, .nils])])
  (.seq (.region [m 56 5,
 e 57 (.call 313 [(.t 8), (.t 56)])])
  (.seq (.region [m 58 0,
 o 59 (.iasl 1 (.t 58) (ci 0)),
 o 60 (.load false 1 (.t 59)),
 e 61 (.call 67 [(.t 8), (.t 60)])])
  (.seq (.seq (.region [m 62 0,
 o 63 (.slsl 1 (.t 62) (some (ci 1)) none none),
 o 64 (.lensl (.t 63)),
 o 65 (.mv (ci 0))])
  (.block 3 (.loop (.seq (.region [o 66 (.bin .lss (.t 65) (.t 64))])
    (.seq (.cond (.t 66)
     .skip
     (.exit 3))
    (.seq (.block 4 (.seq (.region [o 67 (.iasl 1 (.t 63) (.t 65)),
 o 68 (.load false 1 (.t 67)),
 m 10 68])
     (.seq (.region [m 69 1,
 e 70 (.call 67 [(.t 8), (.t 69)])])
     (.region [m 71 10,
 e 72 (.call 67 [(.t 8), (.t 71)])]))))
    (.region [o 73 (.bin .add (.t 65) (ci 1)),
 m 65 73])))))))
  (.seq (.region [e 74 (.call 68 [(.t 8)]),
 m 4 74])
  .ret)))))))))) }
theorem tr268 : trF cx Tryz.f268 = pf268 := by kernel_rfl
/-- internal/stringslite.TrimSuffix -/
def pf270 : PF := { ntmps := 16, results := [.tmp 4], body :=
  (.seq (.region [o 4 (.mv (.c (.str [])))])
  (.seq (.seq (.region [m 5 0,
 m 6 1,
 e 7 (.call 314 [(.t 5), (.t 6)])])
  (.cond (.t 7)
   (.seq (.region [m 8 0,
 m 9 0,
 o 10 (.lens (.t 9)),
 m 11 1,
 o 12 (.lens (.t 11)),
 o 13 (.bin .sub (.t 10) (.t 12)),
 o 14 (.slstr (.t 8) none (some (.t 13))),
 m 4 14])
   .ret)
   .skip))
  (.seq (.region [m 15 0,
 m 4 15])
  .ret))) }
theorem tr270 : trF cx Tryz.f270 = pf270 := by kernel_rfl
/-- depot/words.Split -/
def pf271 : PF := { ntmps := 35, results := [.tmp 2], body :=
  (.seq (.region [o 2 (.mv (.c .nils))])
  (.scope (.seq (.region [o 3 (.mv (.c .nils))])
   (.seq (.region [o 4 (.mv (ci 0))])
   (.seq .skip
   (.seq (.seq (.region [o 5 (.mv (ci 0))])
   (.block 0 (.loop (.seq (.seq (.region [m 6 5,
 m 7 0,
 o 8 (.lens (.t 7)),
 o 9 (.bin .leq (.t 6) (.t 8))])
     (.cond (.t 9)
      .skip
      (.exit 0)))
     (.seq (.block 1 (.seq (.seq (.region [m 12 5,
 m 13 0,
 o 14 (.lens (.t 13)),
 o 15 (.bin .lss (.t 12) (.t 14)),
 m 16 15,
 gm 17 16 true 0,
 gm 18 16 true 5,
 go 19 16 true (.ixstr (.t 17) (.t 18)),
 go 20 16 true (.bin .neq (.t 19) (.c (.int .u8 (.ofNat 32)))),
 o 21 (.pick (.t 16) (.t 20) (.c (.bool false)))])
      (.cond (.t 21)
       (.exit 1)
       .skip))
      (.seq (.seq (.region [m 22 5,
 m 23 4,
 o 24 (.bin .gtr (.t 22) (.t 23))])
      (.cond (.t 24)
       (.region [m 25 3,
 m 26 0,
 m 27 4,
 m 28 5,
 o 29 (.slstr (.t 26) (some (.t 27)) (some (.t 28))),
 n 30 (.bslice 0 1 1 [(.str [])] [(0, 1, (.t 29))]),
 e 31 (.app 0 1 16 (.t 25) (.t 30)),
 m 3 31])
       .skip))
      (.region [m 32 5,
 o 33 (.bin .add (.t 32) (ci 1)),
 m 4 33]))))
     (.region [m 10 5,
 o 11 (.bin .add (.t 10) (ci 1)),
 m 5 11]))))))
   (.seq (.region [m 34 3,
 m 2 34])
   .ret))))))) }
theorem tr271 : trF cx Tryz.f271 = pf271 := by kernel_rfl
/-- depot/words.shapeOf -/
def pf272 : PF := { ntmps := 57, results := [.cell 2 true 4, .tmp 3], body :=
  (.seq (.region [n 2 (.new 0 [(.int .i64 (.ofNat 0)), (.int .i64 (.ofNat 0)), (.int .i64 (.ofNat 0)), (.bool false)]),
 o 3 (.mv (.c (.bool false)))])
  (.seq (.seq (.region [m 4 0])
  (.block 0 (.seq (.region [o 6 (.bin .eql (.t 4) (.c (.str [103, 101, 116]))),
 m 5 6])
   (.cond (.t 5)
    (.seq (.region [o 7 (.build [(.int .i64 (.ofNat 0)), (.int .i64 (.ofNat 0)), (.int .i64 (.ofNat 0)), (.bool false)] [(0, 1, (ci 1)), (1, 1, (ci 1)), (2, 1, (ci 64)), (3, 1, (.c (.bool false)))]),
 x (.store 4 (.t 2) (.t 7)),
 o 3 (.mv (.c (.bool true)))])
    .ret)
    (.seq (.region [o 9 (.bin .eql (.t 4) (.c (.str [103, 101, 116, 115]))),
 m 8 9])
    (.cond (.t 8)
     (.seq (.region [o 10 (.build [(.int .i64 (.ofNat 0)), (.int .i64 (.ofNat 0)), (.int .i64 (.ofNat 0)), (.bool false)] [(0, 1, (ci 2)), (1, 1, (ci 1)), (2, 1, (ci 64)), (3, 1, (.c (.bool false)))]),
 x (.store 4 (.t 2) (.t 10)),
 o 3 (.mv (.c (.bool true)))])
     .ret)
     (.seq (.region [o 12 (.bin .eql (.t 4) (.c (.str [115, 101, 116]))),
 m 11 12])
     (.cond (.t 11)
      (.seq (.region [o 13 (.build [(.int .i64 (.ofNat 0)), (.int .i64 (.ofNat 0)), (.int .i64 (.ofNat 0)), (.bool false)] [(0, 1, (ci 3)), (1, 1, (ci 4)), (2, 1, (ci 4)), (3, 1, (.c (.bool true)))]),
 x (.store 4 (.t 2) (.t 13)),
 o 3 (.mv (.c (.bool true)))])
      .ret)
      (.seq (.region [o 15 (.bin .eql (.t 4) (.c (.str [97, 100, 100]))),
 m 14 15])
      (.cond (.t 14)
       (.seq (.region [o 16 (.build [(.int .i64 (.ofNat 0)), (.int .i64 (.ofNat 0)), (.int .i64 (.ofNat 0)), (.bool false)] [(0, 1, (ci 4)), (1, 1, (ci 4)), (2, 1, (ci 4)), (3, 1, (.c (.bool true)))]),
 x (.store 4 (.t 2) (.t 16)),
 o 3 (.mv (.c (.bool true)))])
       .ret)
       (.seq (.region [o 18 (.bin .eql (.t 4) (.c (.str [114, 101, 112, 108, 97, 99, 101]))),
 m 17 18])
       (.cond (.t 17)
        (.seq (.region [o 19 (.build [(.int .i64 (.ofNat 0)), (.int .i64 (.ofNat 0)), (.int .i64 (.ofNat 0)), (.bool false)] [(0, 1, (ci 5)), (1, 1, (ci 4)), (2, 1, (ci 4)), (3, 1, (.c (.bool true)))]),
 x (.store 4 (.t 2) (.t 19)),
 o 3 (.mv (.c (.bool true)))])
        .ret)
        (.seq (.region [o 21 (.bin .eql (.t 4) (.c (.str [97, 112, 112, 101, 110, 100]))),
 m 20 21])
        (.cond (.t 20)
         (.seq (.region [o 22 (.build [(.int .i64 (.ofNat 0)), (.int .i64 (.ofNat 0)), (.int .i64 (.ofNat 0)), (.bool false)] [(0, 1, (ci 6)), (1, 1, (ci 4)), (2, 1, (ci 4)), (3, 1, (.c (.bool true)))]),
 x (.store 4 (.t 2) (.t 22)),
 o 3 (.mv (.c (.bool true)))])
         .ret)
         (.seq (.region [o 24 (.bin .eql (.t 4) (.c (.str [112, 114, 101, 112, 101, 110, 100]))),
 m 23 24])
         (.cond (.t 23)
          (.seq (.region [o 25 (.build [(.int .i64 (.ofNat 0)), (.int .i64 (.ofNat 0)), (.int .i64 (.ofNat 0)), (.bool false)] [(0, 1, (ci 7)), (1, 1, (ci 4)), (2, 1, (ci 4)), (3, 1, (.c (.bool true)))]),
 x (.store 4 (.t 2) (.t 25)),
 o 3 (.mv (.c (.bool true)))])
          .ret)
          (.seq (.region [o 27 (.bin .eql (.t 4) (.c (.str [99, 97, 115]))),
 m 26 27])
          (.cond (.t 26)
           (.seq (.region [o 28 (.build [(.int .i64 (.ofNat 0)), (.int .i64 (.ofNat 0)), (.int .i64 (.ofNat 0)), (.bool false)] [(0, 1, (ci 8)), (1, 1, (ci 5)), (2, 1, (ci 5)), (3, 1, (.c (.bool true)))]),
 x (.store 4 (.t 2) (.t 28)),
 o 3 (.mv (.c (.bool true)))])
           .ret)
           (.seq (.region [o 30 (.bin .eql (.t 4) (.c (.str [100, 101, 108, 101, 116, 101]))),
 m 29 30])
           (.cond (.t 29)
            (.seq (.region [o 31 (.build [(.int .i64 (.ofNat 0)), (.int .i64 (.ofNat 0)), (.int .i64 (.ofNat 0)), (.bool false)] [(0, 1, (ci 9)), (1, 1, (ci 1)), (2, 1, (ci 1)), (3, 1, (.c (.bool true)))]),
 x (.store 4 (.t 2) (.t 31)),
 o 3 (.mv (.c (.bool true)))])
            .ret)
            (.seq (.region [o 33 (.bin .eql (.t 4) (.c (.str [105, 110, 99, 114]))),
 m 32 33])
            (.cond (.t 32)
             (.seq (.region [o 34 (.build [(.int .i64 (.ofNat 0)), (.int .i64 (.ofNat 0)), (.int .i64 (.ofNat 0)), (.bool false)] [(0, 1, (ci 10)), (1, 1, (ci 2)), (2, 1, (ci 2)), (3, 1, (.c (.bool true)))]),
 x (.store 4 (.t 2) (.t 34)),
 o 3 (.mv (.c (.bool true)))])
             .ret)
             (.seq (.region [o 36 (.bin .eql (.t 4) (.c (.str [100, 101, 99, 114]))),
 m 35 36])
             (.cond (.t 35)
              (.seq (.region [o 37 (.build [(.int .i64 (.ofNat 0)), (.int .i64 (.ofNat 0)), (.int .i64 (.ofNat 0)), (.bool false)] [(0, 1, (ci 11)), (1, 1, (ci 2)), (2, 1, (ci 2)), (3, 1, (.c (.bool true)))]),
 x (.store 4 (.t 2) (.t 37)),
 o 3 (.mv (.c (.bool true)))])
              .ret)
              (.seq (.region [o 39 (.bin .eql (.t 4) (.c (.str [116, 111, 117, 99, 104]))),
 m 38 39])
              (.cond (.t 38)
               (.seq (.region [o 40 (.build [(.int .i64 (.ofNat 0)), (.int .i64 (.ofNat 0)), (.int .i64 (.ofNat 0)), (.bool false)] [(0, 1, (ci 12)), (1, 1, (ci 2)), (2, 1, (ci 2)), (3, 1, (.c (.bool true)))]),
 x (.store 4 (.t 2) (.t 40)),
 o 3 (.mv (.c (.bool true)))])
               .ret)
               (.seq (.region [o 42 (.bin .eql (.t 4) (.c (.str [102, 108, 117, 115, 104, 95, 97, 108, 108]))),
 m 41 42])
               (.cond (.t 41)
                (.seq (.region [o 43 (.build [(.int .i64 (.ofNat 0)), (.int .i64 (.ofNat 0)), (.int .i64 (.ofNat 0)), (.bool false)] [(0, 1, (ci 13)), (1, 1, (ci 0)), (2, 1, (ci 1)), (3, 1, (.c (.bool true)))]),
 x (.store 4 (.t 2) (.t 43)),
 o 3 (.mv (.c (.bool true)))])
                .ret)
                (.seq (.region [o 45 (.bin .eql (.t 4) (.c (.str [118, 101, 114, 115, 105, 111, 110]))),
 m 44 45])
                (.cond (.t 44)
                 (.seq (.region [o 46 (.build [(.int .i64 (.ofNat 0)), (.int .i64 (.ofNat 0)), (.int .i64 (.ofNat 0)), (.bool false)] [(0, 1, (ci 14)), (1, 1, (ci 0)), (2, 1, (ci 0)), (3, 1, (.c (.bool false)))]),
 x (.store 4 (.t 2) (.t 46)),
 o 3 (.mv (.c (.bool true)))])
                 .ret)
                 (.seq (.region [o 48 (.bin .eql (.t 4) (.c (.str [118, 101, 114, 98, 111, 115, 105, 116, 121]))),
 m 47 48])
                 (.cond (.t 47)
                  (.seq (.region [o 49 (.build [(.int .i64 (.ofNat 0)), (.int .i64 (.ofNat 0)), (.int .i64 (.ofNat 0)), (.bool false)] [(0, 1, (ci 15)), (1, 1, (ci 1)), (2, 1, (ci 1)), (3, 1, (.c (.bool true)))]),
 x (.store 4 (.t 2) (.t 49)),
 o 3 (.mv (.c (.bool true)))])
                  .ret)
                  (.seq (.region [o 51 (.bin .eql (.t 4) (.c (.str [115, 116, 97, 116, 115]))),
 m 50 51])
                  (.cond (.t 50)
                   (.seq (.region [o 52 (.build [(.int .i64 (.ofNat 0)), (.int .i64 (.ofNat 0)), (.int .i64 (.ofNat 0)), (.bool false)] [(0, 1, (ci 16)), (1, 1, (ci 0)), (2, 1, (ci 0)), (3, 1, (.c (.bool false)))]),
 x (.store 4 (.t 2) (.t 52)),
 o 3 (.mv (.c (.bool true)))])
                   .ret)
                   (.seq (.region [o 54 (.bin .eql (.t 4) (.c (.str [113, 117, 105, 116]))),
 m 53 54])
                   (.cond (.t 53)
                    (.seq (.region [o 55 (.build [(.int .i64 (.ofNat 0)), (.int .i64 (.ofNat 0)), (.int .i64 (.ofNat 0)), (.bool false)] [(0, 1, (ci 17)), (1, 1, (ci 0)), (2, 1, (ci 0)), (3, 1, (.c (.bool false)))]),
 x (.store 4 (.t 2) (.t 55)),
 o 3 (.mv (.c (.bool true)))])
                    .ret)
                    .skip))))))))))))))))))))))))))))))))))))
  (.seq (.region [o 56 (.build [(.int .i64 (.ofNat 0)), (.int .i64 (.ofNat 0)), (.int .i64 (.ofNat 0)), (.bool false)] []),
 x (.store 4 (.t 2) (.t 56)),
 o 3 (.mv (.c (.bool false)))])
  .ret))) }
theorem tr272 : trF cx Tryz.f272 = pf272 := by kernel_rfl
/-- depot/words.fill -/
def pf273 : PF := { ntmps := 127, results := [.tmp 4], body :=
  (.seq (.region [o 4 (.mv (.c (.bool false)))])
  (.seq (.seq (.region [m 10 0,
 o 11 (.nilck (.t 10)),
 o 12 (.faddr 0 (.t 11)),
 o 13 (.load false 1 (.t 12))])
  (.block 0 (.seq (.seq (.region [o 15 (.bin .eql (.t 13) (ci 1)),
 m 14 15])
   (.cond (.t 14)
    .skip
    (.region [o 16 (.bin .eql (.t 13) (ci 2)),
 m 14 16])))
   (.cond (.t 14)
    (.seq (.seq (.region [m 17 1,
 o 18 (.lensl (.t 17)),
 o 19 (.mv (ci 0))])
    (.block 1 (.loop (.seq (.region [o 20 (.bin .lss (.t 19) (.t 18))])
      (.seq (.cond (.t 20)
       .skip
       (.exit 1))
      (.seq (.block 2 (.seq (.region [o 21 (.iasl 1 (.t 17) (.t 19)),
 o 22 (.load false 1 (.t 21)),
 m 6 22])
       (.seq (.region [m 23 6,
 e 24 (.call 100 [(.t 23)]),
 o 25 (.un .not (.t 24))])
       (.cond (.t 25)
        (.seq (.region [o 4 (.mv (.c (.bool false)))])
        .ret)
        .skip))))
      (.region [o 26 (.bin .add (.t 19) (ci 1)),
 m 19 26])))))))
    (.seq (.region [m 27 0,
 m 28 0,
 o 29 (.nilck (.t 28)),
 o 30 (.faddr 1 (.t 29)),
 o 31 (.load false 1 (.t 30)),
 m 32 1,
 e 33 (.app 0 1 16 (.t 31) (.t 32)),
 o 34 (.nilck (.t 27)),
 o 35 (.faddr 1 (.t 34)),
 x (.store 1 (.t 35) (.t 33))])
    (.seq (.region [o 4 (.mv (.c (.bool true)))])
    .ret)))
    (.seq (.region [o 37 (.bin .eql (.t 13) (ci 13)),
 m 36 37])
    (.cond (.t 36)
     (.seq (.region [m 38 1,
 o 39 (.lensl (.t 38)),
 o 40 (.bin .eql (.t 39) (ci 0)),
 m 41 40,
 gm 42 41 false 1,
 go 43 41 false (.iasl 1 (.t 42) (ci 0)),
 go 44 41 false (.load false 1 (.t 43)),
 go 45 41 false (.bin .eql (.t 44) (.c (.str [48]))),
 o 46 (.pick (.t 41) (.c (.bool true)) (.t 45)),
 m 4 46])
     .ret)
     (.seq (.region [o 48 (.bin .eql (.t 13) (ci 15)),
 m 47 48])
     (.cond (.t 47)
      (.seq (.region [m 50 1,
 o 51 (.iasl 1 (.t 50) (ci 0)),
 o 52 (.load false 1 (.t 51)),
 e 53 (.call 315 [(.t 52), (.c (.int .u64 (.ofNat 4294967295)))]),
 m 49 53,
 o 54 (.ext 0 (.t 49)),
 o 55 (.ext 1 (.t 49)),
 m 7 54,
 m 8 55])
      (.seq (.region [m 56 8,
 m 4 56])
      .ret))
      (.seq (.seq (.region [o 58 (.bin .eql (.t 13) (ci 14)),
 m 57 58])
      (.cond (.t 57)
       .skip
       (.seq (.region [o 59 (.bin .eql (.t 13) (ci 16)),
 m 57 59])
       (.cond (.t 57)
        .skip
        (.region [o 60 (.bin .eql (.t 13) (ci 17)),
 m 57 60])))))
      (.cond (.t 57)
       (.seq (.region [o 4 (.mv (.c (.bool true)))])
       .ret)
       .skip))))))))))
  (.seq (.seq (.region [m 61 1,
 o 62 (.iasl 1 (.t 61) (ci 0)),
 o 63 (.load false 1 (.t 62)),
 e 64 (.call 100 [(.t 63)]),
 o 65 (.un .not (.t 64))])
  (.cond (.t 65)
   (.seq (.region [o 4 (.mv (.c (.bool false)))])
   .ret)
   .skip))
  (.seq (.region [m 66 0,
 m 67 0,
 o 68 (.nilck (.t 67)),
 o 69 (.faddr 1 (.t 68)),
 o 70 (.load false 1 (.t 69)),
 m 71 1,
 o 72 (.iasl 1 (.t 71) (ci 0)),
 o 73 (.load false 1 (.t 72)),
 n 74 (.bslice 0 1 1 [(.str [])] [(0, 1, (.t 73))]),
 e 75 (.app 0 1 16 (.t 70) (.t 74)),
 o 76 (.nilck (.t 66)),
 o 77 (.faddr 1 (.t 76)),
 x (.store 1 (.t 77) (.t 75))])
  (.seq (.region [o 9 (.mv (.c (.bool true)))])
  (.seq (.block 3 (.seq (.region [m 79 0,
 o 80 (.nilck (.t 79)),
 o 81 (.faddr 0 (.t 80)),
 o 82 (.load false 1 (.t 81)),
 e 83 (.call 46 [(.t 82)]),
 m 78 83])
   (.cond (.t 78)
    (.region [m 84 0,
 m 85 1,
 e 86 (.call 316 [(.t 84), (.t 85)]),
 m 9 86])
    (.seq (.region [m 88 0,
 o 89 (.nilck (.t 88)),
 o 90 (.faddr 0 (.t 89)),
 o 91 (.load false 1 (.t 90)),
 o 92 (.bin .eql (.t 91) (ci 10)),
 m 93 92,
 gm 94 93 false 0,
 go 95 93 false (.nilck (.t 94)),
 go 96 93 false (.faddr 0 (.t 95)),
 go 97 93 false (.load false 1 (.t 96)),
 go 98 93 false (.bin .eql (.t 97) (ci 11)),
 o 99 (.pick (.t 93) (.c (.bool true)) (.t 98)),
 m 87 99])
    (.cond (.t 87)
     (.region [m 101 0,
 m 102 1,
 o 103 (.iasl 1 (.t 102) (ci 1)),
 o 104 (.load false 1 (.t 103)),
 e 105 (.call 315 [(.t 104), (.c (.int .u64 (.ofNat 18446744073709551615)))]),
 m 100 105,
 o 106 (.ext 0 (.t 100)),
 o 107 (.ext 1 (.t 100)),
 o 108 (.nilck (.t 101)),
 o 109 (.faddr 6 (.t 108)),
 x (.store 1 (.t 109) (.t 106)),
 m 9 107])
     (.seq (.region [m 111 0,
 o 112 (.nilck (.t 111)),
 o 113 (.faddr 0 (.t 112)),
 o 114 (.load false 1 (.t 113)),
 o 115 (.bin .eql (.t 114) (ci 12)),
 m 110 115])
     (.cond (.t 110)
      (.region [m 117 0,
 m 118 1,
 o 119 (.iasl 1 (.t 118) (ci 1)),
 o 120 (.load false 1 (.t 119)),
 e 121 (.call 317 [(.t 120), (.c (.int .u64 (.ofNat 1099511627776)))]),
 m 116 121,
 o 122 (.ext 0 (.t 116)),
 o 123 (.ext 1 (.t 116)),
 o 124 (.nilck (.t 117)),
 o 125 (.faddr 3 (.t 124)),
 x (.store 1 (.t 125) (.t 122)),
 m 9 123])
      .skip)))))))
  (.seq (.region [m 126 9,
 m 4 126])
  .ret))))))) }
theorem tr273 : trF cx Tryz.f273 = pf273 := by kernel_rfl
/-- internal/stringslite.HasPrefix -/
def pf274 : PF := { ntmps := 18, results := [.tmp 4], body :=
  (.seq (.region [o 4 (.mv (.c (.bool false)))])
  (.seq (.region [m 5 0,
 o 6 (.lens (.t 5)),
 m 7 1,
 o 8 (.lens (.t 7)),
 o 9 (.bin .geq (.t 6) (.t 8)),
 m 10 9,
 gm 11 10 true 0,
 gm 12 10 true 1,
 go 13 10 true (.lens (.t 12)),
 go 14 10 true (.slstr (.t 11) none (some (.t 13))),
 gm 15 10 true 1,
 go 16 10 true (.bin .eql (.t 14) (.t 15)),
 o 17 (.pick (.t 10) (.t 16) (.c (.bool false))),
 m 4 17])
  .ret)) }
theorem tr274 : trF cx Tryz.f274 = pf274 := by kernel_rfl
/-- (*depot/rs.Code).chosen -/
def pf302 : PF := { ntmps := 50, results := [.tmp 4, .tmp 5], body :=
  (.seq (.region [o 4 (.mv (.c .nils)),
 o 5 (.mv (.c .nils))])
  (.scope (.seq (.region [n 6 (.new 0 (rep 12 [(.int .i64 (.ofNat 0))]))])
   (.seq .skip
   (.seq (.seq (.region [m 9 1,
 o 10 (.lensl (.t 9)),
 o 11 (.mv (ci 0))])
   (.block 0 (.loop (.seq (.region [o 12 (.bin .lss (.t 11) (.t 10))])
     (.seq (.cond (.t 12)
      .skip
      (.exit 0))
     (.seq (.block 1 (.seq (.region [o 13 (.iasl 2 (.t 9) (.t 11)),
 o 14 (.load true 2 (.t 13)),
 n 8 (.new 0 [(.int .i64 (.ofNat 0)), (.str [])]),
 x (.store 2 (.t 8) (.t 14))])
      (.seq (.seq (.region [o 15 (.faddr 0 (.t 8)),
 o 16 (.load false 1 (.t 15)),
 o 17 (.iaarr 12 1 (.t 6) (.t 16)),
 o 18 (.load false 1 (.t 17)),
 o 19 (.bin .gtr (.t 18) (ci 0))])
      (.cond (.t 19)
       (.exit 1)
       .skip))
      (.seq (.region [o 20 (.faddr 0 (.t 8)),
 o 21 (.load false 1 (.t 20)),
 o 22 (.iaarr 12 1 (.t 6) (.t 21)),
 x (.store 1 (.t 22) (ci 1))])
      (.seq (.region [m 23 4,
 m 24 0,
 o 25 (.nilck (.t 24)),
 o 26 (.faddr 768 (.t 25)),
 o 27 (.load false 1 (.t 26)),
 o 28 (.faddr 0 (.t 8)),
 o 29 (.load false 1 (.t 28)),
 o 30 (.iasl 1 (.t 27) (.t 29)),
 o 31 (.load false 1 (.t 30)),
 n 32 (.bslice 0 1 1 [.nils] [(0, 1, (.t 31))]),
 m 34 5,
 o 35 (.faddr 1 (.t 8)),
 o 36 (.load false 1 (.t 35)),
 n 37 (.s2b (.t 36)),
 n 38 (.bslice 0 1 1 [.nils] [(0, 1, (.t 37))]),
 e 33 (.app 0 1 24 (.t 23) (.t 32)),
 .again ⟨(some 36), none, (.r (.load false 1 (.t 35)))⟩,
 e 39 (.app 0 1 24 (.t 34) (.t 38)),
 m 4 33,
 m 5 39])
      (.seq (.region [m 40 4,
 o 41 (.lensl (.t 40)),
 m 42 0,
 o 43 (.nilck (.t 42)),
 o 44 (.faddr 0 (.t 43)),
 o 45 (.load false 1 (.t 44)),
 o 46 (.bin .eql (.t 41) (.t 45))])
      (.cond (.t 46)
       (.exit 0)
       .skip)))))))
     (.region [o 47 (.bin .add (.t 11) (ci 1)),
 m 11 47])))))))
   (.seq (.region [m 48 4,
 m 49 5,
 m 4 48,
 m 5 49])
   .ret)))))) }
theorem tr302 : trF cx Tryz.f302 = pf302 := by kernel_rfl
/-- depot/matrix.Invert -/
def pf303 : PF := { ntmps := 68, results := [.tmp 4, .tmp 5], body :=
  (.seq (.region [o 4 (.mv (.c .nils)),
 o 5 (.mv (.c (.bool false)))])
  (.seq (.seq (.region [m 11 1,
 e 12 (.call 328 [(.t 11)]),
 o 13 (.un .not (.t 12)),
 m 14 13,
 gm 15 14 false 1,
 go 16 14 false (.lensl (.t 15)),
 gm 17 14 false 1,
 go 18 14 false (.iasl 1 (.t 17) (ci 0)),
 go 19 14 false (.load false 1 (.t 18)),
 go 20 14 false (.lensl (.t 19)),
 go 21 14 false (.bin .neq (.t 16) (.t 20)),
 o 22 (.pick (.t 14) (.c (.bool true)) (.t 21))])
  (.cond (.t 22)
   (.seq (.region [o 4 (.mv (.c .nils)),
 o 5 (.mv (.c (.bool false)))])
   .ret)
   .skip))
  (.seq (.region [m 23 1,
 o 24 (.lensl (.t 23)),
 m 6 24])
  (.seq (.region [m 25 1,
 e 26 (.call 329 [(.t 25)]),
 m 7 26])
  (.seq (.seq (.region [m 27 6,
 e 28 (.call 176 [(.t 27)]),
 o 29 (.lensl (.t 28)),
 o 30 (.mv (ci 0))])
  (.block 0 (.loop (.seq (.region [o 31 (.bin .lss (.t 30) (.t 29))])
    (.seq (.cond (.t 31)
     .skip
     (.exit 0))
    (.seq (.block 1 (.seq (.region [m 32 30,
 o 33 (.iasl 1 (.t 28) (.t 30)),
 o 34 (.load false 1 (.t 33)),
 m 8 32,
 m 9 34])
     (.region [m 35 7,
 m 36 8,
 m 37 7,
 m 38 8,
 o 39 (.iasl 1 (.t 37) (.t 38)),
 o 40 (.load false 1 (.t 39)),
 m 41 9,
 e 42 (.app 2 1 1 (.t 40) (.t 41)),
 o 43 (.iasl 1 (.t 35) (.t 36)),
 x (.store 1 (.t 43) (.t 42))])))
    (.region [o 44 (.bin .add (.t 30) (ci 1)),
 m 30 44])))))))
  (.seq (.seq (.region [m 45 0,
 m 46 7,
 m 47 6,
 e 48 (.call 330 [(.t 45), (.t 46), (.t 47)]),
 m 49 6,
 o 50 (.bin .lss (.t 48) (.t 49))])
  (.cond (.t 50)
   (.seq (.region [o 4 (.mv (.c .nils)),
 o 5 (.mv (.c (.bool false)))])
   .ret)
   .skip))
  (.seq (.seq (.region [m 51 7,
 o 52 (.lensl (.t 51)),
 o 53 (.mv (ci 0))])
  (.block 2 (.loop (.seq (.region [o 54 (.bin .lss (.t 53) (.t 52))])
    (.seq (.cond (.t 54)
     .skip
     (.exit 2))
    (.seq (.block 3 (.seq (.region [m 55 53,
 m 10 55])
     (.region [m 56 7,
 m 57 10,
 m 58 7,
 m 59 10,
 o 60 (.iasl 1 (.t 58) (.t 59)),
 o 61 (.load false 1 (.t 60)),
 m 62 6,
 o 63 (.slsl 1 (.t 61) (some (.t 62)) none none),
 e 64 (.call 331 [(.t 63)]),
 o 65 (.iasl 1 (.t 56) (.t 57)),
 x (.store 1 (.t 65) (.t 64))])))
    (.region [o 66 (.bin .add (.t 53) (ci 1)),
 m 53 66])))))))
  (.seq (.region [m 67 7,
 m 4 67,
 o 5 (.mv (.c (.bool true)))])
  .ret)))))))) }
theorem tr303 : trF cx Tryz.f303 = pf303 := by kernel_rfl
/-- (*depot/rs.Code).mix -/
def pf304 : PF := { ntmps := 50, results := [.tmp 8], body :=
  (.seq (.region [o 8 (.mv (.c .nils))])
  (.seq (.region [m 14 3,
 n 15 (.mksl 2 1 1 [(.int .u8 (.ofNat 0))] (.t 14) (.t 14)),
 m 9 15])
  (.seq (.seq (.region [m 16 1,
 o 17 (.lensl (.t 16)),
 o 18 (.mv (ci 0))])
  (.block 0 (.loop (.seq (.region [o 19 (.bin .lss (.t 18) (.t 17))])
    (.seq (.cond (.t 19)
     .skip
     (.exit 0))
    (.seq (.block 1 (.seq (.region [m 20 18,
 o 21 (.iasl 1 (.t 16) (.t 18)),
 o 22 (.load false 1 (.t 21)),
 m 10 20,
 m 11 22])
     (.seq (.seq (.region [m 23 11,
 o 24 (.bin .eql (.t 23) (.c (.int .u8 (.ofNat 0))))])
     (.cond (.t 24)
      (.exit 1)
      .skip))
     (.seq (.region [m 25 2,
 m 26 10,
 o 27 (.iasl 1 (.t 25) (.t 26)),
 o 28 (.load false 1 (.t 27)),
 o 29 (.lensl (.t 28)),
 o 30 (.mv (ci 0))])
     (.block 2 (.loop (.seq (.region [o 31 (.bin .lss (.t 30) (.t 29))])
       (.seq (.cond (.t 31)
        .skip
        (.exit 2))
       (.seq (.block 3 (.seq (.region [m 32 30,
 o 33 (.iasl 1 (.t 28) (.t 30)),
 o 34 (.load false 1 (.t 33)),
 m 12 32,
 m 13 34])
        (.region [m 35 9,
 m 36 12,
 o 37 (.iasl 1 (.t 35) (.t 36)),
 o 38 (.load false 1 (.t 37)),
 m 39 0,
 o 40 (.nilck (.t 39)),
 o 41 (.faddr 2 (.t 40)),
 m 42 11,
 m 43 13,
 e 44 (.call 332 [(.t 41), (.t 42), (.t 43)]),
 .again ⟨(some 38), none, (.r (.load false 1 (.t 37)))⟩,
 o 45 (.bin .xor (.t 38) (.t 44)),
 o 46 (.iasl 1 (.t 35) (.t 36)),
 x (.store 1 (.t 46) (.t 45))])))
       (.region [o 47 (.bin .add (.t 30) (ci 1)),
 m 30 47]))))))))))
    (.region [o 48 (.bin .add (.t 18) (ci 1)),
 m 18 48])))))))
  (.seq (.region [m 49 9,
 m 8 49])
  .ret)))) }
theorem tr304 : trF cx Tryz.f304 = pf304 := by kernel_rfl
/-- slices.Clone[[]depot/api.Part,depot/api.Part] -/
def pf305 : PF := { ntmps := 8, results := [.tmp 2], body :=
  (.seq (.region [o 2 (.mv (.c .nils))])
  (.seq (.seq (.region [m 3 0,
 o 4 (.eqv false .s (.t 3) (.c .nils))])
  (.cond (.t 4)
   (.seq (.region [o 2 (.mv (.c .nils))])
   .ret)
   .skip))
  (.seq (.region [n 5 (.bslice 0 2 0 [] []),
 m 6 0,
 e 7 (.app 0 2 24 (.t 5) (.t 6)),
 m 2 7])
  .ret))) }
theorem tr305 : trF cx Tryz.f305 = pf305 := by kernel_rfl
/-- depot/task.PutRecord -/
def pf306 : PF := { ntmps := 28, results := [.tmp 2], body :=
  (.seq (.region [n 1 (.box (.t 0)),
 o 2 (.mv (.c (.str [])))])
  (.seq (.region [o 3 (.mv (.c .nils))])
  (.seq (.seq (.region [o 6 (.faddr 0 (.t 1)),
 o 7 (.load false 1 (.t 6)),
 o 8 (.faddr 1 (.t 1)),
 o 9 (.load false 1 (.t 8)),
 o 10 (.faddr 2 (.t 1)),
 o 11 (.load false 1 (.t 10)),
 o 12 (.faddr 3 (.t 1)),
 o 13 (.load false 1 (.t 12)),
 o 14 (.faddr 4 (.t 1)),
 o 15 (.load false 1 (.t 14)),
 n 16 (.bslice 0 1 5 [(.int .i64 (.ofNat 0)), (.int .i64 (.ofNat 0)), (.int .i64 (.ofNat 0)), (.int .i64 (.ofNat 0)), (.int .i64 (.ofNat 0))] [(0, 1, (.t 7)), (1, 1, (.t 9)), (2, 1, (.t 11)), (3, 1, (.t 13)), (4, 1, (.t 15))]),
 o 17 (.lensl (.t 16)),
 o 18 (.mv (ci 0))])
  (.block 0 (.loop (.seq (.region [o 19 (.bin .lss (.t 18) (.t 17))])
    (.seq (.cond (.t 19)
     .skip
     (.exit 0))
    (.seq (.block 1 (.seq (.region [o 20 (.iasl 1 (.t 16) (.t 18)),
 o 21 (.load false 1 (.t 20)),
 m 5 21])
     (.region [m 22 3,
 m 23 5,
 e 24 (.call 84 [(.t 22), (.t 23)]),
 m 3 24])))
    (.region [o 25 (.bin .add (.t 18) (ci 1)),
 m 18 25])))))))
  (.seq (.region [m 26 3,
 o 27 (.b2s (.t 26)),
 m 2 27])
  .ret)))) }
theorem tr306 : trF cx Tryz.f306 = pf306 := by kernel_rfl
/-- depot/gather.New -/
def pf307 : PF := { ntmps := 56, results := [.tmp 6, .tmp 7], body :=
  (.seq (.region [o 6 (.mv (.c .nilp)),
 o 7 (.mv (ci 0))])
  (.seq (.seq (.region [m 10 0,
 o 11 (.bin .lss (.t 10) (ci 1)),
 m 12 11,
 gm 13 12 false 0,
 go 14 12 false (.bin .gtr (.t 13) (ci 8)),
 o 15 (.pick (.t 12) (.c (.bool true)) (.t 14)),
 m 16 15,
 gm 17 16 false 1,
 go 18 16 false (.bin .lss (.t 17) (ci 0)),
 o 19 (.pick (.t 16) (.c (.bool true)) (.t 18)),
 m 20 19,
 gm 21 20 false 1,
 go 22 20 false (.bin .gtr (.t 21) (ci 12)),
 o 23 (.pick (.t 20) (.c (.bool true)) (.t 22)),
 m 24 23,
 gm 25 24 false 2,
 go 26 24 false (.lensl (.t 25)),
 go 27 24 false (.bin .gtr (.t 26) (ci 12)),
 o 28 (.pick (.t 24) (.c (.bool true)) (.t 27))])
  (.cond (.t 28)
   (.seq (.region [o 6 (.mv (.c .nilp)),
 o 7 (.mv (ci 1))])
   .ret)
   .skip))
  (.seq (.seq (.region [m 29 2,
 o 30 (.lensl (.t 29)),
 o 31 (.mv (ci 0))])
  (.block 0 (.loop (.seq (.region [o 32 (.bin .lss (.t 31) (.t 30))])
    (.seq (.cond (.t 32)
     .skip
     (.exit 0))
    (.seq (.block 1 (.seq (.region [m 33 31,
 o 34 (.iasl 1 (.t 29) (.t 31)),
 o 35 (.load false 1 (.t 34)),
 m 8 33,
 m 9 35])
     (.seq (.region [m 36 9,
 o 37 (.bin .lss (.t 36) (ci 0)),
 m 38 37,
 gm 39 38 false 9,
 go 40 38 false (.bin .geq (.t 39) (ci 12)),
 o 41 (.pick (.t 38) (.c (.bool true)) (.t 40)),
 m 42 41,
 gm 43 42 false 2,
 gm 44 42 false 8,
 go 45 42 false (.slsl 1 (.t 43) none (some (.t 44)) none),
 gm 46 42 false 9,
 .op ⟨(some 47), (some (42, false)), (.e (.call 155 [(.t 45), (.t 46)]))⟩,
 o 48 (.pick (.t 42) (.c (.bool true)) (.t 47))])
     (.cond (.t 48)
      (.seq (.region [o 6 (.mv (.c .nilp)),
 o 7 (.mv (ci 1))])
      .ret)
      .skip))))
    (.region [o 49 (.bin .add (.t 31) (ci 1)),
 m 31 49])))))))
  (.seq (.region [m 50 0,
 m 51 1,
 m 52 2,
 e 53 (.call 140 [(.t 52)]),
 o 54 (.build [(.int .i64 (.ofNat 0)), (.int .i64 (.ofNat 0)), .nils, (.int .i64 (.ofNat 0)), (.int .i64 (.ofNat 0)), .nils] [(0, 1, (.t 50)), (1, 1, (.t 51)), (2, 1, (.t 53))]),
 n 55 (.box (.t 54)),
 m 6 55,
 o 7 (.mv (ci 0))])
  .ret)))) }
theorem tr307 : trF cx Tryz.f307 = pf307 := by kernel_rfl
/-- depot/when.Deadline -/
def pf308 : PF := { ntmps := 20, results := [.tmp 4], body :=
  (.seq (.region [o 4 (.mv (ci 0))])
  (.seq (.block 0 (.seq (.region [m 6 0,
 o 7 (.bin .eql (.t 6) (ci 0)),
 m 5 7])
   (.cond (.t 5)
    (.seq (.region [o 4 (.mv (ci 0))])
    .ret)
    (.seq (.region [m 9 0,
 o 10 (.bin .lss (.t 9) (ci 0)),
 m 8 10])
    (.cond (.t 8)
     (.seq (.region [o 4 (.mv (.c (.int .i64 (.negSucc 0))))])
     .ret)
     (.seq (.region [m 12 0,
 o 13 (.bin .leq (.t 12) (ci 2592000)),
 m 11 13])
     (.cond (.t 11)
      (.seq (.region [m 14 0,
 m 15 1,
 o 16 (.bad),
 o 17 (.bin .add (.t 14) (.t 16)),
 m 4 17])
      .ret)
      .skip)))))))
  (.seq (.region [m 18 0,
 o 19 (.bad),
 m 4 19])
  .ret))) }
theorem tr308 : trF cx Tryz.f308 = pf308 := by kernel_rfl
/-- depot/model.Next$1 -/
def pf309 : PF := { ntmps := 5, results := [.cell 2 true 9], body :=
  (.seq (.region [n 2 (.new 0 [(.int .i64 (.ofNat 0)), .nils, (.bool false), (.int .u64 (.ofNat 0)), (.str []), (.int .i64 (.ofNat 0)), (.int .i64 (.ofNat 0)), (.int .i64 (.ofNat 0)), (.int .i64 (.ofNat 0))])])
  (.seq (.region [m 3 0,
 o 4 (.build [(.int .i64 (.ofNat 0)), .nils, (.bool false), (.int .u64 (.ofNat 0)), (.str []), (.int .i64 (.ofNat 0)), (.int .i64 (.ofNat 0)), (.int .i64 (.ofNat 0)), (.int .i64 (.ofNat 0))] [(0, 1, (.t 3))]),
 x (.store 9 (.t 2) (.t 4))])
  .ret)) }
theorem tr309 : trF cx Tryz.f309 = pf309 := by kernel_rfl
/-- (*strings.Builder).Grow -/
def pf313 : PF := { ntmps := 25, results := [], body :=
  (.seq (.region [m 4 0,
 e 5 (.call 117 [(.t 4)])])
  (.seq (.seq (.region [m 6 1,
 o 7 (.bin .lss (.t 6) (ci 0))])
  (.cond (.t 7)
   (.region [o 8 (.bad),
 .op ⟨none, none, (.r (.bad))⟩])
   .skip))
  (.seq (.region [m 9 0,
 o 10 (.nilck (.t 9)),
 o 11 (.faddr 1 (.t 10)),
 o 12 (.load false 1 (.t 11)),
 o 13 (.cap (.t 12)),
 m 14 0,
 o 15 (.nilck (.t 14)),
 o 16 (.faddr 1 (.t 15)),
 o 17 (.load false 1 (.t 16)),
 o 18 (.lensl (.t 17)),
 o 19 (.bin .sub (.t 13) (.t 18)),
 m 20 1,
 o 21 (.bin .lss (.t 19) (.t 20))])
  (.cond (.t 21)
   (.region [m 22 0,
 m 23 1,
 e 24 (.call 334 [(.t 22), (.t 23)])])
   .skip)))) }
theorem tr313 : trF cx Tryz.f313 = pf313 := by kernel_rfl
/-- internal/stringslite.HasSuffix -/
def pf314 : PF := { ntmps := 21, results := [.tmp 4], body :=
  (.seq (.region [o 4 (.mv (.c (.bool false)))])
  (.seq (.region [m 5 0,
 o 6 (.lens (.t 5)),
 m 7 1,
 o 8 (.lens (.t 7)),
 o 9 (.bin .geq (.t 6) (.t 8)),
 m 10 9,
 gm 11 10 true 0,
 gm 12 10 true 0,
 go 13 10 true (.lens (.t 12)),
 gm 14 10 true 1,
 go 15 10 true (.lens (.t 14)),
 go 16 10 true (.bin .sub (.t 13) (.t 15)),
 go 17 10 true (.slstr (.t 11) (some (.t 16)) none),
 gm 18 10 true 1,
 go 19 10 true (.bin .eql (.t 17) (.t 18)),
 o 20 (.pick (.t 10) (.t 19) (.c (.bool false))),
 m 4 20])
  .ret)) }
theorem tr314 : trF cx Tryz.f314 = pf314 := by kernel_rfl
/-- depot/words.Number -/
def pf315 : PF := { ntmps := 49, results := [.tmp 4, .tmp 5], body :=
  (.seq (.region [o 4 (.mv (.c (.int .u64 (.ofNat 0)))),
 o 5 (.mv (.c (.bool false)))])
  (.seq (.seq (.region [m 10 0,
 o 11 (.lens (.t 10)),
 o 12 (.bin .lss (.t 11) (ci 1)),
 m 13 12,
 gm 14 13 false 0,
 go 15 13 false (.lens (.t 14)),
 go 16 13 false (.bin .gtr (.t 15) (ci 20)),
 o 17 (.pick (.t 13) (.c (.bool true)) (.t 16))])
  (.cond (.t 17)
   (.seq (.region [o 4 (.mv (.c (.int .u64 (.ofNat 0)))),
 o 5 (.mv (.c (.bool false)))])
   .ret)
   .skip))
  (.seq (.region [o 6 (.mv (.c (.int .u64 (.ofNat 0))))])
  (.seq (.seq (.region [m 18 0,
 o 19 (.lens (.t 18)),
 o 20 (.mv (ci 0))])
  (.block 0 (.loop (.seq (.region [o 21 (.bin .lss (.t 20) (.t 19))])
    (.seq (.cond (.t 21)
     .skip
     (.exit 0))
    (.seq (.block 1 (.seq (.region [m 22 20,
 m 7 22])
     (.seq (.region [m 23 0,
 m 24 7,
 o 25 (.ixstr (.t 23) (.t 24)),
 m 8 25])
     (.seq (.seq (.region [m 26 8,
 o 27 (.bin .lss (.t 26) (.c (.int .u8 (.ofNat 48)))),
 m 28 27,
 gm 29 28 false 8,
 go 30 28 false (.bin .gtr (.t 29) (.c (.int .u8 (.ofNat 57)))),
 o 31 (.pick (.t 28) (.c (.bool true)) (.t 30))])
     (.cond (.t 31)
      (.seq (.region [o 4 (.mv (.c (.int .u64 (.ofNat 0)))),
 o 5 (.mv (.c (.bool false)))])
      .ret)
      .skip))
     (.seq (.region [m 32 8,
 o 33 (.bin .sub (.t 32) (.c (.int .u8 (.ofNat 48)))),
 o 34 (.cint .u64 (.t 33)),
 m 9 34])
     (.seq (.seq (.region [m 35 6,
 m 36 9,
 o 37 (.bin .sub (.c (.int .u64 (.ofNat 18446744073709551615))) (.t 36)),
 o 38 (.bin .quo (.t 37) (.c (.int .u64 (.ofNat 10)))),
 o 39 (.bin .gtr (.t 35) (.t 38))])
     (.cond (.t 39)
      (.seq (.region [o 4 (.mv (.c (.int .u64 (.ofNat 0)))),
 o 5 (.mv (.c (.bool false)))])
      .ret)
      .skip))
     (.region [m 40 6,
 o 41 (.bin .mul (.c (.int .u64 (.ofNat 10))) (.t 40)),
 m 42 9,
 o 43 (.bin .add (.t 41) (.t 42)),
 m 6 43])))))))
    (.region [o 44 (.bin .add (.t 20) (ci 1)),
 m 20 44])))))))
  (.seq (.seq (.region [m 45 6,
 m 46 1,
 o 47 (.bin .gtr (.t 45) (.t 46))])
  (.cond (.t 47)
   (.seq (.region [o 4 (.mv (.c (.int .u64 (.ofNat 0)))),
 o 5 (.mv (.c (.bool false)))])
   .ret)
   .skip))
  (.seq (.region [m 48 6,
 m 4 48,
 o 5 (.mv (.c (.bool true)))])
  .ret)))))) }
theorem tr315 : trF cx Tryz.f315 = pf315 := by kernel_rfl
/-- depot/words.store -/
def pf316 : PF := { ntmps := 82, results := [.tmp 4], body :=
  (.seq (.region [o 4 (.mv (.c (.bool false)))])
  (.seq (.region [m 14 1,
 o 15 (.iasl 1 (.t 14) (ci 1)),
 o 16 (.load false 1 (.t 15)),
 e 17 (.call 315 [(.t 16), (.c (.int .u64 (.ofNat 4294967295)))]),
 m 13 17,
 o 18 (.ext 0 (.t 13)),
 o 19 (.ext 1 (.t 13)),
 m 5 18,
 m 6 19])
  (.seq (.region [m 21 1,
 o 22 (.iasl 1 (.t 21) (ci 2)),
 o 23 (.load false 1 (.t 22)),
 e 24 (.call 317 [(.t 23), (.c (.int .u64 (.ofNat 1099511627776)))]),
 m 20 24,
 o 25 (.ext 0 (.t 20)),
 o 26 (.ext 1 (.t 20)),
 m 7 25,
 m 8 26])
  (.seq (.region [m 28 1,
 o 29 (.iasl 1 (.t 28) (ci 3)),
 o 30 (.load false 1 (.t 29)),
 e 31 (.call 315 [(.t 30), (.c (.int .u64 (.ofNat 2147483647)))]),
 m 27 31,
 o 32 (.ext 0 (.t 27)),
 o 33 (.ext 1 (.t 27)),
 m 9 32,
 m 10 33])
  (.seq (.region [m 34 0,
 m 35 0,
 m 36 0,
 m 37 5,
 o 38 (.cint .i64 (.t 37)),
 m 39 7,
 m 40 9,
 o 41 (.cint .i64 (.t 40)),
 o 42 (.nilck (.t 34)),
 o 43 (.faddr 2 (.t 42)),
 x (.store 1 (.t 43) (.t 38)),
 o 44 (.nilck (.t 35)),
 o 45 (.faddr 3 (.t 44)),
 x (.store 1 (.t 45) (.t 39)),
 o 46 (.nilck (.t 36)),
 o 47 (.faddr 4 (.t 46)),
 x (.store 1 (.t 47) (.t 41))])
  (.seq (.seq (.region [m 48 0,
 o 49 (.nilck (.t 48)),
 o 50 (.faddr 0 (.t 49)),
 o 51 (.load false 1 (.t 50)),
 o 52 (.bin .eql (.t 51) (ci 8))])
  (.cond (.t 52)
   (.seq (.region [m 54 1,
 o 55 (.iasl 1 (.t 54) (ci 4)),
 o 56 (.load false 1 (.t 55)),
 e 57 (.call 315 [(.t 56), (.c (.int .u64 (.ofNat 1099511627776)))]),
 m 53 57,
 o 58 (.ext 0 (.t 53)),
 o 59 (.ext 1 (.t 53)),
 m 11 58,
 m 12 59])
   (.seq (.region [m 60 0,
 m 61 11,
 o 62 (.cint .i64 (.t 61)),
 o 63 (.nilck (.t 60)),
 o 64 (.faddr 5 (.t 63)),
 x (.store 1 (.t 64) (.t 62))])
   (.seq (.region [m 65 6,
 m 66 65,
 gm 67 66 true 8,
 o 68 (.pick (.t 66) (.t 67) (.c (.bool false))),
 m 69 68,
 gm 70 69 true 10,
 o 71 (.pick (.t 69) (.t 70) (.c (.bool false))),
 m 72 71,
 gm 73 72 true 12,
 o 74 (.pick (.t 72) (.t 73) (.c (.bool false))),
 m 4 74])
   .ret)))
   .skip))
  (.seq (.region [m 75 6,
 m 76 75,
 gm 77 76 true 8,
 o 78 (.pick (.t 76) (.t 77) (.c (.bool false))),
 m 79 78,
 gm 80 79 true 10,
 o 81 (.pick (.t 79) (.t 80) (.c (.bool false))),
 m 4 81])
  .ret))))))) }
theorem tr316 : trF cx Tryz.f316 = pf316 := by kernel_rfl
/-- depot/words.signed -/
def pf317 : PF := { ntmps := 29, results := [.tmp 4, .tmp 5], body :=
  (.seq (.region [o 4 (.mv (ci 0)),
 o 5 (.mv (.c (.bool false)))])
  (.seq (.region [m 11 0,
 e 12 (.call 335 [(.t 11), (.c (.str [45]))]),
 m 10 12,
 o 13 (.ext 0 (.t 10)),
 o 14 (.ext 1 (.t 10)),
 m 6 13,
 m 7 14])
  (.seq (.region [m 16 6,
 m 17 1,
 e 18 (.call 315 [(.t 16), (.t 17)]),
 m 15 18,
 o 19 (.ext 0 (.t 15)),
 o 20 (.ext 1 (.t 15)),
 m 8 19,
 m 9 20])
  (.seq (.seq (.region [m 21 7])
  (.cond (.t 21)
   (.seq (.region [m 22 8,
 o 23 (.cint .i64 (.t 22)),
 o 24 (.un .neg (.t 23)),
 m 25 9,
 m 4 24,
 m 5 25])
   .ret)
   .skip))
  (.seq (.region [m 26 8,
 o 27 (.cint .i64 (.t 26)),
 m 28 9,
 m 4 27,
 m 5 28])
  .ret))))) }
theorem tr317 : trF cx Tryz.f317 = pf317 := by kernel_rfl
/-- depot/matrix.Right -/
def pf328 : PF := { ntmps := 41, results := [.tmp 2], body :=
  (.seq (.region [o 2 (.mv (.c (.bool false)))])
  (.seq (.seq (.region [m 5 0,
 o 6 (.lensl (.t 5)),
 o 7 (.bin .lss (.t 6) (ci 1)),
 m 8 7,
 gm 9 8 false 0,
 go 10 8 false (.lensl (.t 9)),
 go 11 8 false (.bin .gtr (.t 10) (ci 12)),
 o 12 (.pick (.t 8) (.c (.bool true)) (.t 11)),
 m 13 12,
 gm 14 13 false 0,
 go 15 13 false (.iasl 1 (.t 14) (ci 0)),
 go 16 13 false (.load false 1 (.t 15)),
 go 17 13 false (.lensl (.t 16)),
 go 18 13 false (.bin .lss (.t 17) (ci 1)),
 o 19 (.pick (.t 13) (.c (.bool true)) (.t 18)),
 m 20 19,
 gm 21 20 false 0,
 go 22 20 false (.iasl 1 (.t 21) (ci 0)),
 go 23 20 false (.load false 1 (.t 22)),
 go 24 20 false (.lensl (.t 23)),
 go 25 20 false (.bin .gtr (.t 24) (ci 12)),
 o 26 (.pick (.t 20) (.c (.bool true)) (.t 25))])
  (.cond (.t 26)
   (.seq (.region [o 2 (.mv (.c (.bool false)))])
   .ret)
   .skip))
  (.seq (.seq (.region [m 27 0,
 o 28 (.lensl (.t 27)),
 o 29 (.mv (ci 0))])
  (.block 0 (.loop (.seq (.region [o 30 (.bin .lss (.t 29) (.t 28))])
    (.seq (.cond (.t 30)
     .skip
     (.exit 0))
    (.seq (.block 1 (.seq (.region [o 31 (.iasl 1 (.t 27) (.t 29)),
 o 32 (.load false 1 (.t 31)),
 m 4 32])
     (.seq (.region [m 33 4,
 o 34 (.lensl (.t 33)),
 m 35 0,
 o 36 (.iasl 1 (.t 35) (ci 0)),
 o 37 (.load false 1 (.t 36)),
 o 38 (.lensl (.t 37)),
 o 39 (.bin .neq (.t 34) (.t 38))])
     (.cond (.t 39)
      (.seq (.region [o 2 (.mv (.c (.bool false)))])
      .ret)
      .skip))))
    (.region [o 40 (.bin .add (.t 29) (ci 1)),
 m 29 40])))))))
  (.seq (.region [o 2 (.mv (.c (.bool true)))])
  .ret)))) }
theorem tr328 : trF cx Tryz.f328 = pf328 := by kernel_rfl
/-- depot/matrix.copied -/
def pf329 : PF := { ntmps := 23, results := [.tmp 2], body :=
  (.seq (.region [o 2 (.mv (.c .nils))])
  (.seq (.region [m 5 0,
 o 6 (.lensl (.t 5)),
 n 7 (.mksl 0 1 24 [.nils] (.t 6) (.t 6)),
 m 3 7])
  (.seq (.seq (.region [m 8 0,
 o 9 (.lensl (.t 8)),
 o 10 (.mv (ci 0))])
  (.block 0 (.loop (.seq (.region [o 11 (.bin .lss (.t 10) (.t 9))])
    (.seq (.cond (.t 11)
     .skip
     (.exit 0))
    (.seq (.block 1 (.seq (.region [m 12 10,
 m 4 12])
     (.region [m 13 3,
 m 14 4,
 m 15 0,
 m 16 4,
 o 17 (.iasl 1 (.t 15) (.t 16)),
 o 18 (.load false 1 (.t 17)),
 e 19 (.call 331 [(.t 18)]),
 o 20 (.iasl 1 (.t 13) (.t 14)),
 x (.store 1 (.t 20) (.t 19))])))
    (.region [o 21 (.bin .add (.t 10) (ci 1)),
 m 10 21])))))))
  (.seq (.region [m 22 3,
 m 2 22])
  .ret)))) }
theorem tr329 : trF cx Tryz.f329 = pf329 := by kernel_rfl
/-- depot/matrix.reduce -/
def pf330 : PF := { ntmps := 110, results := [.tmp 6], body :=
  (.seq (.region [o 6 (.mv (ci 0))])
  (.scope (.seq (.region [o 7 (.mv (ci 0))])
   (.seq .skip
   (.seq (.seq (.region [m 13 2,
 o 14 (.mv (ci 0))])
   (.block 0 (.loop (.seq (.region [o 15 (.bin .lss (.t 14) (.t 13))])
     (.seq (.cond (.t 15)
      .skip
      (.exit 0))
     (.seq (.block 1 (.seq (.region [m 16 14,
 m 8 16])
      (.seq (.region [m 17 7,
 m 9 17])
      (.block 2 (.loop (.seq (.seq (.region [m 18 9,
 m 19 1,
 o 20 (.lensl (.t 19)),
 o 21 (.bin .lss (.t 18) (.t 20))])
        (.cond (.t 21)
         .skip
         (.exit 2)))
        (.seq (.block 3 (.seq (.seq (.region [m 24 1,
 m 25 9,
 o 26 (.iasl 1 (.t 24) (.t 25)),
 o 27 (.load false 1 (.t 26)),
 m 28 8,
 o 29 (.iasl 1 (.t 27) (.t 28)),
 o 30 (.load false 1 (.t 29)),
 o 31 (.bin .eql (.t 30) (.c (.int .u8 (.ofNat 0))))])
         (.cond (.t 31)
          (.exit 3)
          .skip))
         (.seq (.region [m 32 1,
 m 33 7,
 m 34 1,
 m 35 9,
 m 36 1,
 m 37 9,
 o 38 (.iasl 1 (.t 36) (.t 37)),
 o 39 (.load false 1 (.t 38)),
 m 40 1,
 m 41 7,
 o 42 (.iasl 1 (.t 40) (.t 41)),
 o 43 (.load false 1 (.t 42)),
 o 44 (.iasl 1 (.t 32) (.t 33)),
 x (.store 1 (.t 44) (.t 39)),
 o 45 (.iasl 1 (.t 34) (.t 35)),
 x (.store 1 (.t 45) (.t 43))])
         (.seq (.region [m 46 0,
 m 47 1,
 m 48 7,
 o 49 (.iasl 1 (.t 47) (.t 48)),
 o 50 (.load false 1 (.t 49)),
 m 51 8,
 o 52 (.iasl 1 (.t 50) (.t 51)),
 o 53 (.load false 1 (.t 52)),
 e 54 (.call 177 [(.t 46), (.t 53)]),
 m 10 54])
         (.seq (.seq (.region [m 55 1,
 m 56 7,
 o 57 (.iasl 1 (.t 55) (.t 56)),
 o 58 (.load false 1 (.t 57)),
 o 59 (.lensl (.t 58)),
 o 60 (.mv (ci 0))])
         (.block 4 (.loop (.seq (.region [o 61 (.bin .lss (.t 60) (.t 59))])
           (.seq (.cond (.t 61)
            .skip
            (.exit 4))
           (.seq (.block 5 (.seq (.region [m 62 60,
 m 11 62])
            (.region [m 63 1,
 m 64 7,
 o 65 (.iasl 1 (.t 63) (.t 64)),
 o 66 (.load false 1 (.t 65)),
 m 67 11,
 m 68 0,
 m 69 1,
 m 70 7,
 o 71 (.iasl 1 (.t 69) (.t 70)),
 o 72 (.load false 1 (.t 71)),
 m 73 11,
 o 74 (.iasl 1 (.t 72) (.t 73)),
 o 75 (.load false 1 (.t 74)),
 m 76 10,
 e 77 (.call 332 [(.t 68), (.t 75), (.t 76)]),
 .again ⟨(some 66), none, (.r (.load false 1 (.t 65)))⟩,
 o 78 (.iasl 1 (.t 66) (.t 67)),
 x (.store 1 (.t 78) (.t 77))])))
           (.region [o 79 (.bin .add (.t 60) (ci 1)),
 m 60 79])))))))
         (.seq (.seq (.region [m 80 1,
 o 81 (.lensl (.t 80)),
 o 82 (.mv (ci 0))])
         (.block 6 (.loop (.seq (.region [o 83 (.bin .lss (.t 82) (.t 81))])
           (.seq (.cond (.t 83)
            .skip
            (.exit 6))
           (.seq (.block 7 (.seq (.region [m 84 82,
 m 12 84])
            (.seq (.region [m 85 12,
 m 86 7,
 o 87 (.bin .neq (.t 85) (.t 86))])
            (.cond (.t 87)
             (.region [m 88 0,
 m 89 1,
 m 90 12,
 o 91 (.iasl 1 (.t 89) (.t 90)),
 o 92 (.load false 1 (.t 91)),
 m 93 1,
 m 94 7,
 o 95 (.iasl 1 (.t 93) (.t 94)),
 o 96 (.load false 1 (.t 95)),
 m 97 1,
 m 98 12,
 o 99 (.iasl 1 (.t 97) (.t 98)),
 o 100 (.load false 1 (.t 99)),
 m 101 8,
 o 102 (.iasl 1 (.t 100) (.t 101)),
 o 103 (.load false 1 (.t 102)),
 o 104 (.bad)])
             .skip))))
           (.region [o 105 (.bin .add (.t 82) (ci 1)),
 m 82 105])))))))
         (.seq (.region [m 106 7,
 o 107 (.bin .add (.t 106) (ci 1)),
 m 7 107])
         (.exit 1))))))))
        (.region [m 22 9,
 o 23 (.bin .add (.t 22) (ci 1)),
 m 9 23]))))))))
     (.region [o 108 (.bin .add (.t 14) (ci 1)),
 m 14 108])))))))
   (.seq (.region [m 109 7,
 m 6 109])
   .ret)))))) }
theorem tr330 : trF cx Tryz.f330 = pf330 := by kernel_rfl
/-- slices.Clone[[]byte,byte] -/
def pf331 : PF := { ntmps := 8, results := [.tmp 2], body :=
  (.seq (.region [o 2 (.mv (.c .nils))])
  (.seq (.seq (.region [m 3 0,
 o 4 (.eqv false .s (.t 3) (.c .nils))])
  (.cond (.t 4)
   (.seq (.region [o 2 (.mv (.c .nils))])
   .ret)
   .skip))
  (.seq (.region [n 5 (.bslice 2 1 0 [] []),
 m 6 0,
 e 7 (.app 2 1 1 (.t 5) (.t 6)),
 m 2 7])
  .ret))) }
theorem tr331 : trF cx Tryz.f331 = pf331 := by kernel_rfl
/-- depot/gf.Mul -/
def pf332 : PF := { ntmps := 33, results := [.tmp 6], body :=
  (.seq (.region [o 6 (.mv (.c (.int .u8 (.ofNat 0))))])
  (.seq (.seq (.region [m 7 1,
 o 8 (.bin .eql (.t 7) (.c (.int .u8 (.ofNat 0)))),
 m 9 8,
 gm 10 9 false 2,
 go 11 9 false (.bin .eql (.t 10) (.c (.int .u8 (.ofNat 0)))),
 o 12 (.pick (.t 9) (.c (.bool true)) (.t 11))])
  (.cond (.t 12)
   (.seq (.region [o 6 (.mv (.c (.int .u8 (.ofNat 0))))])
   .ret)
   .skip))
  (.seq (.region [m 13 0,
 m 14 0,
 m 15 1,
 o 16 (.nilck (.t 14)),
 o 17 (.faddr 510 (.t 16)),
 o 18 (.iaarr 256 1 (.t 17) (.t 15)),
 o 19 (.load false 1 (.t 18)),
 o 20 (.cint .i64 (.t 19)),
 m 21 0,
 m 22 2,
 o 23 (.nilck (.t 21)),
 o 24 (.faddr 510 (.t 23)),
 o 25 (.iaarr 256 1 (.t 24) (.t 22)),
 o 26 (.load false 1 (.t 25)),
 o 27 (.cint .i64 (.t 26)),
 o 28 (.bin .add (.t 20) (.t 27)),
 o 29 (.nilck (.t 13)),
 o 30 (.faddr 0 (.t 29)),
 o 31 (.iaarr 510 1 (.t 30) (.t 28)),
 o 32 (.load false 1 (.t 31)),
 m 6 32])
  .ret))) }
theorem tr332 : trF cx Tryz.f332 = pf332 := by kernel_rfl
/-- (*strings.Builder).grow -/
def pf334 : PF := { ntmps := 30, results := [], body :=
  (.seq (.region [m 5 0,
 o 6 (.nilck (.t 5)),
 o 7 (.faddr 1 (.t 6)),
 o 8 (.load false 1 (.t 7)),
 o 9 (.cap (.t 8)),
 o 10 (.bin .mul (ci 2) (.t 9)),
 m 11 1,
 o 12 (.bin .add (.t 10) (.t 11)),
 n 13 (.nozero (.t 12)),
 m 14 0,
 o 15 (.nilck (.t 14)),
 o 16 (.faddr 1 (.t 15)),
 o 17 (.load false 1 (.t 16)),
 o 18 (.lensl (.t 17)),
 o 19 (.slsl 1 (.t 13) none (some (.t 18)) none),
 m 4 19])
  (.seq (.region [m 20 4,
 m 21 0,
 o 22 (.nilck (.t 21)),
 o 23 (.faddr 1 (.t 22)),
 o 24 (.load false 1 (.t 23)),
 e 25 (.copy 1 (.t 20) (.t 24))])
  (.region [m 26 0,
 m 27 4,
 o 28 (.nilck (.t 26)),
 o 29 (.faddr 1 (.t 28)),
 x (.store 1 (.t 29) (.t 27))]))) }
theorem tr334 : trF cx Tryz.f334 = pf334 := by kernel_rfl
/-- strings.CutPrefix -/
def pf335 : PF := { ntmps := 11, results := [.tmp 4, .tmp 5], body :=
  (.seq (.region [o 4 (.mv (.c (.str []))),
 o 5 (.mv (.c (.bool false)))])
  (.seq (.region [m 6 0,
 m 7 1,
 e 8 (.call 339 [(.t 6), (.t 7)]),
 o 9 (.ext 0 (.t 8)),
 o 10 (.ext 1 (.t 8)),
 m 4 9,
 m 5 10])
  .ret)) }
theorem tr335 : trF cx Tryz.f335 = pf335 := by kernel_rfl
/-- internal/stringslite.CutPrefix -/
def pf339 : PF := { ntmps := 15, results := [.tmp 4, .tmp 5], body :=
  (.seq (.region [o 4 (.mv (.c (.str []))),
 o 5 (.mv (.c (.bool false)))])
  (.seq (.seq (.region [m 6 0,
 m 7 1,
 e 8 (.call 274 [(.t 6), (.t 7)]),
 o 9 (.un .not (.t 8))])
  (.cond (.t 9)
   (.seq (.region [m 10 0,
 m 4 10,
 o 5 (.mv (.c (.bool false)))])
   .ret)
   .skip))
  (.seq (.region [m 11 0,
 m 12 1,
 o 13 (.lens (.t 12)),
 o 14 (.slstr (.t 11) (some (.t 13)) none),
 m 4 14,
 o 5 (.mv (.c (.bool true)))])
  .ret))) }
theorem tr339 : trF cx Tryz.f339 = pf339 := by kernel_rfl
end Go.Proofs.YthogpieophmajaaGreatDoor
