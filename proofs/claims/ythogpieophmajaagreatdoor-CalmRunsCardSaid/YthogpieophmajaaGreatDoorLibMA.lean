/- The functions that this seat's laws reach, for the clean machine; each is what the translation makes of the given text. Conditions: none. Printed by program. -/
import Derived.Test.YthogpieophmajaaGreatDoorChecked
import Derived.KernelRfl
import Derived.Test.YthogpieophmajaaGreatDoorQsD
namespace Go.Proofs.YthogpieophmajaaGreatDoor
open Go.Dp
def m (d t : Nat) : It := .op ⟨some d, none, .r (.mv (.t t))⟩
def o (d : Nat) (p : PR) : It := .op ⟨some d, none, .r p⟩
def n (d : Nat) (p : PN) : It := .op ⟨some d, none, .n p⟩
def e (d : Nat) (p : PE) : It := .op ⟨some d, none, .e p⟩
def x (p : PE) : It := .op ⟨none, none, .e p⟩
def gm (d g : Nat) (b : Bool) (t : Nat) : It := .op ⟨some d, some (g, b), .r (.mv (.t t))⟩
def go (d g : Nat) (b : Bool) (p : PR) : It := .op ⟨some d, some (g, b), .r p⟩
def ci (n : Nat) : X := .c (.int .i64 (.ofNat n))
def nums : List Nat := [5, 7, 8, 9, 10, 11, 13, 14, 16, 18, 19, 20, 22, 23, 24, 28, 29, 30, 31, 32, 33, 34, 35, 36, 37, 38, 39, 40, 41, 42, 44, 45, 46, 47, 48, 49, 50, 51, 52, 53, 55, 57, 58, 59, 60, 68, 69, 70, 71, 72, 73, 74, 75, 76, 77, 78, 79, 80, 81, 83, 86, 87, 88, 89, 90, 91, 92, 93, 94, 95, 96, 97, 99, 100, 101, 102, 103, 104, 105, 106, 107, 108, 109, 110, 118, 119, 120, 121, 122, 124, 125, 126, 127, 135, 136, 137, 138, 139, 140, 141, 144, 146, 147, 148, 149, 150, 151, 154, 155, 156, 157, 158, 159, 160, 164, 165, 166, 170, 176, 177, 178, 179, 180, 182, 186, 187, 188, 189, 191, 193, 196, 197, 198, 199, 200, 201, 202, 203, 206, 207, 211, 212, 213, 218, 219, 222, 232, 237, 243, 247, 249, 256, 257, 258, 264, 270, 271, 272, 273, 275, 281, 314]
noncomputable def cx : Cx := { P := Tryz.prog, fm := fmOf nums, gm := fun _ => none, ext := extOf [(175, 2), (235, 4), (291, 1), (338, 3)], bt := some 140 }
/-- depot/depotlaw25.CalmRuns -/
def pf5 : PF := { ntmps := 35, results := [.tmp 0], body :=
  (.seq (.region [o 0 (.mv (.c (.bool false)))])
  (.seq (.region [o 5 (.build [(.int .i64 (.ofNat 0)), (.int .i64 (.ofNat 0)), (.int .i64 (.ofNat 0)), (.int .i64 (.ofNat 0)), (.int .i64 (.ofNat 0)), (.int .i64 (.ofNat 0))] [(0, 1, (ci 1)), (1, 1, (ci 1)), (3, 1, (ci 2)), (4, 1, (ci 8)), (5, 1, (ci 1024))]),
 e 6 (.call 16 [(.t 5)]),
 m 4 6,
 o 7 (.ext 0 (.t 4)),
 o 8 (.ext 1 (.t 4)),
 m 1 7,
 m 2 8])
  (.seq (.seq (.region [m 9 1,
 o 10 (.eqc false (.t 9) (.c .nilp)),
 m 11 10,
 gm 12 11 false 2,
 go 13 11 false (.bin .neq (.t 12) (ci 0)),
 o 14 (.pick (.t 11) (.c (.bool true)) (.t 13))])
  (.cond (.t 14)
   (.seq (.region [o 0 (.mv (.c (.bool false)))])
   .ret)
   .skip))
  (.seq (.region [m 15 1,
 e 16 (.call 22 [(.t 15), (ci 3)])])
  (.seq (.region [m 17 1,
 e 18 (.call 23 [(.t 17), (ci 2)]),
 m 3 18])
  (.seq (.region [m 19 1,
 o 20 (.build [(.int .i64 (.ofNat 0)), (.int .i64 (.ofNat 0)), (.str [])] [(0, 1, (ci 1)), (2, 1, (.c (.str [103, 101, 116, 32, 97, 13, 10])))]),
 e 21 (.call 18 [(.t 19), (.t 20)])])
  (.seq (.region [m 22 1,
 e 23 (.call 22 [(.t 22), (ci 3)])])
  (.seq (.region [m 24 3,
 m 25 24,
 gm 26 25 true 1,
 .op ⟨(some 27), (some (25, true)), (.e (.call 24 [(.t 26)]))⟩,
 go 28 25 true (.bin .eql (.t 27) (ci 0)),
 o 29 (.pick (.t 25) (.t 28) (.c (.bool false))),
 m 30 29,
 gm 31 30 true 1,
 .op ⟨(some 32), (some (30, true)), (.e (.call 19 [(.t 31), (ci 0)]))⟩,
 go 33 30 true (.bin .eql (.t 32) (.c (.str [69, 78, 68, 13, 10]))),
 o 34 (.pick (.t 30) (.t 33) (.c (.bool false))),
 m 0 34])
  .ret)))))))) }
theorem tr5 : trF cx Tryz.f5 = pf5 := by kernel_rfl
/-- depot/router.New -/
def pf7 : PF := { ntmps := 32, results := [.tmp 2, .tmp 3], body :=
  (.seq (.region [n 1 (.box (.t 0)),
 o 2 (.mv (.c .nilp)),
 o 3 (.mv (ci 0))])
  (.seq (.seq (.region [o 6 (.load true 6 (.t 1)),
 e 7 (.call 28 [(.t 6)]),
 o 8 (.un .not (.t 7))])
  (.cond (.t 8)
   (.seq (.region [o 2 (.mv (.c .nilp)),
 o 3 (.mv (ci 1))])
   .ret)
   .skip))
  (.seq (.region [o 9 (.load true 6 (.t 1)),
 e 10 (.call 29 []),
 .again ⟨(some 9), none, (.r (.load true 6 (.t 1)))⟩,
 o 11 (.build ([(.int .i64 (.ofNat 0)), (.int .i64 (.ofNat 0)), (.int .i64 (.ofNat 0)), (.int .i64 (.ofNat 0)), (.int .i64 (.ofNat 0)), (.int .i64 (.ofNat 0))] ++ ([.nilp, .nilp] ++ ([(.int .i64 (.ofNat 0)), (.int .i64 (.ofNat 0)), (.int .i64 (.ofNat 0))] ++ ([.nils, .nils, .nils, .nils] ++ (rep 12 [.nilp] ++ ([(.int .i64 (.ofNat 0)), (.int .i64 (.ofNat 0)), (.int .i64 (.ofNat 0)), (.int .i64 (.ofNat 0)), (.int .i64 (.ofNat 0))] ++ ([.nils, .nils]))))))) [(0, 6, (.t 9)), (7, 1, (.t 10))]),
 n 12 (.box (.t 11)),
 m 4 12])
  (.seq (.region [m 14 4,
 o 15 (.faddr 3 (.t 1)),
 o 16 (.load false 1 (.t 15)),
 e 17 (.call 30 [(.t 16)]),
 m 13 17,
 o 18 (.ext 0 (.t 13)),
 o 19 (.ext 1 (.t 13)),
 o 20 (.nilck (.t 14)),
 o 21 (.faddr 6 (.t 20)),
 x (.store 1 (.t 21) (.t 18))])
  (.seq (.seq (.region [o 22 (.faddr 3 (.t 1)),
 o 23 (.load false 1 (.t 22)),
 o 24 (.mv (ci 0))])
  (.block 0 (.loop (.seq (.region [o 25 (.bin .lss (.t 24) (.t 23))])
    (.seq (.cond (.t 25)
     .skip
     (.exit 0))
    (.seq (.block 1 (.seq (.region [m 26 24,
 m 5 26])
     (.region [m 27 4,
 m 28 5,
 e 29 (.call 31 [(.t 27), (.t 28)])])))
    (.region [o 30 (.bin .add (.t 24) (ci 1)),
 m 24 30])))))))
  (.seq (.region [m 31 4,
 m 2 31,
 o 3 (.mv (ci 0))])
  .ret)))))) }
theorem tr7 : trF cx Tryz.f7 = pf7 := by kernel_rfl
/-- depot/slot.New -/
def pf8 : PF := { ntmps := 31, results := [.tmp 6, .tmp 7], body :=
  (.seq (.region [o 6 (.mv (.c .nilp)),
 o 7 (.mv (ci 0))])
  (.seq (.seq (.region [m 10 0,
 o 11 (.bin .lss (.t 10) (ci 0)),
 m 12 11,
 gm 13 12 false 0,
 go 14 12 false (.bin .geq (.t 13) (ci 12)),
 o 15 (.pick (.t 12) (.c (.bool true)) (.t 14))])
  (.cond (.t 15)
   (.seq (.region [o 6 (.mv (.c .nilp)),
 o 7 (.mv (ci 1))])
   .ret)
   .skip))
  (.seq (.region [m 17 1,
 m 18 2,
 e 19 (.call 32 [(.t 17), (.t 18)]),
 m 16 19,
 o 20 (.ext 0 (.t 16)),
 o 21 (.ext 1 (.t 16)),
 m 8 20,
 m 9 21])
  (.seq (.seq (.region [m 22 9,
 o 23 (.bin .neq (.t 22) (ci 0))])
  (.cond (.t 23)
   (.seq (.region [m 24 9,
 o 6 (.mv (.c .nilp)),
 m 7 24])
   .ret)
   .skip))
  (.seq (.region [m 25 0,
 m 26 1,
 m 27 2,
 m 28 8,
 o 29 (.build [(.int .i64 (.ofNat 0)), (.int .i64 (.ofNat 0)), (.int .i64 (.ofNat 0)), (.bool false), (.int .i64 (.ofNat 0)), (.int .i64 (.ofNat 0)), .nilp, .nils] [(0, 1, (.t 25)), (1, 1, (.t 26)), (2, 1, (.t 27)), (6, 1, (.t 28))]),
 n 30 (.box (.t 29)),
 m 6 30,
 o 7 (.mv (ci 0))])
  .ret))))) }
theorem tr8 : trF cx Tryz.f8 = pf8 := by kernel_rfl
/-- (*depot/router.Router).Drain -/
def pf9 : PF := { ntmps := 22, results := [.tmp 2, .tmp 3], body :=
  (.seq (.region [o 2 (.mv (.c .nils)),
 o 3 (.mv (.c .nils))])
  (.seq (.region [m 6 0,
 o 7 (.nilck (.t 6)),
 o 8 (.faddr 32 (.t 7)),
 o 9 (.load false 1 (.t 8)),
 m 10 0,
 o 11 (.nilck (.t 10)),
 o 12 (.faddr 33 (.t 11)),
 o 13 (.load false 1 (.t 12)),
 m 4 9,
 m 5 13])
  (.seq (.region [m 14 0,
 m 15 0,
 o 16 (.nilck (.t 14)),
 o 17 (.faddr 32 (.t 16)),
 x (.store 1 (.t 17) (.c .nils)),
 o 18 (.nilck (.t 15)),
 o 19 (.faddr 33 (.t 18)),
 x (.store 1 (.t 19) (.c .nils))])
  (.seq (.region [m 20 4,
 m 21 5,
 m 2 20,
 m 3 21])
  .ret)))) }
theorem tr9 : trF cx Tryz.f9 = pf9 := by kernel_rfl
/-- (*depot/slot.Slot).Take -/
def pf10 : PF := { ntmps := 122, results := [.cell 4 true 9, .tmp 5], body :=
  (.seq (.region [n 2 (.box (.t 0)),
 n 3 (.box (.t 1)),
 n 4 (.new 0 [(.int .i64 (.ofNat 0)), (.int .i64 (.ofNat 0)), (.int .i64 (.ofNat 0)), (.int .i64 (.ofNat 0)), (.int .i64 (.ofNat 0)), (.int .i64 (.ofNat 0)), (.str []), (.int .i64 (.ofNat 0)), (.str [])]),
 o 5 (.mv (.c (.bool false)))])
  (.scope (.seq (.seq (.region [o 9 (.load true 9 (.t 3)),
 e 10 (.call 33 [(.t 9)]),
 o 11 (.un .not (.t 10)),
 m 12 11,
 go 13 12 false (.faddr 0 (.t 3)),
 go 14 12 false (.load false 1 (.t 13)),
 go 15 12 false (.bin .geq (.t 14) (ci 6)),
 o 16 (.pick (.t 12) (.c (.bool true)) (.t 15)),
 m 17 16,
 go 18 17 false (.faddr 1 (.t 3)),
 go 19 17 false (.load false 1 (.t 18)),
 go 20 17 false (.load false 1 (.t 2)),
 go 21 17 false (.nilck (.t 20)),
 go 22 17 false (.faddr 0 (.t 21)),
 go 23 17 false (.load false 1 (.t 22)),
 go 24 17 false (.bin .neq (.t 19) (.t 23)),
 o 25 (.pick (.t 17) (.c (.bool true)) (.t 24))])
   (.cond (.t 25)
    (.seq (.region [o 26 (.build [(.int .i64 (.ofNat 0)), (.int .i64 (.ofNat 0)), (.int .i64 (.ofNat 0)), (.int .i64 (.ofNat 0)), (.int .i64 (.ofNat 0)), (.int .i64 (.ofNat 0)), (.str []), (.int .i64 (.ofNat 0)), (.str [])] []),
 x (.store 9 (.t 4) (.t 26)),
 o 5 (.mv (.c (.bool false)))])
    .ret)
    .skip))
   (.seq (.seq (.region [o 27 (.faddr 0 (.t 3)),
 o 28 (.load false 1 (.t 27)),
 o 29 (.bin .eql (.t 28) (ci 5))])
   (.cond (.t 29)
    (.seq (.region [o 30 (.load false 1 (.t 2)),
 o 31 (.load true 9 (.t 3)),
 e 32 (.call 34 [(.t 30), (.t 31)]),
 o 33 (.ext 0 (.t 32)),
 o 34 (.ext 1 (.t 32)),
 x (.store 9 (.t 4) (.t 33)),
 m 5 34])
    .ret)
    .skip))
   (.seq (.seq (.region [o 35 (.load false 1 (.t 2)),
 o 36 (.nilck (.t 35)),
 o 37 (.faddr 3 (.t 36)),
 o 38 (.load false 1 (.t 37)),
 o 39 (.un .not (.t 38)),
 m 40 39,
 go 41 40 false (.faddr 2 (.t 3)),
 go 42 40 false (.load false 1 (.t 41)),
 go 43 40 false (.load false 1 (.t 2)),
 go 44 40 false (.nilck (.t 43)),
 go 45 40 false (.faddr 4 (.t 44)),
 go 46 40 false (.load false 1 (.t 45)),
 go 47 40 false (.bin .neq (.t 42) (.t 46)),
 o 48 (.pick (.t 40) (.c (.bool true)) (.t 47)),
 m 49 48,
 go 50 49 false (.faddr 3 (.t 3)),
 go 51 49 false (.load false 1 (.t 50)),
 go 52 49 false (.load false 1 (.t 2)),
 go 53 49 false (.nilck (.t 52)),
 go 54 49 false (.faddr 5 (.t 53)),
 go 55 49 false (.load false 1 (.t 54)),
 go 56 49 false (.bin .lss (.t 51) (.t 55)),
 o 57 (.pick (.t 49) (.c (.bool true)) (.t 56))])
   (.cond (.t 57)
    (.seq (.region [o 58 (.build [(.int .i64 (.ofNat 0)), (.int .i64 (.ofNat 0)), (.int .i64 (.ofNat 0)), (.int .i64 (.ofNat 0)), (.int .i64 (.ofNat 0)), (.int .i64 (.ofNat 0)), (.str []), (.int .i64 (.ofNat 0)), (.str [])] []),
 x (.store 9 (.t 4) (.t 58)),
 o 5 (.mv (.c (.bool false)))])
    .ret)
    .skip))
   (.seq (.seq (.region [o 59 (.faddr 4 (.t 3)),
 o 60 (.load false 1 (.t 59)),
 o 61 (.load false 1 (.t 2)),
 o 62 (.nilck (.t 61)),
 o 63 (.faddr 5 (.t 62)),
 o 64 (.load false 1 (.t 63)),
 o 65 (.bin .gtr (.t 60) (.t 64))])
   (.cond (.t 65)
    (.seq (.region [o 66 (.load false 1 (.t 2)),
 o 67 (.faddr 4 (.t 3)),
 o 68 (.load false 1 (.t 67)),
 o 69 (.nilck (.t 66)),
 o 70 (.faddr 5 (.t 69)),
 x (.store 1 (.t 70) (.t 68))])
    (.region [o 71 (.load false 1 (.t 2)),
 o 72 (.load false 1 (.t 2)),
 o 73 (.nilck (.t 72)),
 o 74 (.faddr 7 (.t 73)),
 o 75 (.load false 1 (.t 74)),
 o 76 (.mkfn 36 [(.t 2)]),
 e 77 (.call 35 [(.t 75), (.t 76)]),
 .again ⟨(some 71), none, (.r (.load false 1 (.t 2)))⟩,
 o 78 (.nilck (.t 71)),
 o 79 (.faddr 7 (.t 78)),
 x (.store 1 (.t 79) (.t 77))]))
    .skip))
   (.seq (.seq (.region [o 80 (.faddr 3 (.t 3)),
 o 81 (.load false 1 (.t 80)),
 o 82 (.load false 1 (.t 2)),
 o 83 (.nilck (.t 82)),
 o 84 (.faddr 5 (.t 83)),
 o 85 (.load false 1 (.t 84)),
 o 86 (.bin .lss (.t 81) (.t 85))])
   (.cond (.t 86)
    (.seq (.region [o 87 (.build [(.int .i64 (.ofNat 0)), (.int .i64 (.ofNat 0)), (.int .i64 (.ofNat 0)), (.int .i64 (.ofNat 0)), (.int .i64 (.ofNat 0)), (.int .i64 (.ofNat 0)), (.str []), (.int .i64 (.ofNat 0)), (.str [])] []),
 x (.store 9 (.t 4) (.t 87)),
 o 5 (.mv (.c (.bool false)))])
    .ret)
    .skip))
   (.seq .skip
   (.seq (.seq (.region [o 88 (.load false 1 (.t 2)),
 o 89 (.nilck (.t 88)),
 o 90 (.faddr 7 (.t 89)),
 o 91 (.load false 1 (.t 90)),
 o 92 (.lensl (.t 91)),
 o 93 (.mv (ci 0))])
   (.block 0 (.loop (.seq (.region [o 94 (.bin .lss (.t 93) (.t 92))])
     (.seq (.cond (.t 94)
      .skip
      (.exit 0))
     (.seq (.block 1 (.seq (.region [o 95 (.iasl 10 (.t 91) (.t 93)),
 o 96 (.load true 10 (.t 95)),
 n 7 (.new 0 [(.int .i64 (.ofNat 0)), (.int .i64 (.ofNat 0)), (.int .i64 (.ofNat 0)), (.int .i64 (.ofNat 0)), (.int .i64 (.ofNat 0)), (.int .i64 (.ofNat 0)), (.int .i64 (.ofNat 0)), (.str []), (.int .i64 (.ofNat 0)), (.str [])]),
 x (.store 10 (.t 7) (.t 96))])
      (.seq (.seq (.region [o 97 (.faddr 0 (.t 7)),
 o 98 (.load false 1 (.t 97)),
 o 99 (.faddr 3 (.t 3)),
 o 100 (.load false 1 (.t 99)),
 o 101 (.bin .neq (.t 98) (.t 100))])
      (.cond (.t 101)
       (.exit 1)
       .skip))
      (.seq (.region [o 102 (.faddr 1 (.t 7)),
 o 103 (.load true 9 (.t 102)),
 x (.store 9 (.t 4) (.t 103)),
 o 5 (.mv (.c (.bool true)))])
      .ret))))
     (.region [o 104 (.bin .add (.t 93) (ci 1)),
 m 93 104])))))))
   (.seq (.region [o 105 (.load false 1 (.t 2)),
 o 106 (.load true 9 (.t 3)),
 e 107 (.call 37 [(.t 105), (.t 106)]),
 n 8 (.new 0 [(.int .i64 (.ofNat 0)), (.int .i64 (.ofNat 0)), (.int .i64 (.ofNat 0)), (.int .i64 (.ofNat 0)), (.int .i64 (.ofNat 0)), (.int .i64 (.ofNat 0)), (.str []), (.int .i64 (.ofNat 0)), (.str [])]),
 x (.store 9 (.t 8) (.t 107))])
   (.seq (.region [o 108 (.load false 1 (.t 2)),
 o 109 (.load false 1 (.t 2)),
 o 110 (.nilck (.t 109)),
 o 111 (.faddr 7 (.t 110)),
 o 112 (.load false 1 (.t 111)),
 o 113 (.faddr 3 (.t 3)),
 o 114 (.load false 1 (.t 113)),
 o 115 (.load true 9 (.t 8)),
 o 116 (.build [(.int .i64 (.ofNat 0)), (.int .i64 (.ofNat 0)), (.int .i64 (.ofNat 0)), (.int .i64 (.ofNat 0)), (.int .i64 (.ofNat 0)), (.int .i64 (.ofNat 0)), (.int .i64 (.ofNat 0)), (.str []), (.int .i64 (.ofNat 0)), (.str [])] [(0, 1, (.t 114)), (1, 9, (.t 115))]),
 n 117 (.bslice 0 10 1 [(.int .i64 (.ofNat 0)), (.int .i64 (.ofNat 0)), (.int .i64 (.ofNat 0)), (.int .i64 (.ofNat 0)), (.int .i64 (.ofNat 0)), (.int .i64 (.ofNat 0)), (.int .i64 (.ofNat 0)), (.str []), (.int .i64 (.ofNat 0)), (.str [])] [(0, 10, (.t 116))]),
 e 118 (.app 0 10 96 (.t 112) (.t 117)),
 .again ⟨(some 108), none, (.r (.load false 1 (.t 2)))⟩,
 o 119 (.nilck (.t 108)),
 o 120 (.faddr 7 (.t 119)),
 x (.store 1 (.t 120) (.t 118))])
   (.seq (.region [o 121 (.load true 9 (.t 8)),
 x (.store 9 (.t 4) (.t 121)),
 o 5 (.mv (.c (.bool true)))])
   .ret)))))))))))) }
theorem tr10 : trF cx Tryz.f10 = pf10 := by kernel_rfl
/-- (*depot/router.Router).Take -/
def pf11 : PF := { ntmps := 24, results := [.tmp 4], body :=
  (.seq (.region [n 3 (.box (.t 1)),
 o 4 (.mv (.c (.bool false)))])
  (.seq (.region [m 8 0,
 o 9 (.nilck (.t 8)),
 o 10 (.faddr 7 (.t 9)),
 o 11 (.load false 1 (.t 10)),
 o 12 (.load true 9 (.t 3)),
 n 5 (.new 0 [(.int .i64 (.ofNat 0)), (.int .i64 (.ofNat 0)), (.int .i64 (.ofNat 0)), (.int .i64 (.ofNat 0)), (.int .i64 (.ofNat 0)), (.int .i64 (.ofNat 0)), (.str []), (.int .i64 (.ofNat 0)), (.str [])]),
 e 13 (.call 38 [(.t 11), (.t 12)]),
 m 7 13,
 o 14 (.ext 0 (.t 7)),
 o 15 (.ext 1 (.t 7)),
 x (.store 9 (.t 5) (.t 14)),
 m 6 15])
  (.seq (.seq (.region [m 16 6,
 o 17 (.un .not (.t 16))])
  (.cond (.t 17)
   (.seq (.region [o 4 (.mv (.c (.bool false)))])
   .ret)
   .skip))
  (.seq (.region [m 18 0,
 o 19 (.load true 9 (.t 5)),
 o 20 (.load true 9 (.t 3)),
 e 21 (.call 39 [(.t 18), (.t 19), (.t 20), (.c (.bool true))])])
  (.seq (.region [m 22 0,
 e 23 (.call 40 [(.t 22)])])
  (.seq (.region [o 4 (.mv (.c (.bool true)))])
  .ret)))))) }
theorem tr11 : trF cx Tryz.f11 = pf11 := by kernel_rfl
/-- (*depot/router.Router).State -/
def pf13 : PF := { ntmps := 11, results := [.tmp 4], body :=
  (.seq (.region [o 4 (.mv (ci 0))])
  (.seq (.region [m 5 0,
 o 6 (.nilck (.t 5)),
 o 7 (.faddr 6 (.t 6)),
 o 8 (.load false 1 (.t 7)),
 m 9 1,
 e 10 (.call 41 [(.t 8), (.t 9)]),
 m 4 10])
  .ret)) }
theorem tr13 : trF cx Tryz.f13 = pf13 := by kernel_rfl
/-- (*depot/router.Router).Do -/
def pf14 : PF := { ntmps := 126, results := [.tmp 4], body :=
  (.seq (.region [n 3 (.box (.t 1)),
 o 4 (.mv (ci 0))])
  (.seq (.region [m 7 0,
 o 8 (.nilck (.t 7)),
 o 9 (.faddr 27 (.t 8)),
 o 10 (.load false 1 (.t 9)),
 o 11 (.bin .add (.t 10) (ci 1)),
 o 12 (.nilck (.t 7)),
 o 13 (.faddr 27 (.t 12)),
 x (.store 1 (.t 13) (.t 11))])
  (.seq (.region [m 14 0,
 o 15 (.nilck (.t 14)),
 o 16 (.faddr 27 (.t 15)),
 o 17 (.load false 1 (.t 16)),
 m 5 17])
  (.seq (.region [o 18 (.faddr 0 (.t 3)),
 o 19 (.load false 1 (.t 18)),
 o 20 (.bin .eql (.t 19) (ci 1)),
 m 21 20,
 go 22 21 false (.faddr 0 (.t 3)),
 go 23 21 false (.load false 1 (.t 22)),
 go 24 21 false (.bin .eql (.t 23) (ci 2)),
 o 25 (.pick (.t 21) (.c (.bool true)) (.t 24)),
 m 6 25])
  (.seq (.block 0 (.seq (.region [o 60 (.faddr 0 (.t 3)),
 o 61 (.load false 1 (.t 60)),
 o 62 (.bin .eql (.t 61) (ci 13)),
 m 59 62])
   (.cond (.t 59)
    (.seq (.region [m 63 0,
 m 64 0,
 o 65 (.nilck (.t 64)),
 o 66 (.faddr 10 (.t 65)),
 o 67 (.load false 1 (.t 66)),
 o 68 (.nilck (.t 63)),
 o 69 (.faddr 9 (.t 68)),
 x (.store 1 (.t 69) (.t 67))])
    (.region [m 70 0,
 m 71 5,
 o 72 (.build [(.int .i64 (.ofNat 0)), .nils, (.bool false), (.int .u64 (.ofNat 0)), (.str []), (.int .i64 (.ofNat 0)), (.int .i64 (.ofNat 0)), (.int .i64 (.ofNat 0)), (.int .i64 (.ofNat 0))] [(0, 1, (ci 9))]),
 e 73 (.call 42 [(.t 70), (.t 71), (.t 72)])]))
    (.seq (.region [o 75 (.faddr 0 (.t 3)),
 o 76 (.load false 1 (.t 75)),
 o 77 (.bin .eql (.t 76) (ci 14)),
 m 74 77])
    (.cond (.t 74)
     (.region [m 78 0,
 m 79 5,
 o 80 (.build [(.int .i64 (.ofNat 0)), .nils, (.bool false), (.int .u64 (.ofNat 0)), (.str []), (.int .i64 (.ofNat 0)), (.int .i64 (.ofNat 0)), (.int .i64 (.ofNat 0)), (.int .i64 (.ofNat 0))] [(0, 1, (ci 10))]),
 e 81 (.call 42 [(.t 78), (.t 79), (.t 80)])])
     (.seq (.region [o 83 (.faddr 0 (.t 3)),
 o 84 (.load false 1 (.t 83)),
 o 85 (.bin .eql (.t 84) (ci 15)),
 m 82 85])
     (.cond (.t 82)
      (.region [m 86 0,
 m 87 5,
 o 88 (.build [(.int .i64 (.ofNat 0)), .nils, (.bool false), (.int .u64 (.ofNat 0)), (.str []), (.int .i64 (.ofNat 0)), (.int .i64 (.ofNat 0)), (.int .i64 (.ofNat 0)), (.int .i64 (.ofNat 0))] [(0, 1, (ci 9))]),
 e 89 (.call 42 [(.t 86), (.t 87), (.t 88)])])
      (.seq (.region [o 91 (.faddr 0 (.t 3)),
 o 92 (.load false 1 (.t 91)),
 o 93 (.bin .eql (.t 92) (ci 16)),
 m 90 93])
      (.cond (.t 90)
       (.region [m 94 0,
 m 95 5,
 m 96 0,
 o 97 (.bad),
 e 98 (.call 42 [(.t 94), (.t 95), (.t 97)])])
       (.seq (.region [o 100 (.load true 9 (.t 3)),
 e 101 (.call 44 [(.t 100)]),
 o 102 (.un .not (.t 101)),
 m 103 102,
 gm 104 103 false 6,
 go 105 103 false (.un .not (.t 104)),
 gm 106 103 false 105,
 go 107 106 true (.faddr 1 (.t 3)),
 go 108 106 true (.load false 1 (.t 107)),
 go 109 106 true (.lensl (.t 108)),
 go 110 106 true (.bin .neq (.t 109) (ci 1)),
 go 111 103 false (.pick (.t 106) (.t 110) (.c (.bool false))),
 o 112 (.pick (.t 103) (.c (.bool true)) (.t 111)),
 m 99 112])
       (.cond (.t 99)
        (.region [m 113 0,
 m 114 5,
 o 115 (.build [(.int .i64 (.ofNat 0)), .nils, (.bool false), (.int .u64 (.ofNat 0)), (.str []), (.int .i64 (.ofNat 0)), (.int .i64 (.ofNat 0)), (.int .i64 (.ofNat 0)), (.int .i64 (.ofNat 0))] [(0, 1, (ci 12))]),
 e 116 (.call 42 [(.t 113), (.t 114), (.t 115)])])
        (.seq (.region [m 118 6,
 m 117 118])
        (.cond (.t 117)
         (.region [m 119 0,
 m 120 5,
 o 121 (.load true 9 (.t 3)),
 e 122 (.call 45 [(.t 119), (.t 120), (.t 121)])])
         (.seq (.seq (.region [o 26 (.faddr 0 (.t 3)),
 o 27 (.load false 1 (.t 26)),
 e 28 (.call 46 [(.t 27)])])
         (.cond (.t 28)
          (.region [m 29 0,
 o 30 (.nilck (.t 29)),
 o 31 (.faddr 29 (.t 30)),
 o 32 (.iaarr 3 1 (.t 31) (ci 1)),
 o 33 (.load false 1 (.t 32)),
 o 34 (.bin .add (.t 33) (ci 1)),
 o 35 (.nilck (.t 29)),
 o 36 (.faddr 29 (.t 35)),
 o 37 (.iaarr 3 1 (.t 36) (ci 1)),
 x (.store 1 (.t 37) (.t 34))])
          .skip))
         (.seq (.region [m 38 0,
 m 39 0,
 o 40 (.nilck (.t 39)),
 o 41 (.faddr 14 (.t 40)),
 o 42 (.load false 1 (.t 41)),
 m 43 5,
 o 44 (.build [(.int .i64 (.ofNat 0)), (.int .i64 (.ofNat 0)), (.int .i64 (.ofNat 0)), .nils, (.bool false), (.int .u64 (.ofNat 0)), (.str []), (.int .i64 (.ofNat 0)), (.int .i64 (.ofNat 0)), (.int .i64 (.ofNat 0)), (.int .i64 (.ofNat 0)), .nils] [(0, 1, (.t 43)), (1, 1, (ci 1))]),
 n 45 (.box (.t 44)),
 n 46 (.bslice 0 1 1 [.nilp] [(0, 1, (.t 45))]),
 e 47 (.app 0 1 8 (.t 42) (.t 46)),
 o 48 (.nilck (.t 38)),
 o 49 (.faddr 14 (.t 48)),
 x (.store 1 (.t 49) (.t 47))])
         (.region [m 50 0,
 o 51 (.faddr 1 (.t 3)),
 o 52 (.load false 1 (.t 51)),
 o 53 (.iasl 1 (.t 52) (ci 0)),
 o 54 (.load false 1 (.t 53)),
 o 55 (.load true 9 (.t 3)),
 m 56 5,
 o 57 (.build [(.str []), (.int .i64 (.ofNat 0)), .nils, (.int .i64 (.ofNat 0)), (.int .i64 (.ofNat 0)), (.int .i64 (.ofNat 0)), (.int .i64 (.ofNat 0)), (.int .u64 (.ofNat 0)), (.bool false), (.str []), (.int .i64 (.ofNat 0)), (.int .i64 (.ofNat 0)), (.int .i64 (.ofNat 0)), (.int .i64 (.ofNat 0))] [(0, 1, (.t 54)), (1, 9, (.t 55)), (10, 1, (.t 56)), (12, 1, (.c (.int .i64 (.negSucc 0))))]),
 e 58 (.call 47 [(.t 50), (.t 57)])]))))))))))))))))
  (.seq (.region [m 123 0,
 e 124 (.call 40 [(.t 123)])])
  (.seq (.region [m 125 5,
 m 4 125])
  .ret))))))) }
theorem tr14 : trF cx Tryz.f14 = pf14 := by kernel_rfl
/-- depot/cluster.New -/
def pf16 : PF := { ntmps := 66, results := [.tmp 2, .tmp 3], body :=
  (.seq (.region [n 1 (.box (.t 0)),
 o 2 (.mv (.c .nilp)),
 o 3 (.mv (ci 0))])
  (.seq (.region [o 12 (.load true 6 (.t 1)),
 e 13 (.call 7 [(.t 12)]),
 m 11 13,
 o 14 (.ext 0 (.t 11)),
 o 15 (.ext 1 (.t 11)),
 m 4 14,
 m 5 15])
  (.seq (.seq (.region [m 16 5,
 o 17 (.bin .neq (.t 16) (ci 0))])
  (.cond (.t 17)
   (.seq (.region [m 18 5,
 o 2 (.mv (.c .nilp)),
 m 3 18])
   .ret)
   .skip))
  (.seq (.region [o 19 (.load true 6 (.t 1)),
 m 20 4,
 e 21 (.call 48 []),
 .again ⟨(some 19), none, (.r (.load true 6 (.t 1)))⟩,
 o 22 (.build [(.int .i64 (.ofNat 0)), (.int .i64 (.ofNat 0)), (.int .i64 (.ofNat 0)), (.int .i64 (.ofNat 0)), (.int .i64 (.ofNat 0)), (.int .i64 (.ofNat 0)), .nilp, .nils, .nilp, .nilp, .nils, (.str []), .nilp, .nils, (.str []), .nilp, .nils, (.str []), .nilp, .nils, (.str []), .nilp, .nils, (.str []), .nilp, .nils, (.str []), .nils] [(0, 6, (.t 19)), (6, 1, (.t 20)), (8, 1, (.t 21))]),
 n 23 (.box (.t 22)),
 m 6 23])
  (.seq (.seq (.region [o 24 (.faddr 3 (.t 1)),
 o 25 (.load false 1 (.t 24)),
 o 26 (.mv (ci 0))])
  (.block 0 (.loop (.seq (.region [o 27 (.bin .lss (.t 26) (.t 25))])
    (.seq (.cond (.t 27)
     .skip
     (.exit 0))
    (.seq (.block 1 (.seq (.region [m 28 26,
 m 7 28])
     (.seq (.region [m 30 7,
 o 31 (.faddr 4 (.t 1)),
 o 32 (.load false 1 (.t 31)),
 o 33 (.faddr 5 (.t 1)),
 o 34 (.load false 1 (.t 33)),
 e 35 (.call 8 [(.t 30), (.t 32), (.t 34)]),
 m 29 35,
 o 36 (.ext 0 (.t 29)),
 o 37 (.ext 1 (.t 29)),
 m 8 36,
 m 9 37])
     (.seq (.seq (.region [m 38 9,
 o 39 (.bin .neq (.t 38) (ci 0))])
     (.cond (.t 39)
      (.seq (.region [m 40 9,
 o 2 (.mv (.c .nilp)),
 m 3 40])
      .ret)
      .skip))
     (.region [m 41 6,
 m 42 6,
 o 43 (.nilck (.t 42)),
 o 44 (.faddr 7 (.t 43)),
 o 45 (.load false 1 (.t 44)),
 m 46 8,
 n 47 (.bslice 0 1 1 [.nilp] [(0, 1, (.t 46))]),
 e 48 (.app 0 1 8 (.t 45) (.t 47)),
 o 49 (.nilck (.t 41)),
 o 50 (.faddr 7 (.t 49)),
 x (.store 1 (.t 50) (.t 48))])))))
    (.region [o 51 (.bin .add (.t 26) (ci 1)),
 m 26 51])))))))
  (.seq (.seq (.region [o 52 (.mv (ci 0))])
  (.block 2 (.loop (.seq (.region [o 53 (.bin .lss (.t 52) (ci 6))])
    (.seq (.cond (.t 53)
     .skip
     (.exit 2))
    (.seq (.block 3 (.seq (.region [m 54 52,
 m 10 54])
     (.region [m 55 6,
 m 56 10,
 o 58 (.nilck (.t 55)),
 o 59 (.faddr 9 (.t 58)),
 e 57 (.call 49 []),
 o 60 (.iaarr 6 3 (.t 59) (.t 56)),
 o 61 (.faddr 0 (.t 60)),
 x (.store 1 (.t 61) (.t 57))])))
    (.region [o 62 (.bin .add (.t 52) (ci 1)),
 m 52 62])))))))
  (.seq (.region [m 63 6,
 e 64 (.call 50 [(.t 63)])])
  (.seq (.region [m 65 6,
 m 2 65,
 o 3 (.mv (ci 0))])
  .ret)))))))) }
theorem tr16 : trF cx Tryz.f16 = pf16 := by kernel_rfl
/-- (*depot/cluster.Cluster).Do -/
def pf18 : PF := { ntmps := 56, results := [.tmp 4], body :=
  (.seq (.region [n 3 (.box (.t 1)),
 o 4 (.mv (.c (.bool false)))])
  (.seq (.region [o 5 (.mv (.c (.bool true)))])
  (.seq (.seq (.region [o 6 (.faddr 0 (.t 3)),
 o 7 (.load false 1 (.t 6))])
  (.block 0 (.seq (.region [o 9 (.bin .eql (.t 7) (ci 1)),
 m 8 9])
   (.cond (.t 8)
    (.region [m 10 0,
 o 11 (.load true 3 (.t 3)),
 e 12 (.call 51 [(.t 10), (.t 11)]),
 m 5 12])
    (.seq (.seq (.region [o 14 (.bin .eql (.t 7) (ci 2)),
 m 13 14])
    (.cond (.t 13)
     .skip
     (.seq (.region [o 15 (.bin .eql (.t 7) (ci 3)),
 m 13 15])
     (.cond (.t 13)
      .skip
      (.region [o 16 (.bin .eql (.t 7) (ci 4)),
 m 13 16])))))
    (.cond (.t 13)
     (.region [m 17 0,
 o 18 (.load true 3 (.t 3)),
 e 19 (.call 52 [(.t 17), (.t 18)]),
 m 5 19])
     (.seq (.region [o 21 (.bin .eql (.t 7) (ci 5)),
 m 20 21])
     (.cond (.t 20)
      (.region [m 22 0,
 o 23 (.nilck (.t 22)),
 o 24 (.faddr 6 (.t 23)),
 o 25 (.load false 1 (.t 24)),
 e 26 (.call 53 [(.t 25)])])
      (.seq (.region [o 28 (.bin .eql (.t 7) (ci 6)),
 m 27 28])
      (.cond (.t 27)
       (.seq (.region [o 29 (.faddr 1 (.t 3)),
 o 30 (.load false 1 (.t 29)),
 o 31 (.bin .geq (.t 30) (ci 0)),
 m 32 31,
 go 33 32 true (.faddr 1 (.t 3)),
 go 34 32 true (.load false 1 (.t 33)),
 gm 35 32 true 0,
 go 36 32 true (.nilck (.t 35)),
 go 37 32 true (.faddr 7 (.t 36)),
 go 38 32 true (.load false 1 (.t 37)),
 go 39 32 true (.lensl (.t 38)),
 go 40 32 true (.bin .lss (.t 34) (.t 39)),
 o 41 (.pick (.t 32) (.t 40) (.c (.bool false))),
 m 5 41])
       (.seq (.region [m 42 5])
       (.cond (.t 42)
        (.region [m 43 0,
 o 44 (.nilck (.t 43)),
 o 45 (.faddr 7 (.t 44)),
 o 46 (.load false 1 (.t 45)),
 o 47 (.faddr 1 (.t 3)),
 o 48 (.load false 1 (.t 47)),
 o 49 (.iasl 1 (.t 46) (.t 48)),
 o 50 (.load false 1 (.t 49)),
 o 51 (.bad)])
        .skip)))
       (.region [o 5 (.mv (.c (.bool false)))])))))))))))
  (.seq (.seq (.region [m 52 5])
  (.cond (.t 52)
   (.region [m 53 0,
 e 54 (.call 50 [(.t 53)])])
   .skip))
  (.seq (.region [m 55 5,
 m 4 55])
  .ret))))) }
theorem tr18 : trF cx Tryz.f18 = pf18 := by kernel_rfl
/-- (*depot/cluster.Cluster).Said -/
def pf19 : PF := { ntmps := 15, results := [.tmp 4], body :=
  (.seq (.region [o 4 (.mv (.c (.str [])))])
  (.seq (.seq (.region [m 5 1,
 e 6 (.call 55 [(.t 5)]),
 o 7 (.un .not (.t 6))])
  (.cond (.t 7)
   (.seq (.region [o 4 (.mv (.c (.str [])))])
   .ret)
   .skip))
  (.seq (.region [m 8 0,
 m 9 1,
 o 10 (.nilck (.t 8)),
 o 11 (.faddr 9 (.t 10)),
 o 12 (.iaarr 6 3 (.t 11) (.t 9)),
 o 13 (.faddr 2 (.t 12)),
 o 14 (.load false 1 (.t 13)),
 m 4 14])
  .ret))) }
theorem tr19 : trF cx Tryz.f19 = pf19 := by kernel_rfl
/-- (*depot/cluster.Cluster).Due -/
def pf20 : PF := { ntmps := 16, results := [.tmp 4], body :=
  (.seq (.region [o 4 (.mv (ci 0))])
  (.seq (.seq (.region [m 5 1,
 e 6 (.call 55 [(.t 5)]),
 o 7 (.un .not (.t 6))])
  (.cond (.t 7)
   (.seq (.region [o 4 (.mv (ci 0))])
   .ret)
   .skip))
  (.seq (.region [m 8 0,
 m 9 1,
 o 10 (.nilck (.t 8)),
 o 11 (.faddr 9 (.t 10)),
 o 12 (.iaarr 6 3 (.t 11) (.t 9)),
 o 13 (.faddr 1 (.t 12)),
 o 14 (.load false 1 (.t 13)),
 o 15 (.lensl (.t 14)),
 m 4 15])
  .ret))) }
theorem tr20 : trF cx Tryz.f20 = pf20 := by kernel_rfl
/-- depot/calm.Settle -/
def pf22 : PF := { ntmps := 11, results := [], body :=
  (.seq (.region [m 4 1,
 o 5 (.minmax false [(.t 4), (ci 400)]),
 o 6 (.mv (ci 0))])
  (.block 0 (.loop (.seq (.region [o 7 (.bin .lss (.t 6) (.t 5))])
    (.seq (.cond (.t 7)
     .skip
     (.exit 0))
    (.seq (.block 1 (.region [m 8 0,
 e 9 (.call 59 [(.t 8)])]))
    (.region [o 10 (.bin .add (.t 6) (ci 1)),
 m 6 10]))))))) }
theorem tr22 : trF cx Tryz.f22 = pf22 := by kernel_rfl
/-- depot/calm.All -/
def pf23 : PF := { ntmps := 15, results := [.tmp 4], body :=
  (.seq (.region [o 4 (.mv (.c (.bool false)))])
  (.seq (.seq (.region [m 6 1,
 o 7 (.mv (ci 0))])
  (.block 0 (.loop (.seq (.region [o 8 (.bin .lss (.t 7) (.t 6))])
    (.seq (.cond (.t 8)
     .skip
     (.exit 0))
    (.seq (.block 1 (.seq (.region [m 9 7,
 m 5 9])
     (.seq (.region [m 10 0,
 m 11 5,
 e 12 (.call 60 [(.t 10), (.t 11)]),
 o 13 (.bin .neq (.t 12) (ci 2))])
     (.cond (.t 13)
      (.seq (.region [o 4 (.mv (.c (.bool false)))])
      .ret)
      .skip))))
    (.region [o 14 (.bin .add (.t 7) (ci 1)),
 m 7 14])))))))
  (.seq (.region [o 4 (.mv (.c (.bool true)))])
  .ret))) }
theorem tr23 : trF cx Tryz.f23 = pf23 := by kernel_rfl
/-- depot/calm.Waiting -/
def pf24 : PF := { ntmps := 15, results := [.tmp 2], body :=
  (.seq (.region [o 2 (.mv (ci 0))])
  (.seq (.region [o 3 (.mv (ci 0))])
  (.seq (.seq (.region [o 5 (.mv (ci 0))])
  (.block 0 (.loop (.seq (.region [o 6 (.bin .lss (.t 5) (ci 6))])
    (.seq (.cond (.t 6)
     .skip
     (.exit 0))
    (.seq (.block 1 (.seq (.region [m 7 5,
 m 4 7])
     (.region [m 8 3,
 m 9 0,
 m 10 4,
 e 11 (.call 20 [(.t 9), (.t 10)]),
 o 12 (.bin .add (.t 8) (.t 11)),
 m 3 12])))
    (.region [o 13 (.bin .add (.t 5) (ci 1)),
 m 5 13])))))))
  (.seq (.region [m 14 3,
 m 2 14])
  .ret)))) }
theorem tr24 : trF cx Tryz.f24 = pf24 := by kernel_rfl
/-- depot/task.RightConfig -/
def pf28 : PF := { ntmps := 40, results := [.tmp 2], body :=
  (.seq (.region [n 1 (.box (.t 0)),
 o 2 (.mv (.c (.bool false)))])
  (.seq (.seq (.region [o 6 (.faddr 0 (.t 1)),
 o 7 (.load false 1 (.t 6)),
 o 8 (.faddr 1 (.t 1)),
 o 9 (.load false 1 (.t 8)),
 e 10 (.call 69 [(.t 7), (.t 9)]),
 m 5 10,
 o 11 (.ext 0 (.t 5)),
 o 12 (.ext 1 (.t 5)),
 m 3 11,
 m 4 12])
  (.seq (.region [m 13 4,
 o 14 (.bin .neq (.t 13) (ci 0))])
  (.cond (.t 14)
   (.seq (.region [o 2 (.mv (.c (.bool false)))])
   .ret)
   .skip)))
  (.seq (.region [o 15 (.faddr 2 (.t 1)),
 o 16 (.load false 1 (.t 15)),
 o 17 (.faddr 1 (.t 1)),
 o 18 (.load false 1 (.t 17)),
 e 19 (.call 70 [(.t 16), (ci 0), (.t 18)]),
 m 20 19,
 go 21 20 true (.faddr 3 (.t 1)),
 go 22 20 true (.load false 1 (.t 21)),
 go 23 20 true (.faddr 0 (.t 1)),
 go 24 20 true (.load false 1 (.t 23)),
 go 25 20 true (.faddr 1 (.t 1)),
 go 26 20 true (.load false 1 (.t 25)),
 go 27 20 true (.bin .add (.t 24) (.t 26)),
 .op ⟨(some 28), (some (20, true)), (.e (.call 70 [(.t 22), (.t 27), (ci 12)]))⟩,
 o 29 (.pick (.t 20) (.t 28) (.c (.bool false))),
 m 30 29,
 go 31 30 true (.faddr 4 (.t 1)),
 go 32 30 true (.load false 1 (.t 31)),
 .op ⟨(some 33), (some (30, true)), (.e (.call 70 [(.t 32), (ci 1), (ci 64)]))⟩,
 o 34 (.pick (.t 30) (.t 33) (.c (.bool false))),
 m 35 34,
 go 36 35 true (.faddr 5 (.t 1)),
 go 37 35 true (.load false 1 (.t 36)),
 .op ⟨(some 38), (some (35, true)), (.e (.call 70 [(.t 37), (ci 64), (ci 65536)]))⟩,
 o 39 (.pick (.t 35) (.t 38) (.c (.bool false))),
 m 2 39])
  .ret))) }
theorem tr28 : trF cx Tryz.f28 = pf28 := by kernel_rfl
/-- depot/ask.New -/
def pf29 : PF := { ntmps := 3, results := [.tmp 0], body :=
  (.seq (.region [o 0 (.mv (.c .nilp))])
  (.seq (.region [o 1 (.build [.nils, (.int .i64 (.ofNat 0))] []),
 n 2 (.box (.t 1)),
 m 0 2])
  .ret)) }
theorem tr29 : trF cx Tryz.f29 = pf29 := by kernel_rfl
/-- depot/view.New -/
def pf30 : PF := { ntmps := 14, results := [.tmp 2, .tmp 3], body :=
  (.seq (.region [o 2 (.mv (.c .nilp)),
 o 3 (.mv (ci 0))])
  (.seq (.seq (.region [m 4 0,
 o 5 (.bin .lss (.t 4) (ci 1)),
 m 6 5,
 gm 7 6 false 0,
 go 8 6 false (.bin .gtr (.t 7) (ci 12)),
 o 9 (.pick (.t 6) (.c (.bool true)) (.t 8))])
  (.cond (.t 9)
   (.seq (.region [o 2 (.mv (.c .nilp)),
 o 3 (.mv (ci 1))])
   .ret)
   .skip))
  (.seq (.region [m 10 0,
 n 11 (.mksl 0 2 16 [(.int .i64 (.ofNat 0)), (.int .i64 (.ofNat 0))] (.t 10) (.t 10)),
 o 12 (.build [.nils] [(0, 1, (.t 11))]),
 n 13 (.box (.t 12)),
 m 2 13,
 o 3 (.mv (ci 0))])
  .ret))) }
theorem tr30 : trF cx Tryz.f30 = pf30 := by kernel_rfl
/-- (*depot/router.Router).again -/
def pf31 : PF := { ntmps := 39, results := [], body :=
  (.seq (.seq (.region [m 6 0,
 o 7 (.nilck (.t 6)),
 o 8 (.faddr 6 (.t 7)),
 o 9 (.load false 1 (.t 8)),
 m 10 1,
 e 11 (.call 71 [(.t 9), (.t 10), (ci 1)]),
 o 12 (.un .not (.t 11))])
  (.cond (.t 12)
   .ret
   .skip))
  (.seq (.region [m 13 0,
 m 14 1,
 o 15 (.nilck (.t 13)),
 o 16 (.faddr 15 (.t 15)),
 o 17 (.iaarr 12 1 (.t 16) (.t 14)),
 x (.store 1 (.t 17) (.c .nilp))])
  (.seq (.seq (.region [m 18 0,
 o 19 (.nilck (.t 18)),
 o 20 (.faddr 7 (.t 19)),
 o 21 (.load false 1 (.t 20)),
 m 22 1,
 e 23 (.call 72 [(.t 21), (.t 22)]),
 o 24 (.lensl (.t 23)),
 o 25 (.mv (ci 0))])
  (.block 0 (.loop (.seq (.region [o 26 (.bin .lss (.t 25) (.t 24))])
    (.seq (.cond (.t 26)
     .skip
     (.exit 0))
    (.seq (.block 1 (.seq (.region [o 27 (.iasl 9 (.t 23) (.t 25)),
 o 28 (.load true 9 (.t 27)),
 n 5 (.new 0 [(.int .i64 (.ofNat 0)), (.int .i64 (.ofNat 0)), (.int .i64 (.ofNat 0)), (.int .i64 (.ofNat 0)), (.int .i64 (.ofNat 0)), (.int .i64 (.ofNat 0)), (.str []), (.int .i64 (.ofNat 0)), (.str [])]),
 x (.store 9 (.t 5) (.t 28))])
     (.region [m 29 0,
 o 30 (.load true 9 (.t 5)),
 o 31 (.build [(.int .i64 (.ofNat 0)), (.int .i64 (.ofNat 0)), (.int .i64 (.ofNat 0)), (.int .i64 (.ofNat 0)), (.int .i64 (.ofNat 0)), (.int .i64 (.ofNat 0)), (.str []), (.int .i64 (.ofNat 0)), (.str [])] []),
 e 32 (.call 39 [(.t 29), (.t 30), (.t 31), (.c (.bool false))])])))
    (.region [o 33 (.bin .add (.t 25) (ci 1)),
 m 25 33])))))))
  (.region [m 34 0,
 m 35 1,
 o 36 (.build [(.int .i64 (.ofNat 0)), (.int .i64 (.ofNat 0)), (.int .i64 (.ofNat 0)), (.int .i64 (.ofNat 0)), (.int .i64 (.ofNat 0)), (.int .i64 (.ofNat 0)), (.str []), (.int .i64 (.ofNat 0)), (.str [])] [(0, 1, (ci 5)), (1, 1, (.t 35))]),
 o 37 (.build [(.int .i64 (.ofNat 0)), (.int .i64 (.ofNat 0)), (.int .i64 (.ofNat 0)), (.bool false), (.int .i64 (.ofNat 0)), (.int .i64 (.ofNat 0))] []),
 e 38 (.call 73 [(.t 34), (.t 36), (.t 37)])])))) }
theorem tr31 : trF cx Tryz.f31 = pf31 := by kernel_rfl
/-- depot/item.New -/
def pf32 : PF := { ntmps := 22, results := [.tmp 4, .tmp 5], body :=
  (.seq (.region [o 4 (.mv (.c .nilp)),
 o 5 (.mv (ci 0))])
  (.seq (.region [m 9 0,
 m 10 1,
 e 11 (.call 74 [(.t 9), (.t 10)]),
 m 8 11,
 o 12 (.ext 0 (.t 8)),
 o 13 (.ext 1 (.t 8)),
 m 6 12,
 m 7 13])
  (.seq (.seq (.region [m 14 7,
 o 15 (.bin .neq (.t 14) (ci 0))])
  (.cond (.t 15)
   (.seq (.region [m 16 7,
 o 4 (.mv (.c .nilp)),
 m 5 16])
   .ret)
   .skip))
  (.seq (.region [m 17 6,
 n 19 (.mksl 0 6 56 [(.str []), (.int .i64 (.ofNat 0)), (.int .i64 (.ofNat 0)), (.bool false), (.int .i64 (.ofNat 0)), (.int .i64 (.ofNat 0))] (ci 1) (ci 1)),
 e 18 (.call 75 []),
 o 20 (.build [.nilp, .nilp, .nils, .nils] [(0, 1, (.t 17)), (1, 1, (.t 18)), (2, 1, (.t 19))]),
 n 21 (.box (.t 20)),
 m 4 21,
 o 5 (.mv (ci 0))])
  .ret)))) }
theorem tr32 : trF cx Tryz.f32 = pf32 := by kernel_rfl
/-- depot/wire.Right -/
def pf33 : PF := { ntmps := 57, results := [.tmp 2], body :=
  (.seq (.region [n 1 (.box (.t 0)),
 o 2 (.mv (.c (.bool false)))])
  (.seq (.seq (.region [o 4 (.faddr 0 (.t 1)),
 o 5 (.load false 1 (.t 4)),
 o 6 (.bin .lss (.t 5) (ci 1)),
 m 7 6,
 go 8 7 false (.faddr 0 (.t 1)),
 go 9 7 false (.load false 1 (.t 8)),
 go 10 7 false (.bin .gtr (.t 9) (ci 7)),
 o 11 (.pick (.t 7) (.c (.bool true)) (.t 10)),
 m 12 11,
 go 13 12 false (.faddr 1 (.t 1)),
 go 14 12 false (.load false 1 (.t 13)),
 .op ⟨(some 15), (some (12, false)), (.e (.call 76 [(.t 14), (ci 11)]))⟩,
 go 16 12 false (.un .not (.t 15)),
 o 17 (.pick (.t 12) (.c (.bool true)) (.t 16)),
 m 18 17,
 go 19 18 false (.faddr 0 (.t 1)),
 go 20 18 false (.load false 1 (.t 19)),
 go 21 18 false (.faddr 5 (.t 1)),
 go 22 18 false (.load false 1 (.t 21)),
 .op ⟨(some 23), (some (18, false)), (.e (.call 77 [(.t 20), (.t 22)]))⟩,
 go 24 18 false (.un .not (.t 23)),
 o 25 (.pick (.t 18) (.c (.bool true)) (.t 24))])
  (.cond (.t 25)
   (.seq (.region [o 2 (.mv (.c (.bool false)))])
   .ret)
   .skip))
  (.seq (.region [o 26 (.faddr 2 (.t 1)),
 o 27 (.load false 1 (.t 26)),
 e 28 (.call 76 [(.t 27), (ci 1099511627776)]),
 m 29 28,
 go 30 29 true (.faddr 3 (.t 1)),
 go 31 29 true (.load false 1 (.t 30)),
 .op ⟨(some 32), (some (29, true)), (.e (.call 76 [(.t 31), (ci 1099511627776)]))⟩,
 o 33 (.pick (.t 29) (.t 32) (.c (.bool false))),
 m 34 33,
 go 35 34 true (.faddr 4 (.t 1)),
 go 36 34 true (.load false 1 (.t 35)),
 .op ⟨(some 37), (some (34, true)), (.e (.call 76 [(.t 36), (ci 1099511627776)]))⟩,
 o 38 (.pick (.t 34) (.t 37) (.c (.bool false))),
 m 39 38,
 go 40 39 true (.faddr 7 (.t 1)),
 go 41 39 true (.load false 1 (.t 40)),
 .op ⟨(some 42), (some (39, true)), (.e (.call 76 [(.t 41), (ci 1099511627776)]))⟩,
 o 43 (.pick (.t 39) (.t 42) (.c (.bool false))),
 m 3 43])
  (.seq (.region [m 44 3,
 m 45 44,
 go 46 45 true (.faddr 6 (.t 1)),
 go 47 45 true (.load false 1 (.t 46)),
 go 48 45 true (.lens (.t 47)),
 go 49 45 true (.bin .leq (.t 48) (ci 250)),
 o 50 (.pick (.t 45) (.t 49) (.c (.bool false))),
 m 51 50,
 go 52 51 true (.faddr 8 (.t 1)),
 go 53 51 true (.load false 1 (.t 52)),
 go 54 51 true (.lens (.t 53)),
 go 55 51 true (.bin .leq (.t 54) (ci 1049600)),
 o 56 (.pick (.t 51) (.t 55) (.c (.bool false))),
 m 2 56])
  .ret)))) }
theorem tr33 : trF cx Tryz.f33 = pf33 := by kernel_rfl
/-- (*depot/slot.Slot).reset -/
def pf34 : PF := { ntmps := 49, results := [.cell 4 true 9, .tmp 5], body :=
  (.seq (.region [n 3 (.box (.t 1)),
 n 4 (.new 0 [(.int .i64 (.ofNat 0)), (.int .i64 (.ofNat 0)), (.int .i64 (.ofNat 0)), (.int .i64 (.ofNat 0)), (.int .i64 (.ofNat 0)), (.int .i64 (.ofNat 0)), (.str []), (.int .i64 (.ofNat 0)), (.str [])]),
 o 5 (.mv (.c (.bool false)))])
  (.seq (.seq (.region [o 6 (.faddr 2 (.t 3)),
 o 7 (.load false 1 (.t 6)),
 m 8 0,
 o 9 (.nilck (.t 8)),
 o 10 (.faddr 4 (.t 9)),
 o 11 (.load false 1 (.t 10)),
 o 12 (.bin .gtr (.t 7) (.t 11))])
  (.cond (.t 12)
   (.seq (.region [m 13 0,
 e 14 (.call 78 [(.t 13)])])
   (.region [m 15 0,
 m 16 0,
 o 17 (.faddr 2 (.t 3)),
 o 18 (.load false 1 (.t 17)),
 o 19 (.nilck (.t 15)),
 o 20 (.faddr 3 (.t 19)),
 x (.store 1 (.t 20) (.c (.bool true))),
 .again ⟨(some 18), none, (.r (.load false 1 (.t 17)))⟩,
 o 21 (.nilck (.t 16)),
 o 22 (.faddr 4 (.t 21)),
 x (.store 1 (.t 22) (.t 18))]))
   .skip))
  (.seq (.seq (.region [m 23 0,
 o 24 (.nilck (.t 23)),
 o 25 (.faddr 3 (.t 24)),
 o 26 (.load false 1 (.t 25)),
 o 27 (.un .not (.t 26)),
 m 28 27,
 go 29 28 false (.faddr 2 (.t 3)),
 go 30 28 false (.load false 1 (.t 29)),
 gm 31 28 false 0,
 go 32 28 false (.nilck (.t 31)),
 go 33 28 false (.faddr 4 (.t 32)),
 go 34 28 false (.load false 1 (.t 33)),
 go 35 28 false (.bin .neq (.t 30) (.t 34)),
 o 36 (.pick (.t 28) (.c (.bool true)) (.t 35))])
  (.cond (.t 36)
   (.seq (.region [o 37 (.build [(.int .i64 (.ofNat 0)), (.int .i64 (.ofNat 0)), (.int .i64 (.ofNat 0)), (.int .i64 (.ofNat 0)), (.int .i64 (.ofNat 0)), (.int .i64 (.ofNat 0)), (.str []), (.int .i64 (.ofNat 0)), (.str [])] []),
 x (.store 9 (.t 4) (.t 37)),
 o 5 (.mv (.c (.bool false)))])
   .ret)
   .skip))
  (.seq (.region [m 38 0,
 o 39 (.nilck (.t 38)),
 o 40 (.faddr 0 (.t 39)),
 o 41 (.load false 1 (.t 40)),
 m 42 0,
 o 43 (.nilck (.t 42)),
 o 44 (.faddr 4 (.t 43)),
 o 45 (.load false 1 (.t 44)),
 o 46 (.faddr 3 (.t 3)),
 o 47 (.load false 1 (.t 46)),
 o 48 (.build [(.int .i64 (.ofNat 0)), (.int .i64 (.ofNat 0)), (.int .i64 (.ofNat 0)), (.int .i64 (.ofNat 0)), (.int .i64 (.ofNat 0)), (.int .i64 (.ofNat 0)), (.str []), (.int .i64 (.ofNat 0)), (.str [])] [(0, 1, (ci 6)), (1, 1, (.t 41)), (2, 1, (.t 45)), (3, 1, (.t 47))]),
 x (.store 9 (.t 4) (.t 48)),
 o 5 (.mv (.c (.bool true)))])
  .ret)))) }
theorem tr34 : trF cx Tryz.f34 = pf34 := by kernel_rfl
/-- slices.DeleteFunc[[]depot/slot.did,depot/slot.did] -/
def pf35 : PF := { ntmps := 42, results := [.tmp 4], body :=
  (.seq (.region [o 4 (.mv (.c .nils))])
  (.seq (.region [m 8 0,
 m 9 1,
 e 10 (.call 79 [(.t 8), (.t 9)]),
 m 5 10])
  (.seq (.seq (.region [m 11 5,
 o 12 (.bin .eql (.t 11) (.c (.int .i64 (.negSucc 0))))])
  (.cond (.t 12)
   (.seq (.region [m 13 0,
 m 4 13])
   .ret)
   .skip))
  (.seq (.seq (.region [m 14 5,
 o 15 (.bin .add (.t 14) (ci 1)),
 m 6 15])
  (.block 0 (.loop (.seq (.seq (.region [m 16 6,
 m 17 0,
 o 18 (.lensl (.t 17)),
 o 19 (.bin .lss (.t 16) (.t 18))])
    (.cond (.t 19)
     .skip
     (.exit 0)))
    (.seq (.block 1 (.seq (.region [m 22 0,
 m 23 6,
 o 24 (.iasl 10 (.t 22) (.t 23)),
 o 25 (.load true 10 (.t 24)),
 n 7 (.new 0 [(.int .i64 (.ofNat 0)), (.int .i64 (.ofNat 0)), (.int .i64 (.ofNat 0)), (.int .i64 (.ofNat 0)), (.int .i64 (.ofNat 0)), (.int .i64 (.ofNat 0)), (.int .i64 (.ofNat 0)), (.str []), (.int .i64 (.ofNat 0)), (.str [])]),
 x (.store 10 (.t 7) (.t 25))])
     (.seq (.region [m 26 1,
 o 27 (.load true 10 (.t 7)),
 e 28 (.callv (.t 26) [(.t 27)]),
 o 29 (.un .not (.t 28))])
     (.cond (.t 29)
      (.seq (.region [m 30 0,
 m 31 5,
 o 32 (.load true 10 (.t 7)),
 o 33 (.iasl 10 (.t 30) (.t 31)),
 x (.store 10 (.t 33) (.t 32))])
      (.region [m 34 5,
 o 35 (.bin .add (.t 34) (ci 1)),
 m 5 35]))
      .skip))))
    (.region [m 20 6,
 o 21 (.bin .add (.t 20) (ci 1)),
 m 6 21]))))))
  (.seq (.region [m 36 0,
 m 37 5,
 o 38 (.slsl 10 (.t 36) (some (.t 37)) none none),
 x (.clear [(.int .i64 (.ofNat 0)), (.int .i64 (.ofNat 0)), (.int .i64 (.ofNat 0)), (.int .i64 (.ofNat 0)), (.int .i64 (.ofNat 0)), (.int .i64 (.ofNat 0)), (.int .i64 (.ofNat 0)), (.str []), (.int .i64 (.ofNat 0)), (.str [])] (.t 38))])
  (.seq (.region [m 39 0,
 m 40 5,
 o 41 (.slsl 10 (.t 39) none (some (.t 40)) none),
 m 4 41])
  .ret)))))) }
theorem tr35 : trF cx Tryz.f35 = pf35 := by kernel_rfl
/-- (*depot/slot.Slot).Take$1 -/
def pf36 : PF := { ntmps := 11, results := [.tmp 3], body :=
  (.seq (.region [n 2 (.box (.t 0)),
 o 3 (.mv (.c (.bool false)))])
  (.seq (.region [o 4 (.faddr 0 (.t 2)),
 o 5 (.load false 1 (.t 4)),
 o 6 (.load false 1 (.t 1)),
 o 7 (.nilck (.t 6)),
 o 8 (.faddr 5 (.t 7)),
 o 9 (.load false 1 (.t 8)),
 o 10 (.bin .lss (.t 5) (.t 9)),
 m 3 10])
  .ret)) }
theorem tr36 : trF cx Tryz.f36 = pf36 := by kernel_rfl
/-- (*depot/slot.Slot).do -/
def pf37 : PF := { ntmps := 115, results := [.cell 4 true 9], body :=
  (.seq (.region [n 3 (.box (.t 1)),
 n 4 (.new 0 [(.int .i64 (.ofNat 0)), (.int .i64 (.ofNat 0)), (.int .i64 (.ofNat 0)), (.int .i64 (.ofNat 0)), (.int .i64 (.ofNat 0)), (.int .i64 (.ofNat 0)), (.str []), (.int .i64 (.ofNat 0)), (.str [])])])
  (.seq (.region [m 11 0,
 o 12 (.nilck (.t 11)),
 o 13 (.faddr 0 (.t 12)),
 o 14 (.load false 1 (.t 13)),
 m 15 0,
 o 16 (.nilck (.t 15)),
 o 17 (.faddr 4 (.t 16)),
 o 18 (.load false 1 (.t 17)),
 o 19 (.faddr 3 (.t 3)),
 o 20 (.load false 1 (.t 19)),
 o 21 (.faddr 5 (.t 3)),
 o 22 (.load false 1 (.t 21)),
 o 23 (.faddr 6 (.t 3)),
 o 24 (.load false 1 (.t 23)),
 o 25 (.build [(.int .i64 (.ofNat 0)), (.int .i64 (.ofNat 0)), (.int .i64 (.ofNat 0)), (.int .i64 (.ofNat 0)), (.int .i64 (.ofNat 0)), (.int .i64 (.ofNat 0)), (.str []), (.int .i64 (.ofNat 0)), (.str [])] [(0, 1, (ci 6)), (1, 1, (.t 14)), (2, 1, (.t 18)), (3, 1, (.t 20)), (5, 1, (.t 22)), (6, 1, (.t 24))]),
 n 5 (.new 0 [(.int .i64 (.ofNat 0)), (.int .i64 (.ofNat 0)), (.int .i64 (.ofNat 0)), (.int .i64 (.ofNat 0)), (.int .i64 (.ofNat 0)), (.int .i64 (.ofNat 0)), (.str []), (.int .i64 (.ofNat 0)), (.str [])]),
 x (.store 9 (.t 5) (.t 25))])
  (.seq (.seq (.region [o 26 (.faddr 0 (.t 3)),
 o 27 (.load false 1 (.t 26)),
 o 28 (.bin .eql (.t 27) (ci 4))])
  (.cond (.t 28)
   (.seq (.region [m 29 0,
 o 30 (.faddr 6 (.t 3)),
 o 31 (.load false 1 (.t 30)),
 e 32 (.call 80 [(.t 29), (.t 31)]),
 o 33 (.faddr 8 (.t 5)),
 x (.store 1 (.t 33) (.t 32))])
   (.seq (.region [o 34 (.load true 9 (.t 5)),
 x (.store 9 (.t 4) (.t 34))])
   .ret))
   .skip))
  (.seq (.region [m 36 0,
 o 37 (.load true 9 (.t 3)),
 e 38 (.call 81 [(.t 36), (.t 37)]),
 m 35 38,
 o 39 (.ext 0 (.t 35)),
 o 40 (.ext 1 (.t 35)),
 o 41 (.ext 2 (.t 35)),
 m 6 39,
 m 7 40,
 m 8 41])
  (.seq (.seq (.region [o 42 (.faddr 0 (.t 3)),
 o 43 (.load false 1 (.t 42))])
  (.block 0 (.seq (.region [o 45 (.bin .eql (.t 43) (ci 1)),
 m 44 45])
   (.cond (.t 44)
    (.seq (.seq (.region [m 46 8,
 m 47 46,
 gm 48 47 true 6,
 go 49 47 true (.faddr 7 (.t 3)),
 go 50 47 true (.load false 1 (.t 49)),
 go 51 47 true (.bin .gtr (.t 48) (.t 50)),
 o 52 (.pick (.t 47) (.t 51) (.c (.bool false)))])
    (.cond (.t 52)
     (.seq (.region [m 53 6,
 o 54 (.faddr 7 (.t 5)),
 x (.store 1 (.t 54) (.t 53))])
     (.seq (.region [o 55 (.load true 9 (.t 5)),
 x (.store 9 (.t 4) (.t 55))])
     .ret))
     .skip))
    (.seq (.region [o 56 (.faddr 7 (.t 3)),
 o 57 (.load false 1 (.t 56)),
 o 58 (.faddr 7 (.t 5)),
 x (.store 1 (.t 58) (.t 57))])
    (.seq (.region [m 60 0,
 o 61 (.nilck (.t 60)),
 o 62 (.faddr 6 (.t 61)),
 o 63 (.load false 1 (.t 62)),
 o 64 (.load true 9 (.t 3)),
 o 66 (.faddr 7 (.t 3)),
 o 67 (.load false 1 (.t 66)),
 o 70 (.faddr 8 (.t 3)),
 o 71 (.load false 1 (.t 70)),
 e 65 (.call 83 [(.t 64)]),
 .again ⟨(some 71), none, (.r (.load false 1 (.t 70)))⟩,
 .again ⟨(some 67), none, (.r (.load false 1 (.t 66)))⟩,
 .again ⟨(some 63), none, (.r (.load false 1 (.t 62)))⟩,
 o 68 (.bad),
 o 69 (.b2s (.t 68)),
 o 72 (.bin .add (.t 69) (.t 71)),
 o 73 (.bad),
 m 59 73,
 o 74 (.ext 0 (.t 59)),
 o 75 (.ext 1 (.t 59)),
 m 9 74,
 m 10 75])
    (.seq (.region [m 76 10,
 o 77 (.bin .neq (.t 76) (ci 0))])
    (.cond (.t 77)
     (.seq (.region [m 78 0,
 o 79 (.nilck (.t 78)),
 o 80 (.faddr 0 (.t 79)),
 o 81 (.load false 1 (.t 80)),
 m 82 0,
 o 83 (.nilck (.t 82)),
 o 84 (.faddr 4 (.t 83)),
 o 85 (.load false 1 (.t 84)),
 o 86 (.faddr 3 (.t 3)),
 o 87 (.load false 1 (.t 86)),
 o 88 (.build [(.int .i64 (.ofNat 0)), (.int .i64 (.ofNat 0)), (.int .i64 (.ofNat 0)), (.int .i64 (.ofNat 0)), (.int .i64 (.ofNat 0)), (.int .i64 (.ofNat 0)), (.str []), (.int .i64 (.ofNat 0)), (.str [])] [(0, 1, (ci 7)), (1, 1, (.t 81)), (2, 1, (.t 85)), (3, 1, (.t 87))]),
 x (.store 9 (.t 4) (.t 88))])
     .ret)
     .skip)))))
    (.seq (.region [o 90 (.bin .eql (.t 43) (ci 2)),
 m 89 90])
    (.cond (.t 89)
     (.region [m 91 6,
 m 92 7,
 o 93 (.faddr 7 (.t 5)),
 x (.store 1 (.t 93) (.t 91)),
 o 94 (.faddr 8 (.t 5)),
 x (.store 1 (.t 94) (.t 92))])
     (.seq (.region [o 96 (.bin .eql (.t 43) (ci 3)),
 m 95 96])
     (.cond (.t 95)
      (.seq (.region [o 97 (.faddr 7 (.t 3)),
 o 98 (.load false 1 (.t 97)),
 o 99 (.faddr 7 (.t 5)),
 x (.store 1 (.t 99) (.t 98))])
      (.seq (.region [m 100 8,
 m 101 100,
 gm 102 101 true 6,
 go 103 101 true (.faddr 7 (.t 3)),
 go 104 101 true (.load false 1 (.t 103)),
 go 105 101 true (.bin .leq (.t 102) (.t 104)),
 o 106 (.pick (.t 101) (.t 105) (.c (.bool false)))])
      (.cond (.t 106)
       (.region [m 107 0,
 o 108 (.nilck (.t 107)),
 o 109 (.faddr 6 (.t 108)),
 o 110 (.load false 1 (.t 109)),
 o 111 (.load true 9 (.t 3)),
 e 112 (.call 83 [(.t 111)]),
 .again ⟨(some 110), none, (.r (.load false 1 (.t 109)))⟩,
 o 113 (.bad)])
       .skip)))
      .skip))))))))
  (.seq (.region [o 114 (.load true 9 (.t 5)),
 x (.store 9 (.t 4) (.t 114))])
  .ret)))))) }
theorem tr37 : trF cx Tryz.f37 = pf37 := by kernel_rfl
/-- (*depot/ask.Asks).Answer -/
def pf38 : PF := { ntmps := 64, results := [.cell 4 true 9, .tmp 5], body :=
  (.seq (.region [n 3 (.box (.t 1)),
 n 4 (.new 0 [(.int .i64 (.ofNat 0)), (.int .i64 (.ofNat 0)), (.int .i64 (.ofNat 0)), (.int .i64 (.ofNat 0)), (.int .i64 (.ofNat 0)), (.int .i64 (.ofNat 0)), (.str []), (.int .i64 (.ofNat 0)), (.str [])]),
 o 5 (.mv (.c (.bool false)))])
  (.seq (.seq (.region [o 8 (.load true 9 (.t 3)),
 e 9 (.call 33 [(.t 8)]),
 o 10 (.un .not (.t 9)),
 m 11 10,
 go 12 11 false (.faddr 0 (.t 3)),
 go 13 11 false (.load false 1 (.t 12)),
 go 14 11 false (.bin .lss (.t 13) (ci 6)),
 o 15 (.pick (.t 11) (.c (.bool true)) (.t 14))])
  (.cond (.t 15)
   (.seq (.region [o 16 (.build [(.int .i64 (.ofNat 0)), (.int .i64 (.ofNat 0)), (.int .i64 (.ofNat 0)), (.int .i64 (.ofNat 0)), (.int .i64 (.ofNat 0)), (.int .i64 (.ofNat 0)), (.str []), (.int .i64 (.ofNat 0)), (.str [])] []),
 x (.store 9 (.t 4) (.t 16)),
 o 5 (.mv (.c (.bool false)))])
   .ret)
   .skip))
  (.seq (.seq (.region [m 17 0,
 o 18 (.nilck (.t 17)),
 o 19 (.faddr 0 (.t 18)),
 o 20 (.load false 1 (.t 19)),
 o 21 (.lensl (.t 20)),
 o 22 (.mv (ci 0))])
  (.block 0 (.loop (.seq (.region [o 23 (.bin .lss (.t 22) (.t 21))])
    (.seq (.cond (.t 23)
     .skip
     (.exit 0))
    (.seq (.block 1 (.seq (.region [m 24 22,
 o 25 (.iasl 10 (.t 20) (.t 22)),
 o 26 (.load true 10 (.t 25)),
 n 7 (.new 0 [(.int .i64 (.ofNat 0)), (.int .i64 (.ofNat 0)), (.int .i64 (.ofNat 0)), (.int .i64 (.ofNat 0)), (.int .i64 (.ofNat 0)), (.int .i64 (.ofNat 0)), (.str []), (.int .i64 (.ofNat 0)), (.str []), (.int .i64 (.ofNat 0))]),
 m 6 24,
 x (.store 10 (.t 7) (.t 26))])
     (.seq (.region [o 27 (.faddr 0 (.t 7)),
 o 28 (.faddr 3 (.t 27)),
 o 29 (.load false 1 (.t 28)),
 o 30 (.faddr 3 (.t 3)),
 o 31 (.load false 1 (.t 30)),
 o 32 (.bin .eql (.t 29) (.t 31)),
 m 33 32,
 go 34 33 true (.faddr 0 (.t 7)),
 go 35 33 true (.faddr 1 (.t 34)),
 go 36 33 true (.load false 1 (.t 35)),
 go 37 33 true (.faddr 1 (.t 3)),
 go 38 33 true (.load false 1 (.t 37)),
 go 39 33 true (.bin .eql (.t 36) (.t 38)),
 o 40 (.pick (.t 33) (.t 39) (.c (.bool false))),
 m 41 40,
 go 42 41 true (.faddr 0 (.t 7)),
 go 43 41 true (.faddr 2 (.t 42)),
 go 44 41 true (.load false 1 (.t 43)),
 go 45 41 true (.faddr 2 (.t 3)),
 go 46 41 true (.load false 1 (.t 45)),
 go 47 41 true (.bin .eql (.t 44) (.t 46)),
 o 48 (.pick (.t 41) (.t 47) (.c (.bool false)))])
     (.cond (.t 48)
      (.seq (.region [m 49 0,
 m 50 0,
 o 51 (.nilck (.t 50)),
 o 52 (.faddr 0 (.t 51)),
 o 53 (.load false 1 (.t 52)),
 m 54 6,
 m 55 6,
 o 56 (.bin .add (.t 55) (ci 1)),
 e 57 (.call 86 [(.t 53), (.t 54), (.t 56)]),
 o 58 (.nilck (.t 49)),
 o 59 (.faddr 0 (.t 58)),
 x (.store 1 (.t 59) (.t 57))])
      (.seq (.region [o 60 (.faddr 0 (.t 7)),
 o 61 (.load true 9 (.t 60)),
 x (.store 9 (.t 4) (.t 61)),
 o 5 (.mv (.c (.bool true)))])
      .ret))
      .skip))))
    (.region [o 62 (.bin .add (.t 22) (ci 1)),
 m 22 62])))))))
  (.seq (.region [o 63 (.build [(.int .i64 (.ofNat 0)), (.int .i64 (.ofNat 0)), (.int .i64 (.ofNat 0)), (.int .i64 (.ofNat 0)), (.int .i64 (.ofNat 0)), (.int .i64 (.ofNat 0)), (.str []), (.int .i64 (.ofNat 0)), (.str [])] []),
 x (.store 9 (.t 4) (.t 63)),
 o 5 (.mv (.c (.bool false)))])
  .ret)))) }
theorem tr38 : trF cx Tryz.f38 = pf38 := by kernel_rfl
/-- (*depot/router.Router).heard -/
def pf39 : PF := { ntmps := 126, results := [], body :=
  (.seq (.region [n 5 (.box (.t 1)),
 n 6 (.box (.t 2))])
  (.seq (.region [m 14 0,
 o 15 (.faddr 3 (.t 5)),
 o 16 (.load false 1 (.t 15)),
 e 17 (.call 87 [(.t 14), (.t 16)]),
 n 8 (.new 0 [(.int .i64 (.ofNat 0)), (.int .i64 (.ofNat 0)), (.int .i64 (.ofNat 0)), (.bool false), (.int .i64 (.ofNat 0)), (.int .i64 (.ofNat 0))]),
 x (.store 6 (.t 8) (.t 17))])
  (.block 0 (.seq (.region [o 19 (.faddr 0 (.t 5)),
 o 20 (.load false 1 (.t 19)),
 o 21 (.bin .eql (.t 20) (ci 5)),
 m 18 21])
   (.cond (.t 18)
    (.seq (.region [m 22 3,
 m 23 22,
 gm 24 23 true 0,
 go 25 23 true (.nilck (.t 24)),
 go 26 23 true (.faddr 6 (.t 25)),
 go 27 23 true (.load false 1 (.t 26)),
 go 28 23 true (.faddr 1 (.t 5)),
 go 29 23 true (.load false 1 (.t 28)),
 .op ⟨(some 30), (some (23, true)), (.e (.call 71 [(.t 27), (.t 29), (ci 2)]))⟩,
 o 31 (.pick (.t 23) (.t 30) (.c (.bool false)))])
    (.cond (.t 31)
     (.seq (.region [o 9 (.mv (.c .nils))])
     (.seq (.seq (.region [m 32 0,
 o 33 (.nilck (.t 32)),
 o 34 (.faddr 11 (.t 33)),
 o 35 (.load false 1 (.t 34)),
 o 36 (.lensl (.t 35)),
 o 37 (.mv (ci 0))])
     (.block 1 (.loop (.seq (.region [o 38 (.bin .lss (.t 37) (.t 36))])
       (.seq (.cond (.t 38)
        .skip
        (.exit 1))
       (.seq (.block 2 (.seq (.region [o 39 (.iasl 1 (.t 35) (.t 37)),
 o 40 (.load false 1 (.t 39)),
 m 11 40])
        (.region [m 41 9,
 m 42 11,
 o 43 (.nilck (.t 42)),
 o 44 (.faddr 0 (.t 43)),
 o 45 (.load false 1 (.t 44)),
 n 46 (.bslice 0 1 1 [(.int .i64 (.ofNat 0))] [(0, 1, (.t 45))]),
 e 47 (.app 0 1 8 (.t 41) (.t 46)),
 m 9 47])))
       (.region [o 48 (.bin .add (.t 37) (ci 1)),
 m 37 48])))))))
     (.region [m 50 0,
 o 51 (.faddr 1 (.t 5)),
 o 52 (.load false 1 (.t 51)),
 m 53 0,
 o 54 (.nilck (.t 53)),
 o 55 (.faddr 0 (.t 54)),
 o 56 (.load true 6 (.t 55)),
 o 57 (.faddr 1 (.t 5)),
 o 58 (.load false 1 (.t 57)),
 m 59 9,
 o 63 (.nilck (.t 50)),
 o 64 (.faddr 15 (.t 63)),
 e 60 (.call 88 [(.t 56), (.t 58), (.t 59)]),
 .again ⟨(some 52), none, (.r (.load false 1 (.t 51)))⟩,
 m 49 60,
 o 61 (.ext 0 (.t 49)),
 o 62 (.ext 1 (.t 49)),
 o 65 (.iaarr 12 1 (.t 64) (.t 52)),
 x (.store 1 (.t 65) (.t 61))])))
     .skip))
    (.seq (.region [o 67 (.faddr 1 (.t 8)),
 o 68 (.load false 1 (.t 67)),
 o 69 (.bin .gtr (.t 68) (ci 0)),
 m 66 69])
    (.cond (.t 66)
     (.seq (.region [m 70 0,
 o 71 (.faddr 1 (.t 8)),
 o 72 (.load false 1 (.t 71)),
 e 73 (.call 89 [(.t 70), (.t 72)]),
 m 12 73])
     (.seq (.region [m 74 12,
 o 75 (.eqc true (.t 74) (.c .nilp))])
     (.cond (.t 75)
      (.seq (.region [m 76 12,
 o 77 (.nilck (.t 76)),
 o 78 (.faddr 15 (.t 77)),
 o 79 (.load false 1 (.t 78)),
 m 80 0,
 o 82 (.faddr 2 (.t 8)),
 o 83 (.load false 1 (.t 82)),
 o 84 (.load true 9 (.t 5)),
 o 85 (.load true 9 (.t 6)),
 m 86 3,
 e 81 (.call 91 [(.t 80)]),
 .again ⟨(some 85), none, (.r (.load true 9 (.t 6)))⟩,
 .again ⟨(some 84), none, (.r (.load true 9 (.t 5)))⟩,
 .again ⟨(some 83), none, (.r (.load false 1 (.t 82)))⟩,
 .again ⟨(some 79), none, (.r (.load false 1 (.t 78)))⟩,
 e 87 (.call 90 [(.t 79), (.t 81), (.t 83), (.t 84), (.t 85), (.t 86)])])
      (.region [m 88 0,
 m 89 12,
 e 90 (.call 92 [(.t 88), (.t 89)])]))
      .skip)))
     (.seq (.region [o 92 (.faddr 3 (.t 8)),
 o 93 (.load false 1 (.t 92)),
 m 91 93])
     (.cond (.t 91)
      (.seq (.region [m 94 0,
 o 95 (.faddr 4 (.t 8)),
 o 96 (.load false 1 (.t 95)),
 o 97 (.nilck (.t 94)),
 o 98 (.faddr 15 (.t 97)),
 o 99 (.iaarr 12 1 (.t 98) (.t 96)),
 o 100 (.load false 1 (.t 99)),
 m 13 100])
      (.seq (.region [m 101 13,
 o 102 (.eqc true (.t 101) (.c .nilp)),
 m 103 102,
 gm 104 103 true 0,
 go 105 103 true (.nilck (.t 104)),
 go 106 103 true (.faddr 6 (.t 105)),
 go 107 103 true (.load false 1 (.t 106)),
 go 108 103 true (.faddr 4 (.t 8)),
 go 109 103 true (.load false 1 (.t 108)),
 go 111 103 true (.faddr 5 (.t 8)),
 go 112 103 true (.load false 1 (.t 111)),
 .op ⟨(some 110), (some (103, true)), (.e (.call 93 [(.t 107), (.t 109)]))⟩,
 .again ⟨(some 112), (some (103, true)), (.r (.load false 1 (.t 111)))⟩,
 go 113 103 true (.bin .eql (.t 110) (.t 112)),
 o 114 (.pick (.t 103) (.t 113) (.c (.bool false)))])
      (.cond (.t 114)
       (.region [m 115 13,
 o 116 (.faddr 8 (.t 6)),
 o 117 (.load false 1 (.t 116)),
 e 118 (.call 95 [(.t 117)]),
 m 119 3,
 m 120 119,
 go 121 120 true (.faddr 0 (.t 6)),
 go 122 120 true (.load false 1 (.t 121)),
 go 123 120 true (.bin .eql (.t 122) (ci 6)),
 o 124 (.pick (.t 120) (.t 123) (.c (.bool false))),
 e 125 (.call 94 [(.t 115), (.t 118), (.t 124)])])
       .skip)))
      .skip))))))))) }
theorem tr39 : trF cx Tryz.f39 = pf39 := by kernel_rfl
/-- (*depot/router.Router).pump -/
def pf40 : PF := { ntmps := 78, results := [], body :=
  (.scope (.seq .skip
   (.block 0 (.loop (.block 1 (.scope (.seq (.region [o 2 (.mv (.c (.bool false)))])
       (.seq .skip
       (.seq (.seq (.region [m 8 0,
 o 9 (.nilck (.t 8)),
 o 10 (.faddr 0 (.t 9)),
 o 11 (.faddr 3 (.t 10)),
 o 12 (.load false 1 (.t 11)),
 o 13 (.mv (ci 0))])
       (.block 2 (.loop (.seq (.region [o 14 (.bin .lss (.t 13) (.t 12))])
         (.seq (.cond (.t 14)
          .skip
          (.exit 2))
         (.seq (.block 3 (.seq (.region [m 15 13,
 m 3 15])
          (.seq (.region [m 16 0,
 m 17 3,
 o 18 (.nilck (.t 16)),
 o 19 (.faddr 15 (.t 18)),
 o 20 (.iaarr 12 1 (.t 19) (.t 17)),
 o 21 (.load false 1 (.t 20)),
 m 4 21])
          (.seq (.seq (.region [m 22 4,
 o 23 (.eqc false (.t 22) (.c .nilp))])
          (.cond (.t 23)
           (.exit 3)
           .skip))
          (.seq (.region [m 25 4,
 m 26 0,
 e 27 (.call 91 [(.t 26)]),
 o 28 (.fld true 12 0 (.t 27)),
 e 29 (.call 96 [(.t 25), (.t 28)]),
 m 24 29,
 o 30 (.ext 0 (.t 24)),
 o 31 (.ext 1 (.t 24)),
 o 32 (.ext 2 (.t 24)),
 m 5 30,
 m 6 31,
 m 7 32])
          (.seq (.seq (.region [m 33 5])
          (.block 4 (.seq (.region [o 35 (.bin .eql (.t 33) (ci 1)),
 m 34 35])
           (.cond (.t 34)
            (.region [m 36 0,
 m 37 6,
 m 38 7,
 o 39 (.build [(.int .i64 (.ofNat 0)), (.int .i64 (.ofNat 0)), (.int .i64 (.ofNat 0)), (.int .i64 (.ofNat 0)), (.int .i64 (.ofNat 0)), (.int .i64 (.ofNat 0)), (.str []), (.int .i64 (.ofNat 0)), (.str [])] [(0, 1, (ci 4)), (1, 1, (.t 37)), (6, 1, (.t 38))]),
 m 40 3,
 m 41 0,
 o 42 (.nilck (.t 41)),
 o 43 (.faddr 6 (.t 42)),
 o 44 (.load false 1 (.t 43)),
 m 45 3,
 e 46 (.call 93 [(.t 44), (.t 45)]),
 o 47 (.build [(.int .i64 (.ofNat 0)), (.int .i64 (.ofNat 0)), (.int .i64 (.ofNat 0)), (.bool false), (.int .i64 (.ofNat 0)), (.int .i64 (.ofNat 0))] [(3, 1, (.c (.bool true))), (4, 1, (.t 40)), (5, 1, (.t 46))]),
 e 48 (.call 73 [(.t 36), (.t 39), (.t 47)])])
            (.seq (.region [o 50 (.bin .eql (.t 33) (ci 2)),
 m 49 50])
            (.cond (.t 49)
             (.region [m 51 0,
 m 52 7,
 m 53 3,
 m 54 0,
 o 55 (.nilck (.t 54)),
 o 56 (.faddr 6 (.t 55)),
 o 57 (.load false 1 (.t 56)),
 m 58 3,
 e 59 (.call 93 [(.t 57), (.t 58)]),
 o 60 (.build [(.str []), (.int .i64 (.ofNat 0)), .nils, (.int .i64 (.ofNat 0)), (.int .i64 (.ofNat 0)), (.int .i64 (.ofNat 0)), (.int .i64 (.ofNat 0)), (.int .u64 (.ofNat 0)), (.bool false), (.str []), (.int .i64 (.ofNat 0)), (.int .i64 (.ofNat 0)), (.int .i64 (.ofNat 0)), (.int .i64 (.ofNat 0))] [(0, 1, (.t 52)), (12, 1, (.t 53)), (13, 1, (.t 59))]),
 e 61 (.call 47 [(.t 51), (.t 60)])])
             (.seq (.region [o 63 (.bin .eql (.t 33) (ci 3)),
 m 62 63])
             (.cond (.t 62)
              (.seq (.region [m 64 0,
 o 65 (.nilck (.t 64)),
 o 66 (.faddr 6 (.t 65)),
 o 67 (.load false 1 (.t 66)),
 m 68 3,
 e 69 (.call 71 [(.t 67), (.t 68), (ci 3)])])
              (.region [m 70 0,
 m 71 3,
 o 72 (.nilck (.t 70)),
 o 73 (.faddr 15 (.t 72)),
 o 74 (.iaarr 12 1 (.t 73) (.t 71)),
 x (.store 1 (.t 74) (.c .nilp))]))
              (.exit 3)))))))))
          (.region [o 2 (.mv (.c (.bool true)))])))))))
         (.region [o 75 (.bin .add (.t 13) (ci 1)),
 m 13 75])))))))
       (.seq (.region [m 76 2,
 o 77 (.un .not (.t 76))])
       (.cond (.t 77)
        (.exit 0)
        .skip))))))))))) }
theorem tr40 : trF cx Tryz.f40 = pf40 := by kernel_rfl
/-- (*depot/view.View).State -/
def pf41 : PF := { ntmps := 9, results := [.tmp 4], body :=
  (.seq (.region [o 4 (.mv (ci 0))])
  (.seq (.region [m 5 0,
 m 6 1,
 e 7 (.call 97 [(.t 5), (.t 6)]),
 o 8 (.fld false 1 0 (.t 7)),
 m 4 8])
  .ret)) }
theorem tr41 : trF cx Tryz.f41 = pf41 := by kernel_rfl
/-- (*depot/router.Router).reply -/
def pf42 : PF := { ntmps := 18, results := [], body :=
  (.seq (.region [n 5 (.box (.t 2))])
  (.region [m 6 0,
 m 7 0,
 o 8 (.nilck (.t 7)),
 o 9 (.faddr 33 (.t 8)),
 o 10 (.load false 1 (.t 9)),
 m 11 1,
 o 12 (.load true 9 (.t 5)),
 o 13 (.build [(.int .i64 (.ofNat 0)), (.int .i64 (.ofNat 0)), .nils, (.bool false), (.int .u64 (.ofNat 0)), (.str []), (.int .i64 (.ofNat 0)), (.int .i64 (.ofNat 0)), (.int .i64 (.ofNat 0)), (.int .i64 (.ofNat 0))] [(0, 1, (.t 11)), (1, 9, (.t 12))]),
 n 14 (.bslice 0 10 1 [(.int .i64 (.ofNat 0)), (.int .i64 (.ofNat 0)), .nils, (.bool false), (.int .u64 (.ofNat 0)), (.str []), (.int .i64 (.ofNat 0)), (.int .i64 (.ofNat 0)), (.int .i64 (.ofNat 0)), (.int .i64 (.ofNat 0))] [(0, 10, (.t 13))]),
 e 15 (.app 0 10 104 (.t 10) (.t 14)),
 o 16 (.nilck (.t 6)),
 o 17 (.faddr 33 (.t 16)),
 x (.store 1 (.t 17) (.t 15))])) }
theorem tr42 : trF cx Tryz.f42 = pf42 := by kernel_rfl
/-- depot/router.May -/
def pf44 : PF := { ntmps := 46, results := [.tmp 2], body :=
  (.seq (.region [n 1 (.box (.t 0)),
 o 2 (.mv (.c (.bool false)))])
  (.seq (.seq (.region [o 5 (.faddr 0 (.t 1)),
 o 6 (.load false 1 (.t 5)),
 e 7 (.call 99 [(.t 6), (ci 1), (ci 12)]),
 o 8 (.un .not (.t 7)),
 m 9 8,
 go 10 9 false (.faddr 1 (.t 1)),
 go 11 9 false (.load false 1 (.t 10)),
 go 12 9 false (.lensl (.t 11)),
 .op ⟨(some 13), (some (9, false)), (.e (.call 99 [(.t 12), (ci 1), (ci 64)]))⟩,
 go 14 9 false (.un .not (.t 13)),
 o 15 (.pick (.t 9) (.c (.bool true)) (.t 14)),
 m 16 15,
 go 17 16 false (.faddr 8 (.t 1)),
 go 18 16 false (.load false 1 (.t 17)),
 go 19 16 false (.lens (.t 18)),
 go 20 16 false (.bin .gtr (.t 19) (ci 1048576)),
 o 21 (.pick (.t 16) (.c (.bool true)) (.t 20))])
  (.cond (.t 21)
   (.seq (.region [o 2 (.mv (.c (.bool false)))])
   .ret)
   .skip))
  (.seq (.seq (.region [o 22 (.faddr 1 (.t 1)),
 o 23 (.load false 1 (.t 22)),
 o 24 (.lensl (.t 23)),
 o 25 (.mv (ci 0))])
  (.block 0 (.loop (.seq (.region [o 26 (.bin .lss (.t 25) (.t 24))])
    (.seq (.cond (.t 26)
     .skip
     (.exit 0))
    (.seq (.block 1 (.seq (.region [o 27 (.iasl 1 (.t 23) (.t 25)),
 o 28 (.load false 1 (.t 27)),
 m 4 28])
     (.seq (.region [m 29 4,
 e 30 (.call 100 [(.t 29)]),
 o 31 (.un .not (.t 30))])
     (.cond (.t 31)
      (.seq (.region [o 2 (.mv (.c (.bool false)))])
      .ret)
      .skip))))
    (.region [o 32 (.bin .add (.t 25) (ci 1)),
 m 25 32])))))))
  (.seq (.region [o 33 (.faddr 2 (.t 1)),
 o 34 (.load false 1 (.t 33)),
 e 35 (.call 99 [(.t 34), (ci 0), (ci 4294967295)]),
 m 36 35,
 go 37 36 true (.faddr 3 (.t 1)),
 go 38 36 true (.load false 1 (.t 37)),
 .op ⟨(some 39), (some (36, true)), (.e (.call 99 [(.t 38), (.c (.int .i64 (.negSucc 1099511627775))), (ci 1099511627776)]))⟩,
 o 40 (.pick (.t 36) (.t 39) (.c (.bool false))),
 m 41 40,
 go 42 41 true (.faddr 5 (.t 1)),
 go 43 41 true (.load false 1 (.t 42)),
 .op ⟨(some 44), (some (41, true)), (.e (.call 99 [(.t 43), (ci 0), (ci 1099511627776)]))⟩,
 o 45 (.pick (.t 41) (.t 44) (.c (.bool false))),
 m 2 45])
  .ret)))) }
theorem tr44 : trF cx Tryz.f44 = pf44 := by kernel_rfl
/-- (*depot/router.Router).gets -/
def pf45 : PF := { ntmps := 65, results := [], body :=
  (.seq (.region [n 5 (.box (.t 2))])
  (.seq (.region [o 9 (.faddr 0 (.t 5)),
 o 10 (.load false 1 (.t 9)),
 o 11 (.bin .eql (.t 10) (ci 2)),
 o 12 (.build [(.int .i64 (.ofNat 0)), .nils, (.bool false), (.int .u64 (.ofNat 0)), (.str []), (.int .i64 (.ofNat 0)), (.int .i64 (.ofNat 0)), (.int .i64 (.ofNat 0)), (.int .i64 (.ofNat 0))] [(0, 1, (ci 1)), (2, 1, (.t 11))]),
 n 6 (.new 0 [(.int .i64 (.ofNat 0)), .nils, (.bool false), (.int .u64 (.ofNat 0)), (.str []), (.int .i64 (.ofNat 0)), (.int .i64 (.ofNat 0)), (.int .i64 (.ofNat 0)), (.int .i64 (.ofNat 0))]),
 x (.store 9 (.t 6) (.t 12))])
  (.seq (.region [m 13 0,
 m 14 0,
 o 15 (.nilck (.t 14)),
 o 16 (.faddr 14 (.t 15)),
 o 17 (.load false 1 (.t 16)),
 m 18 1,
 o 19 (.faddr 1 (.t 5)),
 o 20 (.load false 1 (.t 19)),
 o 21 (.lensl (.t 20)),
 o 22 (.load true 9 (.t 6)),
 o 23 (.faddr 1 (.t 5)),
 o 24 (.load false 1 (.t 23)),
 o 25 (.lensl (.t 24)),
 n 26 (.mksl 0 1 24 [.nils] (.t 25) (.t 25)),
 o 27 (.build [(.int .i64 (.ofNat 0)), (.int .i64 (.ofNat 0)), (.int .i64 (.ofNat 0)), .nils, (.bool false), (.int .u64 (.ofNat 0)), (.str []), (.int .i64 (.ofNat 0)), (.int .i64 (.ofNat 0)), (.int .i64 (.ofNat 0)), (.int .i64 (.ofNat 0)), .nils] [(0, 1, (.t 18)), (1, 1, (.t 21)), (2, 9, (.t 22)), (11, 1, (.t 26))]),
 n 28 (.box (.t 27)),
 n 29 (.bslice 0 1 1 [.nilp] [(0, 1, (.t 28))]),
 e 30 (.app 0 1 8 (.t 17) (.t 29)),
 o 31 (.nilck (.t 13)),
 o 32 (.faddr 14 (.t 31)),
 x (.store 1 (.t 32) (.t 30))])
  (.seq (.region [m 33 0,
 o 34 (.nilck (.t 33)),
 o 35 (.faddr 29 (.t 34)),
 o 36 (.iaarr 3 1 (.t 35) (ci 0)),
 o 37 (.load false 1 (.t 36)),
 o 38 (.faddr 1 (.t 5)),
 o 39 (.load false 1 (.t 38)),
 o 40 (.lensl (.t 39)),
 o 41 (.bin .add (.t 37) (.t 40)),
 o 42 (.nilck (.t 33)),
 o 43 (.faddr 29 (.t 42)),
 o 44 (.iaarr 3 1 (.t 43) (ci 0)),
 x (.store 1 (.t 44) (.t 41))])
  (.seq (.region [o 45 (.faddr 1 (.t 5)),
 o 46 (.load false 1 (.t 45)),
 o 47 (.lensl (.t 46)),
 o 48 (.mv (ci 0))])
  (.block 0 (.loop (.seq (.region [o 49 (.bin .lss (.t 48) (.t 47))])
    (.seq (.cond (.t 49)
     .skip
     (.exit 0))
    (.seq (.block 1 (.seq (.region [m 50 48,
 o 51 (.iasl 1 (.t 46) (.t 48)),
 o 52 (.load false 1 (.t 51)),
 m 7 50,
 m 8 52])
     (.region [m 53 0,
 m 54 8,
 o 55 (.faddr 0 (.t 5)),
 o 56 (.load false 1 (.t 55)),
 m 57 8,
 n 58 (.bslice 0 1 1 [(.str [])] [(0, 1, (.t 57))]),
 o 59 (.build [(.int .i64 (.ofNat 0)), .nils, (.int .i64 (.ofNat 0)), (.int .i64 (.ofNat 0)), (.int .i64 (.ofNat 0)), (.int .i64 (.ofNat 0)), (.int .u64 (.ofNat 0)), (.bool false), (.str [])] [(0, 1, (.t 56)), (1, 1, (.t 58))]),
 m 60 1,
 m 61 7,
 o 62 (.build [(.str []), (.int .i64 (.ofNat 0)), .nils, (.int .i64 (.ofNat 0)), (.int .i64 (.ofNat 0)), (.int .i64 (.ofNat 0)), (.int .i64 (.ofNat 0)), (.int .u64 (.ofNat 0)), (.bool false), (.str []), (.int .i64 (.ofNat 0)), (.int .i64 (.ofNat 0)), (.int .i64 (.ofNat 0)), (.int .i64 (.ofNat 0))] [(0, 1, (.t 54)), (1, 9, (.t 59)), (10, 1, (.t 60)), (11, 1, (.t 61)), (12, 1, (.c (.int .i64 (.negSucc 0))))]),
 e 63 (.call 47 [(.t 53), (.t 62)])])))
    (.region [o 64 (.bin .add (.t 48) (ci 1)),
 m 48 64]))))))))))) }
theorem tr45 : trF cx Tryz.f45 = pf45 := by kernel_rfl
/-- depot/words.Storing -/
def pf46 : PF := { ntmps := 9, results := [.tmp 2], body :=
  (.seq (.region [o 2 (.mv (.c (.bool false)))])
  (.seq (.region [m 3 0,
 o 4 (.bin .geq (.t 3) (ci 3)),
 m 5 4,
 gm 6 5 true 0,
 go 7 5 true (.bin .leq (.t 6) (ci 8)),
 o 8 (.pick (.t 5) (.t 7) (.c (.bool false))),
 m 2 8])
  .ret)) }
theorem tr46 : trF cx Tryz.f46 = pf46 := by kernel_rfl
/-- (*depot/router.Router).want -/
def pf47 : PF := { ntmps := 37, results := [], body :=
  (.seq (.region [n 3 (.box (.t 1))])
  (.seq (.seq (.region [m 6 0,
 o 7 (.nilck (.t 6)),
 o 8 (.faddr 11 (.t 7)),
 o 9 (.load false 1 (.t 8)),
 o 10 (.lensl (.t 9)),
 o 11 (.mv (ci 0))])
  (.block 0 (.loop (.seq (.region [o 12 (.bin .lss (.t 11) (.t 10))])
    (.seq (.cond (.t 12)
     .skip
     (.exit 0))
    (.seq (.block 1 (.seq (.region [o 13 (.iasl 1 (.t 9) (.t 11)),
 o 14 (.load false 1 (.t 13)),
 m 5 14])
     (.seq (.region [m 15 5,
 o 16 (.nilck (.t 15)),
 o 17 (.faddr 1 (.t 16)),
 o 18 (.faddr 0 (.t 17)),
 o 19 (.load false 1 (.t 18)),
 o 20 (.faddr 0 (.t 3)),
 o 21 (.load false 1 (.t 20)),
 o 22 (.bin .eql (.t 19) (.t 21))])
     (.cond (.t 22)
      (.seq (.region [m 23 0,
 m 24 0,
 o 25 (.nilck (.t 24)),
 o 26 (.faddr 12 (.t 25)),
 o 27 (.load false 1 (.t 26)),
 o 28 (.load true 14 (.t 3)),
 n 29 (.bslice 0 14 1 [(.str []), (.int .i64 (.ofNat 0)), .nils, (.int .i64 (.ofNat 0)), (.int .i64 (.ofNat 0)), (.int .i64 (.ofNat 0)), (.int .i64 (.ofNat 0)), (.int .u64 (.ofNat 0)), (.bool false), (.str []), (.int .i64 (.ofNat 0)), (.int .i64 (.ofNat 0)), (.int .i64 (.ofNat 0)), (.int .i64 (.ofNat 0))] [(0, 14, (.t 28))]),
 e 30 (.app 0 14 144 (.t 27) (.t 29)),
 o 31 (.nilck (.t 23)),
 o 32 (.faddr 12 (.t 31)),
 x (.store 1 (.t 32) (.t 30))])
      .ret)
      .skip))))
    (.region [o 33 (.bin .add (.t 11) (ci 1)),
 m 11 33])))))))
  (.region [m 34 0,
 o 35 (.load true 14 (.t 3)),
 e 36 (.call 101 [(.t 34), (.t 35)])]))) }
theorem tr47 : trF cx Tryz.f47 = pf47 := by kernel_rfl
/-- depot/net.New -/
def pf48 : PF := { ntmps := 3, results := [.tmp 0], body :=
  (.seq (.region [o 0 (.mv (.c .nilp))])
  (.seq (.region [o 1 (.build [.nils] []),
 n 2 (.box (.t 1)),
 m 0 2])
  .ret)) }
theorem tr48 : trF cx Tryz.f48 = pf48 := by kernel_rfl
/-- depot/parse.New -/
def pf49 : PF := { ntmps := 3, results := [.tmp 0], body :=
  (.seq (.region [o 0 (.mv (.c .nilp))])
  (.seq (.region [o 1 (.build [(.int .i64 (.ofNat 0)), (.str []), (.int .i64 (.ofNat 0)), (.int .i64 (.ofNat 0)), .nils, (.int .i64 (.ofNat 0)), (.int .i64 (.ofNat 0)), (.int .i64 (.ofNat 0)), (.int .i64 (.ofNat 0)), (.int .u64 (.ofNat 0)), (.bool false), (.str []), (.bool false), .nils] []),
 n 2 (.box (.t 1)),
 m 0 2])
  .ret)) }
theorem tr49 : trF cx Tryz.f49 = pf49 := by kernel_rfl
/-- (*depot/cluster.Cluster).settle -/
def pf50 : PF := { ntmps := 112, results := [], body :=
  (.scope (.seq (.region [m 13 0,
 o 14 (.nilck (.t 13)),
 o 15 (.faddr 6 (.t 14)),
 o 16 (.load false 1 (.t 15)),
 e 17 (.call 9 [(.t 16)]),
 m 12 17,
 o 18 (.ext 0 (.t 12)),
 o 19 (.ext 1 (.t 12)),
 m 2 18,
 m 3 19])
   (.seq (.seq (.region [m 20 2,
 o 21 (.lensl (.t 20)),
 o 22 (.mv (ci 0))])
   (.block 0 (.loop (.seq (.region [o 23 (.bin .lss (.t 22) (.t 21))])
     (.seq (.cond (.t 23)
      .skip
      (.exit 0))
     (.seq (.block 1 (.seq (.region [o 24 (.iasl 9 (.t 20) (.t 22)),
 o 25 (.load true 9 (.t 24)),
 n 5 (.new 0 [(.int .i64 (.ofNat 0)), (.int .i64 (.ofNat 0)), (.int .i64 (.ofNat 0)), (.int .i64 (.ofNat 0)), (.int .i64 (.ofNat 0)), (.int .i64 (.ofNat 0)), (.str []), (.int .i64 (.ofNat 0)), (.str [])]),
 x (.store 9 (.t 5) (.t 25))])
      (.region [m 26 0,
 o 27 (.nilck (.t 26)),
 o 28 (.faddr 8 (.t 27)),
 o 29 (.load false 1 (.t 28)),
 o 30 (.load true 9 (.t 5)),
 e 31 (.call 102 [(.t 29), (.t 30)])])))
     (.region [o 32 (.bin .add (.t 22) (ci 1)),
 m 22 32])))))))
   (.seq .skip
   (.seq (.seq (.region [m 33 3,
 o 34 (.lensl (.t 33)),
 o 35 (.mv (ci 0))])
   (.block 2 (.loop (.seq (.region [o 36 (.bin .lss (.t 35) (.t 34))])
     (.seq (.cond (.t 36)
      .skip
      (.exit 2))
     (.seq (.block 3 (.seq (.region [o 37 (.iasl 10 (.t 33) (.t 35)),
 o 38 (.load true 10 (.t 37)),
 n 7 (.new 0 [(.int .i64 (.ofNat 0)), (.int .i64 (.ofNat 0)), .nils, (.bool false), (.int .u64 (.ofNat 0)), (.str []), (.int .i64 (.ofNat 0)), (.int .i64 (.ofNat 0)), (.int .i64 (.ofNat 0)), (.int .i64 (.ofNat 0))]),
 x (.store 10 (.t 7) (.t 38))])
      (.seq (.region [m 39 0,
 m 40 0,
 o 41 (.nilck (.t 40)),
 o 42 (.faddr 27 (.t 41)),
 o 43 (.load false 1 (.t 42)),
 o 44 (.faddr 0 (.t 7)),
 o 45 (.load false 1 (.t 44)),
 o 46 (.faddr 1 (.t 7)),
 o 47 (.load true 9 (.t 46)),
 e 48 (.call 58 [(.t 47)]),
 .again ⟨(some 45), none, (.r (.load false 1 (.t 44)))⟩,
 .again ⟨(some 43), none, (.r (.load false 1 (.t 42)))⟩,
 o 49 (.build [(.int .i64 (.ofNat 0)), (.int .i64 (.ofNat 0)), (.int .i64 (.ofNat 0)), .nils, (.int .i64 (.ofNat 0)), (.int .i64 (.ofNat 0)), (.int .i64 (.ofNat 0)), (.int .i64 (.ofNat 0)), (.int .u64 (.ofNat 0)), (.bool false), (.str []), (.int .i64 (.ofNat 0)), .nils, (.bool false), (.int .u64 (.ofNat 0)), (.str []), (.int .i64 (.ofNat 0)), (.int .i64 (.ofNat 0)), (.int .i64 (.ofNat 0)), (.int .i64 (.ofNat 0))] [(0, 1, (ci 2)), (1, 1, (.t 45)), (11, 9, (.t 48))]),
 n 50 (.bslice 0 20 1 [(.int .i64 (.ofNat 0)), (.int .i64 (.ofNat 0)), (.int .i64 (.ofNat 0)), .nils, (.int .i64 (.ofNat 0)), (.int .i64 (.ofNat 0)), (.int .i64 (.ofNat 0)), (.int .i64 (.ofNat 0)), (.int .u64 (.ofNat 0)), (.bool false), (.str []), (.int .i64 (.ofNat 0)), .nils, (.bool false), (.int .u64 (.ofNat 0)), (.str []), (.int .i64 (.ofNat 0)), (.int .i64 (.ofNat 0)), (.int .i64 (.ofNat 0)), (.int .i64 (.ofNat 0))] [(0, 20, (.t 49))]),
 e 51 (.app 0 20 208 (.t 43) (.t 50)),
 o 52 (.nilck (.t 39)),
 o 53 (.faddr 27 (.t 52)),
 x (.store 1 (.t 53) (.t 51))])
      (.seq (.region [o 54 (.mv (ci 0))])
      (.block 4 (.loop (.seq (.region [o 55 (.bin .lss (.t 54) (ci 6))])
        (.seq (.cond (.t 55)
         .skip
         (.exit 4))
        (.seq (.block 5 (.seq (.region [m 56 54,
 m 8 56])
         (.seq (.region [m 57 0,
 m 58 8,
 o 59 (.nilck (.t 57)),
 o 60 (.faddr 9 (.t 59)),
 o 61 (.iaarr 6 3 (.t 60) (.t 58)),
 o 62 (.faddr 1 (.t 61)),
 o 63 (.load false 1 (.t 62)),
 o 64 (.lensl (.t 63)),
 o 65 (.mv (ci 0))])
         (.block 6 (.loop (.seq (.region [o 66 (.bin .lss (.t 65) (.t 64))])
           (.seq (.cond (.t 66)
            .skip
            (.exit 6))
           (.seq (.block 7 (.seq (.region [m 67 65,
 m 9 67])
            (.seq (.region [m 68 0,
 m 69 8,
 o 70 (.nilck (.t 68)),
 o 71 (.faddr 9 (.t 70)),
 o 72 (.iaarr 6 3 (.t 71) (.t 69)),
 o 73 (.faddr 1 (.t 72)),
 o 74 (.load false 1 (.t 73)),
 m 75 9,
 o 76 (.iasl 20 (.t 74) (.t 75)),
 m 10 76])
            (.seq (.region [m 77 10,
 o 78 (.nilck (.t 77)),
 o 79 (.faddr 0 (.t 78)),
 o 80 (.load false 1 (.t 79)),
 o 81 (.faddr 0 (.t 7)),
 o 82 (.load false 1 (.t 81)),
 o 83 (.bin .eql (.t 80) (.t 82)),
 m 84 83,
 gm 85 84 true 10,
 go 86 84 true (.nilck (.t 85)),
 go 87 84 true (.faddr 19 (.t 86)),
 go 88 84 true (.load false 1 (.t 87)),
 go 89 84 true (.bin .eql (.t 88) (ci 0)),
 o 90 (.pick (.t 84) (.t 89) (.c (.bool false)))])
            (.cond (.t 90)
             (.seq (.region [m 91 10,
 m 92 10,
 o 93 (.faddr 1 (.t 7)),
 o 94 (.load true 9 (.t 93)),
 o 95 (.nilck (.t 91)),
 o 96 (.faddr 10 (.t 95)),
 x (.store 9 (.t 96) (.t 94)),
 o 97 (.nilck (.t 92)),
 o 98 (.faddr 19 (.t 97)),
 x (.store 1 (.t 98) (ci 1))])
             (.exit 3))
             .skip)))))
           (.region [o 99 (.bin .add (.t 65) (ci 1)),
 m 65 99])))))))))
        (.region [o 100 (.bin .add (.t 54) (ci 1)),
 m 54 100]))))))))))
     (.region [o 101 (.bin .add (.t 35) (ci 1)),
 m 35 101])))))))
   (.seq (.region [o 102 (.mv (ci 0))])
   (.block 8 (.loop (.seq (.region [o 103 (.bin .lss (.t 102) (ci 6))])
     (.seq (.cond (.t 103)
      .skip
      (.exit 8))
     (.seq (.block 9 (.seq (.region [m 104 102,
 m 11 104])
      (.region [m 105 0,
 m 106 11,
 o 107 (.nilck (.t 105)),
 o 108 (.faddr 9 (.t 107)),
 o 109 (.iaarr 6 3 (.t 108) (.t 106)),
 e 110 (.call 103 [(.t 109)])])))
     (.region [o 111 (.bin .add (.t 102) (ci 1)),
 m 102 111])))))))))))) }
theorem tr50 : trF cx Tryz.f50 = pf50 := by kernel_rfl
/-- (*depot/cluster.Cluster).send -/
def pf51 : PF := { ntmps := 98, results := [.tmp 4], body :=
  (.seq (.region [n 3 (.box (.t 1)),
 o 4 (.mv (.c (.bool false)))])
  (.seq (.seq (.region [o 9 (.faddr 1 (.t 3)),
 o 10 (.load false 1 (.t 9)),
 o 11 (.bin .lss (.t 10) (ci 0)),
 m 12 11,
 go 13 12 false (.faddr 1 (.t 3)),
 go 14 12 false (.load false 1 (.t 13)),
 go 15 12 false (.bin .geq (.t 14) (ci 6)),
 o 16 (.pick (.t 12) (.c (.bool true)) (.t 15)),
 m 17 16,
 gm 18 17 false 0,
 go 19 17 false (.faddr 1 (.t 3)),
 go 20 17 false (.load false 1 (.t 19)),
 go 21 17 false (.nilck (.t 18)),
 go 22 17 false (.faddr 9 (.t 21)),
 go 23 17 false (.iaarr 6 3 (.t 22) (.t 20)),
 go 24 17 false (.faddr 0 (.t 23)),
 go 25 17 false (.load false 1 (.t 24)),
 .op ⟨(some 26), (some (17, false)), (.e (.call 104 [(.t 25)]))⟩,
 o 27 (.pick (.t 17) (.c (.bool true)) (.t 26))])
  (.cond (.t 27)
   (.seq (.region [o 4 (.mv (.c (.bool false)))])
   .ret)
   .skip))
  (.seq (.region [m 28 0,
 o 29 (.faddr 1 (.t 3)),
 o 30 (.load false 1 (.t 29)),
 o 31 (.nilck (.t 28)),
 o 32 (.faddr 9 (.t 31)),
 o 33 (.iaarr 6 3 (.t 32) (.t 30)),
 m 5 33])
  (.seq (.seq (.region [m 34 5,
 o 35 (.nilck (.t 34)),
 o 36 (.faddr 0 (.t 35)),
 o 37 (.load false 1 (.t 36)),
 o 38 (.faddr 2 (.t 3)),
 o 39 (.load false 1 (.t 38)),
 o 42 (.mv (ci 0)),
 e 40 (.call 105 [(.t 37), (.t 39)]),
 o 41 (.lensl (.t 40))])
  (.block 0 (.loop (.seq (.region [o 43 (.bin .lss (.t 42) (.t 41))])
    (.seq (.cond (.t 43)
     .skip
     (.exit 0))
    (.seq (.block 1 (.seq (.region [o 44 (.iasl 18 (.t 40) (.t 42)),
 o 45 (.load true 18 (.t 44)),
 n 7 (.new 0 [(.int .i64 (.ofNat 0)), .nils, (.int .i64 (.ofNat 0)), (.int .i64 (.ofNat 0)), (.int .i64 (.ofNat 0)), (.int .i64 (.ofNat 0)), (.int .u64 (.ofNat 0)), (.bool false), (.str []), (.int .i64 (.ofNat 0)), .nils, (.bool false), (.int .u64 (.ofNat 0)), (.str []), (.int .i64 (.ofNat 0)), (.int .i64 (.ofNat 0)), (.int .i64 (.ofNat 0)), (.int .i64 (.ofNat 0))]),
 x (.store 18 (.t 7) (.t 45))])
     (.seq (.seq (.region [o 46 (.faddr 0 (.t 7)),
 o 47 (.faddr 0 (.t 46)),
 o 48 (.load false 1 (.t 47)),
 o 49 (.bin .eql (.t 48) (ci 0))])
     (.cond (.t 49)
      (.seq (.region [m 50 5,
 m 51 5,
 o 52 (.nilck (.t 51)),
 o 53 (.faddr 1 (.t 52)),
 o 54 (.load false 1 (.t 53)),
 o 55 (.faddr 9 (.t 7)),
 o 56 (.load true 9 (.t 55)),
 o 57 (.build [(.int .i64 (.ofNat 0)), (.int .i64 (.ofNat 0)), .nils, (.int .i64 (.ofNat 0)), (.int .i64 (.ofNat 0)), (.int .i64 (.ofNat 0)), (.int .i64 (.ofNat 0)), (.int .u64 (.ofNat 0)), (.bool false), (.str []), (.int .i64 (.ofNat 0)), .nils, (.bool false), (.int .u64 (.ofNat 0)), (.str []), (.int .i64 (.ofNat 0)), (.int .i64 (.ofNat 0)), (.int .i64 (.ofNat 0)), (.int .i64 (.ofNat 0)), (.int .i64 (.ofNat 0))] [(10, 9, (.t 56)), (19, 1, (ci 1))]),
 n 58 (.bslice 0 20 1 [(.int .i64 (.ofNat 0)), (.int .i64 (.ofNat 0)), .nils, (.int .i64 (.ofNat 0)), (.int .i64 (.ofNat 0)), (.int .i64 (.ofNat 0)), (.int .i64 (.ofNat 0)), (.int .u64 (.ofNat 0)), (.bool false), (.str []), (.int .i64 (.ofNat 0)), .nils, (.bool false), (.int .u64 (.ofNat 0)), (.str []), (.int .i64 (.ofNat 0)), (.int .i64 (.ofNat 0)), (.int .i64 (.ofNat 0)), (.int .i64 (.ofNat 0)), (.int .i64 (.ofNat 0))] [(0, 20, (.t 57))]),
 e 59 (.app 0 20 208 (.t 54) (.t 58)),
 o 60 (.nilck (.t 50)),
 o 61 (.faddr 1 (.t 60)),
 x (.store 1 (.t 61) (.t 59))])
      (.exit 1))
      .skip))
     (.seq (.region [m 62 0,
 o 63 (.nilck (.t 62)),
 o 64 (.faddr 6 (.t 63)),
 o 65 (.load false 1 (.t 64)),
 o 66 (.faddr 0 (.t 7)),
 o 67 (.load true 9 (.t 66)),
 e 68 (.call 57 [(.t 67)]),
 .again ⟨(some 65), none, (.r (.load false 1 (.t 64)))⟩,
 e 69 (.call 14 [(.t 65), (.t 68)]),
 m 8 69])
     (.seq (.region [m 70 0,
 m 71 0,
 o 72 (.nilck (.t 71)),
 o 73 (.faddr 27 (.t 72)),
 o 74 (.load false 1 (.t 73)),
 m 75 8,
 o 76 (.faddr 0 (.t 7)),
 o 77 (.load true 9 (.t 76)),
 e 78 (.call 57 [(.t 77)]),
 .again ⟨(some 74), none, (.r (.load false 1 (.t 73)))⟩,
 o 79 (.build [(.int .i64 (.ofNat 0)), (.int .i64 (.ofNat 0)), (.int .i64 (.ofNat 0)), .nils, (.int .i64 (.ofNat 0)), (.int .i64 (.ofNat 0)), (.int .i64 (.ofNat 0)), (.int .i64 (.ofNat 0)), (.int .u64 (.ofNat 0)), (.bool false), (.str []), (.int .i64 (.ofNat 0)), .nils, (.bool false), (.int .u64 (.ofNat 0)), (.str []), (.int .i64 (.ofNat 0)), (.int .i64 (.ofNat 0)), (.int .i64 (.ofNat 0)), (.int .i64 (.ofNat 0))] [(0, 1, (ci 1)), (1, 1, (.t 75)), (2, 9, (.t 78))]),
 n 80 (.bslice 0 20 1 [(.int .i64 (.ofNat 0)), (.int .i64 (.ofNat 0)), (.int .i64 (.ofNat 0)), .nils, (.int .i64 (.ofNat 0)), (.int .i64 (.ofNat 0)), (.int .i64 (.ofNat 0)), (.int .i64 (.ofNat 0)), (.int .u64 (.ofNat 0)), (.bool false), (.str []), (.int .i64 (.ofNat 0)), .nils, (.bool false), (.int .u64 (.ofNat 0)), (.str []), (.int .i64 (.ofNat 0)), (.int .i64 (.ofNat 0)), (.int .i64 (.ofNat 0)), (.int .i64 (.ofNat 0))] [(0, 20, (.t 79))]),
 e 81 (.app 0 20 208 (.t 74) (.t 80)),
 o 82 (.nilck (.t 70)),
 o 83 (.faddr 27 (.t 82)),
 x (.store 1 (.t 83) (.t 81))])
     (.region [m 84 5,
 m 85 5,
 o 86 (.nilck (.t 85)),
 o 87 (.faddr 1 (.t 86)),
 o 88 (.load false 1 (.t 87)),
 m 89 8,
 o 90 (.faddr 0 (.t 7)),
 o 91 (.load true 9 (.t 90)),
 o 92 (.build [(.int .i64 (.ofNat 0)), (.int .i64 (.ofNat 0)), .nils, (.int .i64 (.ofNat 0)), (.int .i64 (.ofNat 0)), (.int .i64 (.ofNat 0)), (.int .i64 (.ofNat 0)), (.int .u64 (.ofNat 0)), (.bool false), (.str []), (.int .i64 (.ofNat 0)), .nils, (.bool false), (.int .u64 (.ofNat 0)), (.str []), (.int .i64 (.ofNat 0)), (.int .i64 (.ofNat 0)), (.int .i64 (.ofNat 0)), (.int .i64 (.ofNat 0)), (.int .i64 (.ofNat 0))] [(0, 1, (.t 89)), (1, 9, (.t 91))]),
 n 93 (.bslice 0 20 1 [(.int .i64 (.ofNat 0)), (.int .i64 (.ofNat 0)), .nils, (.int .i64 (.ofNat 0)), (.int .i64 (.ofNat 0)), (.int .i64 (.ofNat 0)), (.int .i64 (.ofNat 0)), (.int .u64 (.ofNat 0)), (.bool false), (.str []), (.int .i64 (.ofNat 0)), .nils, (.bool false), (.int .u64 (.ofNat 0)), (.str []), (.int .i64 (.ofNat 0)), (.int .i64 (.ofNat 0)), (.int .i64 (.ofNat 0)), (.int .i64 (.ofNat 0)), (.int .i64 (.ofNat 0))] [(0, 20, (.t 92))]),
 e 94 (.app 0 20 208 (.t 88) (.t 93)),
 o 95 (.nilck (.t 84)),
 o 96 (.faddr 1 (.t 95)),
 x (.store 1 (.t 96) (.t 94))]))))))
    (.region [o 97 (.bin .add (.t 42) (ci 1)),
 m 42 97])))))))
  (.seq (.region [o 4 (.mv (.c (.bool true)))])
  .ret))))) }
theorem tr51 : trF cx Tryz.f51 = pf51 := by kernel_rfl
/-- (*depot/cluster.Cluster).frame -/
def pf52 : PF := { ntmps := 70, results := [.tmp 4], body :=
  (.seq (.region [n 3 (.box (.t 1)),
 o 4 (.mv (.c (.bool false)))])
  (.seq (.region [m 10 0,
 o 11 (.nilck (.t 10)),
 o 12 (.faddr 8 (.t 11)),
 o 13 (.load false 1 (.t 12)),
 o 14 (.faddr 1 (.t 3)),
 o 15 (.load false 1 (.t 14)),
 n 5 (.new 0 [(.int .i64 (.ofNat 0)), (.int .i64 (.ofNat 0)), (.int .i64 (.ofNat 0)), (.int .i64 (.ofNat 0)), (.int .i64 (.ofNat 0)), (.int .i64 (.ofNat 0)), (.str []), (.int .i64 (.ofNat 0)), (.str [])]),
 e 16 (.call 106 [(.t 13), (.t 15)]),
 m 9 16,
 o 17 (.ext 0 (.t 9)),
 o 18 (.ext 1 (.t 9)),
 x (.store 9 (.t 5) (.t 17)),
 m 6 18])
  (.seq (.seq (.region [m 19 6,
 o 20 (.un .not (.t 19))])
  (.cond (.t 20)
   (.seq (.region [o 4 (.mv (.c (.bool false)))])
   .ret)
   .skip))
  (.seq (.seq (.region [o 21 (.faddr 0 (.t 3)),
 o 22 (.load false 1 (.t 21)),
 o 23 (.bin .neq (.t 22) (ci 3))])
  (.cond (.t 23)
   (.region [m 24 0,
 o 25 (.nilck (.t 24)),
 o 26 (.faddr 8 (.t 25)),
 o 27 (.load false 1 (.t 26)),
 o 28 (.faddr 1 (.t 3)),
 o 29 (.load false 1 (.t 28)),
 e 30 (.call 107 [(.t 27), (.t 29)])])
   .skip))
  (.seq (.block 0 (.seq (.region [o 52 (.faddr 0 (.t 3)),
 o 53 (.load false 1 (.t 52)),
 o 54 (.bin .eql (.t 53) (ci 4)),
 m 51 54])
   (.cond (.t 51)
    .skip
    (.seq (.region [o 56 (.faddr 0 (.t 5)),
 o 57 (.load false 1 (.t 56)),
 o 58 (.bin .eql (.t 57) (ci 6)),
 m 59 58,
 go 60 59 false (.faddr 0 (.t 5)),
 go 61 59 false (.load false 1 (.t 60)),
 go 62 59 false (.bin .eql (.t 61) (ci 7)),
 o 63 (.pick (.t 59) (.c (.bool true)) (.t 62)),
 m 55 63])
    (.cond (.t 55)
     (.region [m 64 0,
 o 65 (.nilck (.t 64)),
 o 66 (.faddr 6 (.t 65)),
 o 67 (.load false 1 (.t 66)),
 o 68 (.load true 9 (.t 5)),
 e 69 (.call 11 [(.t 67), (.t 68)])])
     (.seq (.region [m 32 0,
 o 33 (.nilck (.t 32)),
 o 34 (.faddr 7 (.t 33)),
 o 35 (.load false 1 (.t 34)),
 o 36 (.faddr 1 (.t 5)),
 o 37 (.load false 1 (.t 36)),
 o 38 (.iasl 1 (.t 35) (.t 37)),
 o 39 (.load false 1 (.t 38)),
 o 40 (.load true 9 (.t 5)),
 n 7 (.new 0 [(.int .i64 (.ofNat 0)), (.int .i64 (.ofNat 0)), (.int .i64 (.ofNat 0)), (.int .i64 (.ofNat 0)), (.int .i64 (.ofNat 0)), (.int .i64 (.ofNat 0)), (.str []), (.int .i64 (.ofNat 0)), (.str [])]),
 e 41 (.call 10 [(.t 39), (.t 40)]),
 m 31 41,
 o 42 (.ext 0 (.t 31)),
 o 43 (.ext 1 (.t 31)),
 x (.store 9 (.t 7) (.t 42)),
 m 8 43])
     (.seq (.region [m 44 8])
     (.cond (.t 44)
      (.region [m 45 0,
 o 46 (.nilck (.t 45)),
 o 47 (.faddr 8 (.t 46)),
 o 48 (.load false 1 (.t 47)),
 o 49 (.load true 9 (.t 7)),
 e 50 (.call 102 [(.t 48), (.t 49)])])
      .skip))))))))
  (.seq (.region [o 4 (.mv (.c (.bool true)))])
  .ret)))))) }
theorem tr52 : trF cx Tryz.f52 = pf52 := by kernel_rfl
/-- (*depot/router.Router).Tick -/
def pf53 : PF := { ntmps := 44, results := [], body :=
  (.seq (.region [m 6 0,
 m 7 0,
 o 8 (.nilck (.t 7)),
 o 9 (.faddr 8 (.t 8)),
 o 10 (.load false 1 (.t 9)),
 o 11 (.bin .add (.t 10) (ci 1)),
 o 12 (.minmax false [(.t 11), (ci 1099511627776)]),
 o 13 (.nilck (.t 6)),
 o 14 (.faddr 8 (.t 13)),
 x (.store 1 (.t 14) (.t 12))])
  (.seq (.region [m 16 0,
 o 17 (.nilck (.t 16)),
 o 18 (.faddr 7 (.t 17)),
 o 19 (.load false 1 (.t 18)),
 e 20 (.call 108 [(.t 19)]),
 m 15 20,
 o 21 (.ext 0 (.t 15)),
 o 22 (.ext 1 (.t 15)),
 m 2 21,
 m 3 22])
  (.seq (.region [m 23 0,
 m 24 0,
 o 25 (.nilck (.t 24)),
 o 26 (.faddr 32 (.t 25)),
 o 27 (.load false 1 (.t 26)),
 m 28 2,
 e 29 (.app 0 9 88 (.t 27) (.t 28)),
 o 30 (.nilck (.t 23)),
 o 31 (.faddr 32 (.t 30)),
 x (.store 1 (.t 31) (.t 29))])
  (.seq (.seq (.region [m 32 3,
 o 33 (.lensl (.t 32)),
 o 34 (.mv (ci 0))])
  (.block 0 (.loop (.seq (.region [o 35 (.bin .lss (.t 34) (.t 33))])
    (.seq (.cond (.t 35)
     .skip
     (.exit 0))
    (.seq (.block 1 (.seq (.region [o 36 (.iasl 1 (.t 32) (.t 34)),
 o 37 (.load false 1 (.t 36)),
 m 5 37])
     (.region [m 38 0,
 m 39 5,
 e 40 (.call 31 [(.t 38), (.t 39)])])))
    (.region [o 41 (.bin .add (.t 34) (ci 1)),
 m 34 41])))))))
  (.region [m 42 0,
 e 43 (.call 40 [(.t 42)])]))))) }
theorem tr53 : trF cx Tryz.f53 = pf53 := by kernel_rfl
/-- depot/cluster.known -/
def pf55 : PF := { ntmps := 9, results := [.tmp 2], body :=
  (.seq (.region [o 2 (.mv (.c (.bool false)))])
  (.seq (.region [m 3 0,
 o 4 (.bin .geq (.t 3) (ci 0)),
 m 5 4,
 gm 6 5 true 0,
 go 7 5 true (.bin .lss (.t 6) (ci 6)),
 o 8 (.pick (.t 5) (.t 7) (.c (.bool false))),
 m 2 8])
  .ret)) }
theorem tr55 : trF cx Tryz.f55 = pf55 := by kernel_rfl
/-- depot/cluster.copied -/
def pf57 : PF := { ntmps := 8, results := [.cell 2 true 9], body :=
  (.seq (.region [n 1 (.box (.t 0)),
 n 2 (.new 0 [(.int .i64 (.ofNat 0)), .nils, (.int .i64 (.ofNat 0)), (.int .i64 (.ofNat 0)), (.int .i64 (.ofNat 0)), (.int .i64 (.ofNat 0)), (.int .u64 (.ofNat 0)), (.bool false), (.str [])])])
  (.seq (.region [o 3 (.faddr 1 (.t 1)),
 o 4 (.load false 1 (.t 3)),
 e 5 (.call 109 [(.t 4)]),
 o 6 (.faddr 1 (.t 1)),
 x (.store 1 (.t 6) (.t 5))])
  (.seq (.region [o 7 (.load true 9 (.t 1)),
 x (.store 9 (.t 2) (.t 7))])
  .ret))) }
theorem tr57 : trF cx Tryz.f57 = pf57 := by kernel_rfl
/-- depot/cluster.answered -/
def pf58 : PF := { ntmps := 8, results := [.cell 2 true 9], body :=
  (.seq (.region [n 1 (.box (.t 0)),
 n 2 (.new 0 [(.int .i64 (.ofNat 0)), .nils, (.bool false), (.int .u64 (.ofNat 0)), (.str []), (.int .i64 (.ofNat 0)), (.int .i64 (.ofNat 0)), (.int .i64 (.ofNat 0)), (.int .i64 (.ofNat 0))])])
  (.seq (.region [o 3 (.faddr 1 (.t 1)),
 o 4 (.load false 1 (.t 3)),
 e 5 (.call 110 [(.t 4)]),
 o 6 (.faddr 1 (.t 1)),
 x (.store 1 (.t 6) (.t 5))])
  (.seq (.region [o 7 (.load true 9 (.t 1)),
 x (.store 9 (.t 2) (.t 7))])
  .ret))) }
theorem tr58 : trF cx Tryz.f58 = pf58 := by kernel_rfl
/-- depot/calm.Round -/
def pf59 : PF := { ntmps := 12, results := [], body :=
  (.seq (.seq (.region [o 2 (.mv (ci 0))])
  (.block 0 (.loop (.seq (.region [o 3 (.bin .lss (.t 2) (ci 20000))])
    (.seq (.cond (.t 3)
     .skip
     (.exit 0))
    (.seq (.block 1 (.seq (.region [m 4 0,
 o 5 (.build [(.int .i64 (.ofNat 0)), (.int .i64 (.ofNat 0)), (.str [])] [(0, 1, (ci 2))]),
 e 6 (.call 18 [(.t 4), (.t 5)]),
 o 7 (.un .not (.t 6))])
     (.cond (.t 7)
      (.exit 0)
      .skip)))
    (.region [o 8 (.bin .add (.t 2) (ci 1)),
 m 2 8])))))))
  (.region [m 9 0,
 o 10 (.build [(.int .i64 (.ofNat 0)), (.int .i64 (.ofNat 0)), (.str [])] [(0, 1, (ci 5))]),
 e 11 (.call 18 [(.t 9), (.t 10)])])) }
theorem tr59 : trF cx Tryz.f59 = pf59 := by kernel_rfl
/-- (*depot/cluster.Cluster).State -/
def pf60 : PF := { ntmps := 11, results := [.tmp 4], body :=
  (.seq (.region [o 4 (.mv (ci 0))])
  (.seq (.region [m 5 0,
 o 6 (.nilck (.t 5)),
 o 7 (.faddr 6 (.t 6)),
 o 8 (.load false 1 (.t 7)),
 m 9 1,
 e 10 (.call 13 [(.t 8), (.t 9)]),
 m 4 10])
  .ret)) }
theorem tr60 : trF cx Tryz.f60 = pf60 := by kernel_rfl
/-- (*strings.Builder).String -/
def pf68 : PF := { ntmps := 14, results := [.tmp 2], body :=
  (.seq (.region [o 2 (.mv (.c (.str [])))])
  (.seq (.region [m 3 0,
 o 4 (.nilck (.t 3)),
 o 5 (.faddr 1 (.t 4)),
 o 6 (.load false 1 (.t 5)),
 o 7 (.sdata (.t 6)),
 m 8 0,
 o 9 (.nilck (.t 8)),
 o 10 (.faddr 1 (.t 9)),
 o 11 (.load false 1 (.t 10)),
 o 12 (.lensl (.t 11)),
 e 13 (.ustr (.t 7) (.t 12)),
 m 2 13])
  .ret)) }
theorem tr68 : trF cx Tryz.f68 = pf68 := by kernel_rfl
/-- depot/rs.New -/
def pf69 : PF := { ntmps := 40, results := [.tmp 4, .tmp 5], body :=
  (.seq (.region [o 4 (.mv (.c .nilp)),
 o 5 (.mv (ci 0))])
  (.seq (.seq (.region [m 7 0,
 o 8 (.bin .lss (.t 7) (ci 1)),
 m 9 8,
 gm 10 9 false 0,
 go 11 9 false (.bin .gtr (.t 10) (ci 8)),
 o 12 (.pick (.t 9) (.c (.bool true)) (.t 11)),
 m 13 12,
 gm 14 13 false 1,
 go 15 13 false (.bin .lss (.t 14) (ci 0)),
 o 16 (.pick (.t 13) (.c (.bool true)) (.t 15)),
 m 17 16,
 gm 18 17 false 1,
 gm 19 17 false 0,
 go 20 17 false (.bin .sub (ci 12) (.t 19)),
 go 21 17 false (.bin .gtr (.t 18) (.t 20)),
 o 22 (.pick (.t 17) (.c (.bool true)) (.t 21))])
  (.cond (.t 22)
   (.seq (.region [o 4 (.mv (.c .nilp)),
 o 5 (.mv (ci 1))])
   .ret)
   .skip))
  (.seq (.region [m 23 0,
 m 24 0,
 m 25 1,
 o 26 (.bin .add (.t 24) (.t 25)),
 e 27 (.call 118 []),
 o 28 (.build ([(.int .i64 (.ofNat 0)), (.int .i64 (.ofNat 0))] ++ (rep 766 [(.int .u8 (.ofNat 0))] ++ ([.nils]))) [(0, 1, (.t 23)), (1, 1, (.t 26)), (2, 766, (.t 27))]),
 n 29 (.box (.t 28)),
 m 6 29])
  (.seq (.region [m 30 6,
 m 31 6,
 o 32 (.nilck (.t 31)),
 o 33 (.faddr 2 (.t 32)),
 m 34 0,
 m 35 1,
 e 36 (.call 119 [(.t 33), (.t 34), (.t 35)]),
 o 37 (.nilck (.t 30)),
 o 38 (.faddr 768 (.t 37)),
 x (.store 1 (.t 38) (.t 36))])
  (.seq (.region [m 39 6,
 m 4 39,
 o 5 (.mv (ci 0))])
  .ret))))) }
theorem tr69 : trF cx Tryz.f69 = pf69 := by kernel_rfl
/-- depot/task.within -/
def pf70 : PF := { ntmps := 15, results := [.tmp 6], body :=
  (.seq (.region [o 6 (.mv (.c (.bool false)))])
  (.seq (.region [m 7 0,
 m 8 1,
 o 9 (.bin .geq (.t 7) (.t 8)),
 m 10 9,
 gm 11 10 true 0,
 gm 12 10 true 2,
 go 13 10 true (.bin .leq (.t 11) (.t 12)),
 o 14 (.pick (.t 10) (.t 13) (.c (.bool false))),
 m 6 14])
  .ret)) }
theorem tr70 : trF cx Tryz.f70 = pf70 := by kernel_rfl
/-- (*depot/view.View).Next -/
def pf71 : PF := { ntmps := 71, results := [.tmp 6], body :=
  (.seq (.region [o 6 (.mv (.c (.bool false)))])
  (.seq (.seq (.region [m 8 1,
 o 9 (.bin .lss (.t 8) (ci 0)),
 m 10 9,
 gm 11 10 false 1,
 gm 12 10 false 0,
 go 13 10 false (.nilck (.t 12)),
 go 14 10 false (.faddr 0 (.t 13)),
 go 15 10 false (.load false 1 (.t 14)),
 go 16 10 false (.lensl (.t 15)),
 go 17 10 false (.bin .geq (.t 11) (.t 16)),
 o 18 (.pick (.t 10) (.c (.bool true)) (.t 17))])
  (.cond (.t 18)
   (.seq (.region [o 6 (.mv (.c (.bool false)))])
   .ret)
   .skip))
  (.seq (.region [m 19 0,
 o 20 (.nilck (.t 19)),
 o 21 (.faddr 0 (.t 20)),
 o 22 (.load false 1 (.t 21)),
 m 23 1,
 o 24 (.iasl 2 (.t 22) (.t 23)),
 m 7 24])
  (.seq (.block 0 (.seq (.region [m 26 2,
 o 27 (.bin .eql (.t 26) (ci 1)),
 m 25 27])
   (.cond (.t 25)
    (.seq (.region [m 28 7,
 o 29 (.nilck (.t 28)),
 o 30 (.faddr 0 (.t 29)),
 x (.store 1 (.t 30) (ci 0))])
    (.region [m 31 7,
 o 32 (.nilck (.t 31)),
 o 33 (.faddr 1 (.t 32)),
 o 34 (.load false 1 (.t 33)),
 o 35 (.bin .add (.t 34) (ci 1)),
 o 36 (.nilck (.t 31)),
 o 37 (.faddr 1 (.t 36)),
 x (.store 1 (.t 37) (.t 35))]))
    (.seq (.region [m 39 2,
 o 40 (.bin .eql (.t 39) (ci 2)),
 m 41 40,
 gm 42 41 true 7,
 go 43 41 true (.nilck (.t 42)),
 go 44 41 true (.faddr 0 (.t 43)),
 go 45 41 true (.load false 1 (.t 44)),
 go 46 41 true (.bin .eql (.t 45) (ci 0)),
 o 47 (.pick (.t 41) (.t 46) (.c (.bool false))),
 m 48 47,
 gm 49 48 true 7,
 go 50 48 true (.nilck (.t 49)),
 go 51 48 true (.faddr 1 (.t 50)),
 go 52 48 true (.load false 1 (.t 51)),
 go 53 48 true (.bin .gtr (.t 52) (ci 0)),
 o 54 (.pick (.t 48) (.t 53) (.c (.bool false))),
 m 38 54])
    (.cond (.t 38)
     (.region [m 55 7,
 o 56 (.nilck (.t 55)),
 o 57 (.faddr 0 (.t 56)),
 x (.store 1 (.t 57) (ci 1))])
     (.seq (.region [m 59 2,
 o 60 (.bin .eql (.t 59) (ci 3)),
 m 61 60,
 gm 62 61 true 7,
 go 63 61 true (.nilck (.t 62)),
 go 64 61 true (.faddr 0 (.t 63)),
 go 65 61 true (.load false 1 (.t 64)),
 go 66 61 true (.bin .eql (.t 65) (ci 1)),
 o 67 (.pick (.t 61) (.t 66) (.c (.bool false))),
 m 58 67])
     (.cond (.t 58)
      (.region [m 68 7,
 o 69 (.nilck (.t 68)),
 o 70 (.faddr 0 (.t 69)),
 x (.store 1 (.t 70) (ci 2))])
      (.seq (.region [o 6 (.mv (.c (.bool false)))])
      .ret))))))))
  (.seq (.region [o 6 (.mv (.c (.bool true)))])
  .ret))))) }
theorem tr71 : trF cx Tryz.f71 = pf71 := by kernel_rfl
/-- (*depot/ask.Asks).Cancel -/
def pf72 : PF := { ntmps := 38, results := [.tmp 4], body :=
  (.seq (.region [o 4 (.mv (.c .nils))])
  (.seq (.region [o 5 (.mv (.c .nils))])
  (.seq (.region [o 6 (.mv (.c .nils))])
  (.seq (.seq (.region [m 9 0,
 o 10 (.nilck (.t 9)),
 o 11 (.faddr 0 (.t 10)),
 o 12 (.load false 1 (.t 11)),
 o 13 (.lensl (.t 12)),
 o 14 (.mv (ci 0))])
  (.block 0 (.loop (.seq (.region [o 15 (.bin .lss (.t 14) (.t 13))])
    (.seq (.cond (.t 15)
     .skip
     (.exit 0))
    (.seq (.block 1 (.seq (.region [o 16 (.iasl 10 (.t 12) (.t 14)),
 o 17 (.load true 10 (.t 16)),
 n 8 (.new 0 [(.int .i64 (.ofNat 0)), (.int .i64 (.ofNat 0)), (.int .i64 (.ofNat 0)), (.int .i64 (.ofNat 0)), (.int .i64 (.ofNat 0)), (.int .i64 (.ofNat 0)), (.str []), (.int .i64 (.ofNat 0)), (.str []), (.int .i64 (.ofNat 0))]),
 x (.store 10 (.t 8) (.t 17))])
     (.seq (.region [o 18 (.faddr 0 (.t 8)),
 o 19 (.faddr 1 (.t 18)),
 o 20 (.load false 1 (.t 19)),
 m 21 1,
 o 22 (.bin .eql (.t 20) (.t 21))])
     (.cond (.t 22)
      (.region [m 23 5,
 o 24 (.faddr 0 (.t 8)),
 o 25 (.load true 9 (.t 24)),
 n 26 (.bslice 0 9 1 [(.int .i64 (.ofNat 0)), (.int .i64 (.ofNat 0)), (.int .i64 (.ofNat 0)), (.int .i64 (.ofNat 0)), (.int .i64 (.ofNat 0)), (.int .i64 (.ofNat 0)), (.str []), (.int .i64 (.ofNat 0)), (.str [])] [(0, 9, (.t 25))]),
 e 27 (.app 0 9 88 (.t 23) (.t 26)),
 m 5 27])
      (.region [m 28 6,
 o 29 (.load true 10 (.t 8)),
 n 30 (.bslice 0 10 1 [(.int .i64 (.ofNat 0)), (.int .i64 (.ofNat 0)), (.int .i64 (.ofNat 0)), (.int .i64 (.ofNat 0)), (.int .i64 (.ofNat 0)), (.int .i64 (.ofNat 0)), (.str []), (.int .i64 (.ofNat 0)), (.str []), (.int .i64 (.ofNat 0))] [(0, 10, (.t 29))]),
 e 31 (.app 0 10 96 (.t 28) (.t 30)),
 m 6 31])))))
    (.region [o 32 (.bin .add (.t 14) (ci 1)),
 m 14 32])))))))
  (.seq (.region [m 33 0,
 m 34 6,
 o 35 (.nilck (.t 33)),
 o 36 (.faddr 0 (.t 35)),
 x (.store 1 (.t 36) (.t 34))])
  (.seq (.region [m 37 5,
 m 4 37])
  .ret)))))) }
theorem tr72 : trF cx Tryz.f72 = pf72 := by kernel_rfl
/-- (*depot/router.Router).send -/
def pf73 : PF := { ntmps := 49, results := [], body :=
  (.seq (.region [n 4 (.box (.t 1)),
 n 5 (.box (.t 2))])
  (.seq (.region [m 8 0,
 o 9 (.nilck (.t 8)),
 o 10 (.faddr 6 (.t 9)),
 o 11 (.load false 1 (.t 10)),
 o 12 (.faddr 1 (.t 4)),
 o 13 (.load false 1 (.t 12)),
 e 14 (.call 93 [(.t 11), (.t 13)]),
 o 15 (.faddr 2 (.t 4)),
 x (.store 1 (.t 15) (.t 14))])
  (.seq (.region [m 17 0,
 o 18 (.nilck (.t 17)),
 o 19 (.faddr 7 (.t 18)),
 o 20 (.load false 1 (.t 19)),
 o 21 (.load true 9 (.t 4)),
 n 6 (.new 0 [(.int .i64 (.ofNat 0)), (.int .i64 (.ofNat 0)), (.int .i64 (.ofNat 0)), (.int .i64 (.ofNat 0)), (.int .i64 (.ofNat 0)), (.int .i64 (.ofNat 0)), (.str []), (.int .i64 (.ofNat 0)), (.str [])]),
 e 22 (.call 120 [(.t 20), (.t 21)]),
 m 16 22,
 o 23 (.ext 0 (.t 16)),
 o 24 (.ext 1 (.t 16)),
 x (.store 9 (.t 6) (.t 23)),
 m 7 24])
  (.seq (.region [m 25 7])
  (.cond (.t 25)
   (.seq (.region [o 26 (.faddr 3 (.t 6)),
 o 27 (.load false 1 (.t 26)),
 o 28 (.faddr 0 (.t 5)),
 x (.store 1 (.t 28) (.t 27))])
   (.seq (.region [m 29 0,
 m 30 0,
 o 31 (.nilck (.t 30)),
 o 32 (.faddr 13 (.t 31)),
 o 33 (.load false 1 (.t 32)),
 o 34 (.load true 6 (.t 5)),
 n 35 (.bslice 0 6 1 [(.int .i64 (.ofNat 0)), (.int .i64 (.ofNat 0)), (.int .i64 (.ofNat 0)), (.bool false), (.int .i64 (.ofNat 0)), (.int .i64 (.ofNat 0))] [(0, 6, (.t 34))]),
 e 36 (.app 0 6 48 (.t 33) (.t 35)),
 o 37 (.nilck (.t 29)),
 o 38 (.faddr 13 (.t 37)),
 x (.store 1 (.t 38) (.t 36))])
   (.region [m 39 0,
 m 40 0,
 o 41 (.nilck (.t 40)),
 o 42 (.faddr 32 (.t 41)),
 o 43 (.load false 1 (.t 42)),
 o 44 (.load true 9 (.t 6)),
 n 45 (.bslice 0 9 1 [(.int .i64 (.ofNat 0)), (.int .i64 (.ofNat 0)), (.int .i64 (.ofNat 0)), (.int .i64 (.ofNat 0)), (.int .i64 (.ofNat 0)), (.int .i64 (.ofNat 0)), (.str []), (.int .i64 (.ofNat 0)), (.str [])] [(0, 9, (.t 44))]),
 e 46 (.app 0 9 88 (.t 43) (.t 45)),
 o 47 (.nilck (.t 39)),
 o 48 (.faddr 32 (.t 47)),
 x (.store 1 (.t 48) (.t 46))])))
   .skip))))) }
theorem tr73 : trF cx Tryz.f73 = pf73 := by kernel_rfl
/-- depot/slab.New -/
def pf74 : PF := { ntmps := 44, results := [.tmp 4, .tmp 5], body :=
  (.seq (.region [o 4 (.mv (.c .nilp)),
 o 5 (.mv (ci 0))])
  (.seq (.seq (.region [m 8 0,
 o 9 (.bin .lss (.t 8) (ci 1)),
 m 10 9,
 gm 11 10 false 0,
 go 12 10 false (.bin .gtr (.t 11) (ci 64)),
 o 13 (.pick (.t 10) (.c (.bool true)) (.t 12)),
 m 14 13,
 gm 15 14 false 1,
 go 16 14 false (.bin .lss (.t 15) (ci 64)),
 o 17 (.pick (.t 14) (.c (.bool true)) (.t 16)),
 m 18 17,
 gm 19 18 false 1,
 go 20 18 false (.bin .gtr (.t 19) (ci 65536)),
 o 21 (.pick (.t 18) (.c (.bool true)) (.t 20))])
  (.cond (.t 21)
   (.seq (.region [o 4 (.mv (.c .nilp)),
 o 5 (.mv (ci 1))])
   .ret)
   .skip))
  (.seq (.region [m 22 1,
 m 23 0,
 o 24 (.build [(.int .i64 (.ofNat 0)), (.int .i64 (.ofNat 0)), (.int .i64 (.ofNat 0)), .nils] [(0, 1, (.t 22)), (1, 1, (.t 23))]),
 n 25 (.box (.t 24)),
 m 6 25])
  (.seq (.seq (.region [o 7 (.mv (ci 64))])
  (.block 0 (.loop (.seq (.seq (.region [m 26 7,
 m 27 1,
 o 28 (.bin .leq (.t 26) (.t 27))])
    (.cond (.t 28)
     .skip
     (.exit 0)))
    (.seq (.block 1 (.region [m 31 6,
 m 32 6,
 o 33 (.nilck (.t 32)),
 o 34 (.faddr 3 (.t 33)),
 o 35 (.load false 1 (.t 34)),
 m 36 7,
 n 37 (.mkmap),
 o 38 (.build [(.int .i64 (.ofNat 0)), .nils, .nilm, (.int .i64 (.ofNat 0))] [(0, 1, (.t 36)), (2, 1, (.t 37))]),
 n 39 (.bslice 0 4 1 [(.int .i64 (.ofNat 0)), .nils, .nilm, (.int .i64 (.ofNat 0))] [(0, 4, (.t 38))]),
 e 40 (.app 0 4 48 (.t 35) (.t 39)),
 o 41 (.nilck (.t 31)),
 o 42 (.faddr 3 (.t 41)),
 x (.store 1 (.t 42) (.t 40))]))
    (.region [m 29 7,
 o 30 (.bin .mul (.t 29) (ci 2)),
 m 7 30]))))))
  (.seq (.region [m 43 6,
 m 4 43,
 o 5 (.mv (ci 0))])
  .ret))))) }
theorem tr74 : trF cx Tryz.f74 = pf74 := by kernel_rfl
/-- depot/chain.New -/
def pf75 : PF := { ntmps := 4, results := [.tmp 0], body :=
  (.seq (.region [o 0 (.mv (.c .nilp))])
  (.seq (.region [n 1 (.mksl 0 1 24 [.nils] (ci 4) (ci 4)),
 o 2 (.build [.nils, .nils, (.int .i64 (.ofNat 0)), (.int .i64 (.ofNat 0))] [(0, 1, (.t 1))]),
 n 3 (.box (.t 2)),
 m 0 3])
  .ret)) }
theorem tr75 : trF cx Tryz.f75 = pf75 := by kernel_rfl
/-- depot/wire.within -/
def pf76 : PF := { ntmps := 12, results := [.tmp 4], body :=
  (.seq (.region [o 4 (.mv (.c (.bool false)))])
  (.seq (.region [m 5 0,
 o 6 (.bin .geq (.t 5) (ci 0)),
 m 7 6,
 gm 8 7 true 0,
 gm 9 7 true 1,
 go 10 7 true (.bin .leq (.t 8) (.t 9)),
 o 11 (.pick (.t 7) (.t 10) (.c (.bool false))),
 m 4 11])
  .ret)) }
theorem tr76 : trF cx Tryz.f76 = pf76 := by kernel_rfl
/-- depot/wire.role -/
def pf77 : PF := { ntmps := 30, results := [.tmp 4], body :=
  (.seq (.region [o 4 (.mv (.c (.bool false)))])
  (.seq (.seq (.region [m 5 0])
  (.block 0 (.seq (.seq (.region [o 7 (.bin .eql (.t 5) (ci 4)),
 m 6 7])
   (.cond (.t 6)
    .skip
    (.seq (.region [o 8 (.bin .eql (.t 5) (ci 5)),
 m 6 8])
    (.cond (.t 6)
     .skip
     (.region [o 9 (.bin .eql (.t 5) (ci 7)),
 m 6 9])))))
   (.cond (.t 6)
    (.seq (.region [m 10 1,
 o 11 (.bin .eql (.t 10) (ci 0)),
 m 4 11])
    .ret)
    (.seq (.region [o 13 (.bin .eql (.t 5) (ci 6)),
 m 12 13])
    (.cond (.t 12)
     (.seq (.region [m 14 1,
 o 15 (.bin .eql (.t 14) (ci 0)),
 m 16 15,
 gm 17 16 false 1,
 go 18 16 false (.bin .eql (.t 17) (ci 1)),
 o 19 (.pick (.t 16) (.c (.bool true)) (.t 18)),
 m 20 19,
 gm 21 20 false 1,
 go 22 20 false (.bin .eql (.t 21) (ci 2)),
 o 23 (.pick (.t 20) (.c (.bool true)) (.t 22)),
 m 4 23])
     .ret)
     .skip))))))
  (.seq (.region [m 24 1,
 o 25 (.bin .eql (.t 24) (ci 1)),
 m 26 25,
 gm 27 26 false 1,
 go 28 26 false (.bin .eql (.t 27) (ci 2)),
 o 29 (.pick (.t 26) (.c (.bool true)) (.t 28)),
 m 4 29])
  .ret))) }
theorem tr77 : trF cx Tryz.f77 = pf77 := by kernel_rfl
/-- (*depot/slot.Slot).clear -/
def pf78 : PF := { ntmps := 23, results := [], body :=
  (.seq (.region [m 3 0,
 m 4 0,
 o 5 (.nilck (.t 4)),
 o 6 (.faddr 1 (.t 5)),
 o 7 (.load false 1 (.t 6)),
 m 8 0,
 o 9 (.nilck (.t 8)),
 o 10 (.faddr 2 (.t 9)),
 o 11 (.load false 1 (.t 10)),
 e 12 (.call 32 [(.t 7), (.t 11)]),
 m 2 12,
 o 13 (.ext 0 (.t 2)),
 o 14 (.ext 1 (.t 2)),
 o 15 (.nilck (.t 3)),
 o 16 (.faddr 6 (.t 15)),
 x (.store 1 (.t 16) (.t 13))])
  (.region [m 17 0,
 m 18 0,
 o 19 (.nilck (.t 17)),
 o 20 (.faddr 7 (.t 19)),
 x (.store 1 (.t 20) (.c .nils)),
 o 21 (.nilck (.t 18)),
 o 22 (.faddr 5 (.t 21)),
 x (.store 1 (.t 22) (ci 0))])) }
theorem tr78 : trF cx Tryz.f78 = pf78 := by kernel_rfl
/-- slices.IndexFunc[[]depot/slot.did,depot/slot.did] -/
def pf79 : PF := { ntmps := 19, results := [.tmp 4], body :=
  (.seq (.region [o 4 (.mv (ci 0))])
  (.seq (.seq (.region [m 6 0,
 o 7 (.lensl (.t 6)),
 o 8 (.mv (ci 0))])
  (.block 0 (.loop (.seq (.region [o 9 (.bin .lss (.t 8) (.t 7))])
    (.seq (.cond (.t 9)
     .skip
     (.exit 0))
    (.seq (.block 1 (.seq (.region [m 10 8,
 m 5 10])
     (.seq (.region [m 11 1,
 m 12 0,
 m 13 5,
 o 14 (.iasl 10 (.t 12) (.t 13)),
 o 15 (.load true 10 (.t 14)),
 e 16 (.callv (.t 11) [(.t 15)])])
     (.cond (.t 16)
      (.seq (.region [m 17 5,
 m 4 17])
      .ret)
      .skip))))
    (.region [o 18 (.bin .add (.t 8) (ci 1)),
 m 8 18])))))))
  (.seq (.region [o 4 (.mv (.c (.int .i64 (.negSucc 0))))])
  .ret))) }
theorem tr79 : trF cx Tryz.f79 = pf79 := by kernel_rfl
/-- (*depot/slot.Slot).scan -/
def pf80 : PF := { ntmps := 54, results := [.tmp 4], body :=
  (.seq (.region [o 4 (.mv (.c (.str [])))])
  (.seq (.region [o 5 (.mv (.c .nils))])
  (.seq (.seq (.region [m 11 0,
 o 12 (.nilck (.t 11)),
 o 13 (.faddr 6 (.t 12)),
 o 14 (.load false 1 (.t 13)),
 e 15 (.call 121 [(.t 14)]),
 o 16 (.lensl (.t 15)),
 o 17 (.mv (ci 0))])
  (.block 0 (.loop (.seq (.region [o 18 (.bin .lss (.t 17) (.t 16))])
    (.seq (.cond (.t 18)
     .skip
     (.exit 0))
    (.seq (.block 1 (.seq (.region [o 19 (.iasl 1 (.t 15) (.t 17)),
 o 20 (.load false 1 (.t 19)),
 m 7 20])
     (.seq (.region [m 21 7,
 o 22 (.ixstr (.t 21) (ci 0)),
 o 23 (.bin .eql (.t 22) (.c (.int .u8 (.ofNat 109)))),
 m 24 23,
 gm 25 24 true 7,
 go 26 24 true (.slstr (.t 25) (some (ci 1)) none),
 gm 27 24 true 1,
 go 28 24 true (.bin .gtr (.t 26) (.t 27)),
 o 29 (.pick (.t 24) (.t 28) (.c (.bool false)))])
     (.cond (.t 29)
      (.region [m 30 5,
 m 31 7,
 o 32 (.slstr (.t 31) (some (ci 1)) none),
 n 33 (.bslice 0 1 1 [(.str [])] [(0, 1, (.t 32))]),
 e 34 (.app 0 1 16 (.t 30) (.t 33)),
 m 5 34])
      .skip))))
    (.region [o 35 (.bin .add (.t 17) (ci 1)),
 m 17 35])))))))
  (.seq (.region [m 36 5,
 e 37 (.call 122 [(.t 36)])])
  (.seq (.region [o 8 (.mv (.c .nils))])
  (.seq (.seq (.region [m 38 5,
 m 39 5,
 o 40 (.lensl (.t 39)),
 o 41 (.minmax false [(.t 40), (ci 16)]),
 o 42 (.slsl 1 (.t 38) none (some (.t 41)) none),
 o 43 (.lensl (.t 42)),
 o 44 (.mv (ci 0))])
  (.block 2 (.loop (.seq (.region [o 45 (.bin .lss (.t 44) (.t 43))])
    (.seq (.cond (.t 45)
     .skip
     (.exit 2))
    (.seq (.block 3 (.seq (.region [o 46 (.iasl 1 (.t 42) (.t 44)),
 o 47 (.load false 1 (.t 46)),
 m 10 47])
     (.region [m 48 8,
 m 49 10,
 o 50 (.bad),
 m 8 50])))
    (.region [o 51 (.bin .add (.t 44) (ci 1)),
 m 44 51])))))))
  (.seq (.region [m 52 8,
 o 53 (.b2s (.t 52)),
 m 4 53])
  .ret))))))) }
theorem tr80 : trF cx Tryz.f80 = pf80 := by kernel_rfl
/-- (*depot/slot.Slot).stands -/
def pf81 : PF := { ntmps := 33, results := [.tmp 4, .tmp 5, .tmp 6], body :=
  (.seq (.region [n 3 (.box (.t 1)),
 o 4 (.mv (ci 0)),
 o 5 (.mv (.c (.str []))),
 o 6 (.mv (.c (.bool false)))])
  (.seq (.region [m 12 0,
 o 13 (.nilck (.t 12)),
 o 14 (.faddr 6 (.t 13)),
 o 15 (.load false 1 (.t 14)),
 o 16 (.load true 9 (.t 3)),
 e 17 (.call 83 [(.t 16)]),
 .again ⟨(some 15), none, (.r (.load false 1 (.t 14)))⟩,
 e 18 (.call 124 [(.t 15), (.t 17)]),
 m 11 18,
 o 19 (.ext 0 (.t 11)),
 o 20 (.ext 1 (.t 11)),
 m 7 19,
 m 8 20])
  (.seq (.seq (.region [m 21 8,
 o 22 (.un .not (.t 21))])
  (.cond (.t 22)
   (.seq (.region [o 4 (.mv (ci 0)),
 o 5 (.mv (.c (.str []))),
 o 6 (.mv (.c (.bool false)))])
   .ret)
   .skip))
  (.seq (.region [m 23 7,
 n 24 (.s2b (.t 23)),
 e 25 (.call 125 [(.t 24)]),
 m 9 25])
  (.seq (.region [m 26 9,
 e 27 (.call 126 [(.t 26)]),
 m 10 27])
  (.seq (.region [m 28 10,
 m 29 7,
 m 30 9,
 e 31 (.call 127 [(.t 30)]),
 o 32 (.slstr (.t 29) (some (.t 31)) none),
 m 4 28,
 m 5 32,
 o 6 (.mv (.c (.bool true)))])
  .ret)))))) }
theorem tr81 : trF cx Tryz.f81 = pf81 := by kernel_rfl
/-- depot/slot.name -/
def pf83 : PF := { ntmps := 18, results := [.tmp 2], body :=
  (.seq (.region [n 1 (.box (.t 0)),
 o 2 (.mv (.c (.str [])))])
  (.seq (.seq (.region [o 3 (.faddr 5 (.t 1)),
 o 4 (.load false 1 (.t 3)),
 o 5 (.bin .eql (.t 4) (ci 1))])
  (.cond (.t 5)
   (.seq (.region [o 6 (.faddr 6 (.t 1)),
 o 7 (.load false 1 (.t 6)),
 o 8 (.bin .add (.c (.str [109])) (.t 7)),
 m 2 8])
   .ret)
   .skip))
  (.seq (.region [n 9 (.bslice 2 1 1 [(.int .u8 (.ofNat 0))] [(0, 1, (.c (.int .u8 (.ofNat 112))))]),
 o 11 (.faddr 7 (.t 1)),
 o 12 (.load false 1 (.t 11)),
 o 15 (.faddr 6 (.t 1)),
 o 16 (.load false 1 (.t 15)),
 e 10 (.mark (.t 9)),
 .again ⟨(some 16), none, (.r (.load false 1 (.t 15)))⟩,
 .again ⟨(some 12), none, (.r (.load false 1 (.t 11)))⟩,
 o 13 (.bad),
 o 14 (.b2s (.t 13)),
 o 17 (.bin .add (.t 14) (.t 16)),
 m 2 17])
  .ret))) }
theorem tr83 : trF cx Tryz.f83 = pf83 := by kernel_rfl
/-- slices.Delete[[]depot/ask.open,depot/ask.open] -/
def pf86 : PF := { ntmps := 33, results := [.tmp 6], body :=
  (.seq (.region [o 6 (.mv (.c .nils))])
  (.seq (.region [m 8 0,
 m 9 1,
 m 10 2,
 m 11 0,
 o 12 (.lensl (.t 11)),
 o 13 (.slsl 10 (.t 8) (some (.t 9)) (some (.t 10)) (some (.t 12)))])
  (.seq (.seq (.region [m 14 1,
 m 15 2,
 o 16 (.bin .eql (.t 14) (.t 15))])
  (.cond (.t 16)
   (.seq (.region [m 17 0,
 m 6 17])
   .ret)
   .skip))
  (.seq (.region [m 18 0,
 o 19 (.lensl (.t 18)),
 m 7 19])
  (.seq (.region [m 20 0,
 m 21 1,
 o 22 (.slsl 10 (.t 20) none (some (.t 21)) none),
 m 23 0,
 m 24 2,
 o 25 (.slsl 10 (.t 23) (some (.t 24)) none none),
 e 26 (.app 0 10 96 (.t 22) (.t 25)),
 m 0 26])
  (.seq (.region [m 27 0,
 m 28 0,
 o 29 (.lensl (.t 28)),
 m 30 7,
 o 31 (.slsl 10 (.t 27) (some (.t 29)) (some (.t 30)) none),
 x (.clear [(.int .i64 (.ofNat 0)), (.int .i64 (.ofNat 0)), (.int .i64 (.ofNat 0)), (.int .i64 (.ofNat 0)), (.int .i64 (.ofNat 0)), (.int .i64 (.ofNat 0)), (.str []), (.int .i64 (.ofNat 0)), (.str []), (.int .i64 (.ofNat 0))] (.t 31))])
  (.seq (.region [m 32 0,
 m 6 32])
  .ret))))))) }
theorem tr86 : trF cx Tryz.f86 = pf86 := by kernel_rfl
/-- (*depot/router.Router).owned -/
def pf87 : PF := { ntmps := 35, results := [.cell 4 true 6], body :=
  (.seq (.region [n 3 (.box (.t 1)),
 n 4 (.new 0 [(.int .i64 (.ofNat 0)), (.int .i64 (.ofNat 0)), (.int .i64 (.ofNat 0)), (.bool false), (.int .i64 (.ofNat 0)), (.int .i64 (.ofNat 0))])])
  (.seq (.region [m 7 0,
 o 8 (.nilck (.t 7)),
 o 9 (.faddr 13 (.t 8)),
 o 10 (.load false 1 (.t 9)),
 o 11 (.mkfn 138 [(.t 3)]),
 e 12 (.call 137 [(.t 10), (.t 11)]),
 m 5 12])
  (.seq (.seq (.region [m 13 5,
 o 14 (.bin .lss (.t 13) (ci 0))])
  (.cond (.t 14)
   (.seq (.region [o 15 (.build [(.int .i64 (.ofNat 0)), (.int .i64 (.ofNat 0)), (.int .i64 (.ofNat 0)), (.bool false), (.int .i64 (.ofNat 0)), (.int .i64 (.ofNat 0))] []),
 x (.store 6 (.t 4) (.t 15))])
   .ret)
   .skip))
  (.seq (.region [m 16 0,
 o 17 (.nilck (.t 16)),
 o 18 (.faddr 13 (.t 17)),
 o 19 (.load false 1 (.t 18)),
 m 20 5,
 o 21 (.iasl 6 (.t 19) (.t 20)),
 o 22 (.load true 6 (.t 21)),
 n 6 (.new 0 [(.int .i64 (.ofNat 0)), (.int .i64 (.ofNat 0)), (.int .i64 (.ofNat 0)), (.bool false), (.int .i64 (.ofNat 0)), (.int .i64 (.ofNat 0))]),
 x (.store 6 (.t 6) (.t 22))])
  (.seq (.region [m 23 0,
 m 24 0,
 o 25 (.nilck (.t 24)),
 o 26 (.faddr 13 (.t 25)),
 o 27 (.load false 1 (.t 26)),
 m 28 5,
 m 29 5,
 o 30 (.bin .add (.t 29) (ci 1)),
 e 31 (.call 139 [(.t 27), (.t 28), (.t 30)]),
 o 32 (.nilck (.t 23)),
 o 33 (.faddr 13 (.t 32)),
 x (.store 1 (.t 33) (.t 31))])
  (.seq (.region [o 34 (.load true 6 (.t 6)),
 x (.store 6 (.t 4) (.t 34))])
  .ret)))))) }
theorem tr87 : trF cx Tryz.f87 = pf87 := by kernel_rfl
/-- depot/fill.New -/
def pf88 : PF := { ntmps := 27, results := [.tmp 6, .tmp 7], body :=
  (.seq (.region [n 3 (.box (.t 0)),
 o 6 (.mv (.c .nilp)),
 o 7 (.mv (ci 0))])
  (.seq (.seq (.region [o 8 (.load true 6 (.t 3)),
 e 9 (.call 28 [(.t 8)]),
 o 10 (.un .not (.t 9)),
 m 11 10,
 gm 12 11 false 1,
 go 13 11 false (.bin .lss (.t 12) (ci 0)),
 o 14 (.pick (.t 11) (.c (.bool true)) (.t 13)),
 m 15 14,
 gm 16 15 false 1,
 go 17 15 false (.faddr 3 (.t 3)),
 go 18 15 false (.load false 1 (.t 17)),
 go 19 15 false (.bin .geq (.t 16) (.t 18)),
 o 20 (.pick (.t 15) (.c (.bool true)) (.t 19))])
  (.cond (.t 20)
   (.seq (.region [o 6 (.mv (.c .nilp)),
 o 7 (.mv (ci 1))])
   .ret)
   .skip))
  (.seq (.region [o 21 (.load true 6 (.t 3)),
 m 22 1,
 m 23 2,
 e 24 (.call 140 [(.t 23)]),
 .again ⟨(some 21), none, (.r (.load true 6 (.t 3)))⟩,
 o 25 (.build [(.int .i64 (.ofNat 0)), (.int .i64 (.ofNat 0)), (.int .i64 (.ofNat 0)), (.int .i64 (.ofNat 0)), (.int .i64 (.ofNat 0)), (.int .i64 (.ofNat 0)), (.int .i64 (.ofNat 0)), .nils, (.bool false), (.bool false), .nils, (.str []), .nils] [(0, 6, (.t 21)), (6, 1, (.t 22)), (7, 1, (.t 24))]),
 n 26 (.box (.t 25)),
 m 6 26,
 o 7 (.mv (ci 0))])
  .ret))) }
theorem tr88 : trF cx Tryz.f88 = pf88 := by kernel_rfl
/-- (*depot/router.Router).job -/
def pf89 : PF := { ntmps := 24, results := [.tmp 4], body :=
  (.seq (.region [o 4 (.mv (.c .nilp))])
  (.seq (.seq (.region [m 7 0,
 o 8 (.nilck (.t 7)),
 o 9 (.faddr 11 (.t 8)),
 o 10 (.load false 1 (.t 9)),
 o 11 (.lensl (.t 10)),
 o 12 (.mv (ci 0))])
  (.block 0 (.loop (.seq (.region [o 13 (.bin .lss (.t 12) (.t 11))])
    (.seq (.cond (.t 13)
     .skip
     (.exit 0))
    (.seq (.block 1 (.seq (.region [o 14 (.iasl 1 (.t 10) (.t 12)),
 o 15 (.load false 1 (.t 14)),
 m 6 15])
     (.seq (.region [m 16 6,
 o 17 (.nilck (.t 16)),
 o 18 (.faddr 0 (.t 17)),
 o 19 (.load false 1 (.t 18)),
 m 20 1,
 o 21 (.bin .eql (.t 19) (.t 20))])
     (.cond (.t 21)
      (.seq (.region [m 22 6,
 m 4 22])
      .ret)
      .skip))))
    (.region [o 23 (.bin .add (.t 12) (ci 1)),
 m 12 23])))))))
  (.seq (.region [o 4 (.mv (.c .nilp))])
  .ret))) }
theorem tr89 : trF cx Tryz.f89 = pf89 := by kernel_rfl
/-- (*depot/task.Task).Got -/
def pf90 : PF := { ntmps := 154, results := [], body :=
  (.seq (.region [n 7 (.box (.t 1)),
 n 9 (.box (.t 3)),
 n 10 (.box (.t 4))])
  (.seq (.seq (.region [m 15 2,
 m 16 0,
 o 17 (.nilck (.t 16)),
 o 18 (.faddr 21 (.t 17)),
 o 19 (.load false 1 (.t 18)),
 o 20 (.bin .neq (.t 15) (.t 19)),
 m 21 20,
 gm 22 21 false 0,
 go 23 21 false (.nilck (.t 22)),
 go 24 21 false (.faddr 22 (.t 23)),
 go 25 21 false (.load false 1 (.t 24)),
 go 26 21 false (.bin .eql (.t 25) (ci 0)),
 o 27 (.pick (.t 21) (.c (.bool true)) (.t 26))])
  (.cond (.t 27)
   .ret
   .skip))
  (.seq (.region [m 28 0,
 o 29 (.nilck (.t 28)),
 o 30 (.faddr 22 (.t 29)),
 o 31 (.load false 1 (.t 30)),
 o 32 (.bin .sub (.t 31) (ci 1)),
 o 33 (.nilck (.t 28)),
 o 34 (.faddr 22 (.t 33)),
 x (.store 1 (.t 34) (.t 32))])
  (.seq (.region [m 35 5,
 m 36 35,
 go 37 36 true (.faddr 0 (.t 10)),
 go 38 36 true (.load false 1 (.t 37)),
 go 39 36 true (.bin .eql (.t 38) (ci 6)),
 o 40 (.pick (.t 36) (.t 39) (.c (.bool false))),
 m 5 40])
  (.seq (.seq (.region [m 41 0,
 o 42 (.nilck (.t 41)),
 o 43 (.faddr 21 (.t 42)),
 o 44 (.load false 1 (.t 43))])
  (.block 0 (.seq (.region [o 46 (.bin .eql (.t 44) (ci 1)),
 m 45 46])
   (.cond (.t 45)
    (.seq (.region [o 48 (.faddr 8 (.t 10)),
 o 49 (.load false 1 (.t 48)),
 e 50 (.call 141 [(.t 49)]),
 m 47 50,
 o 51 (.ext 0 (.t 47)),
 o 52 (.ext 1 (.t 47)),
 n 12 (.new 0 [(.int .i64 (.ofNat 0)), (.int .i64 (.ofNat 0)), (.int .i64 (.ofNat 0)), (.int .i64 (.ofNat 0)), (.int .i64 (.ofNat 0))]),
 x (.store 5 (.t 12) (.t 51)),
 m 13 52])
    (.seq (.region [m 53 5,
 m 54 53,
 gm 55 54 true 13,
 o 56 (.pick (.t 54) (.t 55) (.c (.bool false))),
 m 57 56,
 go 58 57 true (.faddr 7 (.t 10)),
 go 59 57 true (.load false 1 (.t 58)),
 gm 60 57 true 0,
 go 61 57 true (.nilck (.t 60)),
 go 62 57 true (.faddr 42 (.t 61)),
 go 63 57 true (.load false 1 (.t 62)),
 go 64 57 true (.bin .gtr (.t 59) (.t 63)),
 o 65 (.pick (.t 57) (.t 64) (.c (.bool false)))])
    (.cond (.t 65)
     (.region [m 66 0,
 m 67 0,
 o 68 (.load true 5 (.t 12)),
 o 69 (.faddr 7 (.t 10)),
 o 70 (.load false 1 (.t 69)),
 o 71 (.nilck (.t 66)),
 o 72 (.faddr 37 (.t 71)),
 x (.store 5 (.t 72) (.t 68)),
 .again ⟨(some 70), none, (.r (.load false 1 (.t 69)))⟩,
 o 73 (.nilck (.t 67)),
 o 74 (.faddr 42 (.t 73)),
 x (.store 1 (.t 74) (.t 70))])
     .skip)))
    (.seq (.region [o 76 (.bin .eql (.t 44) (ci 2)),
 m 75 76])
    (.cond (.t 75)
     (.seq (.region [m 77 0,
 o 78 (.nilck (.t 77)),
 o 79 (.faddr 7 (.t 78)),
 o 80 (.load false 1 (.t 79)),
 m 81 0,
 o 82 (.nilck (.t 81)),
 o 83 (.faddr 19 (.t 82)),
 o 84 (.load false 1 (.t 83)),
 o 85 (.lensl (.t 84)),
 m 86 0,
 o 87 (.nilck (.t 86)),
 o 88 (.faddr 0 (.t 87)),
 o 89 (.faddr 3 (.t 88)),
 o 90 (.load false 1 (.t 89)),
 o 91 (.faddr 1 (.t 9)),
 o 92 (.load false 1 (.t 91)),
 o 93 (.bad),
 m 14 93])
     (.seq (.region [m 94 0,
 o 95 (.nilck (.t 94)),
 o 96 (.faddr 44 (.t 95)),
 o 97 (.load false 1 (.t 96)),
 m 98 14,
 m 99 5,
 m 100 99,
 go 101 100 true (.faddr 7 (.t 10)),
 go 102 100 true (.load false 1 (.t 101)),
 gm 103 100 true 0,
 go 104 100 true (.nilck (.t 103)),
 go 105 100 true (.faddr 37 (.t 104)),
 go 106 100 true (.faddr 0 (.t 105)),
 go 107 100 true (.load false 1 (.t 106)),
 go 108 100 true (.bin .eql (.t 102) (.t 107)),
 o 109 (.pick (.t 100) (.t 108) (.c (.bool false))),
 m 110 109,
 go 111 110 true (.faddr 8 (.t 10)),
 go 112 110 true (.load false 1 (.t 111)),
 go 113 110 true (.lens (.t 112)),
 gm 114 110 true 0,
 go 115 110 true (.nilck (.t 114)),
 go 116 110 true (.faddr 6 (.t 115)),
 go 117 110 true (.load false 1 (.t 116)),
 gm 118 110 true 0,
 go 119 110 true (.nilck (.t 118)),
 go 120 110 true (.faddr 37 (.t 119)),
 go 121 110 true (.faddr 4 (.t 120)),
 go 122 110 true (.load false 1 (.t 121)),
 o 126 (.faddr 8 (.t 10)),
 o 127 (.load false 1 (.t 126)),
 .op ⟨(some 123), (some (110, true)), (.e (.call 144 [(.t 117), (.t 122)]))⟩,
 .again ⟨(some 127), none, (.r (.load false 1 (.t 126)))⟩,
 .again ⟨(some 112), (some (110, true)), (.r (.load false 1 (.t 111)))⟩,
 .again ⟨(some 97), none, (.r (.load false 1 (.t 96)))⟩,
 go 124 110 true (.bin .eql (.t 113) (.t 123)),
 o 125 (.pick (.t 110) (.t 124) (.c (.bool false))),
 o 128 (.bad)])
     (.region [m 129 0,
 o 130 (.bad)])))
     (.seq (.seq (.region [o 132 (.bin .eql (.t 44) (ci 3)),
 m 131 132])
     (.cond (.t 131)
      .skip
      (.region [o 133 (.bin .eql (.t 44) (ci 4)),
 m 131 133])))
     (.cond (.t 131)
      (.seq (.region [m 134 5,
 m 135 134,
 go 136 135 true (.faddr 7 (.t 10)),
 go 137 135 true (.load false 1 (.t 136)),
 gm 138 135 true 0,
 go 139 135 true (.nilck (.t 138)),
 go 140 135 true (.faddr 18 (.t 139)),
 go 141 135 true (.load false 1 (.t 140)),
 go 142 135 true (.bin .eql (.t 137) (.t 141)),
 o 143 (.pick (.t 135) (.t 142) (.c (.bool false)))])
      (.cond (.t 143)
       (.region [m 144 0,
 o 145 (.nilck (.t 144)),
 o 146 (.faddr 23 (.t 145)),
 o 147 (.load false 1 (.t 146)),
 o 148 (.bin .add (.t 147) (ci 1)),
 o 149 (.nilck (.t 144)),
 o 150 (.faddr 23 (.t 149)),
 x (.store 1 (.t 150) (.t 148))])
       .skip))
      .skip))))))))
  (.region [m 151 0,
 o 152 (.load true 14 (.t 7)),
 e 153 (.call 146 [(.t 151), (.t 152)])])))))) }
theorem tr90 : trF cx Tryz.f90 = pf90 := by kernel_rfl
/-- (*depot/router.Router).env -/
def pf91 : PF := { ntmps := 33, results := [.cell 2 true 14], body :=
  (.seq (.region [n 2 (.new 0 (rep 14 [(.int .i64 (.ofNat 0))]))])
  (.seq (.region [m 5 0,
 o 6 (.nilck (.t 5)),
 o 7 (.faddr 8 (.t 6)),
 o 8 (.load false 1 (.t 7)),
 m 9 0,
 o 10 (.nilck (.t 9)),
 o 11 (.faddr 9 (.t 10)),
 o 12 (.load false 1 (.t 11)),
 o 13 (.build (rep 14 [(.int .i64 (.ofNat 0))]) [(12, 1, (.t 8)), (13, 1, (.t 12))]),
 n 3 (.new 0 (rep 14 [(.int .i64 (.ofNat 0))])),
 x (.store 14 (.t 3) (.t 13))])
  (.seq (.seq (.region [m 14 0,
 o 15 (.nilck (.t 14)),
 o 16 (.faddr 0 (.t 15)),
 o 17 (.faddr 3 (.t 16)),
 o 18 (.load false 1 (.t 17)),
 o 19 (.mv (ci 0))])
  (.block 0 (.loop (.seq (.region [o 20 (.bin .lss (.t 19) (.t 18))])
    (.seq (.cond (.t 20)
     .skip
     (.exit 0))
    (.seq (.block 1 (.seq (.region [m 21 19,
 m 4 21])
     (.region [m 22 4,
 m 23 0,
 o 24 (.nilck (.t 23)),
 o 25 (.faddr 6 (.t 24)),
 o 26 (.load false 1 (.t 25)),
 m 27 4,
 e 28 (.call 41 [(.t 26), (.t 27)]),
 o 29 (.faddr 0 (.t 3)),
 o 30 (.iaarr 12 1 (.t 29) (.t 22)),
 x (.store 1 (.t 30) (.t 28))])))
    (.region [o 31 (.bin .add (.t 19) (ci 1)),
 m 19 31])))))))
  (.seq (.region [o 32 (.load true 14 (.t 3)),
 x (.store 14 (.t 2) (.t 32))])
  .ret)))) }
theorem tr91 : trF cx Tryz.f91 = pf91 := by kernel_rfl
/-- (*depot/router.Router).look -/
def pf92 : PF := { ntmps := 73, results := [], body :=
  (.seq (.region [m 9 1,
 o 10 (.nilck (.t 9)),
 o 11 (.faddr 15 (.t 10)),
 o 12 (.load false 1 (.t 11)),
 e 13 (.call 147 [(.t 12)]),
 m 4 13])
  (.seq (.seq (.region [m 14 1,
 o 15 (.nilck (.t 14)),
 o 16 (.faddr 15 (.t 15)),
 o 17 (.load false 1 (.t 16)),
 e 18 (.call 148 [(.t 17)]),
 o 19 (.lensl (.t 18)),
 o 20 (.mv (ci 0))])
  (.block 0 (.loop (.seq (.region [o 21 (.bin .lss (.t 20) (.t 19))])
    (.seq (.cond (.t 21)
     .skip
     (.exit 0))
    (.seq (.block 1 (.seq (.region [o 22 (.iasl 9 (.t 18) (.t 20)),
 o 23 (.load true 9 (.t 22)),
 n 6 (.new 0 [(.int .i64 (.ofNat 0)), (.int .i64 (.ofNat 0)), (.int .i64 (.ofNat 0)), (.int .i64 (.ofNat 0)), (.int .i64 (.ofNat 0)), (.int .i64 (.ofNat 0)), (.str []), (.int .i64 (.ofNat 0)), (.str [])]),
 x (.store 9 (.t 6) (.t 23))])
     (.region [m 24 0,
 o 25 (.load true 9 (.t 6)),
 m 26 1,
 o 27 (.nilck (.t 26)),
 o 28 (.faddr 0 (.t 27)),
 o 29 (.load false 1 (.t 28)),
 m 30 4,
 o 31 (.build [(.int .i64 (.ofNat 0)), (.int .i64 (.ofNat 0)), (.int .i64 (.ofNat 0)), (.bool false), (.int .i64 (.ofNat 0)), (.int .i64 (.ofNat 0))] [(1, 1, (.t 29)), (2, 1, (.t 30))]),
 e 32 (.call 73 [(.t 24), (.t 25), (.t 31)])])))
    (.region [o 33 (.bin .add (.t 20) (ci 1)),
 m 20 33])))))))
  (.seq (.seq (.region [m 35 1,
 o 36 (.nilck (.t 35)),
 o 37 (.faddr 15 (.t 36)),
 o 38 (.load false 1 (.t 37)),
 e 39 (.call 149 [(.t 38)]),
 m 34 39,
 o 40 (.ext 0 (.t 34)),
 o 41 (.ext 1 (.t 34)),
 n 7 (.new 0 [(.int .i64 (.ofNat 0)), .nils, (.bool false), (.int .u64 (.ofNat 0)), (.str []), (.int .i64 (.ofNat 0)), (.int .i64 (.ofNat 0)), (.int .i64 (.ofNat 0)), (.int .i64 (.ofNat 0))]),
 x (.store 9 (.t 7) (.t 40)),
 m 8 41])
  (.seq (.region [m 42 8,
 m 43 42,
 gm 44 43 true 1,
 go 45 43 true (.nilck (.t 44)),
 go 46 43 true (.faddr 16 (.t 45)),
 go 47 43 true (.load false 1 (.t 46)),
 go 48 43 true (.un .not (.t 47)),
 o 49 (.pick (.t 43) (.t 48) (.c (.bool false))),
 m 50 49,
 gm 51 50 true 1,
 go 52 50 true (.nilck (.t 51)),
 go 53 50 true (.faddr 1 (.t 52)),
 go 54 50 true (.faddr 12 (.t 53)),
 go 55 50 true (.load false 1 (.t 54)),
 go 56 50 true (.bin .lss (.t 55) (ci 0)),
 o 57 (.pick (.t 50) (.t 56) (.c (.bool false)))])
  (.cond (.t 57)
   (.seq (.region [m 58 1,
 o 59 (.nilck (.t 58)),
 o 60 (.faddr 16 (.t 59)),
 x (.store 1 (.t 60) (.c (.bool true)))])
   (.region [m 61 0,
 m 62 1,
 o 63 (.nilck (.t 62)),
 o 64 (.faddr 1 (.t 63)),
 o 65 (.load true 14 (.t 64)),
 o 66 (.load true 9 (.t 7)),
 e 67 (.call 150 [(.t 61), (.t 65), (.t 66)])]))
   .skip)))
  (.seq (.region [m 68 4,
 o 69 (.bin .eql (.t 68) (ci 9))])
  (.cond (.t 69)
   (.region [m 70 0,
 m 71 1,
 e 72 (.call 151 [(.t 70), (.t 71)])])
   .skip))))) }
theorem tr92 : trF cx Tryz.f92 = pf92 := by kernel_rfl
/-- (*depot/view.View).Inc -/
def pf93 : PF := { ntmps := 9, results := [.tmp 4], body :=
  (.seq (.region [o 4 (.mv (ci 0))])
  (.seq (.region [m 5 0,
 m 6 1,
 e 7 (.call 97 [(.t 5), (.t 6)]),
 o 8 (.fld false 1 1 (.t 7)),
 m 4 8])
  .ret)) }
theorem tr93 : trF cx Tryz.f93 = pf93 := by kernel_rfl
/-- (*depot/fill.Fill).Scanned -/
def pf94 : PF := { ntmps := 49, results := [], body :=
  (.seq (.region [m 6 0,
 o 7 (.nilck (.t 6)),
 o 8 (.faddr 9 (.t 7)),
 x (.store 1 (.t 8) (.c (.bool false)))])
  (.block 0 (.seq (.region [m 24 0,
 o 25 (.nilck (.t 24)),
 o 26 (.faddr 10 (.t 25)),
 o 27 (.load false 1 (.t 26)),
 o 28 (.lensl (.t 27)),
 o 29 (.bin .eql (.t 28) (ci 0)),
 m 23 29])
   (.cond (.t 23)
    .skip
    (.seq (.region [m 31 2,
 o 32 (.un .not (.t 31)),
 m 33 32,
 gm 34 33 false 1,
 go 35 33 false (.lensl (.t 34)),
 go 36 33 false (.bin .eql (.t 35) (ci 0)),
 o 37 (.pick (.t 33) (.c (.bool true)) (.t 36)),
 m 30 37])
    (.cond (.t 30)
     (.region [m 38 0,
 m 39 0,
 m 40 0,
 o 41 (.nilck (.t 40)),
 o 42 (.faddr 10 (.t 41)),
 o 43 (.load false 1 (.t 42)),
 o 44 (.slsl 1 (.t 43) (some (ci 1)) none none),
 o 45 (.nilck (.t 38)),
 o 46 (.faddr 10 (.t 45)),
 x (.store 1 (.t 46) (.t 44)),
 o 47 (.nilck (.t 39)),
 o 48 (.faddr 11 (.t 47)),
 x (.store 1 (.t 48) (.c (.str [])))])
     (.region [m 9 0,
 m 10 0,
 m 11 1,
 m 13 1,
 m 14 1,
 o 15 (.lensl (.t 14)),
 o 16 (.bin .sub (.t 15) (ci 1)),
 o 17 (.iasl 1 (.t 13) (.t 16)),
 o 18 (.load false 1 (.t 17)),
 e 12 (.call 109 [(.t 11)]),
 .again ⟨(some 18), none, (.r (.load false 1 (.t 17)))⟩,
 o 19 (.nilck (.t 9)),
 o 20 (.faddr 12 (.t 19)),
 x (.store 1 (.t 20) (.t 12)),
 o 21 (.nilck (.t 10)),
 o 22 (.faddr 11 (.t 21)),
 x (.store 1 (.t 22) (.t 18))]))))))) }
theorem tr94 : trF cx Tryz.f94 = pf94 := by kernel_rfl
/-- depot/fill.Keys -/
def pf95 : PF := { ntmps := 33, results := [.tmp 2], body :=
  (.seq (.region [o 2 (.mv (.c .nils))])
  (.seq (.region [m 7 0,
 n 8 (.s2b (.t 7)),
 e 9 (.call 125 [(.t 8)]),
 m 3 9])
  (.seq (.region [o 4 (.mv (.c .nils))])
  (.seq (.seq (.region [o 5 (.mv (ci 0))])
  (.block 0 (.loop (.seq (.seq (.region [m 10 3,
 e 11 (.call 127 [(.t 10)]),
 m 12 0,
 o 13 (.lens (.t 12)),
 o 14 (.bin .lss (.t 11) (.t 13)),
 m 15 14,
 gm 16 15 true 5,
 go 17 15 true (.bin .lss (.t 16) (ci 16)),
 o 18 (.pick (.t 15) (.t 17) (.c (.bool false)))])
    (.cond (.t 18)
     .skip
     (.exit 0)))
    (.seq (.block 1 (.seq (.region [m 21 3,
 o 22 (.bad),
 m 6 22])
     (.seq (.seq (.region [m 23 3,
 o 24 (.bad),
 o 25 (.bin .neq (.t 24) (ci 0))])
     (.cond (.t 25)
      (.exit 0)
      .skip))
     (.seq (.region [m 26 6,
 e 27 (.call 100 [(.t 26)])])
     (.cond (.t 27)
      (.region [m 28 4,
 m 29 6,
 n 30 (.bslice 0 1 1 [(.str [])] [(0, 1, (.t 29))]),
 e 31 (.app 0 1 16 (.t 28) (.t 30)),
 m 4 31])
      .skip)))))
    (.region [m 19 5,
 o 20 (.bin .add (.t 19) (ci 1)),
 m 5 20]))))))
  (.seq (.region [m 32 4,
 m 2 32])
  .ret))))) }
theorem tr95 : trF cx Tryz.f95 = pf95 := by kernel_rfl
/-- (*depot/fill.Fill).Next -/
def pf96 : PF := { ntmps := 107, results := [.tmp 4, .tmp 5, .tmp 6], body :=
  (.seq (.region [n 3 (.box (.t 1)),
 o 4 (.mv (ci 0)),
 o 5 (.mv (ci 0)),
 o 6 (.mv (.c (.str [])))])
  (.scope (.seq (.seq (.region [m 11 0,
 o 12 (.nilck (.t 11)),
 o 13 (.faddr 9 (.t 12)),
 o 14 (.load false 1 (.t 13)),
 m 15 14,
 gm 16 15 false 0,
 go 17 15 false (.nilck (.t 16)),
 go 18 15 false (.faddr 7 (.t 17)),
 go 19 15 false (.load false 1 (.t 18)),
 go 20 15 false (.lensl (.t 19)),
 go 21 15 false (.bin .gtr (.t 20) (ci 0)),
 o 22 (.pick (.t 15) (.c (.bool true)) (.t 21))])
   (.cond (.t 22)
    (.seq (.region [o 4 (.mv (ci 0)),
 o 5 (.mv (ci 0)),
 o 6 (.mv (.c (.str [])))])
    .ret)
    .skip))
   (.seq (.seq (.region [m 23 0,
 o 24 (.nilck (.t 23)),
 o 25 (.faddr 8 (.t 24)),
 o 26 (.load false 1 (.t 25)),
 o 27 (.un .not (.t 26))])
   (.cond (.t 27)
    (.seq (.region [m 28 0,
 o 29 (.nilck (.t 28)),
 o 30 (.faddr 8 (.t 29)),
 x (.store 1 (.t 30) (.c (.bool true)))])
    (.seq (.region [m 31 0,
 o 32 (.nilck (.t 31)),
 o 33 (.faddr 0 (.t 32)),
 o 34 (.faddr 3 (.t 33)),
 o 35 (.load false 1 (.t 34)),
 o 36 (.mv (ci 0))])
    (.block 0 (.loop (.seq (.region [o 37 (.bin .lss (.t 36) (.t 35))])
      (.seq (.cond (.t 37)
       .skip
       (.exit 0))
      (.seq (.block 1 (.seq (.region [m 38 36,
 m 7 38])
       (.seq (.region [m 39 7,
 o 40 (.iaarr 12 1 (.t 3) (.t 39)),
 o 41 (.load false 1 (.t 40)),
 o 42 (.bin .eql (.t 41) (ci 2)),
 m 43 42,
 gm 44 43 true 7,
 gm 45 43 true 0,
 go 46 43 true (.nilck (.t 45)),
 go 47 43 true (.faddr 6 (.t 46)),
 go 48 43 true (.load false 1 (.t 47)),
 go 49 43 true (.bin .neq (.t 44) (.t 48)),
 o 50 (.pick (.t 43) (.t 49) (.c (.bool false)))])
       (.cond (.t 50)
        (.region [m 51 0,
 m 52 0,
 o 53 (.nilck (.t 52)),
 o 54 (.faddr 10 (.t 53)),
 o 55 (.load false 1 (.t 54)),
 m 56 7,
 n 57 (.bslice 0 1 1 [(.int .i64 (.ofNat 0))] [(0, 1, (.t 56))]),
 e 58 (.app 0 1 8 (.t 55) (.t 57)),
 o 59 (.nilck (.t 51)),
 o 60 (.faddr 10 (.t 59)),
 x (.store 1 (.t 60) (.t 58))])
        .skip))))
      (.region [o 61 (.bin .add (.t 36) (ci 1)),
 m 36 61]))))))))
    .skip))
   (.seq (.seq (.region [m 63 0,
 e 64 (.call 154 [(.t 63)]),
 m 62 64,
 o 65 (.ext 0 (.t 62)),
 o 66 (.ext 1 (.t 62)),
 m 8 65,
 m 9 66])
   (.seq (.region [m 67 9])
   (.cond (.t 67)
    (.seq (.region [m 68 0,
 o 69 (.nilck (.t 68)),
 o 70 (.faddr 9 (.t 69)),
 x (.store 1 (.t 70) (.c (.bool true)))])
    (.seq (.region [m 71 8,
 o 4 (.mv (ci 2)),
 o 5 (.mv (ci 0)),
 m 6 71])
    .ret))
    .skip)))
   (.seq .skip
   (.seq (.block 2 (.loop (.seq (.seq (.region [m 72 0,
 o 73 (.nilck (.t 72)),
 o 74 (.faddr 10 (.t 73)),
 o 75 (.load false 1 (.t 74)),
 o 76 (.lensl (.t 75)),
 o 77 (.bin .gtr (.t 76) (ci 0))])
     (.cond (.t 77)
      .skip
      (.exit 2)))
     (.block 3 (.seq (.region [m 78 0,
 o 79 (.nilck (.t 78)),
 o 80 (.faddr 10 (.t 79)),
 o 81 (.load false 1 (.t 80)),
 o 82 (.iasl 1 (.t 81) (ci 0)),
 o 83 (.load false 1 (.t 82)),
 m 10 83])
      (.seq (.seq (.region [m 84 10,
 o 85 (.iaarr 12 1 (.t 3) (.t 84)),
 o 86 (.load false 1 (.t 85)),
 o 87 (.bin .neq (.t 86) (ci 2))])
      (.cond (.t 87)
       (.seq (.region [m 88 0,
 m 89 0,
 m 90 0,
 o 91 (.nilck (.t 90)),
 o 92 (.faddr 10 (.t 91)),
 o 93 (.load false 1 (.t 92)),
 o 94 (.slsl 1 (.t 93) (some (ci 1)) none none),
 o 95 (.nilck (.t 88)),
 o 96 (.faddr 10 (.t 95)),
 x (.store 1 (.t 96) (.t 94)),
 o 97 (.nilck (.t 89)),
 o 98 (.faddr 11 (.t 97)),
 x (.store 1 (.t 98) (.c (.str [])))])
       (.exit 3))
       .skip))
      (.seq (.region [m 99 0,
 o 100 (.nilck (.t 99)),
 o 101 (.faddr 9 (.t 100)),
 x (.store 1 (.t 101) (.c (.bool true)))])
      (.seq (.region [m 102 10,
 m 103 0,
 o 104 (.nilck (.t 103)),
 o 105 (.faddr 11 (.t 104)),
 o 106 (.load false 1 (.t 105)),
 o 4 (.mv (ci 1)),
 m 5 102,
 m 6 106])
      .ret))))))))
   (.seq (.region [o 4 (.mv (ci 3)),
 o 5 (.mv (ci 0)),
 o 6 (.mv (.c (.str [])))])
   .ret)))))))) }
theorem tr96 : trF cx Tryz.f96 = pf96 := by kernel_rfl
/-- (*depot/view.View).of -/
def pf97 : PF := { ntmps := 24, results := [.cell 4 true 2], body :=
  (.seq (.region [n 4 (.new 0 [(.int .i64 (.ofNat 0)), (.int .i64 (.ofNat 0))])])
  (.seq (.seq (.region [m 5 1,
 o 6 (.bin .lss (.t 5) (ci 0)),
 m 7 6,
 gm 8 7 false 1,
 gm 9 7 false 0,
 go 10 7 false (.nilck (.t 9)),
 go 11 7 false (.faddr 0 (.t 10)),
 go 12 7 false (.load false 1 (.t 11)),
 go 13 7 false (.lensl (.t 12)),
 go 14 7 false (.bin .geq (.t 8) (.t 13)),
 o 15 (.pick (.t 7) (.c (.bool true)) (.t 14))])
  (.cond (.t 15)
   (.seq (.region [o 16 (.build [(.int .i64 (.ofNat 0)), (.int .i64 (.ofNat 0))] []),
 x (.store 2 (.t 4) (.t 16))])
   .ret)
   .skip))
  (.seq (.region [m 17 0,
 o 18 (.nilck (.t 17)),
 o 19 (.faddr 0 (.t 18)),
 o 20 (.load false 1 (.t 19)),
 m 21 1,
 o 22 (.iasl 2 (.t 20) (.t 21)),
 o 23 (.load true 2 (.t 22)),
 x (.store 2 (.t 4) (.t 23))])
  .ret))) }
theorem tr97 : trF cx Tryz.f97 = pf97 := by kernel_rfl
/-- depot/router.within -/
def pf99 : PF := { ntmps := 15, results := [.tmp 6], body :=
  (.seq (.region [o 6 (.mv (.c (.bool false)))])
  (.seq (.region [m 7 0,
 m 8 1,
 o 9 (.bin .geq (.t 7) (.t 8)),
 m 10 9,
 gm 11 10 true 0,
 gm 12 10 true 2,
 go 13 10 true (.bin .leq (.t 11) (.t 12)),
 o 14 (.pick (.t 10) (.t 13) (.c (.bool false))),
 m 6 14])
  .ret)) }
theorem tr99 : trF cx Tryz.f99 = pf99 := by kernel_rfl
/-- depot/words.Key -/
def pf100 : PF := { ntmps := 28, results := [.tmp 2], body :=
  (.seq (.region [o 2 (.mv (.c (.bool false)))])
  (.seq (.seq (.region [m 4 0,
 o 5 (.lens (.t 4)),
 o 6 (.bin .lss (.t 5) (ci 1)),
 m 7 6,
 gm 8 7 false 0,
 go 9 7 false (.lens (.t 8)),
 go 10 7 false (.bin .gtr (.t 9) (ci 250)),
 o 11 (.pick (.t 7) (.c (.bool true)) (.t 10))])
  (.cond (.t 11)
   (.seq (.region [o 2 (.mv (.c (.bool false)))])
   .ret)
   .skip))
  (.seq (.seq (.region [m 12 0,
 o 13 (.lens (.t 12)),
 o 14 (.mv (ci 0))])
  (.block 0 (.loop (.seq (.region [o 15 (.bin .lss (.t 14) (.t 13))])
    (.seq (.cond (.t 15)
     .skip
     (.exit 0))
    (.seq (.block 1 (.seq (.region [m 16 14,
 m 3 16])
     (.seq (.region [m 17 0,
 m 18 3,
 o 19 (.ixstr (.t 17) (.t 18)),
 o 20 (.bin .leq (.t 19) (.c (.int .u8 (.ofNat 32)))),
 m 21 20,
 gm 22 21 false 0,
 gm 23 21 false 3,
 go 24 21 false (.ixstr (.t 22) (.t 23)),
 go 25 21 false (.bin .eql (.t 24) (.c (.int .u8 (.ofNat 127)))),
 o 26 (.pick (.t 21) (.c (.bool true)) (.t 25))])
     (.cond (.t 26)
      (.seq (.region [o 2 (.mv (.c (.bool false)))])
      .ret)
      .skip))))
    (.region [o 27 (.bin .add (.t 14) (ci 1)),
 m 14 27])))))))
  (.seq (.region [o 2 (.mv (.c (.bool true)))])
  .ret)))) }
theorem tr100 : trF cx Tryz.f100 = pf100 := by kernel_rfl
/-- (*depot/router.Router).begin -/
def pf101 : PF := { ntmps := 66, results := [], body :=
  (.seq (.region [n 3 (.box (.t 1))])
  (.seq (.region [m 7 0,
 o 8 (.nilck (.t 7)),
 o 9 (.faddr 10 (.t 8)),
 o 10 (.load false 1 (.t 9)),
 o 11 (.bin .add (.t 10) (ci 1)),
 o 12 (.nilck (.t 7)),
 o 13 (.faddr 10 (.t 12)),
 x (.store 1 (.t 13) (.t 11))])
  (.seq (.region [m 14 0,
 o 15 (.nilck (.t 14)),
 o 16 (.faddr 28 (.t 15)),
 o 17 (.load false 1 (.t 16)),
 o 18 (.bin .add (.t 17) (ci 1)),
 o 19 (.nilck (.t 14)),
 o 20 (.faddr 28 (.t 19)),
 x (.store 1 (.t 20) (.t 18))])
  (.seq (.region [m 22 0,
 o 23 (.nilck (.t 22)),
 o 24 (.faddr 0 (.t 23)),
 o 25 (.load true 6 (.t 24)),
 o 26 (.faddr 0 (.t 3)),
 o 27 (.load false 1 (.t 26)),
 o 28 (.faddr 1 (.t 3)),
 o 29 (.load true 9 (.t 28)),
 o 30 (.faddr 12 (.t 3)),
 o 31 (.load false 1 (.t 30)),
 m 32 0,
 o 33 (.nilck (.t 32)),
 o 34 (.faddr 10 (.t 33)),
 o 35 (.load false 1 (.t 34)),
 e 36 (.call 156 [(.t 25), (.t 27), (.t 29), (.t 31), (.t 35)]),
 m 21 36,
 o 37 (.ext 0 (.t 21)),
 o 38 (.ext 1 (.t 21)),
 m 4 37,
 m 5 38])
  (.seq (.seq (.region [m 39 5,
 o 40 (.bin .neq (.t 39) (ci 0))])
  (.cond (.t 40)
   .ret
   .skip))
  (.seq (.region [m 41 0,
 o 42 (.nilck (.t 41)),
 o 43 (.faddr 28 (.t 42)),
 o 44 (.load false 1 (.t 43)),
 o 45 (.load true 14 (.t 3)),
 m 46 4,
 o 47 (.build [(.int .i64 (.ofNat 0)), (.str []), (.int .i64 (.ofNat 0)), .nils, (.int .i64 (.ofNat 0)), (.int .i64 (.ofNat 0)), (.int .i64 (.ofNat 0)), (.int .i64 (.ofNat 0)), (.int .u64 (.ofNat 0)), (.bool false), (.str []), (.int .i64 (.ofNat 0)), (.int .i64 (.ofNat 0)), (.int .i64 (.ofNat 0)), (.int .i64 (.ofNat 0)), .nilp, (.bool false)] [(0, 1, (.t 44)), (1, 14, (.t 45)), (15, 1, (.t 46))]),
 n 48 (.box (.t 47)),
 m 6 48])
  (.seq (.region [m 49 0,
 m 50 0,
 o 51 (.nilck (.t 50)),
 o 52 (.faddr 11 (.t 51)),
 o 53 (.load false 1 (.t 52)),
 m 54 6,
 n 55 (.bslice 0 1 1 [.nilp] [(0, 1, (.t 54))]),
 e 56 (.app 0 1 8 (.t 53) (.t 55)),
 o 57 (.nilck (.t 49)),
 o 58 (.faddr 11 (.t 57)),
 x (.store 1 (.t 58) (.t 56))])
  (.seq (.region [m 59 4,
 m 60 0,
 e 61 (.call 91 [(.t 60)]),
 e 62 (.call 157 [(.t 59), (.t 61)])])
  (.region [m 63 0,
 m 64 6,
 e 65 (.call 92 [(.t 63), (.t 64)])]))))))))) }
theorem tr101 : trF cx Tryz.f101 = pf101 := by kernel_rfl
/-- (*depot/net.Net).Send -/
def pf102 : PF := { ntmps := 21, results := [.tmp 4], body :=
  (.seq (.region [n 3 (.box (.t 1)),
 o 4 (.mv (.c (.bool false)))])
  (.seq (.seq (.region [m 5 0,
 o 6 (.nilck (.t 5)),
 o 7 (.faddr 0 (.t 6)),
 o 8 (.load false 1 (.t 7)),
 o 9 (.lensl (.t 8)),
 o 10 (.bin .geq (.t 9) (ci 4000))])
  (.cond (.t 10)
   (.seq (.region [o 4 (.mv (.c (.bool false)))])
   .ret)
   .skip))
  (.seq (.region [m 11 0,
 m 12 0,
 o 13 (.nilck (.t 12)),
 o 14 (.faddr 0 (.t 13)),
 o 15 (.load false 1 (.t 14)),
 o 16 (.load true 9 (.t 3)),
 n 17 (.bslice 0 9 1 [(.int .i64 (.ofNat 0)), (.int .i64 (.ofNat 0)), (.int .i64 (.ofNat 0)), (.int .i64 (.ofNat 0)), (.int .i64 (.ofNat 0)), (.int .i64 (.ofNat 0)), (.str []), (.int .i64 (.ofNat 0)), (.str [])] [(0, 9, (.t 16))]),
 e 18 (.app 0 9 88 (.t 15) (.t 17)),
 o 19 (.nilck (.t 11)),
 o 20 (.faddr 0 (.t 19)),
 x (.store 1 (.t 20) (.t 18))])
  (.seq (.region [o 4 (.mv (.c (.bool true)))])
  .ret)))) }
theorem tr102 : trF cx Tryz.f102 = pf102 := by kernel_rfl
/-- (*depot/cluster.conn).say -/
def pf103 : PF := { ntmps := 49, results := [], body :=
  (.block 0 (.loop (.seq (.seq (.region [m 3 0,
 o 4 (.nilck (.t 3)),
 o 5 (.faddr 1 (.t 4)),
 o 6 (.load false 1 (.t 5)),
 o 7 (.lensl (.t 6)),
 o 8 (.bin .gtr (.t 7) (ci 0)),
 m 9 8,
 gm 10 9 true 0,
 go 11 9 true (.nilck (.t 10)),
 go 12 9 true (.faddr 1 (.t 11)),
 go 13 9 true (.load false 1 (.t 12)),
 go 14 9 true (.iasl 20 (.t 13) (ci 0)),
 go 15 9 true (.faddr 19 (.t 14)),
 go 16 9 true (.load false 1 (.t 15)),
 go 17 9 true (.bin .eql (.t 16) (ci 1)),
 o 18 (.pick (.t 9) (.t 17) (.c (.bool false)))])
    (.cond (.t 18)
     .skip
     (.exit 0)))
    (.block 1 (.seq (.region [m 19 0,
 o 20 (.nilck (.t 19)),
 o 21 (.faddr 1 (.t 20)),
 o 22 (.load false 1 (.t 21)),
 o 23 (.iasl 20 (.t 22) (ci 0)),
 o 24 (.load true 20 (.t 23)),
 n 2 (.new 0 [(.int .i64 (.ofNat 0)), (.int .i64 (.ofNat 0)), .nils, (.int .i64 (.ofNat 0)), (.int .i64 (.ofNat 0)), (.int .i64 (.ofNat 0)), (.int .i64 (.ofNat 0)), (.int .u64 (.ofNat 0)), (.bool false), (.str []), (.int .i64 (.ofNat 0)), .nils, (.bool false), (.int .u64 (.ofNat 0)), (.str []), (.int .i64 (.ofNat 0)), (.int .i64 (.ofNat 0)), (.int .i64 (.ofNat 0)), (.int .i64 (.ofNat 0)), (.int .i64 (.ofNat 0))]),
 x (.store 20 (.t 2) (.t 24))])
     (.seq (.region [m 25 0,
 m 26 0,
 o 27 (.nilck (.t 26)),
 o 28 (.faddr 1 (.t 27)),
 o 29 (.load false 1 (.t 28)),
 o 30 (.slsl 20 (.t 29) (some (ci 1)) none none),
 o 31 (.nilck (.t 25)),
 o 32 (.faddr 1 (.t 31)),
 x (.store 1 (.t 32) (.t 30))])
     (.seq (.region [o 33 (.faddr 1 (.t 2)),
 o 34 (.load true 9 (.t 33)),
 o 35 (.faddr 10 (.t 2)),
 o 36 (.load true 9 (.t 35)),
 e 37 (.call 158 [(.t 34), (.t 36)]),
 o 38 (.un .not (.t 37))])
     (.cond (.t 38)
      (.region [m 39 0,
 o 40 (.nilck (.t 39)),
 o 41 (.faddr 2 (.t 40)),
 o 42 (.load false 1 (.t 41)),
 o 43 (.faddr 10 (.t 2)),
 o 44 (.load true 9 (.t 43)),
 e 45 (.call 159 [(.t 44)]),
 .again ⟨(some 42), none, (.r (.load false 1 (.t 41)))⟩,
 o 46 (.bin .add (.t 42) (.t 45)),
 o 47 (.nilck (.t 39)),
 o 48 (.faddr 2 (.t 47)),
 x (.store 1 (.t 48) (.t 46))])
      .skip)))))))) }
theorem tr103 : trF cx Tryz.f103 = pf103 := by kernel_rfl
/-- (*depot/parse.Parser).Shut -/
def pf104 : PF := { ntmps := 7, results := [.tmp 2], body :=
  (.seq (.region [o 2 (.mv (.c (.bool false)))])
  (.seq (.region [m 3 0,
 o 4 (.nilck (.t 3)),
 o 5 (.faddr 12 (.t 4)),
 o 6 (.load false 1 (.t 5)),
 m 2 6])
  .ret)) }
theorem tr104 : trF cx Tryz.f104 = pf104 := by kernel_rfl
/-- (*depot/parse.Parser).Feed -/
def pf105 : PF := { ntmps := 54, results := [.tmp 4], body :=
  (.seq (.region [o 4 (.mv (.c .nils))])
  (.scope (.seq (.seq (.region [m 7 0,
 o 8 (.nilck (.t 7)),
 o 9 (.faddr 12 (.t 8)),
 o 10 (.load false 1 (.t 9))])
   (.cond (.t 10)
    (.seq (.region [o 4 (.mv (.c .nils))])
    .ret)
    .skip))
   (.seq (.region [m 11 0,
 o 12 (.nilck (.t 11)),
 o 13 (.faddr 1 (.t 12)),
 o 14 (.load false 1 (.t 13)),
 m 15 1,
 o 16 (.bin .add (.t 14) (.t 15)),
 o 17 (.nilck (.t 11)),
 o 18 (.faddr 1 (.t 17)),
 x (.store 1 (.t 18) (.t 16))])
   (.seq .skip
   (.seq (.block 0 (.loop (.seq (.seq (.region [m 19 0,
 o 20 (.nilck (.t 19)),
 o 21 (.faddr 12 (.t 20)),
 o 22 (.load false 1 (.t 21)),
 o 23 (.un .not (.t 22))])
     (.cond (.t 23)
      .skip
      (.exit 0)))
     (.block 1 (.seq (.region [o 5 (.mv (.c (.bool false)))])
      (.seq (.seq (.region [m 24 0,
 o 25 (.nilck (.t 24)),
 o 26 (.faddr 0 (.t 25)),
 o 27 (.load false 1 (.t 26))])
      (.block 2 (.seq (.region [o 29 (.bin .eql (.t 27) (ci 0)),
 m 28 29])
       (.cond (.t 28)
        (.region [m 30 0,
 e 31 (.call 160 [(.t 30)]),
 m 5 31])
        (.seq (.region [o 33 (.bin .eql (.t 27) (ci 1)),
 m 32 33])
        (.cond (.t 32)
         (.region [m 34 0,
 o 35 (.bad),
 m 5 35])
         (.seq (.region [o 37 (.bin .eql (.t 27) (ci 2)),
 m 36 37])
         (.cond (.t 36)
          (.region [m 38 0,
 o 39 (.bad),
 m 5 39])
          (.seq (.region [o 41 (.bin .eql (.t 27) (ci 3)),
 m 40 41])
          (.cond (.t 40)
           (.region [m 42 0,
 o 43 (.bad),
 m 5 43])
           .skip))))))))))
      (.seq (.region [m 44 5,
 o 45 (.un .not (.t 44))])
      (.cond (.t 45)
       (.exit 0)
       .skip))))))))
   (.seq (.region [m 46 0,
 o 47 (.nilck (.t 46)),
 o 48 (.faddr 13 (.t 47)),
 o 49 (.load false 1 (.t 48)),
 m 6 49])
   (.seq (.region [m 50 0,
 o 51 (.nilck (.t 50)),
 o 52 (.faddr 13 (.t 51)),
 x (.store 1 (.t 52) (.c .nils))])
   (.seq (.region [m 53 6,
 m 4 53])
   .ret))))))))) }
theorem tr105 : trF cx Tryz.f105 = pf105 := by kernel_rfl
/-- (*depot/net.Net).Copy -/
def pf106 : PF := { ntmps := 25, results := [.cell 4 true 9, .tmp 5], body :=
  (.seq (.region [n 4 (.new 0 [(.int .i64 (.ofNat 0)), (.int .i64 (.ofNat 0)), (.int .i64 (.ofNat 0)), (.int .i64 (.ofNat 0)), (.int .i64 (.ofNat 0)), (.int .i64 (.ofNat 0)), (.str []), (.int .i64 (.ofNat 0)), (.str [])]),
 o 5 (.mv (.c (.bool false)))])
  (.seq (.seq (.region [m 6 1,
 o 7 (.bin .lss (.t 6) (ci 0)),
 m 8 7,
 gm 9 8 false 1,
 gm 10 8 false 0,
 go 11 8 false (.nilck (.t 10)),
 go 12 8 false (.faddr 0 (.t 11)),
 go 13 8 false (.load false 1 (.t 12)),
 go 14 8 false (.lensl (.t 13)),
 go 15 8 false (.bin .geq (.t 9) (.t 14)),
 o 16 (.pick (.t 8) (.c (.bool true)) (.t 15))])
  (.cond (.t 16)
   (.seq (.region [o 17 (.build [(.int .i64 (.ofNat 0)), (.int .i64 (.ofNat 0)), (.int .i64 (.ofNat 0)), (.int .i64 (.ofNat 0)), (.int .i64 (.ofNat 0)), (.int .i64 (.ofNat 0)), (.str []), (.int .i64 (.ofNat 0)), (.str [])] []),
 x (.store 9 (.t 4) (.t 17)),
 o 5 (.mv (.c (.bool false)))])
   .ret)
   .skip))
  (.seq (.region [m 18 0,
 o 19 (.nilck (.t 18)),
 o 20 (.faddr 0 (.t 19)),
 o 21 (.load false 1 (.t 20)),
 m 22 1,
 o 23 (.iasl 9 (.t 21) (.t 22)),
 o 24 (.load true 9 (.t 23)),
 x (.store 9 (.t 4) (.t 24)),
 o 5 (.mv (.c (.bool true)))])
  .ret))) }
theorem tr106 : trF cx Tryz.f106 = pf106 := by kernel_rfl
/-- (*depot/net.Net).Drop -/
def pf107 : PF := { ntmps := 26, results := [.tmp 4], body :=
  (.seq (.region [o 4 (.mv (.c (.bool false)))])
  (.seq (.region [m 8 0,
 m 9 1,
 e 10 (.call 106 [(.t 8), (.t 9)]),
 m 7 10,
 o 11 (.ext 0 (.t 7)),
 o 12 (.ext 1 (.t 7)),
 n 5 (.new 0 [(.int .i64 (.ofNat 0)), (.int .i64 (.ofNat 0)), (.int .i64 (.ofNat 0)), (.int .i64 (.ofNat 0)), (.int .i64 (.ofNat 0)), (.int .i64 (.ofNat 0)), (.str []), (.int .i64 (.ofNat 0)), (.str [])]),
 x (.store 9 (.t 5) (.t 11)),
 m 6 12])
  (.seq (.seq (.region [m 13 6])
  (.cond (.t 13)
   (.region [m 14 0,
 m 15 0,
 o 16 (.nilck (.t 15)),
 o 17 (.faddr 0 (.t 16)),
 o 18 (.load false 1 (.t 17)),
 m 19 1,
 m 20 1,
 o 21 (.bin .add (.t 20) (ci 1)),
 e 22 (.call 164 [(.t 18), (.t 19), (.t 21)]),
 o 23 (.nilck (.t 14)),
 o 24 (.faddr 0 (.t 23)),
 x (.store 1 (.t 24) (.t 22))])
   .skip))
  (.seq (.region [m 25 6,
 m 4 25])
  .ret)))) }
theorem tr107 : trF cx Tryz.f107 = pf107 := by kernel_rfl
/-- (*depot/ask.Asks).Tick -/
def pf108 : PF := { ntmps := 79, results := [.tmp 2, .tmp 3], body :=
  (.seq (.region [o 2 (.mv (.c .nils)),
 o 3 (.mv (.c .nils))])
  (.seq (.region [o 4 (.mv (.c .nils))])
  (.seq (.region [o 5 (.mv (.c .nils))])
  (.seq (.seq (.region [m 9 0,
 o 10 (.nilck (.t 9)),
 o 11 (.faddr 0 (.t 10)),
 o 12 (.load false 1 (.t 11)),
 o 13 (.lensl (.t 12)),
 o 14 (.mv (ci 0))])
  (.block 0 (.loop (.seq (.region [o 15 (.bin .lss (.t 14) (.t 13))])
    (.seq (.cond (.t 15)
     .skip
     (.exit 0))
    (.seq (.block 1 (.seq (.region [m 16 14,
 m 6 16])
     (.seq (.region [m 17 0,
 o 18 (.nilck (.t 17)),
 o 19 (.faddr 0 (.t 18)),
 o 20 (.load false 1 (.t 19)),
 m 21 6,
 o 22 (.iasl 10 (.t 20) (.t 21)),
 m 7 22])
     (.seq (.region [m 23 7,
 o 24 (.nilck (.t 23)),
 o 25 (.faddr 9 (.t 24)),
 o 26 (.load false 1 (.t 25)),
 o 27 (.bin .add (.t 26) (ci 1)),
 o 28 (.nilck (.t 23)),
 o 29 (.faddr 9 (.t 28)),
 x (.store 1 (.t 29) (.t 27))])
     (.seq (.seq (.region [m 30 7,
 o 31 (.nilck (.t 30)),
 o 32 (.faddr 9 (.t 31)),
 o 33 (.load false 1 (.t 32)),
 o 34 (.bin .rem (.t 33) (ci 4)),
 o 35 (.bin .eql (.t 34) (ci 0))])
     (.cond (.t 35)
      (.seq (.region [m 36 7,
 o 37 (.nilck (.t 36)),
 o 38 (.faddr 0 (.t 37)),
 o 39 (.load true 9 (.t 38)),
 n 8 (.new 0 [(.int .i64 (.ofNat 0)), (.int .i64 (.ofNat 0)), (.int .i64 (.ofNat 0)), (.int .i64 (.ofNat 0)), (.int .i64 (.ofNat 0)), (.int .i64 (.ofNat 0)), (.str []), (.int .i64 (.ofNat 0)), (.str [])]),
 x (.store 9 (.t 8) (.t 39))])
      (.seq (.region [m 40 0,
 o 41 (.faddr 1 (.t 8)),
 o 42 (.load false 1 (.t 41)),
 o 43 (.faddr 3 (.t 8)),
 o 44 (.load false 1 (.t 43)),
 e 45 (.call 165 [(.t 40), (.t 42), (.t 44)]),
 o 46 (.faddr 4 (.t 8)),
 x (.store 1 (.t 46) (.t 45))])
      (.region [m 47 4,
 o 48 (.load true 9 (.t 8)),
 n 49 (.bslice 0 9 1 [(.int .i64 (.ofNat 0)), (.int .i64 (.ofNat 0)), (.int .i64 (.ofNat 0)), (.int .i64 (.ofNat 0)), (.int .i64 (.ofNat 0)), (.int .i64 (.ofNat 0)), (.str []), (.int .i64 (.ofNat 0)), (.str [])] [(0, 9, (.t 48))]),
 e 50 (.app 0 9 88 (.t 47) (.t 49)),
 m 4 50])))
      .skip))
     (.seq (.region [m 51 7,
 o 52 (.nilck (.t 51)),
 o 53 (.faddr 9 (.t 52)),
 o 54 (.load false 1 (.t 53)),
 o 55 (.bin .geq (.t 54) (ci 40)),
 m 56 55,
 gm 57 56 true 5,
 gm 58 56 true 7,
 go 59 56 true (.nilck (.t 58)),
 go 60 56 true (.faddr 0 (.t 59)),
 go 61 56 true (.faddr 1 (.t 60)),
 go 62 56 true (.load false 1 (.t 61)),
 .op ⟨(some 63), (some (56, true)), (.e (.call 155 [(.t 57), (.t 62)]))⟩,
 go 64 56 true (.un .not (.t 63)),
 o 65 (.pick (.t 56) (.t 64) (.c (.bool false)))])
     (.cond (.t 65)
      (.region [m 66 5,
 m 67 7,
 o 68 (.nilck (.t 67)),
 o 69 (.faddr 0 (.t 68)),
 o 70 (.faddr 1 (.t 69)),
 o 71 (.load false 1 (.t 70)),
 n 72 (.bslice 0 1 1 [(.int .i64 (.ofNat 0))] [(0, 1, (.t 71))]),
 e 73 (.app 0 1 8 (.t 66) (.t 72)),
 m 5 73])
      .skip)))))))
    (.region [o 74 (.bin .add (.t 14) (ci 1)),
 m 14 74])))))))
  (.seq (.region [m 75 5,
 e 76 (.call 166 [(.t 75)])])
  (.seq (.region [m 77 4,
 m 78 5,
 m 2 77,
 m 3 78])
  .ret)))))) }
theorem tr108 : trF cx Tryz.f108 = pf108 := by kernel_rfl
/-- slices.Clone[[]string,string] -/
def pf109 : PF := { ntmps := 8, results := [.tmp 2], body :=
  (.seq (.region [o 2 (.mv (.c .nils))])
  (.seq (.seq (.region [m 3 0,
 o 4 (.eqv false .s (.t 3) (.c .nils))])
  (.cond (.t 4)
   (.seq (.region [o 2 (.mv (.c .nils))])
   .ret)
   .skip))
  (.seq (.region [n 5 (.bslice 0 1 0 [] []),
 m 6 0,
 e 7 (.app 0 1 16 (.t 5) (.t 6)),
 m 2 7])
  .ret))) }
theorem tr109 : trF cx Tryz.f109 = pf109 := by kernel_rfl
/-- slices.Clone[[]depot/api.Found,depot/api.Found] -/
def pf110 : PF := { ntmps := 8, results := [.tmp 2], body :=
  (.seq (.region [o 2 (.mv (.c .nils))])
  (.seq (.seq (.region [m 3 0,
 o 4 (.eqv false .s (.t 3) (.c .nils))])
  (.cond (.t 4)
   (.seq (.region [o 2 (.mv (.c .nils))])
   .ret)
   .skip))
  (.seq (.region [n 5 (.bslice 0 4 0 [] []),
 m 6 0,
 e 7 (.app 0 4 48 (.t 5) (.t 6)),
 m 2 7])
  .ret))) }
theorem tr110 : trF cx Tryz.f110 = pf110 := by kernel_rfl
theorem tr118 : trF cx Tryz.f118 = Mk.pf := by kernel_rfl
/-- depot/matrix.Cauchy -/
def pf119 : PF := { ntmps := 58, results := [.tmp 6], body :=
  (.seq (.region [o 6 (.mv (.c .nils))])
  (.seq (.seq (.region [m 11 1,
 o 12 (.bin .lss (.t 11) (ci 1)),
 m 13 12,
 gm 14 13 false 1,
 go 15 13 false (.bin .gtr (.t 14) (ci 8)),
 o 16 (.pick (.t 13) (.c (.bool true)) (.t 15)),
 m 17 16,
 gm 18 17 false 2,
 go 19 17 false (.bin .lss (.t 18) (ci 0)),
 o 20 (.pick (.t 17) (.c (.bool true)) (.t 19)),
 m 21 20,
 gm 22 21 false 2,
 gm 23 21 false 1,
 go 24 21 false (.bin .sub (ci 12) (.t 23)),
 go 25 21 false (.bin .gtr (.t 22) (.t 24)),
 o 26 (.pick (.t 21) (.c (.bool true)) (.t 25))])
  (.cond (.t 26)
   (.seq (.region [o 6 (.mv (.c .nils))])
   .ret)
   .skip))
  (.seq (.region [m 27 1,
 e 28 (.call 176 [(.t 27)]),
 m 7 28])
  (.seq (.seq (.region [m 29 2,
 o 30 (.mv (ci 0))])
  (.block 0 (.loop (.seq (.region [o 31 (.bin .lss (.t 30) (.t 29))])
    (.seq (.cond (.t 31)
     .skip
     (.exit 0))
    (.seq (.block 1 (.seq (.region [m 32 30,
 m 8 32])
     (.seq (.region [m 33 1,
 n 34 (.mksl 2 1 1 [(.int .u8 (.ofNat 0))] (.t 33) (.t 33)),
 m 9 34])
     (.seq (.seq (.region [m 35 9,
 o 36 (.lensl (.t 35)),
 o 37 (.mv (ci 0))])
     (.block 2 (.loop (.seq (.region [o 38 (.bin .lss (.t 37) (.t 36))])
       (.seq (.cond (.t 38)
        .skip
        (.exit 2))
       (.seq (.block 3 (.seq (.region [m 39 37,
 m 10 39])
        (.region [m 40 9,
 m 41 10,
 m 42 0,
 m 43 1,
 m 44 8,
 o 45 (.bin .add (.t 43) (.t 44)),
 m 46 10,
 o 47 (.bin .xor (.t 45) (.t 46)),
 o 48 (.cint .u8 (.t 47)),
 e 49 (.call 177 [(.t 42), (.t 48)]),
 o 50 (.iasl 1 (.t 40) (.t 41)),
 x (.store 1 (.t 50) (.t 49))])))
       (.region [o 51 (.bin .add (.t 37) (ci 1)),
 m 37 51])))))))
     (.region [m 52 7,
 m 53 9,
 n 54 (.bslice 0 1 1 [.nils] [(0, 1, (.t 53))]),
 e 55 (.app 0 1 24 (.t 52) (.t 54)),
 m 7 55])))))
    (.region [o 56 (.bin .add (.t 30) (ci 1)),
 m 30 56])))))))
  (.seq (.region [m 57 7,
 m 6 57])
  .ret))))) }
theorem tr119 : trF cx Tryz.f119 = pf119 := by kernel_rfl
/-- (*depot/ask.Asks).Begin -/
def pf120 : PF := { ntmps := 48, results := [.cell 4 true 9, .tmp 5], body :=
  (.seq (.region [n 3 (.box (.t 1)),
 n 4 (.new 0 [(.int .i64 (.ofNat 0)), (.int .i64 (.ofNat 0)), (.int .i64 (.ofNat 0)), (.int .i64 (.ofNat 0)), (.int .i64 (.ofNat 0)), (.int .i64 (.ofNat 0)), (.str []), (.int .i64 (.ofNat 0)), (.str [])]),
 o 5 (.mv (.c (.bool false)))])
  (.seq (.region [m 6 0,
 o 7 (.nilck (.t 6)),
 o 8 (.faddr 1 (.t 7)),
 o 9 (.load false 1 (.t 8)),
 o 10 (.bin .add (.t 9) (ci 1)),
 o 11 (.faddr 3 (.t 3)),
 x (.store 1 (.t 11) (.t 10)),
 o 12 (.faddr 4 (.t 3)),
 x (.store 1 (.t 12) (ci 0))])
  (.seq (.seq (.region [o 13 (.load true 9 (.t 3)),
 e 14 (.call 33 [(.t 13)]),
 o 15 (.un .not (.t 14)),
 m 16 15,
 go 17 16 false (.faddr 0 (.t 3)),
 go 18 16 false (.load false 1 (.t 17)),
 go 19 16 false (.bin .geq (.t 18) (ci 6)),
 o 20 (.pick (.t 16) (.c (.bool true)) (.t 19))])
  (.cond (.t 20)
   (.seq (.region [o 21 (.build [(.int .i64 (.ofNat 0)), (.int .i64 (.ofNat 0)), (.int .i64 (.ofNat 0)), (.int .i64 (.ofNat 0)), (.int .i64 (.ofNat 0)), (.int .i64 (.ofNat 0)), (.str []), (.int .i64 (.ofNat 0)), (.str [])] []),
 x (.store 9 (.t 4) (.t 21)),
 o 5 (.mv (.c (.bool false)))])
   .ret)
   .skip))
  (.seq (.region [m 22 0,
 o 23 (.nilck (.t 22)),
 o 24 (.faddr 1 (.t 23)),
 o 25 (.load false 1 (.t 24)),
 o 26 (.bin .add (.t 25) (ci 1)),
 o 27 (.nilck (.t 22)),
 o 28 (.faddr 1 (.t 27)),
 x (.store 1 (.t 28) (.t 26))])
  (.seq (.region [m 29 0,
 o 30 (.faddr 1 (.t 3)),
 o 31 (.load false 1 (.t 30)),
 o 32 (.faddr 3 (.t 3)),
 o 33 (.load false 1 (.t 32)),
 e 34 (.call 165 [(.t 29), (.t 31), (.t 33)]),
 o 35 (.faddr 4 (.t 3)),
 x (.store 1 (.t 35) (.t 34))])
  (.seq (.region [m 36 0,
 m 37 0,
 o 38 (.nilck (.t 37)),
 o 39 (.faddr 0 (.t 38)),
 o 40 (.load false 1 (.t 39)),
 o 41 (.load true 9 (.t 3)),
 o 42 (.build [(.int .i64 (.ofNat 0)), (.int .i64 (.ofNat 0)), (.int .i64 (.ofNat 0)), (.int .i64 (.ofNat 0)), (.int .i64 (.ofNat 0)), (.int .i64 (.ofNat 0)), (.str []), (.int .i64 (.ofNat 0)), (.str []), (.int .i64 (.ofNat 0))] [(0, 9, (.t 41))]),
 n 43 (.bslice 0 10 1 [(.int .i64 (.ofNat 0)), (.int .i64 (.ofNat 0)), (.int .i64 (.ofNat 0)), (.int .i64 (.ofNat 0)), (.int .i64 (.ofNat 0)), (.int .i64 (.ofNat 0)), (.str []), (.int .i64 (.ofNat 0)), (.str []), (.int .i64 (.ofNat 0))] [(0, 10, (.t 42))]),
 e 44 (.app 0 10 96 (.t 40) (.t 43)),
 o 45 (.nilck (.t 36)),
 o 46 (.faddr 0 (.t 45)),
 x (.store 1 (.t 46) (.t 44))])
  (.seq (.region [o 47 (.load true 9 (.t 3)),
 x (.store 9 (.t 4) (.t 47)),
 o 5 (.mv (.c (.bool true)))])
  .ret))))))) }
theorem tr120 : trF cx Tryz.f120 = pf120 := by kernel_rfl
/-- (*depot/item.Store).Keys -/
def pf121 : PF := { ntmps := 34, results := [.tmp 2], body :=
  (.seq (.region [o 2 (.mv (.c .nils))])
  (.seq (.region [o 3 (.mv (.c .nils))])
  (.seq (.seq (.region [m 5 0,
 o 6 (.nilck (.t 5)),
 o 7 (.faddr 2 (.t 6)),
 o 8 (.load false 1 (.t 7)),
 o 9 (.iasl 6 (.t 8) (ci 0)),
 o 10 (.faddr 4 (.t 9)),
 o 11 (.load false 1 (.t 10)),
 m 4 11])
  (.block 0 (.loop (.seq (.seq (.region [m 12 4,
 o 13 (.bin .neq (.t 12) (ci 0))])
    (.cond (.t 13)
     .skip
     (.exit 0)))
    (.seq (.block 1 (.region [m 22 3,
 m 23 0,
 o 24 (.nilck (.t 23)),
 o 25 (.faddr 2 (.t 24)),
 o 26 (.load false 1 (.t 25)),
 m 27 4,
 o 28 (.iasl 6 (.t 26) (.t 27)),
 o 29 (.faddr 0 (.t 28)),
 o 30 (.load false 1 (.t 29)),
 n 31 (.bslice 0 1 1 [(.str [])] [(0, 1, (.t 30))]),
 e 32 (.app 0 1 16 (.t 22) (.t 31)),
 m 3 32]))
    (.region [m 14 0,
 o 15 (.nilck (.t 14)),
 o 16 (.faddr 2 (.t 15)),
 o 17 (.load false 1 (.t 16)),
 m 18 4,
 o 19 (.iasl 6 (.t 17) (.t 18)),
 o 20 (.faddr 4 (.t 19)),
 o 21 (.load false 1 (.t 20)),
 m 4 21]))))))
  (.seq (.region [m 33 3,
 m 2 33])
  .ret)))) }
theorem tr121 : trF cx Tryz.f121 = pf121 := by kernel_rfl
/-- slices.Sort[[]string,string] -/
def pf122 : PF := { ntmps := 11, results := [], body :=
  (.seq (.region [m 3 0,
 o 4 (.lensl (.t 3)),
 m 2 4])
  (.region [m 5 0,
 m 6 2,
 m 7 2,
 o 8 (.cint .u64 (.t 7)),
 e 9 (.call 179 [(.t 8)]),
 e 10 (.call 178 [(.t 5), (ci 0), (.t 6), (.t 9)])])) }
theorem tr122 : trF cx Tryz.f122 = pf122 := by kernel_rfl
/-- (*depot/item.Store).Get -/
def pf124 : PF := { ntmps := 34, results := [.tmp 4, .tmp 5], body :=
  (.seq (.region [o 4 (.mv (.c (.str []))),
 o 5 (.mv (.c (.bool false)))])
  (.seq (.region [m 11 0,
 m 12 1,
 e 13 (.call 180 [(.t 11), (.t 12)]),
 m 10 13,
 o 14 (.ext 0 (.t 10)),
 o 15 (.ext 1 (.t 10)),
 m 6 14,
 m 7 15])
  (.seq (.seq (.region [m 16 7])
  (.cond (.t 16)
   (.seq (.region [m 18 0,
 o 19 (.nilck (.t 18)),
 o 20 (.faddr 1 (.t 19)),
 o 21 (.load false 1 (.t 20)),
 m 22 1,
 e 23 (.call 136 [(.t 21), (.t 22)]),
 m 17 23,
 o 24 (.ext 0 (.t 17)),
 o 25 (.ext 1 (.t 17)),
 m 8 24,
 m 9 25])
   (.seq (.region [m 26 0,
 m 27 8,
 o 28 (.bad)])
   (.region [m 29 0,
 m 30 8,
 o 31 (.bad)])))
   .skip))
  (.seq (.region [m 32 6,
 m 33 7,
 m 4 32,
 m 5 33])
  .ret)))) }
theorem tr124 : trF cx Tryz.f124 = pf124 := by kernel_rfl
/-- depot/pack.Read -/
def pf125 : PF := { ntmps := 7, results := [.tmp 2], body :=
  (.seq (.region [o 2 (.mv (.c .nilp))])
  (.seq (.region [m 3 0,
 e 4 (.call 135 [(.t 3), (ci 0)]),
 o 5 (.build [.nils, (.int .i64 (.ofNat 0)), (.int .i64 (.ofNat 0))] [(0, 1, (.t 4))]),
 n 6 (.box (.t 5)),
 m 2 6])
  .ret)) }
theorem tr125 : trF cx Tryz.f125 = pf125 := by kernel_rfl
/-- (*depot/pack.Reader).Num -/
def pf126 : PF := { ntmps := 84, results := [.tmp 2], body :=
  (.seq (.region [o 2 (.mv (ci 0))])
  (.seq (.seq (.region [m 7 0,
 o 8 (.nilck (.t 7)),
 o 9 (.faddr 2 (.t 8)),
 o 10 (.load false 1 (.t 9)),
 o 11 (.bin .neq (.t 10) (ci 0))])
  (.cond (.t 11)
   (.seq (.region [o 2 (.mv (ci 0))])
   .ret)
   .skip))
  (.seq (.region [m 12 0,
 o 13 (.nilck (.t 12)),
 o 14 (.faddr 1 (.t 13)),
 o 15 (.load false 1 (.t 14)),
 m 3 15,
 o 4 (.mv (.c (.int .u64 (.ofNat 0))))])
  (.seq (.region [o 5 (.mv (ci 0))])
  (.block 0 (.loop (.seq (.block 1 (.seq (.seq (.region [m 18 0,
 o 19 (.nilck (.t 18)),
 o 20 (.faddr 1 (.t 19)),
 o 21 (.load false 1 (.t 20)),
 m 22 0,
 o 23 (.nilck (.t 22)),
 o 24 (.faddr 0 (.t 23)),
 o 25 (.load false 1 (.t 24)),
 o 26 (.lensl (.t 25)),
 o 27 (.bin .eql (.t 21) (.t 26))])
     (.cond (.t 27)
      (.seq (.region [m 28 0,
 m 29 3,
 e 30 (.call 182 [(.t 28), (.t 29), (ci 3)])])
      (.seq (.region [o 2 (.mv (ci 0))])
      .ret))
      .skip))
     (.seq (.region [m 31 0,
 o 32 (.nilck (.t 31)),
 o 33 (.faddr 0 (.t 32)),
 o 34 (.load false 1 (.t 33)),
 m 35 0,
 o 36 (.nilck (.t 35)),
 o 37 (.faddr 1 (.t 36)),
 o 38 (.load false 1 (.t 37)),
 o 39 (.iasl 1 (.t 34) (.t 38)),
 o 40 (.load false 1 (.t 39)),
 m 6 40])
     (.seq (.seq (.region [m 41 5,
 o 42 (.bin .gtr (.t 41) (ci 0)),
 m 43 42,
 gm 44 43 true 6,
 go 45 43 true (.bin .eql (.t 44) (.c (.int .u8 (.ofNat 0)))),
 o 46 (.pick (.t 43) (.t 45) (.c (.bool false))),
 m 47 46,
 gm 48 47 false 5,
 go 49 47 false (.bin .eql (.t 48) (ci 9)),
 gm 50 47 false 49,
 gm 51 50 true 6,
 go 52 50 true (.bin .gtr (.t 51) (.c (.int .u8 (.ofNat 1)))),
 go 53 47 false (.pick (.t 50) (.t 52) (.c (.bool false))),
 o 54 (.pick (.t 47) (.c (.bool true)) (.t 53))])
     (.cond (.t 54)
      (.seq (.region [m 55 0,
 m 56 3,
 e 57 (.call 182 [(.t 55), (.t 56), (ci 4)])])
      (.seq (.region [o 2 (.mv (ci 0))])
      .ret))
      .skip))
     (.seq (.region [m 58 0,
 o 59 (.nilck (.t 58)),
 o 60 (.faddr 1 (.t 59)),
 o 61 (.load false 1 (.t 60)),
 o 62 (.bin .add (.t 61) (ci 1)),
 o 63 (.nilck (.t 58)),
 o 64 (.faddr 1 (.t 63)),
 x (.store 1 (.t 64) (.t 62))])
     (.seq (.region [m 65 4,
 m 66 6,
 o 67 (.bin .and (.t 66) (.c (.int .u8 (.ofNat 127)))),
 o 68 (.cint .u64 (.t 67)),
 m 69 5,
 o 70 (.bin .mul (ci 7) (.t 69)),
 o 71 (.cint .u64 (.t 70)),
 o 72 (.bin .shl (.t 68) (.t 71)),
 o 73 (.bin .or (.t 65) (.t 72)),
 m 4 73])
     (.seq (.region [m 74 6,
 o 75 (.bin .lss (.t 74) (.c (.int .u8 (.ofNat 128))))])
     (.cond (.t 75)
      (.seq (.region [m 76 4,
 o 77 (.bin .shr (.t 76) (.c (.int .u64 (.ofNat 1)))),
 o 78 (.cint .i64 (.t 77)),
 m 79 4,
 o 80 (.bin .and (.t 79) (.c (.int .u64 (.ofNat 1)))),
 o 81 (.cint .i64 (.t 80)),
 o 82 (.un .neg (.t 81)),
 o 83 (.bin .xor (.t 78) (.t 82)),
 m 2 83])
      .ret)
      .skip))))))))
    (.region [m 16 5,
 o 17 (.bin .add (.t 16) (ci 1)),
 m 5 17])))))))) }
theorem tr126 : trF cx Tryz.f126 = pf126 := by kernel_rfl
/-- (*depot/pack.Reader).At -/
def pf127 : PF := { ntmps := 7, results := [.tmp 2], body :=
  (.seq (.region [o 2 (.mv (ci 0))])
  (.seq (.region [m 3 0,
 o 4 (.nilck (.t 3)),
 o 5 (.faddr 1 (.t 4)),
 o 6 (.load false 1 (.t 5)),
 m 2 6])
  .ret)) }
theorem tr127 : trF cx Tryz.f127 = pf127 := by kernel_rfl
/-- depot/pack.grown -/
def pf135 : PF := { ntmps := 12, results := [.tmp 4], body :=
  (.seq (.region [o 4 (.mv (.c .nils))])
  (.seq (.region [m 5 0,
 o 6 (.lensl (.t 5)),
 m 7 1,
 o 8 (.bin .add (.t 6) (.t 7)),
 n 9 (.mksl 2 1 1 [(.int .u8 (.ofNat 0))] (ci 0) (.t 8)),
 m 10 0,
 e 11 (.app 2 1 1 (.t 9) (.t 10)),
 m 4 11])
  .ret)) }
theorem tr135 : trF cx Tryz.f135 = pf135 := by kernel_rfl
/-- (*depot/chain.Chain).Get -/
def pf136 : PF := { ntmps := 23, results := [.tmp 4, .tmp 5], body :=
  (.seq (.region [o 4 (.mv (ci 0)),
 o 5 (.mv (.c (.bool false)))])
  (.seq (.region [m 8 0,
 m 9 1,
 e 10 (.call 186 [(.t 8), (.t 9)]),
 o 11 (.nilck (.t 10)),
 o 12 (.load false 1 (.t 11)),
 m 6 12])
  (.seq (.seq (.region [m 13 6,
 m 14 1,
 e 15 (.call 187 [(.t 13), (.t 14)]),
 m 7 15])
  (.seq (.region [m 16 7,
 o 17 (.bin .geq (.t 16) (ci 0))])
  (.cond (.t 17)
   (.seq (.region [m 18 6,
 m 19 7,
 o 20 (.iasl 2 (.t 18) (.t 19)),
 o 21 (.faddr 1 (.t 20)),
 o 22 (.load false 1 (.t 21)),
 m 4 22,
 o 5 (.mv (.c (.bool true)))])
   .ret)
   .skip)))
  (.seq (.region [o 4 (.mv (ci 0)),
 o 5 (.mv (.c (.bool false)))])
  .ret)))) }
theorem tr136 : trF cx Tryz.f136 = pf136 := by kernel_rfl
/-- slices.IndexFunc[[]depot/router.owner,depot/router.owner] -/
def pf137 : PF := { ntmps := 19, results := [.tmp 4], body :=
  (.seq (.region [o 4 (.mv (ci 0))])
  (.seq (.seq (.region [m 6 0,
 o 7 (.lensl (.t 6)),
 o 8 (.mv (ci 0))])
  (.block 0 (.loop (.seq (.region [o 9 (.bin .lss (.t 8) (.t 7))])
    (.seq (.cond (.t 9)
     .skip
     (.exit 0))
    (.seq (.block 1 (.seq (.region [m 10 8,
 m 5 10])
     (.seq (.region [m 11 1,
 m 12 0,
 m 13 5,
 o 14 (.iasl 6 (.t 12) (.t 13)),
 o 15 (.load true 6 (.t 14)),
 e 16 (.callv (.t 11) [(.t 15)])])
     (.cond (.t 16)
      (.seq (.region [m 17 5,
 m 4 17])
      .ret)
      .skip))))
    (.region [o 18 (.bin .add (.t 8) (ci 1)),
 m 8 18])))))))
  (.seq (.region [o 4 (.mv (.c (.int .i64 (.negSucc 0))))])
  .ret))) }
theorem tr137 : trF cx Tryz.f137 = pf137 := by kernel_rfl
/-- (*depot/router.Router).owned$1 -/
def pf138 : PF := { ntmps := 8, results := [.tmp 3], body :=
  (.seq (.region [n 2 (.box (.t 0)),
 o 3 (.mv (.c (.bool false)))])
  (.seq (.region [o 4 (.faddr 0 (.t 2)),
 o 5 (.load false 1 (.t 4)),
 o 6 (.load false 1 (.t 1)),
 o 7 (.bin .eql (.t 5) (.t 6)),
 m 3 7])
  .ret)) }
theorem tr138 : trF cx Tryz.f138 = pf138 := by kernel_rfl
/-- slices.Delete[[]depot/router.owner,depot/router.owner] -/
def pf139 : PF := { ntmps := 33, results := [.tmp 6], body :=
  (.seq (.region [o 6 (.mv (.c .nils))])
  (.seq (.region [m 8 0,
 m 9 1,
 m 10 2,
 m 11 0,
 o 12 (.lensl (.t 11)),
 o 13 (.slsl 6 (.t 8) (some (.t 9)) (some (.t 10)) (some (.t 12)))])
  (.seq (.seq (.region [m 14 1,
 m 15 2,
 o 16 (.bin .eql (.t 14) (.t 15))])
  (.cond (.t 16)
   (.seq (.region [m 17 0,
 m 6 17])
   .ret)
   .skip))
  (.seq (.region [m 18 0,
 o 19 (.lensl (.t 18)),
 m 7 19])
  (.seq (.region [m 20 0,
 m 21 1,
 o 22 (.slsl 6 (.t 20) none (some (.t 21)) none),
 m 23 0,
 m 24 2,
 o 25 (.slsl 6 (.t 23) (some (.t 24)) none none),
 e 26 (.app 0 6 48 (.t 22) (.t 25)),
 m 0 26])
  (.seq (.region [m 27 0,
 m 28 0,
 o 29 (.lensl (.t 28)),
 m 30 7,
 o 31 (.slsl 6 (.t 27) (some (.t 29)) (some (.t 30)) none),
 x (.clear [(.int .i64 (.ofNat 0)), (.int .i64 (.ofNat 0)), (.int .i64 (.ofNat 0)), (.bool false), (.int .i64 (.ofNat 0)), (.int .i64 (.ofNat 0))] (.t 31))])
  (.seq (.region [m 32 0,
 m 6 32])
  .ret))))))) }
theorem tr139 : trF cx Tryz.f139 = pf139 := by kernel_rfl
/-- slices.Clone[[]int,int] -/
def pf140 : PF := { ntmps := 8, results := [.tmp 2], body :=
  (.seq (.region [o 2 (.mv (.c .nils))])
  (.seq (.seq (.region [m 3 0,
 o 4 (.eqv false .s (.t 3) (.c .nils))])
  (.cond (.t 4)
   (.seq (.region [o 2 (.mv (.c .nils))])
   .ret)
   .skip))
  (.seq (.region [n 5 (.bslice 0 1 0 [] []),
 m 6 0,
 e 7 (.app 0 1 8 (.t 5) (.t 6)),
 m 2 7])
  .ret))) }
theorem tr140 : trF cx Tryz.f140 = pf140 := by kernel_rfl
/-- depot/task.GetRecord -/
def pf141 : PF := { ntmps := 60, results := [.cell 2 true 5, .tmp 3], body :=
  (.seq (.region [n 2 (.new 0 [(.int .i64 (.ofNat 0)), (.int .i64 (.ofNat 0)), (.int .i64 (.ofNat 0)), (.int .i64 (.ofNat 0)), (.int .i64 (.ofNat 0))]),
 o 3 (.mv (.c (.bool false)))])
  (.seq (.region [m 9 0,
 n 10 (.s2b (.t 9)),
 e 11 (.call 125 [(.t 10)]),
 m 4 11])
  (.seq (.region [n 5 (.new 0 [(.int .i64 (.ofNat 0)), (.int .i64 (.ofNat 0)), (.int .i64 (.ofNat 0)), (.int .i64 (.ofNat 0)), (.int .i64 (.ofNat 0))])])
  (.seq (.seq (.region [o 12 (.faddr 0 (.t 5)),
 o 13 (.faddr 1 (.t 5)),
 o 14 (.faddr 2 (.t 5)),
 o 15 (.faddr 3 (.t 5)),
 o 16 (.faddr 4 (.t 5)),
 n 17 (.bslice 0 1 5 [.nilp, .nilp, .nilp, .nilp, .nilp] [(0, 1, (.t 12)), (1, 1, (.t 13)), (2, 1, (.t 14)), (3, 1, (.t 15)), (4, 1, (.t 16))]),
 o 18 (.lensl (.t 17)),
 o 19 (.mv (ci 0))])
  (.block 0 (.loop (.seq (.region [o 20 (.bin .lss (.t 19) (.t 18))])
    (.seq (.cond (.t 20)
     .skip
     (.exit 0))
    (.seq (.block 1 (.seq (.region [o 21 (.iasl 1 (.t 17) (.t 19)),
 o 22 (.load false 1 (.t 21)),
 m 7 22])
     (.region [m 23 7,
 m 24 4,
 e 25 (.call 126 [(.t 24)]),
 o 26 (.nilck (.t 23)),
 x (.store 1 (.t 26) (.t 25))])))
    (.region [o 27 (.bin .add (.t 19) (ci 1)),
 m 19 27])))))))
  (.seq (.region [m 28 4,
 e 29 (.call 188 [(.t 28)]),
 o 30 (.bin .eql (.t 29) (ci 0)),
 m 31 30,
 go 32 31 true (.faddr 0 (.t 5)),
 go 33 31 true (.load false 1 (.t 32)),
 .op ⟨(some 34), (some (31, true)), (.e (.call 70 [(.t 33), (ci 0), (ci 1099511627776)]))⟩,
 o 35 (.pick (.t 31) (.t 34) (.c (.bool false))),
 m 36 35,
 go 37 36 true (.faddr 1 (.t 5)),
 go 38 36 true (.load false 1 (.t 37)),
 .op ⟨(some 39), (some (36, true)), (.e (.call 70 [(.t 38), (ci 0), (ci 1099511627776)]))⟩,
 o 40 (.pick (.t 36) (.t 39) (.c (.bool false))),
 m 41 40,
 go 42 41 true (.faddr 2 (.t 5)),
 go 43 41 true (.load false 1 (.t 42)),
 .op ⟨(some 44), (some (41, true)), (.e (.call 70 [(.t 43), (ci 0), (ci 4294967295)]))⟩,
 o 45 (.pick (.t 41) (.t 44) (.c (.bool false))),
 m 46 45,
 go 47 46 true (.faddr 3 (.t 5)),
 go 48 46 true (.load false 1 (.t 47)),
 .op ⟨(some 49), (some (46, true)), (.e (.call 70 [(.t 48), (.c (.int .i64 (.negSucc 0))), (ci 2199023255552)]))⟩,
 o 50 (.pick (.t 46) (.t 49) (.c (.bool false))),
 m 51 50,
 go 52 51 true (.faddr 4 (.t 5)),
 go 53 51 true (.load false 1 (.t 52)),
 .op ⟨(some 54), (some (51, true)), (.e (.call 70 [(.t 53), (ci 0), (ci 1048576)]))⟩,
 o 55 (.pick (.t 51) (.t 54) (.c (.bool false))),
 m 8 55])
  (.seq (.seq (.region [m 56 8,
 o 57 (.un .not (.t 56))])
  (.cond (.t 57)
   (.seq (.region [o 58 (.build [(.int .i64 (.ofNat 0)), (.int .i64 (.ofNat 0)), (.int .i64 (.ofNat 0)), (.int .i64 (.ofNat 0)), (.int .i64 (.ofNat 0))] []),
 x (.store 5 (.t 2) (.t 58)),
 o 3 (.mv (.c (.bool false)))])
   .ret)
   .skip))
  (.seq (.region [o 59 (.load true 5 (.t 5)),
 x (.store 5 (.t 2) (.t 59)),
 o 3 (.mv (.c (.bool true)))])
  .ret))))))) }
theorem tr141 : trF cx Tryz.f141 = pf141 := by kernel_rfl
/-- (*depot/rs.Code).Size -/
def pf144 : PF := { ntmps := 24, results := [.tmp 4], body :=
  (.seq (.region [o 4 (.mv (ci 0))])
  (.seq (.seq (.region [m 6 1,
 o 7 (.bin .leq (.t 6) (ci 0))])
  (.cond (.t 7)
   (.seq (.region [o 4 (.mv (ci 0))])
   .ret)
   .skip))
  (.seq (.region [m 8 1,
 m 9 0,
 o 10 (.nilck (.t 9)),
 o 11 (.faddr 0 (.t 10)),
 o 12 (.load false 1 (.t 11)),
 o 13 (.bin .quo (.t 8) (.t 12)),
 m 5 13])
  (.seq (.seq (.region [m 14 1,
 m 15 0,
 o 16 (.nilck (.t 15)),
 o 17 (.faddr 0 (.t 16)),
 o 18 (.load false 1 (.t 17)),
 o 19 (.bin .rem (.t 14) (.t 18)),
 o 20 (.bin .gtr (.t 19) (ci 0))])
  (.cond (.t 20)
   (.region [m 21 5,
 o 22 (.bin .add (.t 21) (ci 1)),
 m 5 22])
   .skip))
  (.seq (.region [m 23 5,
 m 4 23])
  .ret))))) }
theorem tr144 : trF cx Tryz.f144 = pf144 := by kernel_rfl
/-- (*depot/task.Task).on -/
def pf146 : PF := { ntmps := 70, results := [], body :=
  (.seq (.region [n 3 (.box (.t 1))])
  (.seq (.seq (.region [m 4 0,
 o 5 (.nilck (.t 4)),
 o 6 (.faddr 21 (.t 5)),
 o 7 (.load false 1 (.t 6)),
 o 8 (.bin .eql (.t 7) (ci 2))])
  (.cond (.t 8)
   (.seq (.region [m 9 0,
 o 10 (.load true 14 (.t 3)),
 o 11 (.bad)])
   .ret)
   .skip))
  (.seq (.seq (.region [m 12 0,
 o 13 (.nilck (.t 12)),
 o 14 (.faddr 22 (.t 13)),
 o 15 (.load false 1 (.t 14)),
 o 16 (.bin .gtr (.t 15) (ci 0))])
  (.cond (.t 16)
   .ret
   .skip))
  (.seq (.region [m 17 0,
 o 18 (.nilck (.t 17)),
 o 19 (.faddr 21 (.t 18)),
 o 20 (.load false 1 (.t 19))])
  (.block 0 (.seq (.region [o 22 (.bin .eql (.t 20) (ci 1)),
 m 21 22])
   (.cond (.t 21)
    (.region [m 23 0,
 o 24 (.load true 14 (.t 3)),
 e 25 (.call 193 [(.t 23), (.t 24)])])
    (.seq (.region [o 27 (.bin .eql (.t 20) (ci 3)),
 m 26 27])
    (.cond (.t 26)
     (.region [m 28 0,
 o 29 (.load true 14 (.t 3)),
 o 30 (.bad)])
     (.seq (.region [o 32 (.bin .eql (.t 20) (ci 4)),
 m 31 32])
     (.cond (.t 31)
      (.region [m 33 0,
 o 34 (.load true 14 (.t 3)),
 o 35 (.bad)])
      (.seq (.region [o 37 (.bin .eql (.t 20) (ci 5)),
 m 36 37])
      (.cond (.t 36)
       (.seq (.region [m 38 0,
 o 39 (.nilck (.t 38)),
 o 40 (.faddr 17 (.t 39)),
 o 41 (.load false 1 (.t 40)),
 o 42 (.bin .geq (.t 41) (ci 0))])
       (.cond (.t 42)
        (.region [m 43 0,
 o 44 (.load true 14 (.t 3)),
 e 45 (.call 196 [(.t 43), (.t 44)])])
        (.region [m 46 0,
 o 47 (.load true 14 (.t 3)),
 e 48 (.call 197 [(.t 46), (.t 47)])])))
       (.seq (.region [o 50 (.bin .eql (.t 20) (ci 6)),
 m 49 50])
       (.cond (.t 49)
        (.seq (.region [m 51 0,
 m 52 0,
 o 53 (.nilck (.t 52)),
 o 54 (.faddr 52 (.t 53)),
 o 55 (.load true 9 (.t 54)),
 e 56 (.call 198 [(.t 51), (.t 55)])])
        (.region [m 57 0,
 o 58 (.load true 14 (.t 3)),
 e 59 (.call 196 [(.t 57), (.t 58)])]))
        (.seq (.region [o 61 (.bin .eql (.t 20) (ci 7)),
 m 60 61])
        (.cond (.t 60)
         (.region [m 62 0,
 o 63 (.load true 14 (.t 3)),
 e 64 (.call 196 [(.t 62), (.t 63)])])
         (.seq (.region [o 66 (.bin .eql (.t 20) (ci 8)),
 m 65 66])
         (.cond (.t 65)
          (.region [m 67 0,
 o 68 (.nilck (.t 67)),
 o 69 (.faddr 21 (.t 68)),
 x (.store 1 (.t 69) (ci 9))])
          .skip))))))))))))))))))) }
theorem tr146 : trF cx Tryz.f146 = pf146 := by kernel_rfl
/-- (*depot/task.Task).Phase -/
def pf147 : PF := { ntmps := 7, results := [.tmp 2], body :=
  (.seq (.region [o 2 (.mv (ci 0))])
  (.seq (.region [m 3 0,
 o 4 (.nilck (.t 3)),
 o 5 (.faddr 21 (.t 4)),
 o 6 (.load false 1 (.t 5)),
 m 2 6])
  .ret)) }
theorem tr147 : trF cx Tryz.f147 = pf147 := by kernel_rfl
/-- (*depot/task.Task).Take -/
def pf148 : PF := { ntmps := 12, results := [.tmp 2], body :=
  (.seq (.region [o 2 (.mv (.c .nils))])
  (.seq (.region [m 4 0,
 o 5 (.nilck (.t 4)),
 o 6 (.faddr 36 (.t 5)),
 o 7 (.load false 1 (.t 6)),
 m 3 7])
  (.seq (.region [m 8 0,
 o 9 (.nilck (.t 8)),
 o 10 (.faddr 36 (.t 9)),
 x (.store 1 (.t 10) (.c .nils))])
  (.seq (.region [m 11 3,
 m 2 11])
  .ret)))) }
theorem tr148 : trF cx Tryz.f148 = pf148 := by kernel_rfl
/-- (*depot/task.Task).Answer -/
def pf149 : PF := { ntmps := 14, results := [.cell 2 true 9, .tmp 3], body :=
  (.seq (.region [n 2 (.new 0 [(.int .i64 (.ofNat 0)), .nils, (.bool false), (.int .u64 (.ofNat 0)), (.str []), (.int .i64 (.ofNat 0)), (.int .i64 (.ofNat 0)), (.int .i64 (.ofNat 0)), (.int .i64 (.ofNat 0))]),
 o 3 (.mv (.c (.bool false)))])
  (.seq (.seq (.region [m 4 0,
 o 5 (.nilck (.t 4)),
 o 6 (.faddr 70 (.t 5)),
 o 7 (.load false 1 (.t 6)),
 o 8 (.un .not (.t 7))])
  (.cond (.t 8)
   (.seq (.region [o 9 (.build [(.int .i64 (.ofNat 0)), .nils, (.bool false), (.int .u64 (.ofNat 0)), (.str []), (.int .i64 (.ofNat 0)), (.int .i64 (.ofNat 0)), (.int .i64 (.ofNat 0)), (.int .i64 (.ofNat 0))] []),
 x (.store 9 (.t 2) (.t 9)),
 o 3 (.mv (.c (.bool false)))])
   .ret)
   .skip))
  (.seq (.region [m 10 0,
 o 11 (.nilck (.t 10)),
 o 12 (.faddr 61 (.t 11)),
 o 13 (.load true 9 (.t 12)),
 x (.store 9 (.t 2) (.t 13)),
 o 3 (.mv (.c (.bool true)))])
  .ret))) }
theorem tr149 : trF cx Tryz.f149 = pf149 := by kernel_rfl
/-- (*depot/router.Router).tell -/
def pf150 : PF := { ntmps := 110, results := [], body :=
  (.seq (.region [n 4 (.box (.t 1)),
 n 5 (.box (.t 2))])
  (.seq (.region [m 10 0,
 o 11 (.nilck (.t 10)),
 o 12 (.faddr 14 (.t 11)),
 o 13 (.load false 1 (.t 12)),
 o 14 (.mkfn 200 [(.t 4)]),
 e 15 (.call 199 [(.t 13), (.t 14)]),
 m 6 15])
  (.seq (.seq (.region [m 16 6,
 o 17 (.bin .lss (.t 16) (ci 0))])
  (.cond (.t 17)
   .ret
   .skip))
  (.seq (.region [m 18 0,
 o 19 (.nilck (.t 18)),
 o 20 (.faddr 14 (.t 19)),
 o 21 (.load false 1 (.t 20)),
 m 22 6,
 o 23 (.iasl 1 (.t 21) (.t 22)),
 o 24 (.load false 1 (.t 23)),
 m 7 24])
  (.seq (.region [m 25 7,
 o 26 (.nilck (.t 25)),
 o 27 (.faddr 1 (.t 26)),
 o 28 (.load false 1 (.t 27)),
 o 29 (.bin .sub (.t 28) (ci 1)),
 o 30 (.nilck (.t 25)),
 o 31 (.faddr 1 (.t 30)),
 x (.store 1 (.t 31) (.t 29))])
  (.seq (.seq (.region [m 32 7,
 o 33 (.nilck (.t 32)),
 o 34 (.faddr 11 (.t 33)),
 o 35 (.load false 1 (.t 34)),
 o 36 (.lensl (.t 35)),
 o 37 (.bin .gtr (.t 36) (ci 0))])
  (.cond (.t 37)
   (.seq (.region [m 38 7,
 o 39 (.nilck (.t 38)),
 o 40 (.faddr 11 (.t 39)),
 o 41 (.load false 1 (.t 40)),
 o 42 (.faddr 11 (.t 4)),
 o 43 (.load false 1 (.t 42)),
 o 44 (.faddr 1 (.t 5)),
 o 45 (.load false 1 (.t 44)),
 o 46 (.iasl 1 (.t 41) (.t 43)),
 x (.store 1 (.t 46) (.t 45))])
   (.region [m 47 0,
 o 48 (.nilck (.t 47)),
 o 49 (.faddr 29 (.t 48)),
 o 50 (.iaarr 3 1 (.t 49) (ci 2)),
 o 51 (.load false 1 (.t 50)),
 o 52 (.faddr 1 (.t 5)),
 o 53 (.load false 1 (.t 52)),
 o 54 (.lensl (.t 53)),
 o 55 (.bin .add (.t 51) (.t 54)),
 o 56 (.nilck (.t 47)),
 o 57 (.faddr 29 (.t 56)),
 o 58 (.iaarr 3 1 (.t 57) (ci 2)),
 x (.store 1 (.t 58) (.t 55))]))
   (.region [m 59 7,
 o 60 (.load true 9 (.t 5)),
 o 61 (.nilck (.t 59)),
 o 62 (.faddr 2 (.t 61)),
 x (.store 9 (.t 62) (.t 60))])))
  (.seq (.seq (.region [m 63 7,
 o 64 (.nilck (.t 63)),
 o 65 (.faddr 1 (.t 64)),
 o 66 (.load false 1 (.t 65)),
 o 67 (.bin .gtr (.t 66) (ci 0))])
  (.cond (.t 67)
   .ret
   .skip))
  (.seq (.seq (.region [m 68 7,
 o 69 (.nilck (.t 68)),
 o 70 (.faddr 11 (.t 69)),
 o 71 (.load false 1 (.t 70)),
 o 72 (.lensl (.t 71)),
 o 73 (.mv (ci 0))])
  (.block 0 (.loop (.seq (.region [o 74 (.bin .lss (.t 73) (.t 72))])
    (.seq (.cond (.t 74)
     .skip
     (.exit 0))
    (.seq (.block 1 (.seq (.region [o 75 (.iasl 1 (.t 71) (.t 73)),
 o 76 (.load false 1 (.t 75)),
 m 9 76])
     (.region [m 77 7,
 m 78 7,
 o 79 (.nilck (.t 78)),
 o 80 (.faddr 2 (.t 79)),
 o 81 (.faddr 1 (.t 80)),
 o 82 (.load false 1 (.t 81)),
 m 83 9,
 e 84 (.app 0 4 48 (.t 82) (.t 83)),
 o 85 (.nilck (.t 77)),
 o 86 (.faddr 2 (.t 85)),
 o 87 (.faddr 1 (.t 86)),
 x (.store 1 (.t 87) (.t 84))])))
    (.region [o 88 (.bin .add (.t 73) (ci 1)),
 m 73 88])))))))
  (.seq (.region [m 89 0,
 m 90 0,
 o 91 (.nilck (.t 90)),
 o 92 (.faddr 14 (.t 91)),
 o 93 (.load false 1 (.t 92)),
 m 94 6,
 m 95 6,
 o 96 (.bin .add (.t 95) (ci 1)),
 e 97 (.call 201 [(.t 93), (.t 94), (.t 96)]),
 o 98 (.nilck (.t 89)),
 o 99 (.faddr 14 (.t 98)),
 x (.store 1 (.t 99) (.t 97))])
  (.region [m 100 0,
 m 101 7,
 o 102 (.nilck (.t 101)),
 o 103 (.faddr 0 (.t 102)),
 o 104 (.load false 1 (.t 103)),
 m 105 7,
 o 106 (.nilck (.t 105)),
 o 107 (.faddr 2 (.t 106)),
 o 108 (.load true 9 (.t 107)),
 e 109 (.call 42 [(.t 100), (.t 104), (.t 108)])])))))))))) }
theorem tr150 : trF cx Tryz.f150 = pf150 := by kernel_rfl
/-- (*depot/router.Router).over -/
def pf151 : PF := { ntmps := 100, results := [], body :=
  (.seq (.region [n 3 (.box (.t 1))])
  (.seq (.region [m 9 0,
 m 10 0,
 o 11 (.nilck (.t 10)),
 o 12 (.faddr 11 (.t 11)),
 o 13 (.load false 1 (.t 12)),
 o 14 (.mkfn 203 [(.t 3)]),
 e 15 (.call 202 [(.t 13), (.t 14)]),
 o 16 (.nilck (.t 9)),
 o 17 (.faddr 11 (.t 16)),
 x (.store 1 (.t 17) (.t 15))])
  (.seq (.seq (.region [m 18 0,
 o 19 (.nilck (.t 18)),
 o 20 (.faddr 15 (.t 19)),
 o 21 (.load true 12 (.t 20)),
 o 22 (.mv (ci 0))])
  (.block 0 (.loop (.seq (.region [o 23 (.bin .lss (.t 22) (ci 12))])
    (.seq (.cond (.t 23)
     .skip
     (.exit 0))
    (.seq (.block 1 (.seq (.region [o 24 (.ixagg 12 false 1 (.t 21) (.t 22)),
 m 5 24])
     (.seq (.region [m 25 5,
 o 26 (.eqc true (.t 25) (.c .nilp))])
     (.cond (.t 26)
      (.region [m 27 5,
 o 28 (.load false 1 (.t 3)),
 o 29 (.nilck (.t 28)),
 o 30 (.faddr 0 (.t 29)),
 o 31 (.load false 1 (.t 30)),
 o 32 (.bad)])
      .skip))))
    (.region [o 33 (.bin .add (.t 22) (ci 1)),
 m 22 33])))))))
  (.seq (.seq (.region [o 34 (.load false 1 (.t 3)),
 o 35 (.nilck (.t 34)),
 o 36 (.faddr 1 (.t 35)),
 o 37 (.faddr 12 (.t 36)),
 o 38 (.load false 1 (.t 37)),
 m 6 38])
  (.seq (.region [m 39 6,
 o 40 (.bin .geq (.t 39) (ci 0)),
 m 41 40,
 gm 42 41 true 0,
 gm 43 41 true 6,
 go 44 41 true (.nilck (.t 42)),
 go 45 41 true (.faddr 15 (.t 44)),
 go 46 41 true (.iaarr 12 1 (.t 45) (.t 43)),
 go 47 41 true (.load false 1 (.t 46)),
 go 48 41 true (.eqc true (.t 47) (.c .nilp)),
 o 49 (.pick (.t 41) (.t 48) (.c (.bool false))),
 m 50 49,
 gm 51 50 true 0,
 go 52 50 true (.nilck (.t 51)),
 go 53 50 true (.faddr 6 (.t 52)),
 go 54 50 true (.load false 1 (.t 53)),
 gm 55 50 true 6,
 go 57 50 true (.load false 1 (.t 3)),
 go 58 50 true (.nilck (.t 57)),
 go 59 50 true (.faddr 1 (.t 58)),
 go 60 50 true (.faddr 13 (.t 59)),
 go 61 50 true (.load false 1 (.t 60)),
 .op ⟨(some 56), (some (50, true)), (.e (.call 93 [(.t 54), (.t 55)]))⟩,
 .again ⟨(some 61), (some (50, true)), (.r (.load false 1 (.t 60)))⟩,
 .again ⟨(some 57), (some (50, true)), (.r (.load false 1 (.t 3)))⟩,
 go 62 50 true (.bin .eql (.t 56) (.t 61)),
 o 63 (.pick (.t 50) (.t 62) (.c (.bool false)))])
  (.cond (.t 63)
   (.region [m 64 0,
 m 65 6,
 o 66 (.nilck (.t 64)),
 o 67 (.faddr 15 (.t 66)),
 o 68 (.iaarr 12 1 (.t 67) (.t 65)),
 o 69 (.load false 1 (.t 68)),
 o 70 (.bad)])
   .skip)))
  (.seq (.region [m 71 0,
 o 72 (.nilck (.t 71)),
 o 73 (.faddr 12 (.t 72)),
 o 74 (.load false 1 (.t 73)),
 o 75 (.mkfn 207 [(.t 3)]),
 e 76 (.call 206 [(.t 74), (.t 75)]),
 m 7 76])
  (.seq (.region [m 77 7,
 o 78 (.bin .geq (.t 77) (ci 0))])
  (.cond (.t 78)
   (.seq (.region [m 79 0,
 o 80 (.nilck (.t 79)),
 o 81 (.faddr 12 (.t 80)),
 o 82 (.load false 1 (.t 81)),
 m 83 7,
 o 84 (.iasl 14 (.t 82) (.t 83)),
 o 85 (.load true 14 (.t 84)),
 n 8 (.new 0 [(.str []), (.int .i64 (.ofNat 0)), .nils, (.int .i64 (.ofNat 0)), (.int .i64 (.ofNat 0)), (.int .i64 (.ofNat 0)), (.int .i64 (.ofNat 0)), (.int .u64 (.ofNat 0)), (.bool false), (.str []), (.int .i64 (.ofNat 0)), (.int .i64 (.ofNat 0)), (.int .i64 (.ofNat 0)), (.int .i64 (.ofNat 0))]),
 x (.store 14 (.t 8) (.t 85))])
   (.seq (.region [m 86 0,
 m 87 0,
 o 88 (.nilck (.t 87)),
 o 89 (.faddr 12 (.t 88)),
 o 90 (.load false 1 (.t 89)),
 m 91 7,
 m 92 7,
 o 93 (.bin .add (.t 92) (ci 1)),
 o 94 (.bad),
 o 95 (.nilck (.t 86)),
 o 96 (.faddr 12 (.t 95)),
 x (.store 1 (.t 96) (.t 94))])
   (.region [m 97 0,
 o 98 (.load true 14 (.t 8)),
 e 99 (.call 101 [(.t 97), (.t 98)])])))
   .skip))))))) }
theorem tr151 : trF cx Tryz.f151 = pf151 := by kernel_rfl
/-- (*depot/fill.Fill).key -/
def pf154 : PF := { ntmps := 49, results := [.tmp 2, .tmp 3], body :=
  (.seq (.region [o 2 (.mv (.c (.str []))),
 o 3 (.mv (.c (.bool false)))])
  (.scope (.seq .skip
   (.seq (.block 0 (.loop (.seq (.seq (.region [m 5 0,
 o 6 (.nilck (.t 5)),
 o 7 (.faddr 12 (.t 6)),
 o 8 (.load false 1 (.t 7)),
 o 9 (.lensl (.t 8)),
 o 10 (.bin .gtr (.t 9) (ci 0))])
     (.cond (.t 10)
      .skip
      (.exit 0)))
     (.block 1 (.seq (.region [m 11 0,
 o 12 (.nilck (.t 11)),
 o 13 (.faddr 12 (.t 12)),
 o 14 (.load false 1 (.t 13)),
 o 15 (.iasl 1 (.t 14) (ci 0)),
 o 16 (.load false 1 (.t 15)),
 m 4 16])
      (.seq (.region [m 17 0,
 m 18 0,
 o 19 (.nilck (.t 18)),
 o 20 (.faddr 12 (.t 19)),
 o 21 (.load false 1 (.t 20)),
 o 22 (.slsl 1 (.t 21) (some (ci 1)) none none),
 o 23 (.nilck (.t 17)),
 o 24 (.faddr 12 (.t 23)),
 x (.store 1 (.t 24) (.t 22))])
      (.seq (.seq (.region [m 25 4,
 m 26 0,
 o 27 (.nilck (.t 26)),
 o 28 (.faddr 0 (.t 27)),
 o 29 (.faddr 0 (.t 28)),
 o 30 (.load false 1 (.t 29)),
 m 31 0,
 o 32 (.nilck (.t 31)),
 o 33 (.faddr 0 (.t 32)),
 o 34 (.faddr 1 (.t 33)),
 o 35 (.load false 1 (.t 34)),
 o 36 (.bin .add (.t 30) (.t 35)),
 m 37 0,
 o 38 (.nilck (.t 37)),
 o 39 (.faddr 0 (.t 38)),
 o 40 (.faddr 3 (.t 39)),
 o 41 (.load false 1 (.t 40)),
 m 42 0,
 o 43 (.nilck (.t 42)),
 o 44 (.faddr 6 (.t 43)),
 o 45 (.load false 1 (.t 44)),
 o 46 (.bad),
 o 47 (.bin .lss (.t 46) (ci 0))])
      (.cond (.t 47)
       (.exit 1)
       .skip))
      (.seq (.region [m 48 4,
 m 2 48,
 o 3 (.mv (.c (.bool true)))])
      .ret))))))))
   (.seq (.region [o 2 (.mv (.c (.str []))),
 o 3 (.mv (.c (.bool false)))])
   .ret))))) }
theorem tr154 : trF cx Tryz.f154 = pf154 := by kernel_rfl
/-- slices.Contains[[]int,int] -/
def pf155 : PF := { ntmps := 9, results := [.tmp 4], body :=
  (.seq (.region [o 4 (.mv (.c (.bool false)))])
  (.seq (.region [m 5 0,
 m 6 1,
 o 7 (.bad),
 o 8 (.bin .geq (.t 7) (ci 0)),
 m 4 8])
  .ret)) }
theorem tr155 : trF cx Tryz.f155 = pf155 := by kernel_rfl
/-- depot/task.New -/
def pf156 : PF := { ntmps := 74, results := [.tmp 10, .tmp 11], body :=
  (.seq (.region [n 5 (.box (.t 0)),
 n 7 (.box (.t 2)),
 o 10 (.mv (.c .nilp)),
 o 11 (.mv (ci 0))])
  (.seq (.seq (.region [o 13 (.load true 6 (.t 5)),
 e 14 (.call 28 [(.t 13)]),
 o 15 (.un .not (.t 14)),
 m 16 15,
 gm 17 16 false 1,
 .op ⟨(some 18), (some (16, false)), (.e (.call 100 [(.t 17)]))⟩,
 go 19 16 false (.un .not (.t 18)),
 o 20 (.pick (.t 16) (.c (.bool true)) (.t 19)),
 m 21 20,
 gm 22 21 false 3,
 go 23 21 false (.faddr 3 (.t 5)),
 go 24 21 false (.load false 1 (.t 23)),
 go 25 21 false (.bin .sub (.t 24) (ci 1)),
 .op ⟨(some 26), (some (21, false)), (.e (.call 70 [(.t 22), (.c (.int .i64 (.negSucc 0))), (.t 25)]))⟩,
 go 27 21 false (.un .not (.t 26)),
 o 28 (.pick (.t 21) (.c (.bool true)) (.t 27)),
 m 29 28,
 gm 30 29 false 4,
 .op ⟨(some 31), (some (29, false)), (.e (.call 70 [(.t 30), (ci 1), (ci 1099511627776)]))⟩,
 go 32 29 false (.un .not (.t 31)),
 o 33 (.pick (.t 29) (.c (.bool true)) (.t 32))])
  (.cond (.t 33)
   (.seq (.region [o 10 (.mv (.c .nilp)),
 o 11 (.mv (ci 1))])
   .ret)
   .skip))
  (.seq (.region [o 34 (.load true 6 (.t 5)),
 m 35 1,
 o 36 (.load true 9 (.t 7)),
 m 37 3,
 m 38 4,
 o 39 (.build ([(.int .i64 (.ofNat 0)), (.int .i64 (.ofNat 0)), (.int .i64 (.ofNat 0)), (.int .i64 (.ofNat 0)), (.int .i64 (.ofNat 0)), (.int .i64 (.ofNat 0))] ++ ([.nilp] ++ ([(.str [])] ++ ([(.int .i64 (.ofNat 0))] ++ ([.nils] ++ ([(.int .i64 (.ofNat 0)), (.int .i64 (.ofNat 0)), (.int .i64 (.ofNat 0)), (.int .i64 (.ofNat 0))] ++ ([(.int .u64 (.ofNat 0))] ++ ([(.bool false)] ++ ([(.str [])] ++ ([(.int .i64 (.ofNat 0)), (.int .i64 (.ofNat 0))] ++ ([.nils, .nils] ++ (rep 15 [(.int .i64 (.ofNat 0))] ++ ([.nils] ++ ([(.int .i64 (.ofNat 0)), (.int .i64 (.ofNat 0)), (.int .i64 (.ofNat 0)), (.int .i64 (.ofNat 0)), (.int .i64 (.ofNat 0)), (.int .i64 (.ofNat 0))] ++ ([(.bool false)] ++ ([.nilp] ++ ([(.str [])] ++ ([(.int .i64 (.ofNat 0)), (.int .i64 (.ofNat 0)), (.int .i64 (.ofNat 0)), (.int .i64 (.ofNat 0)), (.int .i64 (.ofNat 0))] ++ ([.nils] ++ ([(.int .i64 (.ofNat 0))] ++ ([.nils] ++ ([(.bool false)] ++ ([(.int .u64 (.ofNat 0))] ++ ([(.str [])] ++ ([(.int .i64 (.ofNat 0)), (.int .i64 (.ofNat 0)), (.int .i64 (.ofNat 0)), (.int .i64 (.ofNat 0)), (.int .i64 (.ofNat 0))] ++ ([.nils] ++ ([(.bool false)] ++ ([(.int .u64 (.ofNat 0))] ++ ([(.str [])] ++ ([(.int .i64 (.ofNat 0)), (.int .i64 (.ofNat 0)), (.int .i64 (.ofNat 0)), (.int .i64 (.ofNat 0))] ++ ([(.bool false)]))))))))))))))))))))))))))))))) [(0, 6, (.t 34)), (7, 1, (.t 35)), (8, 9, (.t 36)), (17, 1, (.t 37)), (18, 1, (.t 38))]),
 n 40 (.box (.t 39)),
 m 12 40])
  (.seq (.region [m 42 12,
 o 43 (.faddr 0 (.t 5)),
 o 44 (.load false 1 (.t 43)),
 o 45 (.faddr 1 (.t 5)),
 o 46 (.load false 1 (.t 45)),
 e 47 (.call 69 [(.t 44), (.t 46)]),
 m 41 47,
 o 48 (.ext 0 (.t 41)),
 o 49 (.ext 1 (.t 41)),
 o 50 (.nilck (.t 42)),
 o 51 (.faddr 6 (.t 50)),
 x (.store 1 (.t 51) (.t 48))])
  (.seq (.region [m 52 12,
 m 53 1,
 o 54 (.faddr 0 (.t 5)),
 o 55 (.load false 1 (.t 54)),
 o 56 (.faddr 1 (.t 5)),
 o 57 (.load false 1 (.t 56)),
 o 58 (.bin .add (.t 55) (.t 57)),
 o 59 (.faddr 3 (.t 5)),
 o 60 (.load false 1 (.t 59)),
 e 61 (.call 189 [(.t 53), (.t 58), (.t 60)]),
 o 62 (.nilck (.t 52)),
 o 63 (.faddr 19 (.t 62)),
 x (.store 1 (.t 63) (.t 61))])
  (.seq (.region [m 64 12,
 m 65 1,
 o 66 (.faddr 1 (.t 5)),
 o 67 (.load false 1 (.t 66)),
 o 68 (.faddr 3 (.t 5)),
 o 69 (.load false 1 (.t 68)),
 e 70 (.call 211 [(.t 65), (.t 67), (.t 69)]),
 o 71 (.nilck (.t 64)),
 o 72 (.faddr 20 (.t 71)),
 x (.store 1 (.t 72) (.t 70))])
  (.seq (.region [m 73 12,
 m 10 73,
 o 11 (.mv (ci 0))])
  .ret))))))) }
theorem tr156 : trF cx Tryz.f156 = pf156 := by kernel_rfl
/-- (*depot/task.Task).Start -/
def pf157 : PF := { ntmps := 35, results := [], body :=
  (.seq (.region [n 3 (.box (.t 1))])
  (.seq (.region [m 6 0,
 e 7 (.call 212 [(.t 6), (ci 1)])])
  (.seq (.seq (.region [m 8 0,
 o 9 (.nilck (.t 8)),
 o 10 (.faddr 20 (.t 9)),
 o 11 (.load false 1 (.t 10)),
 o 12 (.lensl (.t 11)),
 o 13 (.mv (ci 0))])
  (.block 0 (.loop (.seq (.region [o 14 (.bin .lss (.t 13) (.t 12))])
    (.seq (.cond (.t 14)
     .skip
     (.exit 0))
    (.seq (.block 1 (.seq (.region [o 15 (.iasl 1 (.t 11) (.t 13)),
 o 16 (.load false 1 (.t 15)),
 m 5 16])
     (.seq (.region [m 17 5,
 o 18 (.faddr 0 (.t 3)),
 o 19 (.iaarr 12 1 (.t 18) (.t 17)),
 o 20 (.load false 1 (.t 19)),
 o 21 (.bin .eql (.t 20) (ci 2))])
     (.cond (.t 21)
      (.seq (.region [m 22 0,
 m 23 5,
 o 24 (.nilck (.t 22)),
 o 25 (.faddr 24 (.t 24)),
 o 26 (.iaarr 12 1 (.t 25) (.t 23)),
 x (.store 1 (.t 26) (ci 1))])
      (.region [m 27 0,
 m 28 5,
 o 29 (.build [(.int .i64 (.ofNat 0)), (.int .i64 (.ofNat 0)), (.int .i64 (.ofNat 0)), (.int .i64 (.ofNat 0)), (.int .i64 (.ofNat 0)), (.int .i64 (.ofNat 0)), (.str []), (.int .i64 (.ofNat 0)), (.str [])] [(0, 1, (ci 2)), (5, 1, (ci 1))]),
 e 30 (.call 191 [(.t 27), (.t 28), (.t 29)])]))
      .skip))))
    (.region [o 31 (.bin .add (.t 13) (ci 1)),
 m 13 31])))))))
  (.region [m 32 0,
 o 33 (.load true 14 (.t 3)),
 e 34 (.call 146 [(.t 32), (.t 33)])])))) }
theorem tr157 : trF cx Tryz.f157 = pf157 := by kernel_rfl
/-- depot/answer.Quiet -/
def pf158 : PF := { ntmps := 12, results := [.tmp 4], body :=
  (.seq (.region [n 2 (.box (.t 0)),
 n 3 (.box (.t 1)),
 o 4 (.mv (.c (.bool false)))])
  (.seq (.region [o 5 (.faddr 7 (.t 2)),
 o 6 (.load false 1 (.t 5)),
 m 7 6,
 go 8 7 true (.faddr 0 (.t 3)),
 go 9 7 true (.load false 1 (.t 8)),
 go 10 7 true (.bin .neq (.t 9) (ci 13)),
 o 11 (.pick (.t 7) (.t 10) (.c (.bool false))),
 m 4 11])
  .ret)) }
theorem tr158 : trF cx Tryz.f158 = pf158 := by kernel_rfl
/-- depot/answer.Text -/
def pf159 : PF := { ntmps := 43, results := [.tmp 2], body :=
  (.seq (.region [n 1 (.box (.t 0)),
 o 2 (.mv (.c (.str [])))])
  (.seq (.seq (.region [o 4 (.faddr 0 (.t 1)),
 o 5 (.load false 1 (.t 4))])
  (.block 0 (.seq (.region [o 7 (.bin .eql (.t 5) (ci 1)),
 m 6 7])
   (.cond (.t 6)
    (.seq (.region [o 8 (.faddr 1 (.t 1)),
 o 9 (.load false 1 (.t 8)),
 o 10 (.faddr 2 (.t 1)),
 o 11 (.load false 1 (.t 10)),
 e 12 (.call 213 [(.t 9), (.t 11)]),
 m 2 12])
    .ret)
    (.seq (.region [o 14 (.bin .eql (.t 5) (ci 8)),
 m 13 14])
    (.cond (.t 13)
     (.seq (.region [o 15 (.faddr 3 (.t 1)),
 o 16 (.load false 1 (.t 15)),
 o 17 (.bad),
 o 18 (.bin .add (.t 17) (.c (.str [13, 10]))),
 m 2 18])
     .ret)
     (.seq (.region [o 20 (.bin .eql (.t 5) (ci 11)),
 m 19 20])
     (.cond (.t 19)
      (.seq (.region [o 21 (.faddr 5 (.t 1)),
 o 22 (.load true 4 (.t 21)),
 o 23 (.bad),
 m 2 23])
      .ret)
      (.seq (.region [o 25 (.bin .eql (.t 5) (ci 13)),
 m 24 25])
      (.cond (.t 24)
       (.seq (.region [o 26 (.faddr 4 (.t 1)),
 o 27 (.load false 1 (.t 26)),
 o 28 (.bin .add (.c (.str [67, 76, 73, 69, 78, 84, 95, 69, 82, 82, 79, 82, 32])) (.t 27)),
 o 29 (.bin .add (.t 28) (.c (.str [13, 10]))),
 m 2 29])
       .ret)
       (.seq (.region [o 31 (.bin .eql (.t 5) (ci 14)),
 m 30 31])
       (.cond (.t 30)
        (.seq (.region [o 32 (.faddr 4 (.t 1)),
 o 33 (.load false 1 (.t 32)),
 o 34 (.bin .add (.c (.str [83, 69, 82, 86, 69, 82, 95, 69, 82, 82, 79, 82, 32])) (.t 33)),
 o 35 (.bin .add (.t 34) (.c (.str [13, 10]))),
 m 2 35])
        .ret)
        .skip))))))))))))
  (.seq (.seq (.region [o 36 (.faddr 0 (.t 1)),
 o 37 (.load false 1 (.t 36)),
 o 38 (.bad),
 m 3 38])
  (.seq (.region [m 39 3,
 o 40 (.bin .neq (.t 39) (.c (.str [])))])
  (.cond (.t 40)
   (.seq (.region [m 41 3,
 o 42 (.bin .add (.t 41) (.c (.str [13, 10]))),
 m 2 42])
   .ret)
   .skip)))
  (.seq (.region [o 2 (.mv (.c (.str [])))])
  .ret)))) }
theorem tr159 : trF cx Tryz.f159 = pf159 := by kernel_rfl
/-- (*depot/parse.Parser).line -/
def pf160 : PF := { ntmps := 113, results := [.tmp 2], body :=
  (.seq (.region [o 2 (.mv (.c (.bool false)))])
  (.seq (.region [m 7 0,
 o 8 (.nilck (.t 7)),
 o 9 (.faddr 1 (.t 8)),
 o 10 (.load false 1 (.t 9)),
 e 11 (.call 170 [(.t 10), (.c (.int .u8 (.ofNat 10)))]),
 m 3 11])
  (.seq (.seq (.region [m 12 3,
 o 13 (.bin .gtr (.t 12) (ci 2048)),
 m 14 13,
 gm 15 14 false 3,
 go 16 14 false (.bin .lss (.t 15) (ci 0)),
 gm 17 14 false 16,
 gm 18 17 true 0,
 go 19 17 true (.nilck (.t 18)),
 go 20 17 true (.faddr 1 (.t 19)),
 go 21 17 true (.load false 1 (.t 20)),
 go 22 17 true (.lens (.t 21)),
 go 23 17 true (.bin .gtr (.t 22) (ci 2048)),
 go 24 14 false (.pick (.t 17) (.t 23) (.c (.bool false))),
 o 25 (.pick (.t 14) (.c (.bool true)) (.t 24))])
  (.cond (.t 25)
   (.seq (.region [m 26 0,
 o 27 (.bad)])
   (.seq (.region [o 2 (.mv (.c (.bool true)))])
   .ret))
   .skip))
  (.seq (.seq (.region [m 28 3,
 o 29 (.bin .lss (.t 28) (ci 0))])
  (.cond (.t 29)
   (.seq (.region [o 2 (.mv (.c (.bool false)))])
   .ret)
   .skip))
  (.seq (.region [m 30 0,
 o 31 (.nilck (.t 30)),
 o 32 (.faddr 1 (.t 31)),
 o 33 (.load false 1 (.t 32)),
 m 34 3,
 o 35 (.slstr (.t 33) none (some (.t 34))),
 e 36 (.call 218 [(.t 35), (.c (.str [13]))]),
 m 4 36])
  (.seq (.region [m 37 0,
 m 38 0,
 o 39 (.nilck (.t 38)),
 o 40 (.faddr 1 (.t 39)),
 o 41 (.load false 1 (.t 40)),
 m 42 3,
 o 43 (.bin .add (.t 42) (ci 1)),
 o 44 (.slstr (.t 41) (some (.t 43)) none),
 o 45 (.nilck (.t 37)),
 o 46 (.faddr 1 (.t 45)),
 x (.store 1 (.t 46) (.t 44))])
  (.seq (.region [m 48 4,
 e 49 (.call 219 [(.t 48)]),
 m 47 49,
 o 50 (.ext 0 (.t 47)),
 o 51 (.ext 1 (.t 47)),
 n 5 (.new 0 [(.int .i64 (.ofNat 0)), .nils, (.int .i64 (.ofNat 0)), (.int .i64 (.ofNat 0)), (.int .i64 (.ofNat 0)), (.int .i64 (.ofNat 0)), (.int .u64 (.ofNat 0)), (.bool false), (.str [])]),
 x (.store 9 (.t 5) (.t 50)),
 m 6 51])
  (.seq (.block 0 (.seq (.region [m 64 6,
 o 65 (.bin .eql (.t 64) (ci 4)),
 m 63 65])
   (.cond (.t 63)
    (.region [m 66 0,
 o 67 (.bad)])
    (.seq (.region [m 69 6,
 o 70 (.bin .neq (.t 69) (ci 0)),
 m 68 70])
    (.cond (.t 68)
     (.region [m 71 0,
 o 72 (.bad)])
     (.seq (.region [o 74 (.faddr 0 (.t 5)),
 o 75 (.load false 1 (.t 74)),
 o 76 (.bin .eql (.t 75) (ci 17)),
 m 73 76])
     (.cond (.t 73)
      (.region [m 77 0,
 o 78 (.bad)])
      (.seq (.region [o 80 (.faddr 0 (.t 5)),
 o 81 (.load false 1 (.t 80)),
 e 82 (.call 46 [(.t 81)]),
 m 83 82,
 go 84 83 true (.faddr 4 (.t 5)),
 go 85 83 true (.load false 1 (.t 84)),
 go 86 83 true (.bin .gtr (.t 85) (ci 1048576)),
 o 87 (.pick (.t 83) (.t 86) (.c (.bool false))),
 m 79 87])
      (.cond (.t 79)
       (.seq (.seq (.region [o 88 (.faddr 7 (.t 5)),
 o 89 (.load false 1 (.t 88)),
 o 90 (.un .not (.t 89))])
       (.cond (.t 90)
        (.region [m 91 0,
 o 92 (.bad)])
        .skip))
       (.region [m 93 0,
 m 94 0,
 o 95 (.faddr 4 (.t 5)),
 o 96 (.load false 1 (.t 95)),
 o 97 (.bin .add (.t 96) (ci 2)),
 o 98 (.nilck (.t 93)),
 o 99 (.faddr 0 (.t 98)),
 x (.store 1 (.t 99) (ci 2)),
 .again ⟨(some 96), none, (.r (.load false 1 (.t 95)))⟩,
 o 100 (.nilck (.t 94)),
 o 101 (.faddr 2 (.t 100)),
 x (.store 1 (.t 101) (.t 97))]))
       (.seq (.region [o 103 (.faddr 0 (.t 5)),
 o 104 (.load false 1 (.t 103)),
 e 105 (.call 46 [(.t 104)]),
 m 102 105])
       (.cond (.t 102)
        (.region [m 106 0,
 m 107 0,
 o 108 (.load true 9 (.t 5)),
 o 109 (.nilck (.t 106)),
 o 110 (.faddr 0 (.t 109)),
 x (.store 1 (.t 110) (ci 1)),
 .again ⟨(some 108), none, (.r (.load true 9 (.t 5)))⟩,
 o 111 (.nilck (.t 107)),
 o 112 (.faddr 3 (.t 111)),
 x (.store 9 (.t 112) (.t 108))])
        (.region [m 52 0,
 m 53 0,
 o 54 (.nilck (.t 53)),
 o 55 (.faddr 13 (.t 54)),
 o 56 (.load false 1 (.t 55)),
 o 57 (.load true 9 (.t 5)),
 o 58 (.build [(.int .i64 (.ofNat 0)), .nils, (.int .i64 (.ofNat 0)), (.int .i64 (.ofNat 0)), (.int .i64 (.ofNat 0)), (.int .i64 (.ofNat 0)), (.int .u64 (.ofNat 0)), (.bool false), (.str []), (.int .i64 (.ofNat 0)), .nils, (.bool false), (.int .u64 (.ofNat 0)), (.str []), (.int .i64 (.ofNat 0)), (.int .i64 (.ofNat 0)), (.int .i64 (.ofNat 0)), (.int .i64 (.ofNat 0))] [(0, 9, (.t 57))]),
 n 59 (.bslice 0 18 1 [(.int .i64 (.ofNat 0)), .nils, (.int .i64 (.ofNat 0)), (.int .i64 (.ofNat 0)), (.int .i64 (.ofNat 0)), (.int .i64 (.ofNat 0)), (.int .u64 (.ofNat 0)), (.bool false), (.str []), (.int .i64 (.ofNat 0)), .nils, (.bool false), (.int .u64 (.ofNat 0)), (.str []), (.int .i64 (.ofNat 0)), (.int .i64 (.ofNat 0)), (.int .i64 (.ofNat 0)), (.int .i64 (.ofNat 0))] [(0, 18, (.t 58))]),
 e 60 (.app 0 18 192 (.t 56) (.t 59)),
 o 61 (.nilck (.t 52)),
 o 62 (.faddr 13 (.t 61)),
 x (.store 1 (.t 62) (.t 60))]))))))))))))
  (.seq (.region [o 2 (.mv (.c (.bool true)))])
  .ret))))))))) }
theorem tr160 : trF cx Tryz.f160 = pf160 := by kernel_rfl
/-- slices.Delete[[]depot/api.Frame,depot/api.Frame] -/
def pf164 : PF := { ntmps := 33, results := [.tmp 6], body :=
  (.seq (.region [o 6 (.mv (.c .nils))])
  (.seq (.region [m 8 0,
 m 9 1,
 m 10 2,
 m 11 0,
 o 12 (.lensl (.t 11)),
 o 13 (.slsl 9 (.t 8) (some (.t 9)) (some (.t 10)) (some (.t 12)))])
  (.seq (.seq (.region [m 14 1,
 m 15 2,
 o 16 (.bin .eql (.t 14) (.t 15))])
  (.cond (.t 16)
   (.seq (.region [m 17 0,
 m 6 17])
   .ret)
   .skip))
  (.seq (.region [m 18 0,
 o 19 (.lensl (.t 18)),
 m 7 19])
  (.seq (.region [m 20 0,
 m 21 1,
 o 22 (.slsl 9 (.t 20) none (some (.t 21)) none),
 m 23 0,
 m 24 2,
 o 25 (.slsl 9 (.t 23) (some (.t 24)) none none),
 e 26 (.app 0 9 88 (.t 22) (.t 25)),
 m 0 26])
  (.seq (.region [m 27 0,
 m 28 0,
 o 29 (.lensl (.t 28)),
 m 30 7,
 o 31 (.slsl 9 (.t 27) (some (.t 29)) (some (.t 30)) none),
 x (.clear [(.int .i64 (.ofNat 0)), (.int .i64 (.ofNat 0)), (.int .i64 (.ofNat 0)), (.int .i64 (.ofNat 0)), (.int .i64 (.ofNat 0)), (.int .i64 (.ofNat 0)), (.str []), (.int .i64 (.ofNat 0)), (.str [])] (.t 31))])
  (.seq (.region [m 32 0,
 m 6 32])
  .ret))))))) }
theorem tr164 : trF cx Tryz.f164 = pf164 := by kernel_rfl
/-- (*depot/ask.Asks).floor -/
def pf165 : PF := { ntmps := 32, results := [.tmp 6], body :=
  (.seq (.region [o 6 (.mv (ci 0))])
  (.scope (.seq (.region [m 10 2,
 m 7 10])
   (.seq .skip
   (.seq (.seq (.region [m 11 0,
 o 12 (.nilck (.t 11)),
 o 13 (.faddr 0 (.t 12)),
 o 14 (.load false 1 (.t 13)),
 o 15 (.lensl (.t 14)),
 o 16 (.mv (ci 0))])
   (.block 0 (.loop (.seq (.region [o 17 (.bin .lss (.t 16) (.t 15))])
     (.seq (.cond (.t 17)
      .skip
      (.exit 0))
     (.seq (.block 1 (.seq (.region [o 18 (.iasl 10 (.t 14) (.t 16)),
 o 19 (.load true 10 (.t 18)),
 n 9 (.new 0 [(.int .i64 (.ofNat 0)), (.int .i64 (.ofNat 0)), (.int .i64 (.ofNat 0)), (.int .i64 (.ofNat 0)), (.int .i64 (.ofNat 0)), (.int .i64 (.ofNat 0)), (.str []), (.int .i64 (.ofNat 0)), (.str []), (.int .i64 (.ofNat 0))]),
 x (.store 10 (.t 9) (.t 19))])
      (.seq (.seq (.region [o 20 (.faddr 0 (.t 9)),
 o 21 (.faddr 1 (.t 20)),
 o 22 (.load false 1 (.t 21)),
 m 23 1,
 o 24 (.bin .neq (.t 22) (.t 23))])
      (.cond (.t 24)
       (.exit 1)
       .skip))
      (.seq (.region [m 25 7,
 o 26 (.faddr 0 (.t 9)),
 o 27 (.faddr 3 (.t 26)),
 o 28 (.load false 1 (.t 27)),
 o 29 (.minmax false [(.t 25), (.t 28)]),
 m 7 29])
      (.exit 0)))))
     (.region [o 30 (.bin .add (.t 16) (ci 1)),
 m 16 30])))))))
   (.seq (.region [m 31 7,
 m 6 31])
   .ret)))))) }
theorem tr165 : trF cx Tryz.f165 = pf165 := by kernel_rfl
/-- slices.Sort[[]int,int] -/
def pf166 : PF := { ntmps := 11, results := [], body :=
  (.seq (.region [m 3 0,
 o 4 (.lensl (.t 3)),
 m 2 4])
  (.region [m 5 0,
 m 6 2,
 m 7 2,
 o 8 (.cint .u64 (.t 7)),
 e 9 (.call 179 [(.t 8)]),
 e 10 (.call 222 [(.t 5), (ci 0), (.t 6), (.t 9)])])) }
theorem tr166 : trF cx Tryz.f166 = pf166 := by kernel_rfl
/-- strings.IndexByte -/
def pf170 : PF := { ntmps := 8, results := [.tmp 4], body :=
  (.seq (.region [o 4 (.mv (ci 0))])
  (.seq (.region [m 5 0,
 m 6 1,
 e 7 (.call 232 [(.t 5), (.t 6)]),
 m 4 7])
  .ret)) }
theorem tr170 : trF cx Tryz.f170 = pf170 := by kernel_rfl
/-- depot/matrix.Identity -/
def pf176 : PF := { ntmps := 31, results := [.tmp 2], body :=
  (.seq (.region [o 2 (.mv (.c .nils))])
  (.seq (.seq (.region [m 5 0,
 o 6 (.bin .lss (.t 5) (ci 1)),
 m 7 6,
 gm 8 7 false 0,
 go 9 7 false (.bin .gtr (.t 8) (ci 12)),
 o 10 (.pick (.t 7) (.c (.bool true)) (.t 9))])
  (.cond (.t 10)
   (.seq (.region [o 2 (.mv (.c .nils))])
   .ret)
   .skip))
  (.seq (.region [m 11 0,
 n 12 (.mksl 0 1 24 [.nils] (.t 11) (.t 11)),
 m 3 12])
  (.seq (.seq (.region [m 13 3,
 o 14 (.lensl (.t 13)),
 o 15 (.mv (ci 0))])
  (.block 0 (.loop (.seq (.region [o 16 (.bin .lss (.t 15) (.t 14))])
    (.seq (.cond (.t 16)
     .skip
     (.exit 0))
    (.seq (.block 1 (.seq (.region [m 17 15,
 m 4 17])
     (.seq (.region [m 18 3,
 m 19 4,
 m 20 0,
 n 21 (.mksl 2 1 1 [(.int .u8 (.ofNat 0))] (.t 20) (.t 20)),
 o 22 (.iasl 1 (.t 18) (.t 19)),
 x (.store 1 (.t 22) (.t 21))])
     (.region [m 23 3,
 m 24 4,
 o 25 (.iasl 1 (.t 23) (.t 24)),
 o 26 (.load false 1 (.t 25)),
 m 27 4,
 o 28 (.iasl 1 (.t 26) (.t 27)),
 x (.store 1 (.t 28) (.c (.int .u8 (.ofNat 1))))]))))
    (.region [o 29 (.bin .add (.t 15) (ci 1)),
 m 15 29])))))))
  (.seq (.region [m 30 3,
 m 2 30])
  .ret))))) }
theorem tr176 : trF cx Tryz.f176 = pf176 := by kernel_rfl
/-- depot/gf.Inv -/
def pf177 : PF := { ntmps := 20, results := [.tmp 4], body :=
  (.seq (.region [o 4 (.mv (.c (.int .u8 (.ofNat 0))))])
  (.seq (.seq (.region [m 5 1,
 o 6 (.bin .eql (.t 5) (.c (.int .u8 (.ofNat 0))))])
  (.cond (.t 6)
   (.seq (.region [o 4 (.mv (.c (.int .u8 (.ofNat 0))))])
   .ret)
   .skip))
  (.seq (.region [m 7 0,
 m 8 0,
 m 9 1,
 o 10 (.nilck (.t 8)),
 o 11 (.faddr 510 (.t 10)),
 o 12 (.iaarr 256 1 (.t 11) (.t 9)),
 o 13 (.load false 1 (.t 12)),
 o 14 (.cint .i64 (.t 13)),
 o 15 (.bin .sub (ci 255) (.t 14)),
 o 16 (.nilck (.t 7)),
 o 17 (.faddr 0 (.t 16)),
 o 18 (.iaarr 510 1 (.t 17) (.t 15)),
 o 19 (.load false 1 (.t 18)),
 m 4 19])
  .ret))) }
theorem tr177 : trF cx Tryz.f177 = pf177 := by kernel_rfl
/-- slices.pdqsortOrdered[string] -/
def pf178 : PF := { ntmps := 134, results := [], body :=
  (.seq (.region [o 8 (.mv (.c (.bool true)))])
  (.seq (.region [o 9 (.mv (.c (.bool true)))])
  (.block 0 (.loop (.block 1 (.seq (.region [m 19 2,
 m 20 1,
 o 21 (.bin .sub (.t 19) (.t 20)),
 m 10 21])
     (.seq (.seq (.region [m 22 10,
 o 23 (.bin .leq (.t 22) (ci 12))])
     (.cond (.t 23)
      (.seq (.region [m 24 0,
 m 25 1,
 m 26 2,
 e 27 (.call 237 [(.t 24), (.t 25), (.t 26)])])
      .ret)
      .skip))
     (.seq (.seq (.region [m 28 3,
 o 29 (.bin .eql (.t 28) (ci 0))])
     (.cond (.t 29)
      (.seq (.region [m 30 0,
 m 31 1,
 m 32 2,
 o 33 (.bad)])
      .ret)
      .skip))
     (.seq (.seq (.region [m 34 8,
 o 35 (.un .not (.t 34))])
     (.cond (.t 35)
      (.seq (.region [m 36 0,
 m 37 1,
 m 38 2,
 o 39 (.bad)])
      (.region [m 40 3,
 o 41 (.bin .sub (.t 40) (ci 1)),
 m 3 41]))
      .skip))
     (.seq (.region [m 43 0,
 m 44 1,
 m 45 2,
 o 46 (.bad),
 m 42 46,
 o 47 (.ext 0 (.t 42)),
 o 48 (.ext 1 (.t 42)),
 m 11 47,
 m 12 48])
     (.seq (.seq (.region [m 49 12,
 o 50 (.bin .eql (.t 49) (ci 2))])
     (.cond (.t 50)
      (.seq (.region [m 51 0,
 m 52 1,
 m 53 2,
 o 54 (.bad)])
      (.seq (.region [m 55 2,
 o 56 (.bin .sub (.t 55) (ci 1)),
 m 57 11,
 m 58 1,
 o 59 (.bin .sub (.t 57) (.t 58)),
 o 60 (.bin .sub (.t 56) (.t 59)),
 m 11 60])
      (.region [o 12 (.mv (ci 1))])))
      .skip))
     (.seq (.seq (.region [m 61 8,
 m 62 61,
 gm 63 62 true 9,
 o 64 (.pick (.t 62) (.t 63) (.c (.bool false))),
 m 65 64,
 gm 66 65 true 12,
 go 67 65 true (.bin .eql (.t 66) (ci 1)),
 o 68 (.pick (.t 65) (.t 67) (.c (.bool false)))])
     (.cond (.t 68)
      (.seq (.region [m 69 0,
 m 70 1,
 m 71 2,
 o 72 (.bad)])
      (.cond (.t 72)
       .ret
       .skip))
      .skip))
     (.seq (.seq (.region [m 73 1,
 o 74 (.bin .gtr (.t 73) (ci 0)),
 m 75 74,
 gm 76 75 true 0,
 gm 77 75 true 1,
 go 78 75 true (.bin .sub (.t 77) (ci 1)),
 go 79 75 true (.iasl 1 (.t 76) (.t 78)),
 go 80 75 true (.load false 1 (.t 79)),
 gm 81 75 true 0,
 gm 82 75 true 11,
 go 83 75 true (.iasl 1 (.t 81) (.t 82)),
 go 84 75 true (.load false 1 (.t 83)),
 .op ⟨(some 85), (some (75, true)), (.e (.call 243 [(.t 80), (.t 84)]))⟩,
 go 86 75 true (.un .not (.t 85)),
 o 87 (.pick (.t 75) (.t 86) (.c (.bool false)))])
     (.cond (.t 87)
      (.seq (.region [m 88 0,
 m 89 1,
 m 90 2,
 m 91 11,
 o 92 (.bad),
 m 13 92])
      (.seq (.region [m 93 13,
 m 1 93])
      (.exit 1)))
      .skip))
     (.seq (.region [m 95 0,
 m 96 1,
 m 97 2,
 m 98 11,
 o 99 (.bad),
 m 94 99,
 o 100 (.ext 0 (.t 94)),
 o 101 (.ext 1 (.t 94)),
 m 14 100,
 m 15 101])
     (.seq (.region [m 102 15,
 m 9 102])
     (.seq (.region [m 103 14,
 m 104 1,
 o 105 (.bin .sub (.t 103) (.t 104)),
 m 106 2,
 m 107 14,
 o 108 (.bin .sub (.t 106) (.t 107)),
 m 16 105,
 m 17 108])
     (.seq (.region [m 109 10,
 o 110 (.bin .quo (.t 109) (ci 8)),
 m 18 110])
     (.seq (.region [m 111 16,
 m 112 17,
 o 113 (.bin .lss (.t 111) (.t 112))])
     (.cond (.t 113)
      (.seq (.region [m 114 16,
 m 115 18,
 o 116 (.bin .geq (.t 114) (.t 115)),
 m 8 116])
      (.seq (.region [m 117 0,
 m 118 1,
 m 119 14,
 m 120 3,
 e 121 (.call 178 [(.t 117), (.t 118), (.t 119), (.t 120)])])
      (.region [m 122 14,
 o 123 (.bin .add (.t 122) (ci 1)),
 m 1 123])))
      (.seq (.region [m 124 17,
 m 125 18,
 o 126 (.bin .geq (.t 124) (.t 125)),
 m 8 126])
      (.seq (.region [m 127 0,
 m 128 14,
 o 129 (.bin .add (.t 128) (ci 1)),
 m 130 2,
 m 131 3,
 e 132 (.call 178 [(.t 127), (.t 129), (.t 130), (.t 131)])])
      (.region [m 133 14,
 m 2 133])))))))))))))))))))))) }
theorem tr178 : trF cx Tryz.f178 = pf178 := by kernel_rfl
/-- math/bits.Len -/
def pf179 : PF := { ntmps := 8, results := [.tmp 2], body :=
  (.seq (.region [o 2 (.mv (ci 0))])
  (.seq (.cond (.c (.bool false))
   (.seq (.region [m 3 0,
 o 4 (.cint .u32 (.t 3)),
 o 5 (.bad),
 m 2 5])
   .ret)
   .skip)
  (.seq (.region [m 6 0,
 e 7 (.call 247 [(.t 6)]),
 m 2 7])
  .ret))) }
theorem tr179 : trF cx Tryz.f179 = pf179 := by kernel_rfl
/-- (*depot/item.Store).Peek -/
def pf180 : PF := { ntmps := 41, results := [.tmp 4, .tmp 5], body :=
  (.seq (.region [o 4 (.mv (.c (.str []))),
 o 5 (.mv (.c (.bool false)))])
  (.seq (.region [m 11 0,
 o 12 (.nilck (.t 11)),
 o 13 (.faddr 1 (.t 12)),
 o 14 (.load false 1 (.t 13)),
 m 15 1,
 e 16 (.call 136 [(.t 14), (.t 15)]),
 m 10 16,
 o 17 (.ext 0 (.t 10)),
 o 18 (.ext 1 (.t 10)),
 m 6 17,
 m 7 18])
  (.seq (.seq (.region [m 19 7,
 o 20 (.un .not (.t 19))])
  (.cond (.t 20)
   (.seq (.region [o 4 (.mv (.c (.str []))),
 o 5 (.mv (.c (.bool false)))])
   .ret)
   .skip))
  (.seq (.region [m 22 0,
 o 23 (.nilck (.t 22)),
 o 24 (.faddr 0 (.t 23)),
 o 25 (.load false 1 (.t 24)),
 m 26 0,
 o 27 (.nilck (.t 26)),
 o 28 (.faddr 2 (.t 27)),
 o 29 (.load false 1 (.t 28)),
 m 30 6,
 o 31 (.iasl 6 (.t 29) (.t 30)),
 o 32 (.faddr 1 (.t 31)),
 o 33 (.load true 2 (.t 32)),
 o 34 (.bad),
 m 21 34,
 o 35 (.ext 0 (.t 21)),
 o 36 (.ext 1 (.t 21)),
 m 8 35,
 m 9 36])
  (.seq (.region [m 37 8,
 m 38 1,
 o 39 (.lens (.t 38)),
 o 40 (.slstr (.t 37) (some (.t 39)) none),
 m 4 40,
 o 5 (.mv (.c (.bool true)))])
  .ret))))) }
theorem tr180 : trF cx Tryz.f180 = pf180 := by kernel_rfl
/-- (*depot/pack.Reader).fail -/
def pf182 : PF := { ntmps := 14, results := [], body :=
  (.region [m 6 0,
 m 7 0,
 m 8 1,
 m 9 2,
 o 10 (.nilck (.t 6)),
 o 11 (.faddr 1 (.t 10)),
 x (.store 1 (.t 11) (.t 8)),
 o 12 (.nilck (.t 7)),
 o 13 (.faddr 2 (.t 12)),
 x (.store 1 (.t 13) (.t 9))]) }
theorem tr182 : trF cx Tryz.f182 = pf182 := by kernel_rfl
/-- (*depot/chain.Chain).bucket -/
def pf186 : PF := { ntmps := 47, results := [.tmp 4], body :=
  (.seq (.region [o 4 (.mv (.c .nilp))])
  (.seq (.region [m 7 1,
 e 8 (.call 249 [(.t 7)]),
 o 9 (.cint .i64 (.t 8)),
 m 5 9])
  (.seq (.seq (.region [m 10 0,
 o 11 (.nilck (.t 10)),
 o 12 (.faddr 1 (.t 11)),
 o 13 (.load false 1 (.t 12)),
 o 14 (.lensl (.t 13)),
 m 6 14])
  (.seq (.region [m 15 6,
 o 16 (.bin .gtr (.t 15) (ci 0)),
 m 17 16,
 gm 18 17 true 5,
 gm 19 17 true 6,
 go 20 17 true (.bin .rem (.t 18) (.t 19)),
 gm 21 17 true 0,
 go 22 17 true (.nilck (.t 21)),
 go 23 17 true (.faddr 2 (.t 22)),
 go 24 17 true (.load false 1 (.t 23)),
 go 25 17 true (.bin .geq (.t 20) (.t 24)),
 o 26 (.pick (.t 17) (.t 25) (.c (.bool false)))])
  (.cond (.t 26)
   (.seq (.region [m 27 0,
 o 28 (.nilck (.t 27)),
 o 29 (.faddr 1 (.t 28)),
 o 30 (.load false 1 (.t 29)),
 m 31 5,
 m 32 6,
 o 33 (.bin .rem (.t 31) (.t 32)),
 o 34 (.iasl 1 (.t 30) (.t 33)),
 m 4 34])
   .ret)
   .skip)))
  (.seq (.region [m 35 0,
 o 36 (.nilck (.t 35)),
 o 37 (.faddr 0 (.t 36)),
 o 38 (.load false 1 (.t 37)),
 m 39 5,
 m 40 0,
 o 41 (.nilck (.t 40)),
 o 42 (.faddr 0 (.t 41)),
 o 43 (.load false 1 (.t 42)),
 o 44 (.lensl (.t 43)),
 o 45 (.bin .rem (.t 39) (.t 44)),
 o 46 (.iasl 1 (.t 38) (.t 45)),
 m 4 46])
  .ret)))) }
theorem tr186 : trF cx Tryz.f186 = pf186 := by kernel_rfl
/-- depot/chain.find -/
def pf187 : PF := { ntmps := 22, results := [.tmp 4], body :=
  (.seq (.region [o 4 (.mv (ci 0))])
  (.scope (.seq (.region [o 5 (.mv (.c (.int .i64 (.negSucc 0))))])
   (.seq .skip
   (.seq (.seq (.region [m 8 0,
 o 9 (.lensl (.t 8)),
 o 10 (.mv (ci 0))])
   (.block 0 (.loop (.seq (.region [o 11 (.bin .lss (.t 10) (.t 9))])
     (.seq (.cond (.t 11)
      .skip
      (.exit 0))
     (.seq (.block 1 (.seq (.region [m 12 10,
 o 13 (.iasl 2 (.t 8) (.t 10)),
 o 14 (.load true 2 (.t 13)),
 n 7 (.new 0 [(.str []), (.int .i64 (.ofNat 0))]),
 m 6 12,
 x (.store 2 (.t 7) (.t 14))])
      (.seq (.region [o 15 (.faddr 0 (.t 7)),
 o 16 (.load false 1 (.t 15)),
 m 17 1,
 o 18 (.bin .eql (.t 16) (.t 17))])
      (.cond (.t 18)
       (.seq (.region [m 19 6,
 m 5 19])
       (.exit 0))
       .skip))))
     (.region [o 20 (.bin .add (.t 10) (ci 1)),
 m 10 20])))))))
   (.seq (.region [m 21 5,
 m 4 21])
   .ret)))))) }
theorem tr187 : trF cx Tryz.f187 = pf187 := by kernel_rfl
/-- (*depot/pack.Reader).End -/
def pf188 : PF := { ntmps := 27, results := [.tmp 2], body :=
  (.seq (.region [o 2 (.mv (ci 0))])
  (.seq (.seq (.region [m 3 0,
 o 4 (.nilck (.t 3)),
 o 5 (.faddr 2 (.t 4)),
 o 6 (.load false 1 (.t 5)),
 o 7 (.bin .eql (.t 6) (ci 0)),
 m 8 7,
 gm 9 8 true 0,
 go 10 8 true (.nilck (.t 9)),
 go 11 8 true (.faddr 1 (.t 10)),
 go 12 8 true (.load false 1 (.t 11)),
 gm 13 8 true 0,
 go 14 8 true (.nilck (.t 13)),
 go 15 8 true (.faddr 0 (.t 14)),
 go 16 8 true (.load false 1 (.t 15)),
 go 17 8 true (.lensl (.t 16)),
 go 18 8 true (.bin .lss (.t 12) (.t 17)),
 o 19 (.pick (.t 8) (.t 18) (.c (.bool false)))])
  (.cond (.t 19)
   (.region [m 20 0,
 o 21 (.nilck (.t 20)),
 o 22 (.faddr 2 (.t 21)),
 x (.store 1 (.t 22) (ci 5))])
   .skip))
  (.seq (.region [m 23 0,
 o 24 (.nilck (.t 23)),
 o 25 (.faddr 2 (.t 24)),
 o 26 (.load false 1 (.t 25)),
 m 2 26])
  .ret))) }
theorem tr188 : trF cx Tryz.f188 = pf188 := by kernel_rfl
end Go.Proofs.YthogpieophmajaaGreatDoor
