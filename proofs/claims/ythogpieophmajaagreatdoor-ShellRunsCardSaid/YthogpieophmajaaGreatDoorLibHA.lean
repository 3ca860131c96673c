/- The functions that this seat's laws reach, for the clean machine; each is what the translation makes of the given text. Conditions: none. Printed by program. -/
import Derived.Test.YthogpieophmajaaGreatDoorChecked
import Derived.KernelRfl
import Derived.Test.YthogpieophmajaaGreatDoorQsD
namespace Go.Proofs.YthogpieophmajaaGreatDoor
open Go.Dp
def m (d t : Nat) : It := .op ⟨some d, none, .r (.mv (.t t))⟩
def o (d : Nat) (p : PR) : It := .op ⟨some d, none, .r p⟩
def n (d : Nat) (p : PN) : It := .op ⟨some d, none, .n p⟩
def e (d : Nat) (p : PE) : It := .op ⟨some d, none, .e p⟩
def x (p : PE) : It := .op ⟨none, none, .e p⟩
def gm (d g : Nat) (b : Bool) (t : Nat) : It := .op ⟨some d, some (g, b), .r (.mv (.t t))⟩
def go (d g : Nat) (b : Bool) (p : PR) : It := .op ⟨some d, some (g, b), .r p⟩
def ci (n : Nat) : X := .c (.int .i64 (.ofNat n))
def nums : List Nat := [6, 7, 8, 9, 13, 16, 18, 19, 25, 26, 27, 28, 29, 30, 31, 32, 33, 41, 48, 49, 50, 51, 55, 60, 61, 62, 63, 64, 65, 66, 67, 68, 69, 70, 71, 72, 73, 74, 75, 76, 77, 93, 97, 102, 103, 104, 105, 111, 112, 113, 114, 115, 116, 117, 118, 119, 120, 158, 159, 160, 165, 167, 168, 170, 172, 173, 174, 176, 216, 218, 219, 220, 223, 232, 236, 270, 271, 272, 314]
noncomputable def cx : Cx := { P := Tryz.prog, fm := fmOf nums, gm := fun _ => none, ext := extOf [(175, 2), (235, 4), (291, 1), (338, 3)], bt := some 140 }
/-- depot/depotlaw27.ShellRuns -/
def pf6 : PF := { ntmps := 47, results := [.tmp 0], body :=
  (.seq (.region [o 0 (.mv (.c (.bool false)))])
  (.seq (.region [o 9 (.build [(.int .i64 (.ofNat 0)), (.int .i64 (.ofNat 0)), (.str [])] [(0, 1, (ci 1)), (2, 1, (.c (.str [103, 101, 116, 32, 97, 13, 10])))]),
 e 10 (.call 25 [(.t 9)]),
 m 1 10])
  (.seq (.region [e 12 (.call 26 [(.c (.str [116, 105, 99, 107, 32, 49]))]),
 m 11 12,
 o 13 (.ext 0 (.t 11)),
 o 14 (.ext 1 (.t 11)),
 n 2 (.new 0 [(.int .i64 (.ofNat 0)), (.int .i64 (.ofNat 0)), (.str [])]),
 x (.store 3 (.t 2) (.t 13)),
 m 3 14])
  (.seq (.region [e 16 (.call 26 [(.c (.str [103, 105, 118, 101, 32, 48, 49]))]),
 m 15 16,
 o 17 (.ext 0 (.t 15)),
 o 18 (.ext 1 (.t 15)),
 n 4 (.new 0 [(.int .i64 (.ofNat 0)), (.int .i64 (.ofNat 0)), (.str [])]),
 x (.store 3 (.t 4) (.t 17)),
 m 5 18])
  (.seq (.region [o 20 (.build [(.int .i64 (.ofNat 0)), (.int .i64 (.ofNat 0)), (.int .i64 (.ofNat 0)), (.int .i64 (.ofNat 0)), (.int .i64 (.ofNat 0)), (.int .i64 (.ofNat 0))] [(0, 1, (ci 1)), (3, 1, (ci 1)), (4, 1, (ci 1)), (5, 1, (ci 64))]),
 e 21 (.call 27 [(.t 20), (.c (.str [115, 101, 110, 100, 32, 48, 32, 61, 110, 105, 120, 37, 48, 97]))]),
 m 19 21,
 o 22 (.ext 0 (.t 19)),
 o 23 (.ext 1 (.t 19)),
 o 24 (.ext 2 (.t 19)),
 m 6 22,
 m 7 23,
 m 8 24])
  (.seq (.region [m 25 1,
 o 26 (.bin .eql (.t 25) (.c (.str [115, 101, 110, 100, 32, 48, 32, 61, 103, 101, 116, 37, 50, 48, 97, 37, 48, 100, 37, 48, 97]))),
 m 27 26,
 gm 28 27 true 3,
 go 29 27 true (.bin .eql (.t 28) (ci 4)),
 o 30 (.pick (.t 27) (.t 29) (.c (.bool false))),
 m 31 30,
 gm 32 31 true 5,
 go 33 31 true (.bin .eql (.t 32) (ci 4)),
 o 34 (.pick (.t 31) (.t 33) (.c (.bool false))),
 m 35 34,
 gm 36 35 true 6,
 go 37 35 true (.bin .eql (.t 36) (.c (.str [121, 101, 115, 10, 115, 97, 105, 100, 32, 48, 32, 61, 69, 82, 82, 79, 82, 37, 48, 100, 37, 48, 97, 10, 115, 108, 111, 116, 115, 32, 48, 10]))),
 o 38 (.pick (.t 35) (.t 37) (.c (.bool false))),
 m 39 38,
 gm 40 39 true 7,
 go 41 39 true (.bin .eql (.t 40) (ci 0)),
 o 42 (.pick (.t 39) (.t 41) (.c (.bool false))),
 m 43 42,
 gm 44 43 true 8,
 go 45 43 true (.bin .eql (.t 44) (ci 0)),
 o 46 (.pick (.t 43) (.t 45) (.c (.bool false))),
 m 0 46])
  .ret)))))) }
theorem tr6 : trF cx Tryz.f6 = pf6 := by kernel_rfl
/-- depot/router.New -/
def pf7 : PF := { ntmps := 32, results := [.tmp 2, .tmp 3], body :=
  (.seq (.region [n 1 (.box (.t 0)),
 o 2 (.mv (.c .nilp)),
 o 3 (.mv (ci 0))])
  (.seq (.seq (.region [o 6 (.load true 6 (.t 1)),
 e 7 (.call 28 [(.t 6)]),
 o 8 (.un .not (.t 7))])
  (.cond (.t 8)
   (.seq (.region [o 2 (.mv (.c .nilp)),
 o 3 (.mv (ci 1))])
   .ret)
   .skip))
  (.seq (.region [o 9 (.load true 6 (.t 1)),
 e 10 (.call 29 []),
 .again ⟨(some 9), none, (.r (.load true 6 (.t 1)))⟩,
 o 11 (.build ([(.int .i64 (.ofNat 0)), (.int .i64 (.ofNat 0)), (.int .i64 (.ofNat 0)), (.int .i64 (.ofNat 0)), (.int .i64 (.ofNat 0)), (.int .i64 (.ofNat 0))] ++ ([.nilp, .nilp] ++ ([(.int .i64 (.ofNat 0)), (.int .i64 (.ofNat 0)), (.int .i64 (.ofNat 0))] ++ ([.nils, .nils, .nils, .nils] ++ (rep 12 [.nilp] ++ ([(.int .i64 (.ofNat 0)), (.int .i64 (.ofNat 0)), (.int .i64 (.ofNat 0)), (.int .i64 (.ofNat 0)), (.int .i64 (.ofNat 0))] ++ ([.nils, .nils]))))))) [(0, 6, (.t 9)), (7, 1, (.t 10))]),
 n 12 (.box (.t 11)),
 m 4 12])
  (.seq (.region [m 14 4,
 o 15 (.faddr 3 (.t 1)),
 o 16 (.load false 1 (.t 15)),
 e 17 (.call 30 [(.t 16)]),
 m 13 17,
 o 18 (.ext 0 (.t 13)),
 o 19 (.ext 1 (.t 13)),
 o 20 (.nilck (.t 14)),
 o 21 (.faddr 6 (.t 20)),
 x (.store 1 (.t 21) (.t 18))])
  (.seq (.seq (.region [o 22 (.faddr 3 (.t 1)),
 o 23 (.load false 1 (.t 22)),
 o 24 (.mv (ci 0))])
  (.block 0 (.loop (.seq (.region [o 25 (.bin .lss (.t 24) (.t 23))])
    (.seq (.cond (.t 25)
     .skip
     (.exit 0))
    (.seq (.block 1 (.seq (.region [m 26 24,
 m 5 26])
     (.region [m 27 4,
 m 28 5,
 e 29 (.call 31 [(.t 27), (.t 28)])])))
    (.region [o 30 (.bin .add (.t 24) (ci 1)),
 m 24 30])))))))
  (.seq (.region [m 31 4,
 m 2 31,
 o 3 (.mv (ci 0))])
  .ret)))))) }
theorem tr7 : trF cx Tryz.f7 = pf7 := by kernel_rfl
/-- depot/slot.New -/
def pf8 : PF := { ntmps := 31, results := [.tmp 6, .tmp 7], body :=
  (.seq (.region [o 6 (.mv (.c .nilp)),
 o 7 (.mv (ci 0))])
  (.seq (.seq (.region [m 10 0,
 o 11 (.bin .lss (.t 10) (ci 0)),
 m 12 11,
 gm 13 12 false 0,
 go 14 12 false (.bin .geq (.t 13) (ci 12)),
 o 15 (.pick (.t 12) (.c (.bool true)) (.t 14))])
  (.cond (.t 15)
   (.seq (.region [o 6 (.mv (.c .nilp)),
 o 7 (.mv (ci 1))])
   .ret)
   .skip))
  (.seq (.region [m 17 1,
 m 18 2,
 e 19 (.call 32 [(.t 17), (.t 18)]),
 m 16 19,
 o 20 (.ext 0 (.t 16)),
 o 21 (.ext 1 (.t 16)),
 m 8 20,
 m 9 21])
  (.seq (.seq (.region [m 22 9,
 o 23 (.bin .neq (.t 22) (ci 0))])
  (.cond (.t 23)
   (.seq (.region [m 24 9,
 o 6 (.mv (.c .nilp)),
 m 7 24])
   .ret)
   .skip))
  (.seq (.region [m 25 0,
 m 26 1,
 m 27 2,
 m 28 8,
 o 29 (.build [(.int .i64 (.ofNat 0)), (.int .i64 (.ofNat 0)), (.int .i64 (.ofNat 0)), (.bool false), (.int .i64 (.ofNat 0)), (.int .i64 (.ofNat 0)), .nilp, .nils] [(0, 1, (.t 25)), (1, 1, (.t 26)), (2, 1, (.t 27)), (6, 1, (.t 28))]),
 n 30 (.box (.t 29)),
 m 6 30,
 o 7 (.mv (ci 0))])
  .ret))))) }
theorem tr8 : trF cx Tryz.f8 = pf8 := by kernel_rfl
/-- (*depot/router.Router).Drain -/
def pf9 : PF := { ntmps := 22, results := [.tmp 2, .tmp 3], body :=
  (.seq (.region [o 2 (.mv (.c .nils)),
 o 3 (.mv (.c .nils))])
  (.seq (.region [m 6 0,
 o 7 (.nilck (.t 6)),
 o 8 (.faddr 32 (.t 7)),
 o 9 (.load false 1 (.t 8)),
 m 10 0,
 o 11 (.nilck (.t 10)),
 o 12 (.faddr 33 (.t 11)),
 o 13 (.load false 1 (.t 12)),
 m 4 9,
 m 5 13])
  (.seq (.region [m 14 0,
 m 15 0,
 o 16 (.nilck (.t 14)),
 o 17 (.faddr 32 (.t 16)),
 x (.store 1 (.t 17) (.c .nils)),
 o 18 (.nilck (.t 15)),
 o 19 (.faddr 33 (.t 18)),
 x (.store 1 (.t 19) (.c .nils))])
  (.seq (.region [m 20 4,
 m 21 5,
 m 2 20,
 m 3 21])
  .ret)))) }
theorem tr9 : trF cx Tryz.f9 = pf9 := by kernel_rfl
/-- (*depot/router.Router).State -/
def pf13 : PF := { ntmps := 11, results := [.tmp 4], body :=
  (.seq (.region [o 4 (.mv (ci 0))])
  (.seq (.region [m 5 0,
 o 6 (.nilck (.t 5)),
 o 7 (.faddr 6 (.t 6)),
 o 8 (.load false 1 (.t 7)),
 m 9 1,
 e 10 (.call 41 [(.t 8), (.t 9)]),
 m 4 10])
  .ret)) }
theorem tr13 : trF cx Tryz.f13 = pf13 := by kernel_rfl
/-- depot/cluster.New -/
def pf16 : PF := { ntmps := 66, results := [.tmp 2, .tmp 3], body :=
  (.seq (.region [n 1 (.box (.t 0)),
 o 2 (.mv (.c .nilp)),
 o 3 (.mv (ci 0))])
  (.seq (.region [o 12 (.load true 6 (.t 1)),
 e 13 (.call 7 [(.t 12)]),
 m 11 13,
 o 14 (.ext 0 (.t 11)),
 o 15 (.ext 1 (.t 11)),
 m 4 14,
 m 5 15])
  (.seq (.seq (.region [m 16 5,
 o 17 (.bin .neq (.t 16) (ci 0))])
  (.cond (.t 17)
   (.seq (.region [m 18 5,
 o 2 (.mv (.c .nilp)),
 m 3 18])
   .ret)
   .skip))
  (.seq (.region [o 19 (.load true 6 (.t 1)),
 m 20 4,
 e 21 (.call 48 []),
 .again ⟨(some 19), none, (.r (.load true 6 (.t 1)))⟩,
 o 22 (.build [(.int .i64 (.ofNat 0)), (.int .i64 (.ofNat 0)), (.int .i64 (.ofNat 0)), (.int .i64 (.ofNat 0)), (.int .i64 (.ofNat 0)), (.int .i64 (.ofNat 0)), .nilp, .nils, .nilp, .nilp, .nils, (.str []), .nilp, .nils, (.str []), .nilp, .nils, (.str []), .nilp, .nils, (.str []), .nilp, .nils, (.str []), .nilp, .nils, (.str []), .nils] [(0, 6, (.t 19)), (6, 1, (.t 20)), (8, 1, (.t 21))]),
 n 23 (.box (.t 22)),
 m 6 23])
  (.seq (.seq (.region [o 24 (.faddr 3 (.t 1)),
 o 25 (.load false 1 (.t 24)),
 o 26 (.mv (ci 0))])
  (.block 0 (.loop (.seq (.region [o 27 (.bin .lss (.t 26) (.t 25))])
    (.seq (.cond (.t 27)
     .skip
     (.exit 0))
    (.seq (.block 1 (.seq (.region [m 28 26,
 m 7 28])
     (.seq (.region [m 30 7,
 o 31 (.faddr 4 (.t 1)),
 o 32 (.load false 1 (.t 31)),
 o 33 (.faddr 5 (.t 1)),
 o 34 (.load false 1 (.t 33)),
 e 35 (.call 8 [(.t 30), (.t 32), (.t 34)]),
 m 29 35,
 o 36 (.ext 0 (.t 29)),
 o 37 (.ext 1 (.t 29)),
 m 8 36,
 m 9 37])
     (.seq (.seq (.region [m 38 9,
 o 39 (.bin .neq (.t 38) (ci 0))])
     (.cond (.t 39)
      (.seq (.region [m 40 9,
 o 2 (.mv (.c .nilp)),
 m 3 40])
      .ret)
      .skip))
     (.region [m 41 6,
 m 42 6,
 o 43 (.nilck (.t 42)),
 o 44 (.faddr 7 (.t 43)),
 o 45 (.load false 1 (.t 44)),
 m 46 8,
 n 47 (.bslice 0 1 1 [.nilp] [(0, 1, (.t 46))]),
 e 48 (.app 0 1 8 (.t 45) (.t 47)),
 o 49 (.nilck (.t 41)),
 o 50 (.faddr 7 (.t 49)),
 x (.store 1 (.t 50) (.t 48))])))))
    (.region [o 51 (.bin .add (.t 26) (ci 1)),
 m 26 51])))))))
  (.seq (.seq (.region [o 52 (.mv (ci 0))])
  (.block 2 (.loop (.seq (.region [o 53 (.bin .lss (.t 52) (ci 6))])
    (.seq (.cond (.t 53)
     .skip
     (.exit 2))
    (.seq (.block 3 (.seq (.region [m 54 52,
 m 10 54])
     (.region [m 55 6,
 m 56 10,
 o 58 (.nilck (.t 55)),
 o 59 (.faddr 9 (.t 58)),
 e 57 (.call 49 []),
 o 60 (.iaarr 6 3 (.t 59) (.t 56)),
 o 61 (.faddr 0 (.t 60)),
 x (.store 1 (.t 61) (.t 57))])))
    (.region [o 62 (.bin .add (.t 52) (ci 1)),
 m 52 62])))))))
  (.seq (.region [m 63 6,
 e 64 (.call 50 [(.t 63)])])
  (.seq (.region [m 65 6,
 m 2 65,
 o 3 (.mv (ci 0))])
  .ret)))))))) }
theorem tr16 : trF cx Tryz.f16 = pf16 := by kernel_rfl
/-- (*depot/cluster.Cluster).Do -/
def pf18 : PF := { ntmps := 56, results := [.tmp 4], body :=
  (.seq (.region [n 3 (.box (.t 1)),
 o 4 (.mv (.c (.bool false)))])
  (.seq (.region [o 5 (.mv (.c (.bool true)))])
  (.seq (.seq (.region [o 6 (.faddr 0 (.t 3)),
 o 7 (.load false 1 (.t 6))])
  (.block 0 (.seq (.region [o 9 (.bin .eql (.t 7) (ci 1)),
 m 8 9])
   (.cond (.t 8)
    (.region [m 10 0,
 o 11 (.load true 3 (.t 3)),
 e 12 (.call 51 [(.t 10), (.t 11)]),
 m 5 12])
    (.seq (.seq (.region [o 14 (.bin .eql (.t 7) (ci 2)),
 m 13 14])
    (.cond (.t 13)
     .skip
     (.seq (.region [o 15 (.bin .eql (.t 7) (ci 3)),
 m 13 15])
     (.cond (.t 13)
      .skip
      (.region [o 16 (.bin .eql (.t 7) (ci 4)),
 m 13 16])))))
    (.cond (.t 13)
     (.region [m 17 0,
 o 18 (.load true 3 (.t 3)),
 o 19 (.bad),
 m 5 19])
     (.seq (.region [o 21 (.bin .eql (.t 7) (ci 5)),
 m 20 21])
     (.cond (.t 20)
      (.region [m 22 0,
 o 23 (.nilck (.t 22)),
 o 24 (.faddr 6 (.t 23)),
 o 25 (.load false 1 (.t 24)),
 o 26 (.bad)])
      (.seq (.region [o 28 (.bin .eql (.t 7) (ci 6)),
 m 27 28])
      (.cond (.t 27)
       (.seq (.region [o 29 (.faddr 1 (.t 3)),
 o 30 (.load false 1 (.t 29)),
 o 31 (.bin .geq (.t 30) (ci 0)),
 m 32 31,
 go 33 32 true (.faddr 1 (.t 3)),
 go 34 32 true (.load false 1 (.t 33)),
 gm 35 32 true 0,
 go 36 32 true (.nilck (.t 35)),
 go 37 32 true (.faddr 7 (.t 36)),
 go 38 32 true (.load false 1 (.t 37)),
 go 39 32 true (.lensl (.t 38)),
 go 40 32 true (.bin .lss (.t 34) (.t 39)),
 o 41 (.pick (.t 32) (.t 40) (.c (.bool false))),
 m 5 41])
       (.seq (.region [m 42 5])
       (.cond (.t 42)
        (.region [m 43 0,
 o 44 (.nilck (.t 43)),
 o 45 (.faddr 7 (.t 44)),
 o 46 (.load false 1 (.t 45)),
 o 47 (.faddr 1 (.t 3)),
 o 48 (.load false 1 (.t 47)),
 o 49 (.iasl 1 (.t 46) (.t 48)),
 o 50 (.load false 1 (.t 49)),
 o 51 (.bad)])
        .skip)))
       (.region [o 5 (.mv (.c (.bool false)))])))))))))))
  (.seq (.seq (.region [m 52 5])
  (.cond (.t 52)
   (.region [m 53 0,
 e 54 (.call 50 [(.t 53)])])
   .skip))
  (.seq (.region [m 55 5,
 m 4 55])
  .ret))))) }
theorem tr18 : trF cx Tryz.f18 = pf18 := by kernel_rfl
/-- (*depot/cluster.Cluster).Said -/
def pf19 : PF := { ntmps := 15, results := [.tmp 4], body :=
  (.seq (.region [o 4 (.mv (.c (.str [])))])
  (.seq (.seq (.region [m 5 1,
 e 6 (.call 55 [(.t 5)]),
 o 7 (.un .not (.t 6))])
  (.cond (.t 7)
   (.seq (.region [o 4 (.mv (.c (.str [])))])
   .ret)
   .skip))
  (.seq (.region [m 8 0,
 m 9 1,
 o 10 (.nilck (.t 8)),
 o 11 (.faddr 9 (.t 10)),
 o 12 (.iaarr 6 3 (.t 11) (.t 9)),
 o 13 (.faddr 2 (.t 12)),
 o 14 (.load false 1 (.t 13)),
 m 4 14])
  .ret))) }
theorem tr19 : trF cx Tryz.f19 = pf19 := by kernel_rfl
/-- depot/shell.Line -/
def pf25 : PF := { ntmps := 31, results := [.tmp 2], body :=
  (.seq (.region [n 1 (.box (.t 0)),
 o 2 (.mv (.c (.str [])))])
  (.seq (.region [o 4 (.faddr 0 (.t 1)),
 o 5 (.load false 1 (.t 4)),
 e 6 (.call 61 [(.t 5)]),
 m 3 6])
  (.seq (.seq (.region [m 7 3,
 o 8 (.bin .eql (.t 7) (.c (.str []))),
 m 9 8,
 go 10 9 false (.faddr 0 (.t 1)),
 go 11 9 false (.load false 1 (.t 10)),
 go 12 9 false (.bin .eql (.t 11) (ci 5)),
 o 13 (.pick (.t 9) (.c (.bool true)) (.t 12))])
  (.cond (.t 13)
   (.seq (.region [m 14 3,
 m 2 14])
   .ret)
   .skip))
  (.seq (.region [m 15 3,
 o 16 (.faddr 1 (.t 1)),
 o 17 (.load false 1 (.t 16)),
 e 18 (.call 62 [(.t 17)]),
 o 19 (.bin .add (.c (.str [32])) (.t 18)),
 o 20 (.bin .add (.t 15) (.t 19)),
 m 3 20])
  (.seq (.seq (.region [o 21 (.faddr 0 (.t 1)),
 o 22 (.load false 1 (.t 21)),
 o 23 (.bin .eql (.t 22) (ci 1))])
  (.cond (.t 23)
   (.region [m 24 3,
 o 25 (.faddr 2 (.t 1)),
 o 26 (.load false 1 (.t 25)),
 e 27 (.call 63 [(.t 26)]),
 o 28 (.bin .add (.c (.str [32])) (.t 27)),
 o 29 (.bin .add (.t 24) (.t 28)),
 m 3 29])
   .skip))
  (.seq (.region [m 30 3,
 m 2 30])
  .ret)))))) }
theorem tr25 : trF cx Tryz.f25 = pf25 := by kernel_rfl
/-- depot/shell.Parse -/
def pf26 : PF := { ntmps := 22, results := [.cell 2 true 3, .tmp 3], body :=
  (.seq (.region [n 2 (.new 0 [(.int .i64 (.ofNat 0)), (.int .i64 (.ofNat 0)), (.str [])]),
 o 3 (.mv (ci 0))])
  (.seq (.seq (.region [m 5 0,
 o 6 (.lens (.t 5)),
 o 7 (.bin .gtr (.t 6) (ci 9000))])
  (.cond (.t 7)
   (.seq (.region [o 8 (.build [(.int .i64 (.ofNat 0)), (.int .i64 (.ofNat 0)), (.str [])] []),
 x (.store 3 (.t 2) (.t 8)),
 o 3 (.mv (ci 2))])
   .ret)
   .skip))
  (.seq (.region [m 9 0,
 e 10 (.call 65 [(.t 9), (.c (.str [32]))]),
 e 11 (.call 64 [(.t 10)]),
 n 4 (.new 0 [(.int .i64 (.ofNat 0)), (.int .i64 (.ofNat 0)), (.str [])]),
 x (.store 3 (.t 4) (.t 11))])
  (.seq (.seq (.region [m 12 0,
 o 13 (.bin .eql (.t 12) (.c (.str []))),
 m 14 13,
 go 15 14 false (.load true 3 (.t 4)),
 .op ⟨(some 16), (some (14, false)), (.e (.call 25 [(.t 15)]))⟩,
 gm 17 14 false 0,
 go 18 14 false (.bin .neq (.t 16) (.t 17)),
 o 19 (.pick (.t 14) (.c (.bool true)) (.t 18))])
  (.cond (.t 19)
   (.seq (.region [o 20 (.build [(.int .i64 (.ofNat 0)), (.int .i64 (.ofNat 0)), (.str [])] []),
 x (.store 3 (.t 2) (.t 20)),
 o 3 (.mv (ci 4))])
   .ret)
   .skip))
  (.seq (.region [o 21 (.load true 3 (.t 4)),
 x (.store 3 (.t 2) (.t 21)),
 o 3 (.mv (ci 0))])
  .ret))))) }
theorem tr26 : trF cx Tryz.f26 = pf26 := by kernel_rfl
/-- depot/shell.Run -/
def pf27 : PF := { ntmps := 80, results := [.tmp 4, .tmp 5, .tmp 6], body :=
  (.seq (.region [n 2 (.box (.t 0)),
 o 4 (.mv (.c (.str []))),
 o 5 (.mv (ci 0)),
 o 6 (.mv (ci 0))])
  (.seq (.region [m 18 1,
 e 19 (.call 66 [(.t 18)]),
 m 17 19,
 o 20 (.ext 0 (.t 17)),
 o 21 (.ext 1 (.t 17)),
 o 22 (.ext 2 (.t 17)),
 m 7 20,
 m 8 21,
 m 9 22])
  (.seq (.seq (.region [m 23 9,
 o 24 (.bin .neq (.t 23) (ci 0))])
  (.cond (.t 24)
   (.seq (.region [m 25 8,
 m 26 9,
 o 4 (.mv (.c (.str []))),
 m 5 25,
 m 6 26])
   .ret)
   .skip))
  (.seq (.region [o 28 (.load true 6 (.t 2)),
 e 29 (.call 16 [(.t 28)]),
 m 27 29,
 o 30 (.ext 0 (.t 27)),
 o 31 (.ext 1 (.t 27)),
 m 10 30,
 m 9 31])
  (.seq (.seq (.region [m 32 9,
 o 33 (.bin .neq (.t 32) (ci 0))])
  (.cond (.t 33)
   (.seq (.region [m 34 9,
 o 4 (.mv (.c (.str []))),
 o 5 (.mv (ci 0)),
 m 6 34])
   .ret)
   .skip))
  (.seq (.region [n 11 (.new 1 [.nilp, .nils])])
  (.seq (.seq (.region [m 35 7,
 o 36 (.lensl (.t 35)),
 o 37 (.mv (ci 0))])
  (.block 0 (.loop (.seq (.region [o 38 (.bin .lss (.t 37) (.t 36))])
    (.seq (.cond (.t 38)
     .skip
     (.exit 0))
    (.seq (.block 1 (.seq (.region [o 39 (.iasl 3 (.t 35) (.t 37)),
 o 40 (.load true 3 (.t 39)),
 n 13 (.new 0 [(.int .i64 (.ofNat 0)), (.int .i64 (.ofNat 0)), (.str [])]),
 x (.store 3 (.t 13) (.t 40))])
     (.seq (.region [m 41 10,
 o 42 (.load true 3 (.t 13)),
 e 43 (.call 18 [(.t 41), (.t 42)])])
     (.cond (.t 43)
      (.region [e 44 (.call 67 [(.t 11), (.c (.str [121, 101, 115, 10]))])])
      (.region [e 45 (.call 67 [(.t 11), (.c (.str [110, 111, 10]))])])))))
    (.region [o 46 (.bin .add (.t 37) (ci 1)),
 m 37 46])))))))
  (.seq (.seq (.region [o 47 (.mv (ci 0))])
  (.block 2 (.loop (.seq (.region [o 48 (.bin .lss (.t 47) (ci 6))])
    (.seq (.cond (.t 48)
     .skip
     (.exit 2))
    (.seq (.block 3 (.seq (.region [m 49 47,
 m 14 49])
     (.seq (.region [m 50 10,
 m 51 14,
 e 52 (.call 19 [(.t 50), (.t 51)]),
 m 15 52])
     (.seq (.region [m 53 15,
 o 54 (.bin .neq (.t 53) (.c (.str [])))])
     (.cond (.t 54)
      (.region [m 55 14,
 e 56 (.call 62 [(.t 55)]),
 o 57 (.bin .add (.c (.str [115, 97, 105, 100, 32])) (.t 56)),
 o 58 (.bin .add (.t 57) (.c (.str [32]))),
 m 59 15,
 e 60 (.call 63 [(.t 59)]),
 o 61 (.bin .add (.t 58) (.t 60)),
 o 62 (.bin .add (.t 61) (.c (.str [10]))),
 e 63 (.call 67 [(.t 11), (.t 62)])])
      .skip)))))
    (.region [o 64 (.bin .add (.t 47) (ci 1)),
 m 47 64])))))))
  (.seq (.region [e 65 (.call 67 [(.t 11), (.c (.str [115, 108, 111, 116, 115]))])])
  (.seq (.seq (.region [o 66 (.faddr 3 (.t 2)),
 o 67 (.load false 1 (.t 66)),
 o 68 (.mv (ci 0))])
  (.block 4 (.loop (.seq (.region [o 69 (.bin .lss (.t 68) (.t 67))])
    (.seq (.cond (.t 69)
     .skip
     (.exit 4))
    (.seq (.block 5 (.seq (.region [m 70 68,
 m 16 70])
     (.region [m 71 10,
 m 72 16,
 e 73 (.call 60 [(.t 71), (.t 72)]),
 e 74 (.call 62 [(.t 73)]),
 o 75 (.bin .add (.c (.str [32])) (.t 74)),
 e 76 (.call 67 [(.t 11), (.t 75)])])))
    (.region [o 77 (.bin .add (.t 68) (ci 1)),
 m 68 77])))))))
  (.seq (.region [e 78 (.call 68 [(.t 11)]),
 o 79 (.bin .add (.t 78) (.c (.str [10]))),
 m 4 79,
 o 5 (.mv (ci 0)),
 o 6 (.mv (ci 0))])
  .ret))))))))))) }
theorem tr27 : trF cx Tryz.f27 = pf27 := by kernel_rfl
/-- depot/task.RightConfig -/
def pf28 : PF := { ntmps := 40, results := [.tmp 2], body :=
  (.seq (.region [n 1 (.box (.t 0)),
 o 2 (.mv (.c (.bool false)))])
  (.seq (.seq (.region [o 6 (.faddr 0 (.t 1)),
 o 7 (.load false 1 (.t 6)),
 o 8 (.faddr 1 (.t 1)),
 o 9 (.load false 1 (.t 8)),
 e 10 (.call 69 [(.t 7), (.t 9)]),
 m 5 10,
 o 11 (.ext 0 (.t 5)),
 o 12 (.ext 1 (.t 5)),
 m 3 11,
 m 4 12])
  (.seq (.region [m 13 4,
 o 14 (.bin .neq (.t 13) (ci 0))])
  (.cond (.t 14)
   (.seq (.region [o 2 (.mv (.c (.bool false)))])
   .ret)
   .skip)))
  (.seq (.region [o 15 (.faddr 2 (.t 1)),
 o 16 (.load false 1 (.t 15)),
 o 17 (.faddr 1 (.t 1)),
 o 18 (.load false 1 (.t 17)),
 e 19 (.call 70 [(.t 16), (ci 0), (.t 18)]),
 m 20 19,
 go 21 20 true (.faddr 3 (.t 1)),
 go 22 20 true (.load false 1 (.t 21)),
 go 23 20 true (.faddr 0 (.t 1)),
 go 24 20 true (.load false 1 (.t 23)),
 go 25 20 true (.faddr 1 (.t 1)),
 go 26 20 true (.load false 1 (.t 25)),
 go 27 20 true (.bin .add (.t 24) (.t 26)),
 .op ⟨(some 28), (some (20, true)), (.e (.call 70 [(.t 22), (.t 27), (ci 12)]))⟩,
 o 29 (.pick (.t 20) (.t 28) (.c (.bool false))),
 m 30 29,
 go 31 30 true (.faddr 4 (.t 1)),
 go 32 30 true (.load false 1 (.t 31)),
 .op ⟨(some 33), (some (30, true)), (.e (.call 70 [(.t 32), (ci 1), (ci 64)]))⟩,
 o 34 (.pick (.t 30) (.t 33) (.c (.bool false))),
 m 35 34,
 go 36 35 true (.faddr 5 (.t 1)),
 go 37 35 true (.load false 1 (.t 36)),
 .op ⟨(some 38), (some (35, true)), (.e (.call 70 [(.t 37), (ci 64), (ci 65536)]))⟩,
 o 39 (.pick (.t 35) (.t 38) (.c (.bool false))),
 m 2 39])
  .ret))) }
theorem tr28 : trF cx Tryz.f28 = pf28 := by kernel_rfl
/-- depot/ask.New -/
def pf29 : PF := { ntmps := 3, results := [.tmp 0], body :=
  (.seq (.region [o 0 (.mv (.c .nilp))])
  (.seq (.region [o 1 (.build [.nils, (.int .i64 (.ofNat 0))] []),
 n 2 (.box (.t 1)),
 m 0 2])
  .ret)) }
theorem tr29 : trF cx Tryz.f29 = pf29 := by kernel_rfl
/-- depot/view.New -/
def pf30 : PF := { ntmps := 14, results := [.tmp 2, .tmp 3], body :=
  (.seq (.region [o 2 (.mv (.c .nilp)),
 o 3 (.mv (ci 0))])
  (.seq (.seq (.region [m 4 0,
 o 5 (.bin .lss (.t 4) (ci 1)),
 m 6 5,
 gm 7 6 false 0,
 go 8 6 false (.bin .gtr (.t 7) (ci 12)),
 o 9 (.pick (.t 6) (.c (.bool true)) (.t 8))])
  (.cond (.t 9)
   (.seq (.region [o 2 (.mv (.c .nilp)),
 o 3 (.mv (ci 1))])
   .ret)
   .skip))
  (.seq (.region [m 10 0,
 n 11 (.mksl 0 2 16 [(.int .i64 (.ofNat 0)), (.int .i64 (.ofNat 0))] (.t 10) (.t 10)),
 o 12 (.build [.nils] [(0, 1, (.t 11))]),
 n 13 (.box (.t 12)),
 m 2 13,
 o 3 (.mv (ci 0))])
  .ret))) }
theorem tr30 : trF cx Tryz.f30 = pf30 := by kernel_rfl
/-- (*depot/router.Router).again -/
def pf31 : PF := { ntmps := 39, results := [], body :=
  (.seq (.seq (.region [m 6 0,
 o 7 (.nilck (.t 6)),
 o 8 (.faddr 6 (.t 7)),
 o 9 (.load false 1 (.t 8)),
 m 10 1,
 e 11 (.call 71 [(.t 9), (.t 10), (ci 1)]),
 o 12 (.un .not (.t 11))])
  (.cond (.t 12)
   .ret
   .skip))
  (.seq (.region [m 13 0,
 m 14 1,
 o 15 (.nilck (.t 13)),
 o 16 (.faddr 15 (.t 15)),
 o 17 (.iaarr 12 1 (.t 16) (.t 14)),
 x (.store 1 (.t 17) (.c .nilp))])
  (.seq (.seq (.region [m 18 0,
 o 19 (.nilck (.t 18)),
 o 20 (.faddr 7 (.t 19)),
 o 21 (.load false 1 (.t 20)),
 m 22 1,
 e 23 (.call 72 [(.t 21), (.t 22)]),
 o 24 (.lensl (.t 23)),
 o 25 (.mv (ci 0))])
  (.block 0 (.loop (.seq (.region [o 26 (.bin .lss (.t 25) (.t 24))])
    (.seq (.cond (.t 26)
     .skip
     (.exit 0))
    (.seq (.block 1 (.seq (.region [o 27 (.iasl 9 (.t 23) (.t 25)),
 o 28 (.load true 9 (.t 27)),
 n 5 (.new 0 [(.int .i64 (.ofNat 0)), (.int .i64 (.ofNat 0)), (.int .i64 (.ofNat 0)), (.int .i64 (.ofNat 0)), (.int .i64 (.ofNat 0)), (.int .i64 (.ofNat 0)), (.str []), (.int .i64 (.ofNat 0)), (.str [])]),
 x (.store 9 (.t 5) (.t 28))])
     (.region [m 29 0,
 o 30 (.load true 9 (.t 5)),
 o 31 (.build [(.int .i64 (.ofNat 0)), (.int .i64 (.ofNat 0)), (.int .i64 (.ofNat 0)), (.int .i64 (.ofNat 0)), (.int .i64 (.ofNat 0)), (.int .i64 (.ofNat 0)), (.str []), (.int .i64 (.ofNat 0)), (.str [])] []),
 o 32 (.bad)])))
    (.region [o 33 (.bin .add (.t 25) (ci 1)),
 m 25 33])))))))
  (.region [m 34 0,
 m 35 1,
 o 36 (.build [(.int .i64 (.ofNat 0)), (.int .i64 (.ofNat 0)), (.int .i64 (.ofNat 0)), (.int .i64 (.ofNat 0)), (.int .i64 (.ofNat 0)), (.int .i64 (.ofNat 0)), (.str []), (.int .i64 (.ofNat 0)), (.str [])] [(0, 1, (ci 5)), (1, 1, (.t 35))]),
 o 37 (.build [(.int .i64 (.ofNat 0)), (.int .i64 (.ofNat 0)), (.int .i64 (.ofNat 0)), (.bool false), (.int .i64 (.ofNat 0)), (.int .i64 (.ofNat 0))] []),
 e 38 (.call 73 [(.t 34), (.t 36), (.t 37)])])))) }
theorem tr31 : trF cx Tryz.f31 = pf31 := by kernel_rfl
/-- depot/item.New -/
def pf32 : PF := { ntmps := 22, results := [.tmp 4, .tmp 5], body :=
  (.seq (.region [o 4 (.mv (.c .nilp)),
 o 5 (.mv (ci 0))])
  (.seq (.region [m 9 0,
 m 10 1,
 e 11 (.call 74 [(.t 9), (.t 10)]),
 m 8 11,
 o 12 (.ext 0 (.t 8)),
 o 13 (.ext 1 (.t 8)),
 m 6 12,
 m 7 13])
  (.seq (.seq (.region [m 14 7,
 o 15 (.bin .neq (.t 14) (ci 0))])
  (.cond (.t 15)
   (.seq (.region [m 16 7,
 o 4 (.mv (.c .nilp)),
 m 5 16])
   .ret)
   .skip))
  (.seq (.region [m 17 6,
 n 19 (.mksl 0 6 56 [(.str []), (.int .i64 (.ofNat 0)), (.int .i64 (.ofNat 0)), (.bool false), (.int .i64 (.ofNat 0)), (.int .i64 (.ofNat 0))] (ci 1) (ci 1)),
 e 18 (.call 75 []),
 o 20 (.build [.nilp, .nilp, .nils, .nils] [(0, 1, (.t 17)), (1, 1, (.t 18)), (2, 1, (.t 19))]),
 n 21 (.box (.t 20)),
 m 4 21,
 o 5 (.mv (ci 0))])
  .ret)))) }
theorem tr32 : trF cx Tryz.f32 = pf32 := by kernel_rfl
/-- depot/wire.Right -/
def pf33 : PF := { ntmps := 57, results := [.tmp 2], body :=
  (.seq (.region [n 1 (.box (.t 0)),
 o 2 (.mv (.c (.bool false)))])
  (.seq (.seq (.region [o 4 (.faddr 0 (.t 1)),
 o 5 (.load false 1 (.t 4)),
 o 6 (.bin .lss (.t 5) (ci 1)),
 m 7 6,
 go 8 7 false (.faddr 0 (.t 1)),
 go 9 7 false (.load false 1 (.t 8)),
 go 10 7 false (.bin .gtr (.t 9) (ci 7)),
 o 11 (.pick (.t 7) (.c (.bool true)) (.t 10)),
 m 12 11,
 go 13 12 false (.faddr 1 (.t 1)),
 go 14 12 false (.load false 1 (.t 13)),
 .op ⟨(some 15), (some (12, false)), (.e (.call 76 [(.t 14), (ci 11)]))⟩,
 go 16 12 false (.un .not (.t 15)),
 o 17 (.pick (.t 12) (.c (.bool true)) (.t 16)),
 m 18 17,
 go 19 18 false (.faddr 0 (.t 1)),
 go 20 18 false (.load false 1 (.t 19)),
 go 21 18 false (.faddr 5 (.t 1)),
 go 22 18 false (.load false 1 (.t 21)),
 .op ⟨(some 23), (some (18, false)), (.e (.call 77 [(.t 20), (.t 22)]))⟩,
 go 24 18 false (.un .not (.t 23)),
 o 25 (.pick (.t 18) (.c (.bool true)) (.t 24))])
  (.cond (.t 25)
   (.seq (.region [o 2 (.mv (.c (.bool false)))])
   .ret)
   .skip))
  (.seq (.region [o 26 (.faddr 2 (.t 1)),
 o 27 (.load false 1 (.t 26)),
 e 28 (.call 76 [(.t 27), (ci 1099511627776)]),
 m 29 28,
 go 30 29 true (.faddr 3 (.t 1)),
 go 31 29 true (.load false 1 (.t 30)),
 .op ⟨(some 32), (some (29, true)), (.e (.call 76 [(.t 31), (ci 1099511627776)]))⟩,
 o 33 (.pick (.t 29) (.t 32) (.c (.bool false))),
 m 34 33,
 go 35 34 true (.faddr 4 (.t 1)),
 go 36 34 true (.load false 1 (.t 35)),
 .op ⟨(some 37), (some (34, true)), (.e (.call 76 [(.t 36), (ci 1099511627776)]))⟩,
 o 38 (.pick (.t 34) (.t 37) (.c (.bool false))),
 m 39 38,
 go 40 39 true (.faddr 7 (.t 1)),
 go 41 39 true (.load false 1 (.t 40)),
 .op ⟨(some 42), (some (39, true)), (.e (.call 76 [(.t 41), (ci 1099511627776)]))⟩,
 o 43 (.pick (.t 39) (.t 42) (.c (.bool false))),
 m 3 43])
  (.seq (.region [m 44 3,
 m 45 44,
 go 46 45 true (.faddr 6 (.t 1)),
 go 47 45 true (.load false 1 (.t 46)),
 go 48 45 true (.lens (.t 47)),
 go 49 45 true (.bin .leq (.t 48) (ci 250)),
 o 50 (.pick (.t 45) (.t 49) (.c (.bool false))),
 m 51 50,
 go 52 51 true (.faddr 8 (.t 1)),
 go 53 51 true (.load false 1 (.t 52)),
 go 54 51 true (.lens (.t 53)),
 go 55 51 true (.bin .leq (.t 54) (ci 1049600)),
 o 56 (.pick (.t 51) (.t 55) (.c (.bool false))),
 m 2 56])
  .ret)))) }
theorem tr33 : trF cx Tryz.f33 = pf33 := by kernel_rfl
/-- (*depot/view.View).State -/
def pf41 : PF := { ntmps := 9, results := [.tmp 4], body :=
  (.seq (.region [o 4 (.mv (ci 0))])
  (.seq (.region [m 5 0,
 m 6 1,
 e 7 (.call 97 [(.t 5), (.t 6)]),
 o 8 (.fld false 1 0 (.t 7)),
 m 4 8])
  .ret)) }
theorem tr41 : trF cx Tryz.f41 = pf41 := by kernel_rfl
/-- depot/net.New -/
def pf48 : PF := { ntmps := 3, results := [.tmp 0], body :=
  (.seq (.region [o 0 (.mv (.c .nilp))])
  (.seq (.region [o 1 (.build [.nils] []),
 n 2 (.box (.t 1)),
 m 0 2])
  .ret)) }
theorem tr48 : trF cx Tryz.f48 = pf48 := by kernel_rfl
/-- depot/parse.New -/
def pf49 : PF := { ntmps := 3, results := [.tmp 0], body :=
  (.seq (.region [o 0 (.mv (.c .nilp))])
  (.seq (.region [o 1 (.build [(.int .i64 (.ofNat 0)), (.str []), (.int .i64 (.ofNat 0)), (.int .i64 (.ofNat 0)), .nils, (.int .i64 (.ofNat 0)), (.int .i64 (.ofNat 0)), (.int .i64 (.ofNat 0)), (.int .i64 (.ofNat 0)), (.int .u64 (.ofNat 0)), (.bool false), (.str []), (.bool false), .nils] []),
 n 2 (.box (.t 1)),
 m 0 2])
  .ret)) }
theorem tr49 : trF cx Tryz.f49 = pf49 := by kernel_rfl
/-- (*depot/cluster.Cluster).settle -/
def pf50 : PF := { ntmps := 112, results := [], body :=
  (.scope (.seq (.region [m 13 0,
 o 14 (.nilck (.t 13)),
 o 15 (.faddr 6 (.t 14)),
 o 16 (.load false 1 (.t 15)),
 e 17 (.call 9 [(.t 16)]),
 m 12 17,
 o 18 (.ext 0 (.t 12)),
 o 19 (.ext 1 (.t 12)),
 m 2 18,
 m 3 19])
   (.seq (.seq (.region [m 20 2,
 o 21 (.lensl (.t 20)),
 o 22 (.mv (ci 0))])
   (.block 0 (.loop (.seq (.region [o 23 (.bin .lss (.t 22) (.t 21))])
     (.seq (.cond (.t 23)
      .skip
      (.exit 0))
     (.seq (.block 1 (.seq (.region [o 24 (.iasl 9 (.t 20) (.t 22)),
 o 25 (.load true 9 (.t 24)),
 n 5 (.new 0 [(.int .i64 (.ofNat 0)), (.int .i64 (.ofNat 0)), (.int .i64 (.ofNat 0)), (.int .i64 (.ofNat 0)), (.int .i64 (.ofNat 0)), (.int .i64 (.ofNat 0)), (.str []), (.int .i64 (.ofNat 0)), (.str [])]),
 x (.store 9 (.t 5) (.t 25))])
      (.region [m 26 0,
 o 27 (.nilck (.t 26)),
 o 28 (.faddr 8 (.t 27)),
 o 29 (.load false 1 (.t 28)),
 o 30 (.load true 9 (.t 5)),
 e 31 (.call 102 [(.t 29), (.t 30)])])))
     (.region [o 32 (.bin .add (.t 22) (ci 1)),
 m 22 32])))))))
   (.seq .skip
   (.seq (.seq (.region [m 33 3,
 o 34 (.lensl (.t 33)),
 o 35 (.mv (ci 0))])
   (.block 2 (.loop (.seq (.region [o 36 (.bin .lss (.t 35) (.t 34))])
     (.seq (.cond (.t 36)
      .skip
      (.exit 2))
     (.seq (.block 3 (.seq (.region [o 37 (.iasl 10 (.t 33) (.t 35)),
 o 38 (.load true 10 (.t 37)),
 n 7 (.new 0 [(.int .i64 (.ofNat 0)), (.int .i64 (.ofNat 0)), .nils, (.bool false), (.int .u64 (.ofNat 0)), (.str []), (.int .i64 (.ofNat 0)), (.int .i64 (.ofNat 0)), (.int .i64 (.ofNat 0)), (.int .i64 (.ofNat 0))]),
 x (.store 10 (.t 7) (.t 38))])
      (.seq (.region [m 39 0,
 m 40 0,
 o 41 (.nilck (.t 40)),
 o 42 (.faddr 27 (.t 41)),
 o 43 (.load false 1 (.t 42)),
 o 44 (.faddr 0 (.t 7)),
 o 45 (.load false 1 (.t 44)),
 o 46 (.faddr 1 (.t 7)),
 o 47 (.load true 9 (.t 46)),
 o 48 (.bad),
 o 49 (.build [(.int .i64 (.ofNat 0)), (.int .i64 (.ofNat 0)), (.int .i64 (.ofNat 0)), .nils, (.int .i64 (.ofNat 0)), (.int .i64 (.ofNat 0)), (.int .i64 (.ofNat 0)), (.int .i64 (.ofNat 0)), (.int .u64 (.ofNat 0)), (.bool false), (.str []), (.int .i64 (.ofNat 0)), .nils, (.bool false), (.int .u64 (.ofNat 0)), (.str []), (.int .i64 (.ofNat 0)), (.int .i64 (.ofNat 0)), (.int .i64 (.ofNat 0)), (.int .i64 (.ofNat 0))] [(0, 1, (ci 2)), (1, 1, (.t 45)), (11, 9, (.t 48))]),
 n 50 (.bslice 0 20 1 [(.int .i64 (.ofNat 0)), (.int .i64 (.ofNat 0)), (.int .i64 (.ofNat 0)), .nils, (.int .i64 (.ofNat 0)), (.int .i64 (.ofNat 0)), (.int .i64 (.ofNat 0)), (.int .i64 (.ofNat 0)), (.int .u64 (.ofNat 0)), (.bool false), (.str []), (.int .i64 (.ofNat 0)), .nils, (.bool false), (.int .u64 (.ofNat 0)), (.str []), (.int .i64 (.ofNat 0)), (.int .i64 (.ofNat 0)), (.int .i64 (.ofNat 0)), (.int .i64 (.ofNat 0))] [(0, 20, (.t 49))]),
 e 51 (.app 0 20 208 (.t 43) (.t 50)),
 o 52 (.nilck (.t 39)),
 o 53 (.faddr 27 (.t 52)),
 x (.store 1 (.t 53) (.t 51))])
      (.seq (.region [o 54 (.mv (ci 0))])
      (.block 4 (.loop (.seq (.region [o 55 (.bin .lss (.t 54) (ci 6))])
        (.seq (.cond (.t 55)
         .skip
         (.exit 4))
        (.seq (.block 5 (.seq (.region [m 56 54,
 m 8 56])
         (.seq (.region [m 57 0,
 m 58 8,
 o 59 (.nilck (.t 57)),
 o 60 (.faddr 9 (.t 59)),
 o 61 (.iaarr 6 3 (.t 60) (.t 58)),
 o 62 (.faddr 1 (.t 61)),
 o 63 (.load false 1 (.t 62)),
 o 64 (.lensl (.t 63)),
 o 65 (.mv (ci 0))])
         (.block 6 (.loop (.seq (.region [o 66 (.bin .lss (.t 65) (.t 64))])
           (.seq (.cond (.t 66)
            .skip
            (.exit 6))
           (.seq (.block 7 (.seq (.region [m 67 65,
 m 9 67])
            (.seq (.region [m 68 0,
 m 69 8,
 o 70 (.nilck (.t 68)),
 o 71 (.faddr 9 (.t 70)),
 o 72 (.iaarr 6 3 (.t 71) (.t 69)),
 o 73 (.faddr 1 (.t 72)),
 o 74 (.load false 1 (.t 73)),
 m 75 9,
 o 76 (.iasl 20 (.t 74) (.t 75)),
 m 10 76])
            (.seq (.region [m 77 10,
 o 78 (.nilck (.t 77)),
 o 79 (.faddr 0 (.t 78)),
 o 80 (.load false 1 (.t 79)),
 o 81 (.faddr 0 (.t 7)),
 o 82 (.load false 1 (.t 81)),
 o 83 (.bin .eql (.t 80) (.t 82)),
 m 84 83,
 gm 85 84 true 10,
 go 86 84 true (.nilck (.t 85)),
 go 87 84 true (.faddr 19 (.t 86)),
 go 88 84 true (.load false 1 (.t 87)),
 go 89 84 true (.bin .eql (.t 88) (ci 0)),
 o 90 (.pick (.t 84) (.t 89) (.c (.bool false)))])
            (.cond (.t 90)
             (.seq (.region [m 91 10,
 m 92 10,
 o 93 (.faddr 1 (.t 7)),
 o 94 (.load true 9 (.t 93)),
 o 95 (.nilck (.t 91)),
 o 96 (.faddr 10 (.t 95)),
 x (.store 9 (.t 96) (.t 94)),
 o 97 (.nilck (.t 92)),
 o 98 (.faddr 19 (.t 97)),
 x (.store 1 (.t 98) (ci 1))])
             (.exit 3))
             .skip)))))
           (.region [o 99 (.bin .add (.t 65) (ci 1)),
 m 65 99])))))))))
        (.region [o 100 (.bin .add (.t 54) (ci 1)),
 m 54 100]))))))))))
     (.region [o 101 (.bin .add (.t 35) (ci 1)),
 m 35 101])))))))
   (.seq (.region [o 102 (.mv (ci 0))])
   (.block 8 (.loop (.seq (.region [o 103 (.bin .lss (.t 102) (ci 6))])
     (.seq (.cond (.t 103)
      .skip
      (.exit 8))
     (.seq (.block 9 (.seq (.region [m 104 102,
 m 11 104])
      (.region [m 105 0,
 m 106 11,
 o 107 (.nilck (.t 105)),
 o 108 (.faddr 9 (.t 107)),
 o 109 (.iaarr 6 3 (.t 108) (.t 106)),
 e 110 (.call 103 [(.t 109)])])))
     (.region [o 111 (.bin .add (.t 102) (ci 1)),
 m 102 111])))))))))))) }
theorem tr50 : trF cx Tryz.f50 = pf50 := by kernel_rfl
/-- (*depot/cluster.Cluster).send -/
def pf51 : PF := { ntmps := 98, results := [.tmp 4], body :=
  (.seq (.region [n 3 (.box (.t 1)),
 o 4 (.mv (.c (.bool false)))])
  (.seq (.seq (.region [o 9 (.faddr 1 (.t 3)),
 o 10 (.load false 1 (.t 9)),
 o 11 (.bin .lss (.t 10) (ci 0)),
 m 12 11,
 go 13 12 false (.faddr 1 (.t 3)),
 go 14 12 false (.load false 1 (.t 13)),
 go 15 12 false (.bin .geq (.t 14) (ci 6)),
 o 16 (.pick (.t 12) (.c (.bool true)) (.t 15)),
 m 17 16,
 gm 18 17 false 0,
 go 19 17 false (.faddr 1 (.t 3)),
 go 20 17 false (.load false 1 (.t 19)),
 go 21 17 false (.nilck (.t 18)),
 go 22 17 false (.faddr 9 (.t 21)),
 go 23 17 false (.iaarr 6 3 (.t 22) (.t 20)),
 go 24 17 false (.faddr 0 (.t 23)),
 go 25 17 false (.load false 1 (.t 24)),
 .op ⟨(some 26), (some (17, false)), (.e (.call 104 [(.t 25)]))⟩,
 o 27 (.pick (.t 17) (.c (.bool true)) (.t 26))])
  (.cond (.t 27)
   (.seq (.region [o 4 (.mv (.c (.bool false)))])
   .ret)
   .skip))
  (.seq (.region [m 28 0,
 o 29 (.faddr 1 (.t 3)),
 o 30 (.load false 1 (.t 29)),
 o 31 (.nilck (.t 28)),
 o 32 (.faddr 9 (.t 31)),
 o 33 (.iaarr 6 3 (.t 32) (.t 30)),
 m 5 33])
  (.seq (.seq (.region [m 34 5,
 o 35 (.nilck (.t 34)),
 o 36 (.faddr 0 (.t 35)),
 o 37 (.load false 1 (.t 36)),
 o 38 (.faddr 2 (.t 3)),
 o 39 (.load false 1 (.t 38)),
 o 42 (.mv (ci 0)),
 e 40 (.call 105 [(.t 37), (.t 39)]),
 o 41 (.lensl (.t 40))])
  (.block 0 (.loop (.seq (.region [o 43 (.bin .lss (.t 42) (.t 41))])
    (.seq (.cond (.t 43)
     .skip
     (.exit 0))
    (.seq (.block 1 (.seq (.region [o 44 (.iasl 18 (.t 40) (.t 42)),
 o 45 (.load true 18 (.t 44)),
 n 7 (.new 0 [(.int .i64 (.ofNat 0)), .nils, (.int .i64 (.ofNat 0)), (.int .i64 (.ofNat 0)), (.int .i64 (.ofNat 0)), (.int .i64 (.ofNat 0)), (.int .u64 (.ofNat 0)), (.bool false), (.str []), (.int .i64 (.ofNat 0)), .nils, (.bool false), (.int .u64 (.ofNat 0)), (.str []), (.int .i64 (.ofNat 0)), (.int .i64 (.ofNat 0)), (.int .i64 (.ofNat 0)), (.int .i64 (.ofNat 0))]),
 x (.store 18 (.t 7) (.t 45))])
     (.seq (.seq (.region [o 46 (.faddr 0 (.t 7)),
 o 47 (.faddr 0 (.t 46)),
 o 48 (.load false 1 (.t 47)),
 o 49 (.bin .eql (.t 48) (ci 0))])
     (.cond (.t 49)
      (.seq (.region [m 50 5,
 m 51 5,
 o 52 (.nilck (.t 51)),
 o 53 (.faddr 1 (.t 52)),
 o 54 (.load false 1 (.t 53)),
 o 55 (.faddr 9 (.t 7)),
 o 56 (.load true 9 (.t 55)),
 o 57 (.build [(.int .i64 (.ofNat 0)), (.int .i64 (.ofNat 0)), .nils, (.int .i64 (.ofNat 0)), (.int .i64 (.ofNat 0)), (.int .i64 (.ofNat 0)), (.int .i64 (.ofNat 0)), (.int .u64 (.ofNat 0)), (.bool false), (.str []), (.int .i64 (.ofNat 0)), .nils, (.bool false), (.int .u64 (.ofNat 0)), (.str []), (.int .i64 (.ofNat 0)), (.int .i64 (.ofNat 0)), (.int .i64 (.ofNat 0)), (.int .i64 (.ofNat 0)), (.int .i64 (.ofNat 0))] [(10, 9, (.t 56)), (19, 1, (ci 1))]),
 n 58 (.bslice 0 20 1 [(.int .i64 (.ofNat 0)), (.int .i64 (.ofNat 0)), .nils, (.int .i64 (.ofNat 0)), (.int .i64 (.ofNat 0)), (.int .i64 (.ofNat 0)), (.int .i64 (.ofNat 0)), (.int .u64 (.ofNat 0)), (.bool false), (.str []), (.int .i64 (.ofNat 0)), .nils, (.bool false), (.int .u64 (.ofNat 0)), (.str []), (.int .i64 (.ofNat 0)), (.int .i64 (.ofNat 0)), (.int .i64 (.ofNat 0)), (.int .i64 (.ofNat 0)), (.int .i64 (.ofNat 0))] [(0, 20, (.t 57))]),
 e 59 (.app 0 20 208 (.t 54) (.t 58)),
 o 60 (.nilck (.t 50)),
 o 61 (.faddr 1 (.t 60)),
 x (.store 1 (.t 61) (.t 59))])
      (.exit 1))
      .skip))
     (.seq (.region [m 62 0,
 o 63 (.nilck (.t 62)),
 o 64 (.faddr 6 (.t 63)),
 o 65 (.load false 1 (.t 64)),
 o 66 (.faddr 0 (.t 7)),
 o 67 (.load true 9 (.t 66)),
 o 68 (.bad),
 o 69 (.bad),
 m 8 69])
     (.seq (.region [m 70 0,
 m 71 0,
 o 72 (.nilck (.t 71)),
 o 73 (.faddr 27 (.t 72)),
 o 74 (.load false 1 (.t 73)),
 m 75 8,
 o 76 (.faddr 0 (.t 7)),
 o 77 (.load true 9 (.t 76)),
 o 78 (.bad),
 o 79 (.build [(.int .i64 (.ofNat 0)), (.int .i64 (.ofNat 0)), (.int .i64 (.ofNat 0)), .nils, (.int .i64 (.ofNat 0)), (.int .i64 (.ofNat 0)), (.int .i64 (.ofNat 0)), (.int .i64 (.ofNat 0)), (.int .u64 (.ofNat 0)), (.bool false), (.str []), (.int .i64 (.ofNat 0)), .nils, (.bool false), (.int .u64 (.ofNat 0)), (.str []), (.int .i64 (.ofNat 0)), (.int .i64 (.ofNat 0)), (.int .i64 (.ofNat 0)), (.int .i64 (.ofNat 0))] [(0, 1, (ci 1)), (1, 1, (.t 75)), (2, 9, (.t 78))]),
 n 80 (.bslice 0 20 1 [(.int .i64 (.ofNat 0)), (.int .i64 (.ofNat 0)), (.int .i64 (.ofNat 0)), .nils, (.int .i64 (.ofNat 0)), (.int .i64 (.ofNat 0)), (.int .i64 (.ofNat 0)), (.int .i64 (.ofNat 0)), (.int .u64 (.ofNat 0)), (.bool false), (.str []), (.int .i64 (.ofNat 0)), .nils, (.bool false), (.int .u64 (.ofNat 0)), (.str []), (.int .i64 (.ofNat 0)), (.int .i64 (.ofNat 0)), (.int .i64 (.ofNat 0)), (.int .i64 (.ofNat 0))] [(0, 20, (.t 79))]),
 e 81 (.app 0 20 208 (.t 74) (.t 80)),
 o 82 (.nilck (.t 70)),
 o 83 (.faddr 27 (.t 82)),
 x (.store 1 (.t 83) (.t 81))])
     (.region [m 84 5,
 m 85 5,
 o 86 (.nilck (.t 85)),
 o 87 (.faddr 1 (.t 86)),
 o 88 (.load false 1 (.t 87)),
 m 89 8,
 o 90 (.faddr 0 (.t 7)),
 o 91 (.load true 9 (.t 90)),
 o 92 (.build [(.int .i64 (.ofNat 0)), (.int .i64 (.ofNat 0)), .nils, (.int .i64 (.ofNat 0)), (.int .i64 (.ofNat 0)), (.int .i64 (.ofNat 0)), (.int .i64 (.ofNat 0)), (.int .u64 (.ofNat 0)), (.bool false), (.str []), (.int .i64 (.ofNat 0)), .nils, (.bool false), (.int .u64 (.ofNat 0)), (.str []), (.int .i64 (.ofNat 0)), (.int .i64 (.ofNat 0)), (.int .i64 (.ofNat 0)), (.int .i64 (.ofNat 0)), (.int .i64 (.ofNat 0))] [(0, 1, (.t 89)), (1, 9, (.t 91))]),
 n 93 (.bslice 0 20 1 [(.int .i64 (.ofNat 0)), (.int .i64 (.ofNat 0)), .nils, (.int .i64 (.ofNat 0)), (.int .i64 (.ofNat 0)), (.int .i64 (.ofNat 0)), (.int .i64 (.ofNat 0)), (.int .u64 (.ofNat 0)), (.bool false), (.str []), (.int .i64 (.ofNat 0)), .nils, (.bool false), (.int .u64 (.ofNat 0)), (.str []), (.int .i64 (.ofNat 0)), (.int .i64 (.ofNat 0)), (.int .i64 (.ofNat 0)), (.int .i64 (.ofNat 0)), (.int .i64 (.ofNat 0))] [(0, 20, (.t 92))]),
 e 94 (.app 0 20 208 (.t 88) (.t 93)),
 o 95 (.nilck (.t 84)),
 o 96 (.faddr 1 (.t 95)),
 x (.store 1 (.t 96) (.t 94))]))))))
    (.region [o 97 (.bin .add (.t 42) (ci 1)),
 m 42 97])))))))
  (.seq (.region [o 4 (.mv (.c (.bool true)))])
  .ret))))) }
theorem tr51 : trF cx Tryz.f51 = pf51 := by kernel_rfl
/-- depot/cluster.known -/
def pf55 : PF := { ntmps := 9, results := [.tmp 2], body :=
  (.seq (.region [o 2 (.mv (.c (.bool false)))])
  (.seq (.region [m 3 0,
 o 4 (.bin .geq (.t 3) (ci 0)),
 m 5 4,
 gm 6 5 true 0,
 go 7 5 true (.bin .lss (.t 6) (ci 6)),
 o 8 (.pick (.t 5) (.t 7) (.c (.bool false))),
 m 2 8])
  .ret)) }
theorem tr55 : trF cx Tryz.f55 = pf55 := by kernel_rfl
/-- (*depot/cluster.Cluster).State -/
def pf60 : PF := { ntmps := 11, results := [.tmp 4], body :=
  (.seq (.region [o 4 (.mv (ci 0))])
  (.seq (.region [m 5 0,
 o 6 (.nilck (.t 5)),
 o 7 (.faddr 6 (.t 6)),
 o 8 (.load false 1 (.t 7)),
 m 9 1,
 e 10 (.call 13 [(.t 8), (.t 9)]),
 m 4 10])
  .ret)) }
theorem tr60 : trF cx Tryz.f60 = pf60 := by kernel_rfl
/-- depot/shell.name -/
def pf61 : PF := { ntmps := 16, results := [.tmp 2], body :=
  (.seq (.region [o 2 (.mv (.c (.str [])))])
  (.seq (.seq (.region [m 3 0])
  (.block 0 (.seq (.region [o 5 (.bin .eql (.t 3) (ci 1)),
 m 4 5])
   (.cond (.t 4)
    (.seq (.region [o 2 (.mv (.c (.str [115, 101, 110, 100])))])
    .ret)
    (.seq (.region [o 7 (.bin .eql (.t 3) (ci 2)),
 m 6 7])
    (.cond (.t 6)
     (.seq (.region [o 2 (.mv (.c (.str [103, 105, 118, 101])))])
     .ret)
     (.seq (.region [o 9 (.bin .eql (.t 3) (ci 3)),
 m 8 9])
     (.cond (.t 8)
      (.seq (.region [o 2 (.mv (.c (.str [99, 111, 112, 121])))])
      .ret)
      (.seq (.region [o 11 (.bin .eql (.t 3) (ci 4)),
 m 10 11])
      (.cond (.t 10)
       (.seq (.region [o 2 (.mv (.c (.str [108, 111, 115, 101])))])
       .ret)
       (.seq (.region [o 13 (.bin .eql (.t 3) (ci 5)),
 m 12 13])
       (.cond (.t 12)
        (.seq (.region [o 2 (.mv (.c (.str [116, 105, 99, 107])))])
        .ret)
        (.seq (.region [o 15 (.bin .eql (.t 3) (ci 6)),
 m 14 15])
        (.cond (.t 14)
         (.seq (.region [o 2 (.mv (.c (.str [119, 105, 112, 101])))])
         .ret)
         .skip))))))))))))))
  (.seq (.region [o 2 (.mv (.c (.str [])))])
  .ret))) }
theorem tr61 : trF cx Tryz.f61 = pf61 := by kernel_rfl
/-- strconv.Itoa -/
def pf62 : PF := { ntmps := 5, results := [.tmp 2], body :=
  (.seq (.region [o 2 (.mv (.c (.str [])))])
  (.seq (.region [m 3 0,
 e 4 (.call 111 [(.t 3)]),
 m 2 4])
  .ret)) }
theorem tr62 : trF cx Tryz.f62 = pf62 := by kernel_rfl
/-- depot/shell.word -/
def pf63 : PF := { ntmps := 33, results := [.tmp 2], body :=
  (.seq (.region [o 2 (.mv (.c (.str [])))])
  (.seq (.region [n 6 (.bslice 2 1 1 [(.int .u8 (.ofNat 0))] [(0, 1, (.c (.int .u8 (.ofNat 61))))]),
 m 3 6])
  (.seq (.seq (.region [m 7 0,
 o 8 (.lens (.t 7)),
 o 9 (.mv (ci 0))])
  (.block 0 (.loop (.seq (.region [o 10 (.bin .lss (.t 9) (.t 8))])
    (.seq (.cond (.t 10)
     .skip
     (.exit 0))
    (.seq (.block 1 (.seq (.region [m 11 9,
 m 4 11])
     (.seq (.region [m 12 0,
 m 13 4,
 o 14 (.ixstr (.t 12) (.t 13)),
 m 5 14])
     (.seq (.region [m 15 5,
 e 16 (.call 112 [(.t 15)])])
     (.cond (.t 16)
      (.region [m 17 3,
 m 18 5,
 n 19 (.bslice 2 1 1 [(.int .u8 (.ofNat 0))] [(0, 1, (.t 18))]),
 e 20 (.app 2 1 1 (.t 17) (.t 19)),
 m 3 20])
      (.region [m 21 3,
 m 22 5,
 o 23 (.bin .shr (.t 22) (.c (.int .u64 (.ofNat 4)))),
 o 24 (.ixstr (.c (.str [48, 49, 50, 51, 52, 53, 54, 55, 56, 57, 97, 98, 99, 100, 101, 102])) (.t 23)),
 m 25 5,
 o 26 (.bin .and (.t 25) (.c (.int .u8 (.ofNat 15)))),
 o 27 (.ixstr (.c (.str [48, 49, 50, 51, 52, 53, 54, 55, 56, 57, 97, 98, 99, 100, 101, 102])) (.t 26)),
 n 28 (.bslice 2 1 3 [(.int .u8 (.ofNat 0)), (.int .u8 (.ofNat 0)), (.int .u8 (.ofNat 0))] [(0, 1, (.c (.int .u8 (.ofNat 37)))), (1, 1, (.t 24)), (2, 1, (.t 27))]),
 e 29 (.app 2 1 1 (.t 21) (.t 28)),
 m 3 29]))))))
    (.region [o 30 (.bin .add (.t 9) (ci 1)),
 m 9 30])))))))
  (.seq (.region [m 31 3,
 o 32 (.b2s (.t 31)),
 m 2 32])
  .ret)))) }
theorem tr63 : trF cx Tryz.f63 = pf63 := by kernel_rfl
/-- depot/shell.read -/
def pf64 : PF := { ntmps := 37, results := [.cell 2 true 3], body :=
  (.seq (.region [n 2 (.new 0 [(.int .i64 (.ofNat 0)), (.int .i64 (.ofNat 0)), (.str [])])])
  (.seq (.region [n 3 (.new 0 [(.int .i64 (.ofNat 0)), (.int .i64 (.ofNat 0)), (.str [])])])
  (.seq (.seq (.region [o 4 (.mv (ci 1))])
  (.block 0 (.loop (.seq (.seq (.region [m 5 4,
 o 6 (.bin .leq (.t 5) (ci 6))])
    (.cond (.t 6)
     .skip
     (.exit 0)))
    (.seq (.block 1 (.seq (.region [m 9 4,
 m 11 0,
 o 12 (.iasl 1 (.t 11) (ci 0)),
 o 13 (.load false 1 (.t 12)),
 e 10 (.call 61 [(.t 9)]),
 .again ⟨(some 13), none, (.r (.load false 1 (.t 12)))⟩,
 o 14 (.bin .eql (.t 10) (.t 13))])
     (.cond (.t 14)
      (.region [m 15 4,
 o 16 (.faddr 0 (.t 3)),
 x (.store 1 (.t 16) (.t 15))])
      .skip)))
    (.region [m 7 4,
 o 8 (.bin .add (.t 7) (ci 1)),
 m 4 8]))))))
  (.seq (.seq (.region [m 17 0,
 o 18 (.lensl (.t 17)),
 o 19 (.bin .gtr (.t 18) (ci 1))])
  (.cond (.t 19)
   (.region [m 21 0,
 o 22 (.iasl 1 (.t 21) (ci 1)),
 o 23 (.load false 1 (.t 22)),
 e 24 (.call 113 [(.t 23)]),
 m 20 24,
 o 25 (.ext 0 (.t 20)),
 o 26 (.ext 1 (.t 20)),
 o 27 (.faddr 1 (.t 3)),
 x (.store 1 (.t 27) (.t 25))])
   .skip))
  (.seq (.seq (.region [m 28 0,
 o 29 (.lensl (.t 28)),
 o 30 (.bin .gtr (.t 29) (ci 2))])
  (.cond (.t 30)
   (.region [m 31 0,
 o 32 (.iasl 1 (.t 31) (ci 2)),
 o 33 (.load false 1 (.t 32)),
 e 34 (.call 114 [(.t 33)]),
 o 35 (.faddr 2 (.t 3)),
 x (.store 1 (.t 35) (.t 34))])
   .skip))
  (.seq (.region [o 36 (.load true 3 (.t 3)),
 x (.store 3 (.t 2) (.t 36))])
  .ret)))))) }
theorem tr64 : trF cx Tryz.f64 = pf64 := by kernel_rfl
/-- strings.Split -/
def pf65 : PF := { ntmps := 8, results := [.tmp 4], body :=
  (.seq (.region [o 4 (.mv (.c .nils))])
  (.seq (.region [m 5 0,
 m 6 1,
 e 7 (.call 115 [(.t 5), (.t 6), (ci 0), (.c (.int .i64 (.negSucc 0)))]),
 m 4 7])
  .ret)) }
theorem tr65 : trF cx Tryz.f65 = pf65 := by kernel_rfl
/-- depot/shell.parse -/
def pf66 : PF := { ntmps := 35, results := [.tmp 2, .tmp 3, .tmp 4], body :=
  (.seq (.region [o 2 (.mv (.c .nils)),
 o 3 (.mv (ci 0)),
 o 4 (.mv (ci 0))])
  (.seq (.region [o 5 (.mv (.c .nils))])
  (.seq (.block 0 (.loop (.seq (.seq (.region [m 11 0,
 o 12 (.bin .neq (.t 11) (.c (.str [])))])
    (.cond (.t 12)
     .skip
     (.exit 0)))
    (.block 1 (.seq (.region [m 14 0,
 e 15 (.call 116 [(.t 14), (.c (.str [10]))]),
 m 13 15,
 o 16 (.ext 0 (.t 13)),
 o 17 (.ext 1 (.t 13)),
 o 18 (.ext 2 (.t 13)),
 m 6 16,
 m 7 17,
 m 8 18])
     (.seq (.region [m 20 6,
 e 21 (.call 26 [(.t 20)]),
 m 19 21,
 o 22 (.ext 0 (.t 19)),
 o 23 (.ext 1 (.t 19)),
 n 9 (.new 0 [(.int .i64 (.ofNat 0)), (.int .i64 (.ofNat 0)), (.str [])]),
 x (.store 3 (.t 9) (.t 22)),
 m 10 23])
     (.seq (.seq (.region [m 24 10,
 o 25 (.bin .neq (.t 24) (ci 0))])
     (.cond (.t 25)
      (.seq (.region [m 26 5,
 o 27 (.lensl (.t 26)),
 m 28 10,
 o 2 (.mv (.c .nils)),
 m 3 27,
 m 4 28])
      .ret)
      .skip))
     (.region [m 29 5,
 o 30 (.load true 3 (.t 9)),
 n 31 (.bslice 0 3 1 [(.int .i64 (.ofNat 0)), (.int .i64 (.ofNat 0)), (.str [])] [(0, 3, (.t 30))]),
 e 32 (.app 0 3 32 (.t 29) (.t 31)),
 m 33 7,
 m 5 32,
 m 0 33]))))))))
  (.seq (.region [m 34 5,
 m 2 34,
 o 3 (.mv (ci 0)),
 o 4 (.mv (ci 0))])
  .ret)))) }
theorem tr66 : trF cx Tryz.f66 = pf66 := by kernel_rfl
/-- (*strings.Builder).WriteString -/
def pf67 : PF := { ntmps := 19, results := [.tmp 4, .tmp 5], body :=
  (.seq (.region [o 4 (.mv (ci 0)),
 o 5 (.mv (.c .nili))])
  (.seq (.region [m 6 0,
 e 7 (.call 117 [(.t 6)])])
  (.seq (.region [m 8 0,
 m 9 0,
 o 10 (.nilck (.t 9)),
 o 11 (.faddr 1 (.t 10)),
 o 12 (.load false 1 (.t 11)),
 m 13 1,
 e 14 (.app 2 1 1 (.t 12) (.t 13)),
 o 15 (.nilck (.t 8)),
 o 16 (.faddr 1 (.t 15)),
 x (.store 1 (.t 16) (.t 14))])
  (.seq (.region [m 17 1,
 o 18 (.lens (.t 17)),
 m 4 18,
 o 5 (.mv (.c .nili))])
  .ret)))) }
theorem tr67 : trF cx Tryz.f67 = pf67 := by kernel_rfl
/-- (*strings.Builder).String -/
def pf68 : PF := { ntmps := 14, results := [.tmp 2], body :=
  (.seq (.region [o 2 (.mv (.c (.str [])))])
  (.seq (.region [m 3 0,
 o 4 (.nilck (.t 3)),
 o 5 (.faddr 1 (.t 4)),
 o 6 (.load false 1 (.t 5)),
 o 7 (.sdata (.t 6)),
 m 8 0,
 o 9 (.nilck (.t 8)),
 o 10 (.faddr 1 (.t 9)),
 o 11 (.load false 1 (.t 10)),
 o 12 (.lensl (.t 11)),
 e 13 (.ustr (.t 7) (.t 12)),
 m 2 13])
  .ret)) }
theorem tr68 : trF cx Tryz.f68 = pf68 := by kernel_rfl
/-- depot/rs.New -/
def pf69 : PF := { ntmps := 40, results := [.tmp 4, .tmp 5], body :=
  (.seq (.region [o 4 (.mv (.c .nilp)),
 o 5 (.mv (ci 0))])
  (.seq (.seq (.region [m 7 0,
 o 8 (.bin .lss (.t 7) (ci 1)),
 m 9 8,
 gm 10 9 false 0,
 go 11 9 false (.bin .gtr (.t 10) (ci 8)),
 o 12 (.pick (.t 9) (.c (.bool true)) (.t 11)),
 m 13 12,
 gm 14 13 false 1,
 go 15 13 false (.bin .lss (.t 14) (ci 0)),
 o 16 (.pick (.t 13) (.c (.bool true)) (.t 15)),
 m 17 16,
 gm 18 17 false 1,
 gm 19 17 false 0,
 go 20 17 false (.bin .sub (ci 12) (.t 19)),
 go 21 17 false (.bin .gtr (.t 18) (.t 20)),
 o 22 (.pick (.t 17) (.c (.bool true)) (.t 21))])
  (.cond (.t 22)
   (.seq (.region [o 4 (.mv (.c .nilp)),
 o 5 (.mv (ci 1))])
   .ret)
   .skip))
  (.seq (.region [m 23 0,
 m 24 0,
 m 25 1,
 o 26 (.bin .add (.t 24) (.t 25)),
 e 27 (.call 118 []),
 o 28 (.build ([(.int .i64 (.ofNat 0)), (.int .i64 (.ofNat 0))] ++ (rep 766 [(.int .u8 (.ofNat 0))] ++ ([.nils]))) [(0, 1, (.t 23)), (1, 1, (.t 26)), (2, 766, (.t 27))]),
 n 29 (.box (.t 28)),
 m 6 29])
  (.seq (.region [m 30 6,
 m 31 6,
 o 32 (.nilck (.t 31)),
 o 33 (.faddr 2 (.t 32)),
 m 34 0,
 m 35 1,
 e 36 (.call 119 [(.t 33), (.t 34), (.t 35)]),
 o 37 (.nilck (.t 30)),
 o 38 (.faddr 768 (.t 37)),
 x (.store 1 (.t 38) (.t 36))])
  (.seq (.region [m 39 6,
 m 4 39,
 o 5 (.mv (ci 0))])
  .ret))))) }
theorem tr69 : trF cx Tryz.f69 = pf69 := by kernel_rfl
/-- depot/task.within -/
def pf70 : PF := { ntmps := 15, results := [.tmp 6], body :=
  (.seq (.region [o 6 (.mv (.c (.bool false)))])
  (.seq (.region [m 7 0,
 m 8 1,
 o 9 (.bin .geq (.t 7) (.t 8)),
 m 10 9,
 gm 11 10 true 0,
 gm 12 10 true 2,
 go 13 10 true (.bin .leq (.t 11) (.t 12)),
 o 14 (.pick (.t 10) (.t 13) (.c (.bool false))),
 m 6 14])
  .ret)) }
theorem tr70 : trF cx Tryz.f70 = pf70 := by kernel_rfl
/-- (*depot/view.View).Next -/
def pf71 : PF := { ntmps := 71, results := [.tmp 6], body :=
  (.seq (.region [o 6 (.mv (.c (.bool false)))])
  (.seq (.seq (.region [m 8 1,
 o 9 (.bin .lss (.t 8) (ci 0)),
 m 10 9,
 gm 11 10 false 1,
 gm 12 10 false 0,
 go 13 10 false (.nilck (.t 12)),
 go 14 10 false (.faddr 0 (.t 13)),
 go 15 10 false (.load false 1 (.t 14)),
 go 16 10 false (.lensl (.t 15)),
 go 17 10 false (.bin .geq (.t 11) (.t 16)),
 o 18 (.pick (.t 10) (.c (.bool true)) (.t 17))])
  (.cond (.t 18)
   (.seq (.region [o 6 (.mv (.c (.bool false)))])
   .ret)
   .skip))
  (.seq (.region [m 19 0,
 o 20 (.nilck (.t 19)),
 o 21 (.faddr 0 (.t 20)),
 o 22 (.load false 1 (.t 21)),
 m 23 1,
 o 24 (.iasl 2 (.t 22) (.t 23)),
 m 7 24])
  (.seq (.block 0 (.seq (.region [m 26 2,
 o 27 (.bin .eql (.t 26) (ci 1)),
 m 25 27])
   (.cond (.t 25)
    (.seq (.region [m 28 7,
 o 29 (.nilck (.t 28)),
 o 30 (.faddr 0 (.t 29)),
 x (.store 1 (.t 30) (ci 0))])
    (.region [m 31 7,
 o 32 (.nilck (.t 31)),
 o 33 (.faddr 1 (.t 32)),
 o 34 (.load false 1 (.t 33)),
 o 35 (.bin .add (.t 34) (ci 1)),
 o 36 (.nilck (.t 31)),
 o 37 (.faddr 1 (.t 36)),
 x (.store 1 (.t 37) (.t 35))]))
    (.seq (.region [m 39 2,
 o 40 (.bin .eql (.t 39) (ci 2)),
 m 41 40,
 gm 42 41 true 7,
 go 43 41 true (.nilck (.t 42)),
 go 44 41 true (.faddr 0 (.t 43)),
 go 45 41 true (.load false 1 (.t 44)),
 go 46 41 true (.bin .eql (.t 45) (ci 0)),
 o 47 (.pick (.t 41) (.t 46) (.c (.bool false))),
 m 48 47,
 gm 49 48 true 7,
 go 50 48 true (.nilck (.t 49)),
 go 51 48 true (.faddr 1 (.t 50)),
 go 52 48 true (.load false 1 (.t 51)),
 go 53 48 true (.bin .gtr (.t 52) (ci 0)),
 o 54 (.pick (.t 48) (.t 53) (.c (.bool false))),
 m 38 54])
    (.cond (.t 38)
     (.region [m 55 7,
 o 56 (.nilck (.t 55)),
 o 57 (.faddr 0 (.t 56)),
 x (.store 1 (.t 57) (ci 1))])
     (.seq (.region [m 59 2,
 o 60 (.bin .eql (.t 59) (ci 3)),
 m 61 60,
 gm 62 61 true 7,
 go 63 61 true (.nilck (.t 62)),
 go 64 61 true (.faddr 0 (.t 63)),
 go 65 61 true (.load false 1 (.t 64)),
 go 66 61 true (.bin .eql (.t 65) (ci 1)),
 o 67 (.pick (.t 61) (.t 66) (.c (.bool false))),
 m 58 67])
     (.cond (.t 58)
      (.region [m 68 7,
 o 69 (.nilck (.t 68)),
 o 70 (.faddr 0 (.t 69)),
 x (.store 1 (.t 70) (ci 2))])
      (.seq (.region [o 6 (.mv (.c (.bool false)))])
      .ret))))))))
  (.seq (.region [o 6 (.mv (.c (.bool true)))])
  .ret))))) }
theorem tr71 : trF cx Tryz.f71 = pf71 := by kernel_rfl
/-- (*depot/ask.Asks).Cancel -/
def pf72 : PF := { ntmps := 38, results := [.tmp 4], body :=
  (.seq (.region [o 4 (.mv (.c .nils))])
  (.seq (.region [o 5 (.mv (.c .nils))])
  (.seq (.region [o 6 (.mv (.c .nils))])
  (.seq (.seq (.region [m 9 0,
 o 10 (.nilck (.t 9)),
 o 11 (.faddr 0 (.t 10)),
 o 12 (.load false 1 (.t 11)),
 o 13 (.lensl (.t 12)),
 o 14 (.mv (ci 0))])
  (.block 0 (.loop (.seq (.region [o 15 (.bin .lss (.t 14) (.t 13))])
    (.seq (.cond (.t 15)
     .skip
     (.exit 0))
    (.seq (.block 1 (.seq (.region [o 16 (.iasl 10 (.t 12) (.t 14)),
 o 17 (.load true 10 (.t 16)),
 n 8 (.new 0 [(.int .i64 (.ofNat 0)), (.int .i64 (.ofNat 0)), (.int .i64 (.ofNat 0)), (.int .i64 (.ofNat 0)), (.int .i64 (.ofNat 0)), (.int .i64 (.ofNat 0)), (.str []), (.int .i64 (.ofNat 0)), (.str []), (.int .i64 (.ofNat 0))]),
 x (.store 10 (.t 8) (.t 17))])
     (.seq (.region [o 18 (.faddr 0 (.t 8)),
 o 19 (.faddr 1 (.t 18)),
 o 20 (.load false 1 (.t 19)),
 m 21 1,
 o 22 (.bin .eql (.t 20) (.t 21))])
     (.cond (.t 22)
      (.region [m 23 5,
 o 24 (.faddr 0 (.t 8)),
 o 25 (.load true 9 (.t 24)),
 n 26 (.bslice 0 9 1 [(.int .i64 (.ofNat 0)), (.int .i64 (.ofNat 0)), (.int .i64 (.ofNat 0)), (.int .i64 (.ofNat 0)), (.int .i64 (.ofNat 0)), (.int .i64 (.ofNat 0)), (.str []), (.int .i64 (.ofNat 0)), (.str [])] [(0, 9, (.t 25))]),
 e 27 (.app 0 9 88 (.t 23) (.t 26)),
 m 5 27])
      (.region [m 28 6,
 o 29 (.load true 10 (.t 8)),
 n 30 (.bslice 0 10 1 [(.int .i64 (.ofNat 0)), (.int .i64 (.ofNat 0)), (.int .i64 (.ofNat 0)), (.int .i64 (.ofNat 0)), (.int .i64 (.ofNat 0)), (.int .i64 (.ofNat 0)), (.str []), (.int .i64 (.ofNat 0)), (.str []), (.int .i64 (.ofNat 0))] [(0, 10, (.t 29))]),
 e 31 (.app 0 10 96 (.t 28) (.t 30)),
 m 6 31])))))
    (.region [o 32 (.bin .add (.t 14) (ci 1)),
 m 14 32])))))))
  (.seq (.region [m 33 0,
 m 34 6,
 o 35 (.nilck (.t 33)),
 o 36 (.faddr 0 (.t 35)),
 x (.store 1 (.t 36) (.t 34))])
  (.seq (.region [m 37 5,
 m 4 37])
  .ret)))))) }
theorem tr72 : trF cx Tryz.f72 = pf72 := by kernel_rfl
/-- (*depot/router.Router).send -/
def pf73 : PF := { ntmps := 49, results := [], body :=
  (.seq (.region [n 4 (.box (.t 1)),
 n 5 (.box (.t 2))])
  (.seq (.region [m 8 0,
 o 9 (.nilck (.t 8)),
 o 10 (.faddr 6 (.t 9)),
 o 11 (.load false 1 (.t 10)),
 o 12 (.faddr 1 (.t 4)),
 o 13 (.load false 1 (.t 12)),
 e 14 (.call 93 [(.t 11), (.t 13)]),
 o 15 (.faddr 2 (.t 4)),
 x (.store 1 (.t 15) (.t 14))])
  (.seq (.region [m 17 0,
 o 18 (.nilck (.t 17)),
 o 19 (.faddr 7 (.t 18)),
 o 20 (.load false 1 (.t 19)),
 o 21 (.load true 9 (.t 4)),
 n 6 (.new 0 [(.int .i64 (.ofNat 0)), (.int .i64 (.ofNat 0)), (.int .i64 (.ofNat 0)), (.int .i64 (.ofNat 0)), (.int .i64 (.ofNat 0)), (.int .i64 (.ofNat 0)), (.str []), (.int .i64 (.ofNat 0)), (.str [])]),
 e 22 (.call 120 [(.t 20), (.t 21)]),
 m 16 22,
 o 23 (.ext 0 (.t 16)),
 o 24 (.ext 1 (.t 16)),
 x (.store 9 (.t 6) (.t 23)),
 m 7 24])
  (.seq (.region [m 25 7])
  (.cond (.t 25)
   (.seq (.region [o 26 (.faddr 3 (.t 6)),
 o 27 (.load false 1 (.t 26)),
 o 28 (.faddr 0 (.t 5)),
 x (.store 1 (.t 28) (.t 27))])
   (.seq (.region [m 29 0,
 m 30 0,
 o 31 (.nilck (.t 30)),
 o 32 (.faddr 13 (.t 31)),
 o 33 (.load false 1 (.t 32)),
 o 34 (.load true 6 (.t 5)),
 n 35 (.bslice 0 6 1 [(.int .i64 (.ofNat 0)), (.int .i64 (.ofNat 0)), (.int .i64 (.ofNat 0)), (.bool false), (.int .i64 (.ofNat 0)), (.int .i64 (.ofNat 0))] [(0, 6, (.t 34))]),
 e 36 (.app 0 6 48 (.t 33) (.t 35)),
 o 37 (.nilck (.t 29)),
 o 38 (.faddr 13 (.t 37)),
 x (.store 1 (.t 38) (.t 36))])
   (.region [m 39 0,
 m 40 0,
 o 41 (.nilck (.t 40)),
 o 42 (.faddr 32 (.t 41)),
 o 43 (.load false 1 (.t 42)),
 o 44 (.load true 9 (.t 6)),
 n 45 (.bslice 0 9 1 [(.int .i64 (.ofNat 0)), (.int .i64 (.ofNat 0)), (.int .i64 (.ofNat 0)), (.int .i64 (.ofNat 0)), (.int .i64 (.ofNat 0)), (.int .i64 (.ofNat 0)), (.str []), (.int .i64 (.ofNat 0)), (.str [])] [(0, 9, (.t 44))]),
 e 46 (.app 0 9 88 (.t 43) (.t 45)),
 o 47 (.nilck (.t 39)),
 o 48 (.faddr 32 (.t 47)),
 x (.store 1 (.t 48) (.t 46))])))
   .skip))))) }
theorem tr73 : trF cx Tryz.f73 = pf73 := by kernel_rfl
/-- depot/slab.New -/
def pf74 : PF := { ntmps := 44, results := [.tmp 4, .tmp 5], body :=
  (.seq (.region [o 4 (.mv (.c .nilp)),
 o 5 (.mv (ci 0))])
  (.seq (.seq (.region [m 8 0,
 o 9 (.bin .lss (.t 8) (ci 1)),
 m 10 9,
 gm 11 10 false 0,
 go 12 10 false (.bin .gtr (.t 11) (ci 64)),
 o 13 (.pick (.t 10) (.c (.bool true)) (.t 12)),
 m 14 13,
 gm 15 14 false 1,
 go 16 14 false (.bin .lss (.t 15) (ci 64)),
 o 17 (.pick (.t 14) (.c (.bool true)) (.t 16)),
 m 18 17,
 gm 19 18 false 1,
 go 20 18 false (.bin .gtr (.t 19) (ci 65536)),
 o 21 (.pick (.t 18) (.c (.bool true)) (.t 20))])
  (.cond (.t 21)
   (.seq (.region [o 4 (.mv (.c .nilp)),
 o 5 (.mv (ci 1))])
   .ret)
   .skip))
  (.seq (.region [m 22 1,
 m 23 0,
 o 24 (.build [(.int .i64 (.ofNat 0)), (.int .i64 (.ofNat 0)), (.int .i64 (.ofNat 0)), .nils] [(0, 1, (.t 22)), (1, 1, (.t 23))]),
 n 25 (.box (.t 24)),
 m 6 25])
  (.seq (.seq (.region [o 7 (.mv (ci 64))])
  (.block 0 (.loop (.seq (.seq (.region [m 26 7,
 m 27 1,
 o 28 (.bin .leq (.t 26) (.t 27))])
    (.cond (.t 28)
     .skip
     (.exit 0)))
    (.seq (.block 1 (.region [m 31 6,
 m 32 6,
 o 33 (.nilck (.t 32)),
 o 34 (.faddr 3 (.t 33)),
 o 35 (.load false 1 (.t 34)),
 m 36 7,
 n 37 (.mkmap),
 o 38 (.build [(.int .i64 (.ofNat 0)), .nils, .nilm, (.int .i64 (.ofNat 0))] [(0, 1, (.t 36)), (2, 1, (.t 37))]),
 n 39 (.bslice 0 4 1 [(.int .i64 (.ofNat 0)), .nils, .nilm, (.int .i64 (.ofNat 0))] [(0, 4, (.t 38))]),
 e 40 (.app 0 4 48 (.t 35) (.t 39)),
 o 41 (.nilck (.t 31)),
 o 42 (.faddr 3 (.t 41)),
 x (.store 1 (.t 42) (.t 40))]))
    (.region [m 29 7,
 o 30 (.bin .mul (.t 29) (ci 2)),
 m 7 30]))))))
  (.seq (.region [m 43 6,
 m 4 43,
 o 5 (.mv (ci 0))])
  .ret))))) }
theorem tr74 : trF cx Tryz.f74 = pf74 := by kernel_rfl
/-- depot/chain.New -/
def pf75 : PF := { ntmps := 4, results := [.tmp 0], body :=
  (.seq (.region [o 0 (.mv (.c .nilp))])
  (.seq (.region [n 1 (.mksl 0 1 24 [.nils] (ci 4) (ci 4)),
 o 2 (.build [.nils, .nils, (.int .i64 (.ofNat 0)), (.int .i64 (.ofNat 0))] [(0, 1, (.t 1))]),
 n 3 (.box (.t 2)),
 m 0 3])
  .ret)) }
theorem tr75 : trF cx Tryz.f75 = pf75 := by kernel_rfl
/-- depot/wire.within -/
def pf76 : PF := { ntmps := 12, results := [.tmp 4], body :=
  (.seq (.region [o 4 (.mv (.c (.bool false)))])
  (.seq (.region [m 5 0,
 o 6 (.bin .geq (.t 5) (ci 0)),
 m 7 6,
 gm 8 7 true 0,
 gm 9 7 true 1,
 go 10 7 true (.bin .leq (.t 8) (.t 9)),
 o 11 (.pick (.t 7) (.t 10) (.c (.bool false))),
 m 4 11])
  .ret)) }
theorem tr76 : trF cx Tryz.f76 = pf76 := by kernel_rfl
/-- depot/wire.role -/
def pf77 : PF := { ntmps := 30, results := [.tmp 4], body :=
  (.seq (.region [o 4 (.mv (.c (.bool false)))])
  (.seq (.seq (.region [m 5 0])
  (.block 0 (.seq (.seq (.region [o 7 (.bin .eql (.t 5) (ci 4)),
 m 6 7])
   (.cond (.t 6)
    .skip
    (.seq (.region [o 8 (.bin .eql (.t 5) (ci 5)),
 m 6 8])
    (.cond (.t 6)
     .skip
     (.region [o 9 (.bin .eql (.t 5) (ci 7)),
 m 6 9])))))
   (.cond (.t 6)
    (.seq (.region [m 10 1,
 o 11 (.bin .eql (.t 10) (ci 0)),
 m 4 11])
    .ret)
    (.seq (.region [o 13 (.bin .eql (.t 5) (ci 6)),
 m 12 13])
    (.cond (.t 12)
     (.seq (.region [m 14 1,
 o 15 (.bin .eql (.t 14) (ci 0)),
 m 16 15,
 gm 17 16 false 1,
 go 18 16 false (.bin .eql (.t 17) (ci 1)),
 o 19 (.pick (.t 16) (.c (.bool true)) (.t 18)),
 m 20 19,
 gm 21 20 false 1,
 go 22 20 false (.bin .eql (.t 21) (ci 2)),
 o 23 (.pick (.t 20) (.c (.bool true)) (.t 22)),
 m 4 23])
     .ret)
     .skip))))))
  (.seq (.region [m 24 1,
 o 25 (.bin .eql (.t 24) (ci 1)),
 m 26 25,
 gm 27 26 false 1,
 go 28 26 false (.bin .eql (.t 27) (ci 2)),
 o 29 (.pick (.t 26) (.c (.bool true)) (.t 28)),
 m 4 29])
  .ret))) }
theorem tr77 : trF cx Tryz.f77 = pf77 := by kernel_rfl
/-- (*depot/view.View).Inc -/
def pf93 : PF := { ntmps := 9, results := [.tmp 4], body :=
  (.seq (.region [o 4 (.mv (ci 0))])
  (.seq (.region [m 5 0,
 m 6 1,
 e 7 (.call 97 [(.t 5), (.t 6)]),
 o 8 (.fld false 1 1 (.t 7)),
 m 4 8])
  .ret)) }
theorem tr93 : trF cx Tryz.f93 = pf93 := by kernel_rfl
/-- (*depot/view.View).of -/
def pf97 : PF := { ntmps := 24, results := [.cell 4 true 2], body :=
  (.seq (.region [n 4 (.new 0 [(.int .i64 (.ofNat 0)), (.int .i64 (.ofNat 0))])])
  (.seq (.seq (.region [m 5 1,
 o 6 (.bin .lss (.t 5) (ci 0)),
 m 7 6,
 gm 8 7 false 1,
 gm 9 7 false 0,
 go 10 7 false (.nilck (.t 9)),
 go 11 7 false (.faddr 0 (.t 10)),
 go 12 7 false (.load false 1 (.t 11)),
 go 13 7 false (.lensl (.t 12)),
 go 14 7 false (.bin .geq (.t 8) (.t 13)),
 o 15 (.pick (.t 7) (.c (.bool true)) (.t 14))])
  (.cond (.t 15)
   (.seq (.region [o 16 (.build [(.int .i64 (.ofNat 0)), (.int .i64 (.ofNat 0))] []),
 x (.store 2 (.t 4) (.t 16))])
   .ret)
   .skip))
  (.seq (.region [m 17 0,
 o 18 (.nilck (.t 17)),
 o 19 (.faddr 0 (.t 18)),
 o 20 (.load false 1 (.t 19)),
 m 21 1,
 o 22 (.iasl 2 (.t 20) (.t 21)),
 o 23 (.load true 2 (.t 22)),
 x (.store 2 (.t 4) (.t 23))])
  .ret))) }
theorem tr97 : trF cx Tryz.f97 = pf97 := by kernel_rfl
/-- (*depot/net.Net).Send -/
def pf102 : PF := { ntmps := 21, results := [.tmp 4], body :=
  (.seq (.region [n 3 (.box (.t 1)),
 o 4 (.mv (.c (.bool false)))])
  (.seq (.seq (.region [m 5 0,
 o 6 (.nilck (.t 5)),
 o 7 (.faddr 0 (.t 6)),
 o 8 (.load false 1 (.t 7)),
 o 9 (.lensl (.t 8)),
 o 10 (.bin .geq (.t 9) (ci 4000))])
  (.cond (.t 10)
   (.seq (.region [o 4 (.mv (.c (.bool false)))])
   .ret)
   .skip))
  (.seq (.region [m 11 0,
 m 12 0,
 o 13 (.nilck (.t 12)),
 o 14 (.faddr 0 (.t 13)),
 o 15 (.load false 1 (.t 14)),
 o 16 (.load true 9 (.t 3)),
 n 17 (.bslice 0 9 1 [(.int .i64 (.ofNat 0)), (.int .i64 (.ofNat 0)), (.int .i64 (.ofNat 0)), (.int .i64 (.ofNat 0)), (.int .i64 (.ofNat 0)), (.int .i64 (.ofNat 0)), (.str []), (.int .i64 (.ofNat 0)), (.str [])] [(0, 9, (.t 16))]),
 e 18 (.app 0 9 88 (.t 15) (.t 17)),
 o 19 (.nilck (.t 11)),
 o 20 (.faddr 0 (.t 19)),
 x (.store 1 (.t 20) (.t 18))])
  (.seq (.region [o 4 (.mv (.c (.bool true)))])
  .ret)))) }
theorem tr102 : trF cx Tryz.f102 = pf102 := by kernel_rfl
/-- (*depot/cluster.conn).say -/
def pf103 : PF := { ntmps := 49, results := [], body :=
  (.block 0 (.loop (.seq (.seq (.region [m 3 0,
 o 4 (.nilck (.t 3)),
 o 5 (.faddr 1 (.t 4)),
 o 6 (.load false 1 (.t 5)),
 o 7 (.lensl (.t 6)),
 o 8 (.bin .gtr (.t 7) (ci 0)),
 m 9 8,
 gm 10 9 true 0,
 go 11 9 true (.nilck (.t 10)),
 go 12 9 true (.faddr 1 (.t 11)),
 go 13 9 true (.load false 1 (.t 12)),
 go 14 9 true (.iasl 20 (.t 13) (ci 0)),
 go 15 9 true (.faddr 19 (.t 14)),
 go 16 9 true (.load false 1 (.t 15)),
 go 17 9 true (.bin .eql (.t 16) (ci 1)),
 o 18 (.pick (.t 9) (.t 17) (.c (.bool false)))])
    (.cond (.t 18)
     .skip
     (.exit 0)))
    (.block 1 (.seq (.region [m 19 0,
 o 20 (.nilck (.t 19)),
 o 21 (.faddr 1 (.t 20)),
 o 22 (.load false 1 (.t 21)),
 o 23 (.iasl 20 (.t 22) (ci 0)),
 o 24 (.load true 20 (.t 23)),
 n 2 (.new 0 [(.int .i64 (.ofNat 0)), (.int .i64 (.ofNat 0)), .nils, (.int .i64 (.ofNat 0)), (.int .i64 (.ofNat 0)), (.int .i64 (.ofNat 0)), (.int .i64 (.ofNat 0)), (.int .u64 (.ofNat 0)), (.bool false), (.str []), (.int .i64 (.ofNat 0)), .nils, (.bool false), (.int .u64 (.ofNat 0)), (.str []), (.int .i64 (.ofNat 0)), (.int .i64 (.ofNat 0)), (.int .i64 (.ofNat 0)), (.int .i64 (.ofNat 0)), (.int .i64 (.ofNat 0))]),
 x (.store 20 (.t 2) (.t 24))])
     (.seq (.region [m 25 0,
 m 26 0,
 o 27 (.nilck (.t 26)),
 o 28 (.faddr 1 (.t 27)),
 o 29 (.load false 1 (.t 28)),
 o 30 (.slsl 20 (.t 29) (some (ci 1)) none none),
 o 31 (.nilck (.t 25)),
 o 32 (.faddr 1 (.t 31)),
 x (.store 1 (.t 32) (.t 30))])
     (.seq (.region [o 33 (.faddr 1 (.t 2)),
 o 34 (.load true 9 (.t 33)),
 o 35 (.faddr 10 (.t 2)),
 o 36 (.load true 9 (.t 35)),
 e 37 (.call 158 [(.t 34), (.t 36)]),
 o 38 (.un .not (.t 37))])
     (.cond (.t 38)
      (.region [m 39 0,
 o 40 (.nilck (.t 39)),
 o 41 (.faddr 2 (.t 40)),
 o 42 (.load false 1 (.t 41)),
 o 43 (.faddr 10 (.t 2)),
 o 44 (.load true 9 (.t 43)),
 e 45 (.call 159 [(.t 44)]),
 .again ⟨(some 42), none, (.r (.load false 1 (.t 41)))⟩,
 o 46 (.bin .add (.t 42) (.t 45)),
 o 47 (.nilck (.t 39)),
 o 48 (.faddr 2 (.t 47)),
 x (.store 1 (.t 48) (.t 46))])
      .skip)))))))) }
theorem tr103 : trF cx Tryz.f103 = pf103 := by kernel_rfl
/-- (*depot/parse.Parser).Shut -/
def pf104 : PF := { ntmps := 7, results := [.tmp 2], body :=
  (.seq (.region [o 2 (.mv (.c (.bool false)))])
  (.seq (.region [m 3 0,
 o 4 (.nilck (.t 3)),
 o 5 (.faddr 12 (.t 4)),
 o 6 (.load false 1 (.t 5)),
 m 2 6])
  .ret)) }
theorem tr104 : trF cx Tryz.f104 = pf104 := by kernel_rfl
/-- (*depot/parse.Parser).Feed -/
def pf105 : PF := { ntmps := 54, results := [.tmp 4], body :=
  (.seq (.region [o 4 (.mv (.c .nils))])
  (.scope (.seq (.seq (.region [m 7 0,
 o 8 (.nilck (.t 7)),
 o 9 (.faddr 12 (.t 8)),
 o 10 (.load false 1 (.t 9))])
   (.cond (.t 10)
    (.seq (.region [o 4 (.mv (.c .nils))])
    .ret)
    .skip))
   (.seq (.region [m 11 0,
 o 12 (.nilck (.t 11)),
 o 13 (.faddr 1 (.t 12)),
 o 14 (.load false 1 (.t 13)),
 m 15 1,
 o 16 (.bin .add (.t 14) (.t 15)),
 o 17 (.nilck (.t 11)),
 o 18 (.faddr 1 (.t 17)),
 x (.store 1 (.t 18) (.t 16))])
   (.seq .skip
   (.seq (.block 0 (.loop (.seq (.seq (.region [m 19 0,
 o 20 (.nilck (.t 19)),
 o 21 (.faddr 12 (.t 20)),
 o 22 (.load false 1 (.t 21)),
 o 23 (.un .not (.t 22))])
     (.cond (.t 23)
      .skip
      (.exit 0)))
     (.block 1 (.seq (.region [o 5 (.mv (.c (.bool false)))])
      (.seq (.seq (.region [m 24 0,
 o 25 (.nilck (.t 24)),
 o 26 (.faddr 0 (.t 25)),
 o 27 (.load false 1 (.t 26))])
      (.block 2 (.seq (.region [o 29 (.bin .eql (.t 27) (ci 0)),
 m 28 29])
       (.cond (.t 28)
        (.region [m 30 0,
 e 31 (.call 160 [(.t 30)]),
 m 5 31])
        (.seq (.region [o 33 (.bin .eql (.t 27) (ci 1)),
 m 32 33])
        (.cond (.t 32)
         (.region [m 34 0,
 o 35 (.bad),
 m 5 35])
         (.seq (.region [o 37 (.bin .eql (.t 27) (ci 2)),
 m 36 37])
         (.cond (.t 36)
          (.region [m 38 0,
 o 39 (.bad),
 m 5 39])
          (.seq (.region [o 41 (.bin .eql (.t 27) (ci 3)),
 m 40 41])
          (.cond (.t 40)
           (.region [m 42 0,
 o 43 (.bad),
 m 5 43])
           .skip))))))))))
      (.seq (.region [m 44 5,
 o 45 (.un .not (.t 44))])
      (.cond (.t 45)
       (.exit 0)
       .skip))))))))
   (.seq (.region [m 46 0,
 o 47 (.nilck (.t 46)),
 o 48 (.faddr 13 (.t 47)),
 o 49 (.load false 1 (.t 48)),
 m 6 49])
   (.seq (.region [m 50 0,
 o 51 (.nilck (.t 50)),
 o 52 (.faddr 13 (.t 51)),
 x (.store 1 (.t 52) (.c .nils))])
   (.seq (.region [m 53 6,
 m 4 53])
   .ret))))))))) }
theorem tr105 : trF cx Tryz.f105 = pf105 := by kernel_rfl
/-- internal/strconv.Itoa -/
def pf111 : PF := { ntmps := 5, results := [.tmp 2], body :=
  (.seq (.region [o 2 (.mv (.c (.str [])))])
  (.seq (.region [m 3 0,
 e 4 (.call 167 [(.t 3), (ci 10)]),
 m 2 4])
  .ret)) }
theorem tr111 : trF cx Tryz.f111 = pf111 := by kernel_rfl
/-- depot/shell.plain -/
def pf112 : PF := { ntmps := 13, results := [.tmp 2], body :=
  (.seq (.region [o 2 (.mv (.c (.bool false)))])
  (.seq (.region [m 3 0,
 o 4 (.bin .gtr (.t 3) (.c (.int .u8 (.ofNat 32)))),
 m 5 4,
 gm 6 5 true 0,
 go 7 5 true (.bin .lss (.t 6) (.c (.int .u8 (.ofNat 127)))),
 o 8 (.pick (.t 5) (.t 7) (.c (.bool false))),
 m 9 8,
 gm 10 9 true 0,
 go 11 9 true (.bin .neq (.t 10) (.c (.int .u8 (.ofNat 37)))),
 o 12 (.pick (.t 9) (.t 11) (.c (.bool false))),
 m 2 12])
  .ret)) }
theorem tr112 : trF cx Tryz.f112 = pf112 := by kernel_rfl
/-- strconv.Atoi -/
def pf113 : PF := { ntmps := 18, results := [.tmp 2, .tmp 3], body :=
  (.seq (.region [o 2 (.mv (ci 0)),
 o 3 (.mv (.c .nili))])
  (.seq (.region [m 7 0,
 e 8 (.call 168 [(.t 7)]),
 m 6 8,
 o 9 (.ext 0 (.t 6)),
 o 10 (.ext 1 (.t 6)),
 m 4 9,
 m 5 10])
  (.seq (.seq (.region [m 11 5,
 o 12 (.eqv true .i (.t 11) (.c .nili))])
  (.cond (.t 12)
   (.seq (.region [m 13 4,
 m 14 0,
 m 15 5,
 o 16 (.bad),
 m 2 13,
 m 3 16])
   .ret)
   .skip))
  (.seq (.region [m 17 4,
 m 2 17,
 o 3 (.mv (.c .nili))])
  .ret)))) }
theorem tr113 : trF cx Tryz.f113 = pf113 := by kernel_rfl
/-- depot/shell.text -/
def pf114 : PF := { ntmps := 51, results := [.tmp 2], body :=
  (.seq (.region [o 2 (.mv (.c (.str [])))])
  (.seq (.region [o 3 (.mv (.c .nils))])
  (.seq (.seq (.region [o 4 (.mv (ci 1))])
  (.block 0 (.loop (.seq (.seq (.region [m 8 4,
 m 9 0,
 o 10 (.lens (.t 9)),
 o 11 (.bin .lss (.t 8) (.t 10))])
    (.cond (.t 11)
     .skip
     (.exit 0)))
    (.seq (.block 1 (.seq (.region [m 14 0,
 m 15 4,
 o 16 (.ixstr (.t 14) (.t 15)),
 m 5 16])
     (.seq (.seq (.region [m 17 5,
 o 18 (.bin .eql (.t 17) (.c (.int .u8 (.ofNat 37)))),
 m 19 18,
 gm 20 19 true 4,
 go 21 19 true (.bin .add (.t 20) (ci 2)),
 gm 22 19 true 0,
 go 23 19 true (.lens (.t 22)),
 go 24 19 true (.bin .lss (.t 21) (.t 23)),
 o 25 (.pick (.t 19) (.t 24) (.c (.bool false)))])
     (.cond (.t 25)
      (.seq (.region [m 26 0,
 m 27 4,
 o 28 (.bin .add (.t 27) (ci 1)),
 o 29 (.ixstr (.t 26) (.t 28)),
 m 31 0,
 m 32 4,
 o 33 (.bin .add (.t 32) (ci 2)),
 o 34 (.ixstr (.t 31) (.t 33)),
 e 30 (.call 170 [(.c (.str [48, 49, 50, 51, 52, 53, 54, 55, 56, 57, 97, 98, 99, 100, 101, 102])), (.t 29)]),
 e 35 (.call 170 [(.c (.str [48, 49, 50, 51, 52, 53, 54, 55, 56, 57, 97, 98, 99, 100, 101, 102])), (.t 34)]),
 m 6 30,
 m 7 35])
      (.seq (.region [m 36 6,
 o 37 (.minmax true [(.t 36), (ci 0)]),
 o 38 (.bin .shl (.t 37) (.c (.int .u64 (.ofNat 4)))),
 m 39 7,
 o 40 (.minmax true [(.t 39), (ci 0)]),
 o 41 (.bin .or (.t 38) (.t 40)),
 o 42 (.cint .u8 (.t 41)),
 m 5 42])
      (.region [m 43 4,
 o 44 (.bin .add (.t 43) (ci 2)),
 m 4 44])))
      .skip))
     (.region [m 45 3,
 m 46 5,
 n 47 (.bslice 2 1 1 [(.int .u8 (.ofNat 0))] [(0, 1, (.t 46))]),
 e 48 (.app 2 1 1 (.t 45) (.t 47)),
 m 3 48]))))
    (.region [m 12 4,
 o 13 (.bin .add (.t 12) (ci 1)),
 m 4 13]))))))
  (.seq (.region [m 49 3,
 o 50 (.b2s (.t 49)),
 m 2 50])
  .ret)))) }
theorem tr114 : trF cx Tryz.f114 = pf114 := by kernel_rfl
/-- strings.genSplit -/
def pf115 : PF := { ntmps := 66, results := [.tmp 8], body :=
  (.seq (.region [o 8 (.mv (.c .nils))])
  (.seq (.seq (.region [m 12 3,
 o 13 (.bin .eql (.t 12) (ci 0))])
  (.cond (.t 13)
   (.seq (.region [o 8 (.mv (.c .nils))])
   .ret)
   .skip))
  (.seq (.seq (.region [m 14 1,
 o 15 (.bin .eql (.t 14) (.c (.str [])))])
  (.cond (.t 15)
   (.seq (.region [m 16 0,
 m 17 3,
 o 18 (.bad),
 m 8 18])
   .ret)
   .skip))
  (.seq (.seq (.region [m 19 3,
 o 20 (.bin .lss (.t 19) (ci 0))])
  (.cond (.t 20)
   (.region [m 21 0,
 m 22 1,
 e 23 (.call 172 [(.t 21), (.t 22)]),
 o 24 (.bin .add (.t 23) (ci 1)),
 m 3 24])
   .skip))
  (.seq (.region [m 25 3,
 m 26 0,
 o 27 (.lens (.t 26)),
 o 28 (.bin .add (.t 27) (ci 1)),
 o 29 (.minmax false [(.t 25), (.t 28)]),
 m 3 29])
  (.seq (.region [m 30 3,
 n 31 (.mksl 0 1 16 [(.str [])] (.t 30) (.t 30)),
 m 9 31])
  (.seq (.region [m 32 3,
 o 33 (.bin .sub (.t 32) (ci 1)),
 m 3 33])
  (.seq (.region [o 10 (.mv (ci 0))])
  (.seq (.block 0 (.loop (.seq (.seq (.region [m 34 10,
 m 35 3,
 o 36 (.bin .lss (.t 34) (.t 35))])
    (.cond (.t 36)
     .skip
     (.exit 0)))
    (.block 1 (.seq (.region [m 37 0,
 m 38 1,
 e 39 (.call 173 [(.t 37), (.t 38)]),
 m 11 39])
     (.seq (.seq (.region [m 40 11,
 o 41 (.bin .lss (.t 40) (ci 0))])
     (.cond (.t 41)
      (.exit 0)
      .skip))
     (.seq (.region [m 42 9,
 m 43 10,
 m 44 0,
 m 45 11,
 m 46 2,
 o 47 (.bin .add (.t 45) (.t 46)),
 o 48 (.slstr (.t 44) none (some (.t 47))),
 o 49 (.iasl 1 (.t 42) (.t 43)),
 x (.store 1 (.t 49) (.t 48))])
     (.seq (.region [m 50 0,
 m 51 11,
 m 52 1,
 o 53 (.lens (.t 52)),
 o 54 (.bin .add (.t 51) (.t 53)),
 o 55 (.slstr (.t 50) (some (.t 54)) none),
 m 0 55])
     (.region [m 56 10,
 o 57 (.bin .add (.t 56) (ci 1)),
 m 10 57])))))))))
  (.seq (.region [m 58 9,
 m 59 10,
 m 60 0,
 o 61 (.iasl 1 (.t 58) (.t 59)),
 x (.store 1 (.t 61) (.t 60))])
  (.seq (.region [m 62 9,
 m 63 10,
 o 64 (.bin .add (.t 63) (ci 1)),
 o 65 (.slsl 1 (.t 62) none (some (.t 64)) none),
 m 8 65])
  .ret))))))))))) }
theorem tr115 : trF cx Tryz.f115 = pf115 := by kernel_rfl
/-- strings.Cut -/
def pf116 : PF := { ntmps := 13, results := [.tmp 4, .tmp 5, .tmp 6], body :=
  (.seq (.region [o 4 (.mv (.c (.str []))),
 o 5 (.mv (.c (.str []))),
 o 6 (.mv (.c (.bool false)))])
  (.seq (.region [m 7 0,
 m 8 1,
 e 9 (.call 174 [(.t 7), (.t 8)]),
 o 10 (.ext 0 (.t 9)),
 o 11 (.ext 1 (.t 9)),
 o 12 (.ext 2 (.t 9)),
 m 4 10,
 m 5 11,
 m 6 12])
  .ret)) }
theorem tr116 : trF cx Tryz.f116 = pf116 := by kernel_rfl
/-- (*strings.Builder).copyCheck -/
def pf117 : PF := { ntmps := 20, results := [], body :=
  (.seq (.region [m 2 0,
 o 3 (.nilck (.t 2)),
 o 4 (.faddr 0 (.t 3)),
 o 5 (.load false 1 (.t 4)),
 o 6 (.eqc false (.t 5) (.c .nilp))])
  (.cond (.t 6)
   (.region [m 7 0,
 m 8 0,
 o 9 (.p2u (.t 8)),
 o 10 (.same (.t 9)),
 o 11 (.u2b 2 (.t 10)),
 o 12 (.nilck (.t 7)),
 o 13 (.faddr 0 (.t 12)),
 x (.store 1 (.t 13) (.t 11))])
   (.seq (.region [m 14 0,
 o 15 (.nilck (.t 14)),
 o 16 (.faddr 0 (.t 15)),
 o 17 (.load false 1 (.t 16)),
 m 18 0,
 o 19 (.eqc true (.t 17) (.t 18))])
   (.cond (.t 19)
    .stuck
    .skip)))) }
theorem tr117 : trF cx Tryz.f117 = pf117 := by kernel_rfl
theorem tr118 : trF cx Tryz.f118 = Mk.pf := by kernel_rfl
/-- depot/matrix.Cauchy -/
def pf119 : PF := { ntmps := 58, results := [.tmp 6], body :=
  (.seq (.region [o 6 (.mv (.c .nils))])
  (.seq (.seq (.region [m 11 1,
 o 12 (.bin .lss (.t 11) (ci 1)),
 m 13 12,
 gm 14 13 false 1,
 go 15 13 false (.bin .gtr (.t 14) (ci 8)),
 o 16 (.pick (.t 13) (.c (.bool true)) (.t 15)),
 m 17 16,
 gm 18 17 false 2,
 go 19 17 false (.bin .lss (.t 18) (ci 0)),
 o 20 (.pick (.t 17) (.c (.bool true)) (.t 19)),
 m 21 20,
 gm 22 21 false 2,
 gm 23 21 false 1,
 go 24 21 false (.bin .sub (ci 12) (.t 23)),
 go 25 21 false (.bin .gtr (.t 22) (.t 24)),
 o 26 (.pick (.t 21) (.c (.bool true)) (.t 25))])
  (.cond (.t 26)
   (.seq (.region [o 6 (.mv (.c .nils))])
   .ret)
   .skip))
  (.seq (.region [m 27 1,
 e 28 (.call 176 [(.t 27)]),
 m 7 28])
  (.seq (.seq (.region [m 29 2,
 o 30 (.mv (ci 0))])
  (.block 0 (.loop (.seq (.region [o 31 (.bin .lss (.t 30) (.t 29))])
    (.seq (.cond (.t 31)
     .skip
     (.exit 0))
    (.seq (.block 1 (.seq (.region [m 32 30,
 m 8 32])
     (.seq (.region [m 33 1,
 n 34 (.mksl 2 1 1 [(.int .u8 (.ofNat 0))] (.t 33) (.t 33)),
 m 9 34])
     (.seq (.seq (.region [m 35 9,
 o 36 (.lensl (.t 35)),
 o 37 (.mv (ci 0))])
     (.block 2 (.loop (.seq (.region [o 38 (.bin .lss (.t 37) (.t 36))])
       (.seq (.cond (.t 38)
        .skip
        (.exit 2))
       (.seq (.block 3 (.seq (.region [m 39 37,
 m 10 39])
        (.region [m 40 9,
 m 41 10,
 m 42 0,
 m 43 1,
 m 44 8,
 o 45 (.bin .add (.t 43) (.t 44)),
 m 46 10,
 o 47 (.bin .xor (.t 45) (.t 46)),
 o 48 (.cint .u8 (.t 47)),
 o 49 (.bad),
 o 50 (.iasl 1 (.t 40) (.t 41)),
 x (.store 1 (.t 50) (.t 49))])))
       (.region [o 51 (.bin .add (.t 37) (ci 1)),
 m 37 51])))))))
     (.region [m 52 7,
 m 53 9,
 n 54 (.bslice 0 1 1 [.nils] [(0, 1, (.t 53))]),
 e 55 (.app 0 1 24 (.t 52) (.t 54)),
 m 7 55])))))
    (.region [o 56 (.bin .add (.t 30) (ci 1)),
 m 30 56])))))))
  (.seq (.region [m 57 7,
 m 6 57])
  .ret))))) }
theorem tr119 : trF cx Tryz.f119 = pf119 := by kernel_rfl
/-- (*depot/ask.Asks).Begin -/
def pf120 : PF := { ntmps := 48, results := [.cell 4 true 9, .tmp 5], body :=
  (.seq (.region [n 3 (.box (.t 1)),
 n 4 (.new 0 [(.int .i64 (.ofNat 0)), (.int .i64 (.ofNat 0)), (.int .i64 (.ofNat 0)), (.int .i64 (.ofNat 0)), (.int .i64 (.ofNat 0)), (.int .i64 (.ofNat 0)), (.str []), (.int .i64 (.ofNat 0)), (.str [])]),
 o 5 (.mv (.c (.bool false)))])
  (.seq (.region [m 6 0,
 o 7 (.nilck (.t 6)),
 o 8 (.faddr 1 (.t 7)),
 o 9 (.load false 1 (.t 8)),
 o 10 (.bin .add (.t 9) (ci 1)),
 o 11 (.faddr 3 (.t 3)),
 x (.store 1 (.t 11) (.t 10)),
 o 12 (.faddr 4 (.t 3)),
 x (.store 1 (.t 12) (ci 0))])
  (.seq (.seq (.region [o 13 (.load true 9 (.t 3)),
 e 14 (.call 33 [(.t 13)]),
 o 15 (.un .not (.t 14)),
 m 16 15,
 go 17 16 false (.faddr 0 (.t 3)),
 go 18 16 false (.load false 1 (.t 17)),
 go 19 16 false (.bin .geq (.t 18) (ci 6)),
 o 20 (.pick (.t 16) (.c (.bool true)) (.t 19))])
  (.cond (.t 20)
   (.seq (.region [o 21 (.build [(.int .i64 (.ofNat 0)), (.int .i64 (.ofNat 0)), (.int .i64 (.ofNat 0)), (.int .i64 (.ofNat 0)), (.int .i64 (.ofNat 0)), (.int .i64 (.ofNat 0)), (.str []), (.int .i64 (.ofNat 0)), (.str [])] []),
 x (.store 9 (.t 4) (.t 21)),
 o 5 (.mv (.c (.bool false)))])
   .ret)
   .skip))
  (.seq (.region [m 22 0,
 o 23 (.nilck (.t 22)),
 o 24 (.faddr 1 (.t 23)),
 o 25 (.load false 1 (.t 24)),
 o 26 (.bin .add (.t 25) (ci 1)),
 o 27 (.nilck (.t 22)),
 o 28 (.faddr 1 (.t 27)),
 x (.store 1 (.t 28) (.t 26))])
  (.seq (.region [m 29 0,
 o 30 (.faddr 1 (.t 3)),
 o 31 (.load false 1 (.t 30)),
 o 32 (.faddr 3 (.t 3)),
 o 33 (.load false 1 (.t 32)),
 e 34 (.call 165 [(.t 29), (.t 31), (.t 33)]),
 o 35 (.faddr 4 (.t 3)),
 x (.store 1 (.t 35) (.t 34))])
  (.seq (.region [m 36 0,
 m 37 0,
 o 38 (.nilck (.t 37)),
 o 39 (.faddr 0 (.t 38)),
 o 40 (.load false 1 (.t 39)),
 o 41 (.load true 9 (.t 3)),
 o 42 (.build [(.int .i64 (.ofNat 0)), (.int .i64 (.ofNat 0)), (.int .i64 (.ofNat 0)), (.int .i64 (.ofNat 0)), (.int .i64 (.ofNat 0)), (.int .i64 (.ofNat 0)), (.str []), (.int .i64 (.ofNat 0)), (.str []), (.int .i64 (.ofNat 0))] [(0, 9, (.t 41))]),
 n 43 (.bslice 0 10 1 [(.int .i64 (.ofNat 0)), (.int .i64 (.ofNat 0)), (.int .i64 (.ofNat 0)), (.int .i64 (.ofNat 0)), (.int .i64 (.ofNat 0)), (.int .i64 (.ofNat 0)), (.str []), (.int .i64 (.ofNat 0)), (.str []), (.int .i64 (.ofNat 0))] [(0, 10, (.t 42))]),
 e 44 (.app 0 10 96 (.t 40) (.t 43)),
 o 45 (.nilck (.t 36)),
 o 46 (.faddr 0 (.t 45)),
 x (.store 1 (.t 46) (.t 44))])
  (.seq (.region [o 47 (.load true 9 (.t 3)),
 x (.store 9 (.t 4) (.t 47)),
 o 5 (.mv (.c (.bool true)))])
  .ret))))))) }
theorem tr120 : trF cx Tryz.f120 = pf120 := by kernel_rfl
/-- depot/answer.Quiet -/
def pf158 : PF := { ntmps := 12, results := [.tmp 4], body :=
  (.seq (.region [n 2 (.box (.t 0)),
 n 3 (.box (.t 1)),
 o 4 (.mv (.c (.bool false)))])
  (.seq (.region [o 5 (.faddr 7 (.t 2)),
 o 6 (.load false 1 (.t 5)),
 m 7 6,
 go 8 7 true (.faddr 0 (.t 3)),
 go 9 7 true (.load false 1 (.t 8)),
 go 10 7 true (.bin .neq (.t 9) (ci 13)),
 o 11 (.pick (.t 7) (.t 10) (.c (.bool false))),
 m 4 11])
  .ret)) }
theorem tr158 : trF cx Tryz.f158 = pf158 := by kernel_rfl
/-- depot/answer.Text -/
def pf159 : PF := { ntmps := 43, results := [.tmp 2], body :=
  (.seq (.region [n 1 (.box (.t 0)),
 o 2 (.mv (.c (.str [])))])
  (.seq (.seq (.region [o 4 (.faddr 0 (.t 1)),
 o 5 (.load false 1 (.t 4))])
  (.block 0 (.seq (.region [o 7 (.bin .eql (.t 5) (ci 1)),
 m 6 7])
   (.cond (.t 6)
    (.seq (.region [o 8 (.faddr 1 (.t 1)),
 o 9 (.load false 1 (.t 8)),
 o 10 (.faddr 2 (.t 1)),
 o 11 (.load false 1 (.t 10)),
 o 12 (.bad),
 m 2 12])
    .ret)
    (.seq (.region [o 14 (.bin .eql (.t 5) (ci 8)),
 m 13 14])
    (.cond (.t 13)
     (.seq (.region [o 15 (.faddr 3 (.t 1)),
 o 16 (.load false 1 (.t 15)),
 o 17 (.bad),
 o 18 (.bin .add (.t 17) (.c (.str [13, 10]))),
 m 2 18])
     .ret)
     (.seq (.region [o 20 (.bin .eql (.t 5) (ci 11)),
 m 19 20])
     (.cond (.t 19)
      (.seq (.region [o 21 (.faddr 5 (.t 1)),
 o 22 (.load true 4 (.t 21)),
 o 23 (.bad),
 m 2 23])
      .ret)
      (.seq (.region [o 25 (.bin .eql (.t 5) (ci 13)),
 m 24 25])
      (.cond (.t 24)
       (.seq (.region [o 26 (.faddr 4 (.t 1)),
 o 27 (.load false 1 (.t 26)),
 o 28 (.bin .add (.c (.str [67, 76, 73, 69, 78, 84, 95, 69, 82, 82, 79, 82, 32])) (.t 27)),
 o 29 (.bin .add (.t 28) (.c (.str [13, 10]))),
 m 2 29])
       .ret)
       (.seq (.region [o 31 (.bin .eql (.t 5) (ci 14)),
 m 30 31])
       (.cond (.t 30)
        (.seq (.region [o 32 (.faddr 4 (.t 1)),
 o 33 (.load false 1 (.t 32)),
 o 34 (.bin .add (.c (.str [83, 69, 82, 86, 69, 82, 95, 69, 82, 82, 79, 82, 32])) (.t 33)),
 o 35 (.bin .add (.t 34) (.c (.str [13, 10]))),
 m 2 35])
        .ret)
        .skip))))))))))))
  (.seq (.seq (.region [o 36 (.faddr 0 (.t 1)),
 o 37 (.load false 1 (.t 36)),
 e 38 (.call 216 [(.t 37)]),
 m 3 38])
  (.seq (.region [m 39 3,
 o 40 (.bin .neq (.t 39) (.c (.str [])))])
  (.cond (.t 40)
   (.seq (.region [m 41 3,
 o 42 (.bin .add (.t 41) (.c (.str [13, 10]))),
 m 2 42])
   .ret)
   .skip)))
  (.seq (.region [o 2 (.mv (.c (.str [])))])
  .ret)))) }
theorem tr159 : trF cx Tryz.f159 = pf159 := by kernel_rfl
/-- (*depot/parse.Parser).line -/
def pf160 : PF := { ntmps := 113, results := [.tmp 2], body :=
  (.seq (.region [o 2 (.mv (.c (.bool false)))])
  (.seq (.region [m 7 0,
 o 8 (.nilck (.t 7)),
 o 9 (.faddr 1 (.t 8)),
 o 10 (.load false 1 (.t 9)),
 e 11 (.call 170 [(.t 10), (.c (.int .u8 (.ofNat 10)))]),
 m 3 11])
  (.seq (.seq (.region [m 12 3,
 o 13 (.bin .gtr (.t 12) (ci 2048)),
 m 14 13,
 gm 15 14 false 3,
 go 16 14 false (.bin .lss (.t 15) (ci 0)),
 gm 17 14 false 16,
 gm 18 17 true 0,
 go 19 17 true (.nilck (.t 18)),
 go 20 17 true (.faddr 1 (.t 19)),
 go 21 17 true (.load false 1 (.t 20)),
 go 22 17 true (.lens (.t 21)),
 go 23 17 true (.bin .gtr (.t 22) (ci 2048)),
 go 24 14 false (.pick (.t 17) (.t 23) (.c (.bool false))),
 o 25 (.pick (.t 14) (.c (.bool true)) (.t 24))])
  (.cond (.t 25)
   (.seq (.region [m 26 0,
 o 27 (.bad)])
   (.seq (.region [o 2 (.mv (.c (.bool true)))])
   .ret))
   .skip))
  (.seq (.seq (.region [m 28 3,
 o 29 (.bin .lss (.t 28) (ci 0))])
  (.cond (.t 29)
   (.seq (.region [o 2 (.mv (.c (.bool false)))])
   .ret)
   .skip))
  (.seq (.region [m 30 0,
 o 31 (.nilck (.t 30)),
 o 32 (.faddr 1 (.t 31)),
 o 33 (.load false 1 (.t 32)),
 m 34 3,
 o 35 (.slstr (.t 33) none (some (.t 34))),
 e 36 (.call 218 [(.t 35), (.c (.str [13]))]),
 m 4 36])
  (.seq (.region [m 37 0,
 m 38 0,
 o 39 (.nilck (.t 38)),
 o 40 (.faddr 1 (.t 39)),
 o 41 (.load false 1 (.t 40)),
 m 42 3,
 o 43 (.bin .add (.t 42) (ci 1)),
 o 44 (.slstr (.t 41) (some (.t 43)) none),
 o 45 (.nilck (.t 37)),
 o 46 (.faddr 1 (.t 45)),
 x (.store 1 (.t 46) (.t 44))])
  (.seq (.region [m 48 4,
 e 49 (.call 219 [(.t 48)]),
 m 47 49,
 o 50 (.ext 0 (.t 47)),
 o 51 (.ext 1 (.t 47)),
 n 5 (.new 0 [(.int .i64 (.ofNat 0)), .nils, (.int .i64 (.ofNat 0)), (.int .i64 (.ofNat 0)), (.int .i64 (.ofNat 0)), (.int .i64 (.ofNat 0)), (.int .u64 (.ofNat 0)), (.bool false), (.str [])]),
 x (.store 9 (.t 5) (.t 50)),
 m 6 51])
  (.seq (.block 0 (.seq (.region [m 64 6,
 o 65 (.bin .eql (.t 64) (ci 4)),
 m 63 65])
   (.cond (.t 63)
    (.region [m 66 0,
 e 67 (.call 220 [(.t 66), (ci 12), (.c (.str []))])])
    (.seq (.region [m 69 6,
 o 70 (.bin .neq (.t 69) (ci 0)),
 m 68 70])
    (.cond (.t 68)
     (.region [m 71 0,
 e 72 (.call 220 [(.t 71), (ci 13), (.c (.str [98, 97, 100, 32, 99, 111, 109, 109, 97, 110, 100, 32, 108, 105, 110, 101, 32, 102, 111, 114, 109, 97, 116]))])])
     (.seq (.region [o 74 (.faddr 0 (.t 5)),
 o 75 (.load false 1 (.t 74)),
 o 76 (.bin .eql (.t 75) (ci 17)),
 m 73 76])
     (.cond (.t 73)
      (.region [m 77 0,
 o 78 (.bad)])
      (.seq (.region [o 80 (.faddr 0 (.t 5)),
 o 81 (.load false 1 (.t 80)),
 o 82 (.bad),
 m 83 82,
 go 84 83 true (.faddr 4 (.t 5)),
 go 85 83 true (.load false 1 (.t 84)),
 go 86 83 true (.bin .gtr (.t 85) (ci 1048576)),
 o 87 (.pick (.t 83) (.t 86) (.c (.bool false))),
 m 79 87])
      (.cond (.t 79)
       (.seq (.seq (.region [o 88 (.faddr 7 (.t 5)),
 o 89 (.load false 1 (.t 88)),
 o 90 (.un .not (.t 89))])
       (.cond (.t 90)
        (.region [m 91 0,
 e 92 (.call 220 [(.t 91), (ci 14), (.c (.str [111, 98, 106, 101, 99, 116, 32, 116, 111, 111, 32, 108, 97, 114, 103, 101, 32, 102, 111, 114, 32, 99, 97, 99, 104, 101]))])])
        .skip))
       (.region [m 93 0,
 m 94 0,
 o 95 (.faddr 4 (.t 5)),
 o 96 (.load false 1 (.t 95)),
 o 97 (.bin .add (.t 96) (ci 2)),
 o 98 (.nilck (.t 93)),
 o 99 (.faddr 0 (.t 98)),
 x (.store 1 (.t 99) (ci 2)),
 .again ⟨(some 96), none, (.r (.load false 1 (.t 95)))⟩,
 o 100 (.nilck (.t 94)),
 o 101 (.faddr 2 (.t 100)),
 x (.store 1 (.t 101) (.t 97))]))
       (.seq (.region [o 103 (.faddr 0 (.t 5)),
 o 104 (.load false 1 (.t 103)),
 o 105 (.bad),
 m 102 105])
       (.cond (.t 102)
        (.region [m 106 0,
 m 107 0,
 o 108 (.load true 9 (.t 5)),
 o 109 (.nilck (.t 106)),
 o 110 (.faddr 0 (.t 109)),
 x (.store 1 (.t 110) (ci 1)),
 .again ⟨(some 108), none, (.r (.load true 9 (.t 5)))⟩,
 o 111 (.nilck (.t 107)),
 o 112 (.faddr 3 (.t 111)),
 x (.store 9 (.t 112) (.t 108))])
        (.region [m 52 0,
 m 53 0,
 o 54 (.nilck (.t 53)),
 o 55 (.faddr 13 (.t 54)),
 o 56 (.load false 1 (.t 55)),
 o 57 (.load true 9 (.t 5)),
 o 58 (.build [(.int .i64 (.ofNat 0)), .nils, (.int .i64 (.ofNat 0)), (.int .i64 (.ofNat 0)), (.int .i64 (.ofNat 0)), (.int .i64 (.ofNat 0)), (.int .u64 (.ofNat 0)), (.bool false), (.str []), (.int .i64 (.ofNat 0)), .nils, (.bool false), (.int .u64 (.ofNat 0)), (.str []), (.int .i64 (.ofNat 0)), (.int .i64 (.ofNat 0)), (.int .i64 (.ofNat 0)), (.int .i64 (.ofNat 0))] [(0, 9, (.t 57))]),
 n 59 (.bslice 0 18 1 [(.int .i64 (.ofNat 0)), .nils, (.int .i64 (.ofNat 0)), (.int .i64 (.ofNat 0)), (.int .i64 (.ofNat 0)), (.int .i64 (.ofNat 0)), (.int .u64 (.ofNat 0)), (.bool false), (.str []), (.int .i64 (.ofNat 0)), .nils, (.bool false), (.int .u64 (.ofNat 0)), (.str []), (.int .i64 (.ofNat 0)), (.int .i64 (.ofNat 0)), (.int .i64 (.ofNat 0)), (.int .i64 (.ofNat 0))] [(0, 18, (.t 58))]),
 e 60 (.app 0 18 192 (.t 56) (.t 59)),
 o 61 (.nilck (.t 52)),
 o 62 (.faddr 13 (.t 61)),
 x (.store 1 (.t 62) (.t 60))]))))))))))))
  (.seq (.region [o 2 (.mv (.c (.bool true)))])
  .ret))))))))) }
theorem tr160 : trF cx Tryz.f160 = pf160 := by kernel_rfl
/-- (*depot/ask.Asks).floor -/
def pf165 : PF := { ntmps := 32, results := [.tmp 6], body :=
  (.seq (.region [o 6 (.mv (ci 0))])
  (.scope (.seq (.region [m 10 2,
 m 7 10])
   (.seq .skip
   (.seq (.seq (.region [m 11 0,
 o 12 (.nilck (.t 11)),
 o 13 (.faddr 0 (.t 12)),
 o 14 (.load false 1 (.t 13)),
 o 15 (.lensl (.t 14)),
 o 16 (.mv (ci 0))])
   (.block 0 (.loop (.seq (.region [o 17 (.bin .lss (.t 16) (.t 15))])
     (.seq (.cond (.t 17)
      .skip
      (.exit 0))
     (.seq (.block 1 (.seq (.region [o 18 (.iasl 10 (.t 14) (.t 16)),
 o 19 (.load true 10 (.t 18)),
 n 9 (.new 0 [(.int .i64 (.ofNat 0)), (.int .i64 (.ofNat 0)), (.int .i64 (.ofNat 0)), (.int .i64 (.ofNat 0)), (.int .i64 (.ofNat 0)), (.int .i64 (.ofNat 0)), (.str []), (.int .i64 (.ofNat 0)), (.str []), (.int .i64 (.ofNat 0))]),
 x (.store 10 (.t 9) (.t 19))])
      (.seq (.seq (.region [o 20 (.faddr 0 (.t 9)),
 o 21 (.faddr 1 (.t 20)),
 o 22 (.load false 1 (.t 21)),
 m 23 1,
 o 24 (.bin .neq (.t 22) (.t 23))])
      (.cond (.t 24)
       (.exit 1)
       .skip))
      (.seq (.region [m 25 7,
 o 26 (.faddr 0 (.t 9)),
 o 27 (.faddr 3 (.t 26)),
 o 28 (.load false 1 (.t 27)),
 o 29 (.minmax false [(.t 25), (.t 28)]),
 m 7 29])
      (.exit 0)))))
     (.region [o 30 (.bin .add (.t 16) (ci 1)),
 m 16 30])))))))
   (.seq (.region [m 31 7,
 m 6 31])
   .ret)))))) }
theorem tr165 : trF cx Tryz.f165 = pf165 := by kernel_rfl
/-- internal/strconv.FormatInt -/
def pf167 : PF := { ntmps := 54, results := [.tmp 4], body :=
  (.seq (.region [o 4 (.mv (.c (.str [])))])
  (.seq (.seq (.region [m 10 1,
 o 11 (.bin .eql (.t 10) (ci 10))])
  (.cond (.t 11)
   (.seq (.seq (.region [m 12 0,
 o 13 (.bin .leq (ci 0) (.t 12)),
 m 14 13,
 gm 15 14 true 0,
 go 16 14 true (.bin .lss (.t 15) (ci 100)),
 o 17 (.pick (.t 14) (.t 16) (.c (.bool false)))])
   (.cond (.t 17)
    (.seq (.region [m 18 0,
 e 19 (.call 223 [(.t 18)]),
 m 4 19])
    .ret)
    .skip))
   (.seq (.region [n 5 (.new 0 (rep 24 [(.int .u8 (.ofNat 0))]))])
   (.seq (.region [m 20 0,
 o 21 (.cint .u64 (.t 20)),
 m 6 21])
   (.seq (.seq (.region [m 22 0,
 o 23 (.bin .lss (.t 22) (ci 0))])
   (.cond (.t 23)
    (.region [m 24 6,
 o 25 (.un .neg (.t 24)),
 m 6 25])
    .skip))
   (.seq (.region [m 26 6,
 o 27 (.bad),
 m 7 27])
   (.seq (.region [m 28 7,
 o 29 (.bin .add (ci 1) (.t 28)),
 o 30 (.slarr 24 1 (.t 5) (some (ci 1)) (some (.t 29))),
 m 31 6,
 o 32 (.bad)])
   (.seq (.seq (.region [m 33 0,
 o 34 (.bin .lss (.t 33) (ci 0))])
   (.cond (.t 34)
    (.seq (.region [o 35 (.iaarr 24 1 (.t 5) (ci 0)),
 x (.store 1 (.t 35) (.c (.int .u8 (.ofNat 45))))])
    (.seq (.region [m 36 7,
 o 37 (.bin .add (ci 1) (.t 36)),
 o 38 (.slarr 24 1 (.t 5) none (some (.t 37))),
 o 39 (.b2s (.t 38)),
 m 4 39])
    .ret))
    .skip))
   (.seq (.region [m 40 7,
 o 41 (.bin .add (ci 1) (.t 40)),
 o 42 (.slarr 24 1 (.t 5) (some (ci 1)) (some (.t 41))),
 o 43 (.b2s (.t 42)),
 m 4 43])
   .ret))))))))
   .skip))
  (.seq (.region [m 45 0,
 o 46 (.cint .u64 (.t 45)),
 m 47 1,
 m 48 0,
 o 49 (.bin .lss (.t 48) (ci 0)),
 o 50 (.bad),
 m 44 50,
 o 51 (.ext 0 (.t 44)),
 o 52 (.ext 1 (.t 44)),
 m 8 51,
 m 9 52])
  (.seq (.region [m 53 9,
 m 4 53])
  .ret)))) }
theorem tr167 : trF cx Tryz.f167 = pf167 := by kernel_rfl
/-- internal/strconv.Atoi -/
def pf168 : PF := { ntmps := 77, results := [.tmp 2, .tmp 3], body :=
  (.seq (.region [o 2 (.mv (ci 0)),
 o 3 (.mv (.c .nili))])
  (.seq (.region [m 11 0,
 o 12 (.lens (.t 11)),
 m 4 12])
  (.seq (.seq (.region [o 13 (.mv (.c (.bool false))),
 gm 14 13 true 4,
 go 15 13 true (.bin .lss (ci 0) (.t 14)),
 gm 16 13 true 15,
 gm 17 16 true 4,
 go 18 16 true (.bin .lss (.t 17) (ci 10)),
 go 19 13 true (.pick (.t 16) (.t 18) (.c (.bool false))),
 o 20 (.pick (.t 13) (.t 19) (.c (.bool false))),
 m 21 20,
 go 22 21 false (.mv (.c (.bool true))),
 gm 23 22 true 4,
 go 24 22 true (.bin .lss (ci 0) (.t 23)),
 gm 25 22 true 24,
 gm 26 25 true 4,
 go 27 25 true (.bin .lss (.t 26) (ci 19)),
 go 28 22 true (.pick (.t 25) (.t 27) (.c (.bool false))),
 go 29 21 false (.pick (.t 22) (.t 28) (.c (.bool false))),
 o 30 (.pick (.t 21) (.c (.bool true)) (.t 29))])
  (.cond (.t 30)
   (.seq (.region [m 31 0,
 m 5 31])
   (.seq (.seq (.region [m 32 0,
 o 33 (.ixstr (.t 32) (ci 0)),
 o 34 (.bin .eql (.t 33) (.c (.int .u8 (.ofNat 45)))),
 m 35 34,
 gm 36 35 false 0,
 go 37 35 false (.ixstr (.t 36) (ci 0)),
 go 38 35 false (.bin .eql (.t 37) (.c (.int .u8 (.ofNat 43)))),
 o 39 (.pick (.t 35) (.c (.bool true)) (.t 38))])
   (.cond (.t 39)
    (.seq (.region [m 40 0,
 o 41 (.slstr (.t 40) (some (ci 1)) none),
 m 0 41])
    (.seq (.region [m 42 0,
 o 43 (.lens (.t 42)),
 o 44 (.bin .lss (.t 43) (ci 1))])
    (.cond (.t 44)
     (.seq (.region [o 45 (.bad),
 o 2 (.mv (ci 0)),
 m 3 45])
     .ret)
     .skip)))
    .skip))
   (.seq (.region [o 6 (.mv (ci 0))])
   (.seq (.seq (.region [m 46 0,
 n 47 (.s2b (.t 46)),
 o 48 (.lensl (.t 47)),
 o 49 (.mv (ci 0))])
   (.block 0 (.loop (.seq (.region [o 50 (.bin .lss (.t 49) (.t 48))])
     (.seq (.cond (.t 50)
      .skip
      (.exit 0))
     (.seq (.block 1 (.seq (.region [o 51 (.iasl 1 (.t 47) (.t 49)),
 o 52 (.load false 1 (.t 51)),
 m 8 52])
      (.seq (.region [m 53 8,
 o 54 (.bin .sub (.t 53) (.c (.int .u8 (.ofNat 48)))),
 m 8 54])
      (.seq (.seq (.region [m 55 8,
 o 56 (.bin .gtr (.t 55) (.c (.int .u8 (.ofNat 9))))])
      (.cond (.t 56)
       (.seq (.region [o 57 (.bad),
 o 2 (.mv (ci 0)),
 m 3 57])
       .ret)
       .skip))
      (.region [m 58 6,
 o 59 (.bin .mul (.t 58) (ci 10)),
 m 60 8,
 o 61 (.cint .i64 (.t 60)),
 o 62 (.bin .add (.t 59) (.t 61)),
 m 6 62])))))
     (.region [o 63 (.bin .add (.t 49) (ci 1)),
 m 49 63])))))))
   (.seq (.seq (.region [m 64 5,
 o 65 (.ixstr (.t 64) (ci 0)),
 o 66 (.bin .eql (.t 65) (.c (.int .u8 (.ofNat 45))))])
   (.cond (.t 66)
    (.region [m 67 6,
 o 68 (.un .neg (.t 67)),
 m 6 68])
    .skip))
   (.seq (.region [m 69 6,
 m 2 69,
 o 3 (.mv (.c .nili))])
   .ret))))))
   .skip))
  (.seq (.region [m 71 0,
 o 72 (.bad),
 m 70 72,
 o 73 (.ext 0 (.t 70)),
 o 74 (.ext 1 (.t 70)),
 m 9 73,
 m 10 74])
  (.seq (.region [m 75 9,
 m 76 10,
 m 2 75,
 m 3 76])
  .ret))))) }
theorem tr168 : trF cx Tryz.f168 = pf168 := by kernel_rfl
/-- strings.IndexByte -/
def pf170 : PF := { ntmps := 8, results := [.tmp 4], body :=
  (.seq (.region [o 4 (.mv (ci 0))])
  (.seq (.region [m 5 0,
 m 6 1,
 e 7 (.call 232 [(.t 5), (.t 6)]),
 m 4 7])
  .ret)) }
theorem tr170 : trF cx Tryz.f170 = pf170 := by kernel_rfl
/-- strings.Count -/
def pf172 : PF := { ntmps := 34, results := [.tmp 4], body :=
  (.seq (.region [o 4 (.mv (ci 0))])
  (.seq (.seq (.region [m 7 1,
 o 8 (.lens (.t 7)),
 o 9 (.bin .eql (.t 8) (ci 0))])
  (.cond (.t 9)
   (.seq (.region [m 10 0,
 o 11 (.bad),
 o 12 (.bin .add (.t 11) (ci 1)),
 m 4 12])
   .ret)
   .skip))
  (.seq (.seq (.region [m 13 1,
 o 14 (.lens (.t 13)),
 o 15 (.bin .eql (.t 14) (ci 1))])
  (.cond (.t 15)
   (.seq (.region [m 16 0,
 m 17 1,
 o 18 (.ixstr (.t 17) (ci 0)),
 o 19 (.count (.t 16) (.t 18)),
 m 4 19])
   .ret)
   .skip))
  (.seq (.region [o 5 (.mv (ci 0))])
  (.block 0 (.loop (.block 1 (.seq (.region [m 20 0,
 m 21 1,
 e 22 (.call 173 [(.t 20), (.t 21)]),
 m 6 22])
     (.seq (.seq (.region [m 23 6,
 o 24 (.bin .eql (.t 23) (.c (.int .i64 (.negSucc 0))))])
     (.cond (.t 24)
      (.seq (.region [m 25 5,
 m 4 25])
      .ret)
      .skip))
     (.seq (.region [m 26 5,
 o 27 (.bin .add (.t 26) (ci 1)),
 m 5 27])
     (.region [m 28 0,
 m 29 6,
 m 30 1,
 o 31 (.lens (.t 30)),
 o 32 (.bin .add (.t 29) (.t 31)),
 o 33 (.slstr (.t 28) (some (.t 32)) none),
 m 0 33]))))))))))) }
theorem tr172 : trF cx Tryz.f172 = pf172 := by kernel_rfl
/-- strings.Index -/
def pf173 : PF := { ntmps := 8, results := [.tmp 4], body :=
  (.seq (.region [o 4 (.mv (ci 0))])
  (.seq (.region [m 5 0,
 m 6 1,
 e 7 (.call 236 [(.t 5), (.t 6)]),
 m 4 7])
  .ret)) }
theorem tr173 : trF cx Tryz.f173 = pf173 := by kernel_rfl
/-- internal/stringslite.Cut -/
def pf174 : PF := { ntmps := 23, results := [.tmp 4, .tmp 5, .tmp 6], body :=
  (.seq (.region [o 4 (.mv (.c (.str []))),
 o 5 (.mv (.c (.str []))),
 o 6 (.mv (.c (.bool false)))])
  (.seq (.seq (.region [m 8 0,
 m 9 1,
 e 10 (.call 236 [(.t 8), (.t 9)]),
 m 7 10])
  (.seq (.region [m 11 7,
 o 12 (.bin .geq (.t 11) (ci 0))])
  (.cond (.t 12)
   (.seq (.region [m 13 0,
 m 14 7,
 o 15 (.slstr (.t 13) none (some (.t 14))),
 m 16 0,
 m 17 7,
 m 18 1,
 o 19 (.lens (.t 18)),
 o 20 (.bin .add (.t 17) (.t 19)),
 o 21 (.slstr (.t 16) (some (.t 20)) none),
 m 4 15,
 m 5 21,
 o 6 (.mv (.c (.bool true)))])
   .ret)
   .skip)))
  (.seq (.region [m 22 0,
 m 4 22,
 o 5 (.mv (.c (.str []))),
 o 6 (.mv (.c (.bool false)))])
  .ret))) }
theorem tr174 : trF cx Tryz.f174 = pf174 := by kernel_rfl
/-- depot/matrix.Identity -/
def pf176 : PF := { ntmps := 31, results := [.tmp 2], body :=
  (.seq (.region [o 2 (.mv (.c .nils))])
  (.seq (.seq (.region [m 5 0,
 o 6 (.bin .lss (.t 5) (ci 1)),
 m 7 6,
 gm 8 7 false 0,
 go 9 7 false (.bin .gtr (.t 8) (ci 12)),
 o 10 (.pick (.t 7) (.c (.bool true)) (.t 9))])
  (.cond (.t 10)
   (.seq (.region [o 2 (.mv (.c .nils))])
   .ret)
   .skip))
  (.seq (.region [m 11 0,
 n 12 (.mksl 0 1 24 [.nils] (.t 11) (.t 11)),
 m 3 12])
  (.seq (.seq (.region [m 13 3,
 o 14 (.lensl (.t 13)),
 o 15 (.mv (ci 0))])
  (.block 0 (.loop (.seq (.region [o 16 (.bin .lss (.t 15) (.t 14))])
    (.seq (.cond (.t 16)
     .skip
     (.exit 0))
    (.seq (.block 1 (.seq (.region [m 17 15,
 m 4 17])
     (.seq (.region [m 18 3,
 m 19 4,
 m 20 0,
 n 21 (.mksl 2 1 1 [(.int .u8 (.ofNat 0))] (.t 20) (.t 20)),
 o 22 (.iasl 1 (.t 18) (.t 19)),
 x (.store 1 (.t 22) (.t 21))])
     (.region [m 23 3,
 m 24 4,
 o 25 (.iasl 1 (.t 23) (.t 24)),
 o 26 (.load false 1 (.t 25)),
 m 27 4,
 o 28 (.iasl 1 (.t 26) (.t 27)),
 x (.store 1 (.t 28) (.c (.int .u8 (.ofNat 1))))]))))
    (.region [o 29 (.bin .add (.t 15) (ci 1)),
 m 15 29])))))))
  (.seq (.region [m 30 3,
 m 2 30])
  .ret))))) }
theorem tr176 : trF cx Tryz.f176 = pf176 := by kernel_rfl
/-- depot/answer.plain -/
def pf216 : PF := { ntmps := 22, results := [.tmp 2], body :=
  (.seq (.region [o 2 (.mv (.c (.str [])))])
  (.seq (.seq (.region [m 3 0])
  (.block 0 (.seq (.region [o 5 (.bin .eql (.t 3) (ci 2)),
 m 4 5])
   (.cond (.t 4)
    (.seq (.region [o 2 (.mv (.c (.str [83, 84, 79, 82, 69, 68])))])
    .ret)
    (.seq (.region [o 7 (.bin .eql (.t 3) (ci 3)),
 m 6 7])
    (.cond (.t 6)
     (.seq (.region [o 2 (.mv (.c (.str [78, 79, 84, 95, 83, 84, 79, 82, 69, 68])))])
     .ret)
     (.seq (.region [o 9 (.bin .eql (.t 3) (ci 4)),
 m 8 9])
     (.cond (.t 8)
      (.seq (.region [o 2 (.mv (.c (.str [69, 88, 73, 83, 84, 83])))])
      .ret)
      (.seq (.region [o 11 (.bin .eql (.t 3) (ci 5)),
 m 10 11])
      (.cond (.t 10)
       (.seq (.region [o 2 (.mv (.c (.str [78, 79, 84, 95, 70, 79, 85, 78, 68])))])
       .ret)
       (.seq (.region [o 13 (.bin .eql (.t 3) (ci 6)),
 m 12 13])
       (.cond (.t 12)
        (.seq (.region [o 2 (.mv (.c (.str [68, 69, 76, 69, 84, 69, 68])))])
        .ret)
        (.seq (.region [o 15 (.bin .eql (.t 3) (ci 7)),
 m 14 15])
        (.cond (.t 14)
         (.seq (.region [o 2 (.mv (.c (.str [84, 79, 85, 67, 72, 69, 68])))])
         .ret)
         (.seq (.region [o 17 (.bin .eql (.t 3) (ci 9)),
 m 16 17])
         (.cond (.t 16)
          (.seq (.region [o 2 (.mv (.c (.str [79, 75])))])
          .ret)
          (.seq (.region [o 19 (.bin .eql (.t 3) (ci 12)),
 m 18 19])
          (.cond (.t 18)
           (.seq (.region [o 2 (.mv (.c (.str [69, 82, 82, 79, 82])))])
           .ret)
           (.seq (.region [o 21 (.bin .eql (.t 3) (ci 10)),
 m 20 21])
           (.cond (.t 20)
            (.seq (.region [o 2 (.mv (.c (.str [86, 69, 82, 83, 73, 79, 78, 32, 100, 101, 112, 111, 116])))])
            .ret)
            .skip))))))))))))))))))))
  (.seq (.region [o 2 (.mv (.c (.str [])))])
  .ret))) }
theorem tr216 : trF cx Tryz.f216 = pf216 := by kernel_rfl
/-- strings.TrimSuffix -/
def pf218 : PF := { ntmps := 8, results := [.tmp 4], body :=
  (.seq (.region [o 4 (.mv (.c (.str [])))])
  (.seq (.region [m 5 0,
 m 6 1,
 e 7 (.call 270 [(.t 5), (.t 6)]),
 m 4 7])
  .ret)) }
theorem tr218 : trF cx Tryz.f218 = pf218 := by kernel_rfl
/-- depot/words.Line -/
def pf219 : PF := { ntmps := 72, results := [.cell 2 true 9, .tmp 3], body :=
  (.seq (.region [n 2 (.new 0 [(.int .i64 (.ofNat 0)), .nils, (.int .i64 (.ofNat 0)), (.int .i64 (.ofNat 0)), (.int .i64 (.ofNat 0)), (.int .i64 (.ofNat 0)), (.int .u64 (.ofNat 0)), (.bool false), (.str [])]),
 o 3 (.mv (ci 0))])
  (.seq (.region [m 9 0,
 e 10 (.call 271 [(.t 9)]),
 m 4 10])
  (.seq (.seq (.region [m 11 4,
 o 12 (.lensl (.t 11)),
 o 13 (.bin .eql (.t 12) (ci 0))])
  (.cond (.t 13)
   (.seq (.region [o 14 (.build [(.int .i64 (.ofNat 0)), .nils, (.int .i64 (.ofNat 0)), (.int .i64 (.ofNat 0)), (.int .i64 (.ofNat 0)), (.int .i64 (.ofNat 0)), (.int .u64 (.ofNat 0)), (.bool false), (.str [])] []),
 x (.store 9 (.t 2) (.t 14)),
 o 3 (.mv (ci 4))])
   .ret)
   .skip))
  (.seq (.region [m 16 4,
 o 17 (.iasl 1 (.t 16) (ci 0)),
 o 18 (.load false 1 (.t 17)),
 e 19 (.call 272 [(.t 18)]),
 m 15 19,
 o 20 (.ext 0 (.t 15)),
 o 21 (.ext 1 (.t 15)),
 n 5 (.new 0 [(.int .i64 (.ofNat 0)), (.int .i64 (.ofNat 0)), (.int .i64 (.ofNat 0)), (.bool false)]),
 x (.store 4 (.t 5) (.t 20)),
 m 6 21])
  (.seq (.region [m 22 4,
 o 23 (.slsl 1 (.t 22) (some (ci 1)) none none),
 m 4 23])
  (.seq (.region [o 24 (.faddr 0 (.t 5)),
 o 25 (.load false 1 (.t 24)),
 o 26 (.build [(.int .i64 (.ofNat 0)), .nils, (.int .i64 (.ofNat 0)), (.int .i64 (.ofNat 0)), (.int .i64 (.ofNat 0)), (.int .i64 (.ofNat 0)), (.int .u64 (.ofNat 0)), (.bool false), (.str [])] [(0, 1, (.t 25))]),
 n 7 (.new 0 [(.int .i64 (.ofNat 0)), .nils, (.int .i64 (.ofNat 0)), (.int .i64 (.ofNat 0)), (.int .i64 (.ofNat 0)), (.int .i64 (.ofNat 0)), (.int .u64 (.ofNat 0)), (.bool false), (.str [])]),
 x (.store 9 (.t 7) (.t 26))])
  (.seq (.seq (.region [m 27 4,
 o 28 (.lensl (.t 27)),
 m 8 28])
  (.seq (.region [o 29 (.faddr 3 (.t 5)),
 o 30 (.load false 1 (.t 29)),
 m 31 30,
 gm 32 31 true 8,
 go 33 31 true (.faddr 1 (.t 5)),
 go 34 31 true (.load false 1 (.t 33)),
 go 35 31 true (.bin .gtr (.t 32) (.t 34)),
 o 36 (.pick (.t 31) (.t 35) (.c (.bool false))),
 m 37 36,
 gm 38 37 true 4,
 gm 39 37 true 8,
 go 40 37 true (.bin .sub (.t 39) (ci 1)),
 go 41 37 true (.iasl 1 (.t 38) (.t 40)),
 go 42 37 true (.load false 1 (.t 41)),
 go 43 37 true (.bin .eql (.t 42) (.c (.str [110, 111, 114, 101, 112, 108, 121]))),
 o 44 (.pick (.t 37) (.t 43) (.c (.bool false)))])
  (.cond (.t 44)
   (.region [m 45 4,
 m 46 8,
 o 47 (.bin .sub (.t 46) (ci 1)),
 o 48 (.slsl 1 (.t 45) none (some (.t 47)) none),
 o 49 (.faddr 7 (.t 7)),
 x (.store 1 (.t 49) (.c (.bool true))),
 .again ⟨(some 48), none, (.r (.slsl 1 (.t 45) none (some (.t 47)) none))⟩,
 m 4 48])
   .skip)))
  (.seq (.seq (.region [m 50 6,
 o 51 (.un .not (.t 50)),
 m 52 51,
 gm 53 52 false 4,
 go 54 52 false (.lensl (.t 53)),
 go 55 52 false (.faddr 1 (.t 5)),
 go 56 52 false (.load false 1 (.t 55)),
 go 57 52 false (.bin .lss (.t 54) (.t 56)),
 o 58 (.pick (.t 52) (.c (.bool true)) (.t 57)),
 m 59 58,
 gm 60 59 false 4,
 go 61 59 false (.lensl (.t 60)),
 go 62 59 false (.faddr 2 (.t 5)),
 go 63 59 false (.load false 1 (.t 62)),
 go 64 59 false (.bin .gtr (.t 61) (.t 63)),
 o 65 (.pick (.t 59) (.c (.bool true)) (.t 64))])
  (.cond (.t 65)
   (.seq (.region [o 66 (.build [(.int .i64 (.ofNat 0)), .nils, (.int .i64 (.ofNat 0)), (.int .i64 (.ofNat 0)), (.int .i64 (.ofNat 0)), (.int .i64 (.ofNat 0)), (.int .u64 (.ofNat 0)), (.bool false), (.str [])] []),
 x (.store 9 (.t 2) (.t 66)),
 o 3 (.mv (ci 4))])
   .ret)
   .skip))
  (.seq (.seq (.region [m 67 4,
 o 68 (.bad),
 o 69 (.un .not (.t 68))])
  (.cond (.t 69)
   (.seq (.region [o 70 (.build [(.int .i64 (.ofNat 0)), .nils, (.int .i64 (.ofNat 0)), (.int .i64 (.ofNat 0)), (.int .i64 (.ofNat 0)), (.int .i64 (.ofNat 0)), (.int .u64 (.ofNat 0)), (.bool false), (.str [])] []),
 x (.store 9 (.t 2) (.t 70)),
 o 3 (.mv (ci 1))])
   .ret)
   .skip))
  (.seq (.region [o 71 (.load true 9 (.t 7)),
 x (.store 9 (.t 2) (.t 71)),
 o 3 (.mv (ci 0))])
  .ret)))))))))) }
theorem tr219 : trF cx Tryz.f219 = pf219 := by kernel_rfl
/-- (*depot/parse.Parser).say -/
def pf220 : PF := { ntmps := 19, results := [], body :=
  (.region [m 6 0,
 m 7 0,
 o 8 (.nilck (.t 7)),
 o 9 (.faddr 13 (.t 8)),
 o 10 (.load false 1 (.t 9)),
 m 11 1,
 m 12 2,
 o 13 (.build [(.int .i64 (.ofNat 0)), .nils, (.bool false), (.int .u64 (.ofNat 0)), (.str []), (.int .i64 (.ofNat 0)), (.int .i64 (.ofNat 0)), (.int .i64 (.ofNat 0)), (.int .i64 (.ofNat 0))] [(0, 1, (.t 11)), (4, 1, (.t 12))]),
 o 14 (.build [(.int .i64 (.ofNat 0)), .nils, (.int .i64 (.ofNat 0)), (.int .i64 (.ofNat 0)), (.int .i64 (.ofNat 0)), (.int .i64 (.ofNat 0)), (.int .u64 (.ofNat 0)), (.bool false), (.str []), (.int .i64 (.ofNat 0)), .nils, (.bool false), (.int .u64 (.ofNat 0)), (.str []), (.int .i64 (.ofNat 0)), (.int .i64 (.ofNat 0)), (.int .i64 (.ofNat 0)), (.int .i64 (.ofNat 0))] [(9, 9, (.t 13))]),
 n 15 (.bslice 0 18 1 [(.int .i64 (.ofNat 0)), .nils, (.int .i64 (.ofNat 0)), (.int .i64 (.ofNat 0)), (.int .i64 (.ofNat 0)), (.int .i64 (.ofNat 0)), (.int .u64 (.ofNat 0)), (.bool false), (.str []), (.int .i64 (.ofNat 0)), .nils, (.bool false), (.int .u64 (.ofNat 0)), (.str []), (.int .i64 (.ofNat 0)), (.int .i64 (.ofNat 0)), (.int .i64 (.ofNat 0)), (.int .i64 (.ofNat 0))] [(0, 18, (.t 14))]),
 e 16 (.app 0 18 192 (.t 10) (.t 15)),
 o 17 (.nilck (.t 6)),
 o 18 (.faddr 13 (.t 17)),
 x (.store 1 (.t 18) (.t 16))]) }
theorem tr220 : trF cx Tryz.f220 = pf220 := by kernel_rfl
/-- internal/strconv.small -/
def pf223 : PF := { ntmps := 15, results := [.tmp 2], body :=
  (.seq (.region [o 2 (.mv (.c (.str [])))])
  (.seq (.seq (.region [m 3 0,
 o 4 (.bin .lss (.t 3) (ci 10))])
  (.cond (.t 4)
   (.seq (.region [m 5 0,
 m 6 0,
 o 7 (.bin .add (.t 6) (ci 1)),
 o 8 (.slstr (.c (.str [48, 49, 50, 51, 52, 53, 54, 55, 56, 57, 97, 98, 99, 100, 101, 102, 103, 104, 105, 106, 107, 108, 109, 110, 111, 112, 113, 114, 115, 116, 117, 118, 119, 120, 121, 122])) (some (.t 5)) (some (.t 7))),
 m 2 8])
   .ret)
   .skip))
  (.seq (.region [m 9 0,
 o 10 (.bin .mul (.t 9) (ci 2)),
 m 11 0,
 o 12 (.bin .mul (.t 11) (ci 2)),
 o 13 (.bin .add (.t 12) (ci 2)),
 o 14 (.slstr (.c (.str [48, 48, 48, 49, 48, 50, 48, 51, 48, 52, 48, 53, 48, 54, 48, 55, 48, 56, 48, 57, 49, 48, 49, 49, 49, 50, 49, 51, 49, 52, 49, 53, 49, 54, 49, 55, 49, 56, 49, 57, 50, 48, 50, 49, 50, 50, 50, 51, 50, 52, 50, 53, 50, 54, 50, 55, 50, 56, 50, 57, 51, 48, 51, 49, 51, 50, 51, 51, 51, 52, 51, 53, 51, 54, 51, 55, 51, 56, 51, 57, 52, 48, 52, 49, 52, 50, 52, 51, 52, 52, 52, 53, 52, 54, 52, 55, 52, 56, 52, 57, 53, 48, 53, 49, 53, 50, 53, 51, 53, 52, 53, 53, 53, 54, 53, 55, 53, 56, 53, 57, 54, 48, 54, 49, 54, 50, 54, 51, 54, 52, 54, 53, 54, 54, 54, 55, 54, 56, 54, 57, 55, 48, 55, 49, 55, 50, 55, 51, 55, 52, 55, 53, 55, 54, 55, 55, 55, 56, 55, 57, 56, 48, 56, 49, 56, 50, 56, 51, 56, 52, 56, 53, 56, 54, 56, 55, 56, 56, 56, 57, 57, 48, 57, 49, 57, 50, 57, 51, 57, 52, 57, 53, 57, 54, 57, 55, 57, 56, 57, 57])) (some (.t 10)) (some (.t 13))),
 m 2 14])
  .ret))) }
theorem tr223 : trF cx Tryz.f223 = pf223 := by kernel_rfl
/-- internal/stringslite.IndexByte -/
def pf232 : PF := { ntmps := 8, results := [.tmp 4], body :=
  (.seq (.region [o 4 (.mv (ci 0))])
  (.seq (.region [m 5 0,
 m 6 1,
 o 7 (.index (.t 5) (.t 6)),
 m 4 7])
  .ret)) }
theorem tr232 : trF cx Tryz.f232 = pf232 := by kernel_rfl
/-- internal/stringslite.Index -/
def pf236 : PF := { ntmps := 143, results := [.tmp 4], body :=
  (.seq (.region [o 4 (.mv (ci 0))])
  (.seq (.region [m 14 1,
 o 15 (.lens (.t 14)),
 m 5 15])
  (.seq (.block 0 (.seq (.region [m 17 5,
 o 18 (.bin .eql (.t 17) (ci 0)),
 m 19 18,
 gm 20 19 false 1,
 gm 21 19 false 0,
 go 22 19 false (.bin .eql (.t 20) (.t 21)),
 o 23 (.pick (.t 19) (.c (.bool true)) (.t 22)),
 m 16 23])
   (.cond (.t 16)
    (.seq (.region [o 4 (.mv (ci 0))])
    .ret)
    (.seq (.region [m 25 5,
 o 26 (.bin .eql (.t 25) (ci 1)),
 m 24 26])
    (.cond (.t 24)
     (.seq (.region [m 27 0,
 m 28 1,
 o 29 (.ixstr (.t 28) (ci 0)),
 e 30 (.call 232 [(.t 27), (.t 29)]),
 m 4 30])
     .ret)
     (.seq (.region [m 32 5,
 m 33 0,
 o 34 (.lens (.t 33)),
 o 35 (.bin .geq (.t 32) (.t 34)),
 m 31 35])
     (.cond (.t 31)
      (.seq (.region [o 4 (.mv (.c (.int .i64 (.negSucc 0))))])
      .ret)
      (.seq (.region [m 37 5,
 o 38 (.bad),
 o 39 (.bin .leq (.t 37) (.t 38)),
 m 40 39,
 gm 41 40 true 0,
 go 42 40 true (.lens (.t 41)),
 go 43 40 true (.bin .leq (.t 42) (ci 64)),
 o 44 (.pick (.t 40) (.t 43) (.c (.bool false))),
 m 36 44])
      (.cond (.t 36)
       (.seq (.region [m 45 0,
 m 46 1,
 o 47 (.bad),
 m 4 47])
       .ret)
       .skip)))))))))
  (.seq (.region [m 48 1,
 o 49 (.ixstr (.t 48) (ci 0)),
 m 6 49])
  (.seq (.region [m 50 1,
 o 51 (.ixstr (.t 50) (ci 1)),
 m 7 51])
  (.seq (.region [o 8 (.mv (ci 0))])
  (.seq (.region [m 52 0,
 o 53 (.lens (.t 52)),
 m 54 5,
 o 55 (.bin .sub (.t 53) (.t 54)),
 o 56 (.bin .add (.t 55) (ci 1)),
 m 9 56])
  (.seq (.region [o 10 (.mv (ci 0))])
  (.seq (.block 1 (.loop (.seq (.seq (.region [m 57 8,
 m 58 9,
 o 59 (.bin .lss (.t 57) (.t 58))])
    (.cond (.t 59)
     .skip
     (.exit 1)))
    (.block 2 (.seq (.seq (.region [m 60 0,
 m 61 8,
 o 62 (.ixstr (.t 60) (.t 61)),
 m 63 6,
 o 64 (.bin .neq (.t 62) (.t 63))])
     (.cond (.t 64)
      (.seq (.region [m 65 0,
 m 66 8,
 o 67 (.bin .add (.t 66) (ci 1)),
 m 68 9,
 o 69 (.slstr (.t 65) (some (.t 67)) (some (.t 68))),
 m 70 6,
 e 71 (.call 232 [(.t 69), (.t 70)]),
 m 11 71])
      (.seq (.seq (.region [m 72 11,
 o 73 (.bin .lss (.t 72) (ci 0))])
      (.cond (.t 73)
       (.seq (.region [o 4 (.mv (.c (.int .i64 (.negSucc 0))))])
       .ret)
       .skip))
      (.region [m 74 8,
 m 75 11,
 o 76 (.bin .add (.t 75) (ci 1)),
 o 77 (.bin .add (.t 74) (.t 76)),
 m 8 77])))
      .skip))
     (.seq (.seq (.region [m 78 0,
 m 79 8,
 o 80 (.bin .add (.t 79) (ci 1)),
 o 81 (.ixstr (.t 78) (.t 80)),
 m 82 7,
 o 83 (.bin .eql (.t 81) (.t 82)),
 m 84 83,
 gm 85 84 true 0,
 gm 86 84 true 8,
 gm 87 84 true 8,
 gm 88 84 true 5,
 go 89 84 true (.bin .add (.t 87) (.t 88)),
 go 90 84 true (.slstr (.t 85) (some (.t 86)) (some (.t 89))),
 gm 91 84 true 1,
 go 92 84 true (.bin .eql (.t 90) (.t 91)),
 o 93 (.pick (.t 84) (.t 92) (.c (.bool false)))])
     (.cond (.t 93)
      (.seq (.region [m 94 8,
 m 4 94])
      .ret)
      .skip))
     (.seq (.region [m 95 8,
 o 96 (.bin .add (.t 95) (ci 1)),
 m 8 96])
     (.seq (.region [m 97 10,
 o 98 (.bin .add (.t 97) (ci 1)),
 m 10 98])
     (.seq (.region [m 99 5,
 o 100 (.bad),
 o 101 (.bin .leq (.t 99) (.t 100)),
 m 102 101,
 gm 103 102 true 10,
 gm 104 102 true 8,
 o 105 (.bad),
 go 106 102 true (.bin .gtr (.t 103) (.t 105)),
 o 107 (.pick (.t 102) (.t 106) (.c (.bool false)))])
     (.cond (.t 107)
      (.seq (.region [m 108 0,
 m 109 8,
 o 110 (.slstr (.t 108) (some (.t 109)) none),
 m 111 1,
 o 112 (.bad),
 m 12 112])
      (.seq (.seq (.region [m 113 12,
 o 114 (.bin .geq (.t 113) (ci 0))])
      (.cond (.t 114)
       (.seq (.region [m 115 12,
 m 116 8,
 o 117 (.bin .add (.t 115) (.t 116)),
 m 4 117])
       .ret)
       .skip))
      (.seq (.region [o 4 (.mv (.c (.int .i64 (.negSucc 0))))])
      .ret)))
      (.seq (.region [m 118 5,
 o 119 (.bad),
 o 120 (.bin .gtr (.t 118) (.t 119)),
 m 121 120,
 gm 122 121 true 10,
 gm 123 121 true 8,
 go 124 121 true (.bin .shr (.t 123) (.c (.int .u64 (.ofNat 4)))),
 go 125 121 true (.bin .add (ci 4) (.t 124)),
 go 126 121 true (.bin .geq (.t 122) (.t 125)),
 o 127 (.pick (.t 121) (.t 126) (.c (.bool false))),
 m 128 127,
 gm 129 128 true 8,
 gm 130 128 true 9,
 go 131 128 true (.bin .lss (.t 129) (.t 130)),
 o 132 (.pick (.t 128) (.t 131) (.c (.bool false)))])
      (.cond (.t 132)
       (.seq (.region [m 133 0,
 m 134 8,
 o 135 (.slstr (.t 133) (some (.t 134)) none),
 m 136 1,
 o 137 (.bad),
 m 13 137])
       (.seq (.seq (.region [m 138 13,
 o 139 (.bin .lss (.t 138) (ci 0))])
       (.cond (.t 139)
        (.seq (.region [o 4 (.mv (.c (.int .i64 (.negSucc 0))))])
        .ret)
        .skip))
       (.seq (.region [m 140 8,
 m 141 13,
 o 142 (.bin .add (.t 140) (.t 141)),
 m 4 142])
       .ret)))
       .skip))))))))))))
  (.seq (.region [o 4 (.mv (.c (.int .i64 (.negSucc 0))))])
  .ret)))))))))) }
theorem tr236 : trF cx Tryz.f236 = pf236 := by kernel_rfl
/-- internal/stringslite.TrimSuffix -/
def pf270 : PF := { ntmps := 16, results := [.tmp 4], body :=
  (.seq (.region [o 4 (.mv (.c (.str [])))])
  (.seq (.seq (.region [m 5 0,
 m 6 1,
 e 7 (.call 314 [(.t 5), (.t 6)])])
  (.cond (.t 7)
   (.seq (.region [m 8 0,
 m 9 0,
 o 10 (.lens (.t 9)),
 m 11 1,
 o 12 (.lens (.t 11)),
 o 13 (.bin .sub (.t 10) (.t 12)),
 o 14 (.slstr (.t 8) none (some (.t 13))),
 m 4 14])
   .ret)
   .skip))
  (.seq (.region [m 15 0,
 m 4 15])
  .ret))) }
theorem tr270 : trF cx Tryz.f270 = pf270 := by kernel_rfl
/-- depot/words.Split -/
def pf271 : PF := { ntmps := 35, results := [.tmp 2], body :=
  (.seq (.region [o 2 (.mv (.c .nils))])
  (.scope (.seq (.region [o 3 (.mv (.c .nils))])
   (.seq (.region [o 4 (.mv (ci 0))])
   (.seq .skip
   (.seq (.seq (.region [o 5 (.mv (ci 0))])
   (.block 0 (.loop (.seq (.seq (.region [m 6 5,
 m 7 0,
 o 8 (.lens (.t 7)),
 o 9 (.bin .leq (.t 6) (.t 8))])
     (.cond (.t 9)
      .skip
      (.exit 0)))
     (.seq (.block 1 (.seq (.seq (.region [m 12 5,
 m 13 0,
 o 14 (.lens (.t 13)),
 o 15 (.bin .lss (.t 12) (.t 14)),
 m 16 15,
 gm 17 16 true 0,
 gm 18 16 true 5,
 go 19 16 true (.ixstr (.t 17) (.t 18)),
 go 20 16 true (.bin .neq (.t 19) (.c (.int .u8 (.ofNat 32)))),
 o 21 (.pick (.t 16) (.t 20) (.c (.bool false)))])
      (.cond (.t 21)
       (.exit 1)
       .skip))
      (.seq (.seq (.region [m 22 5,
 m 23 4,
 o 24 (.bin .gtr (.t 22) (.t 23))])
      (.cond (.t 24)
       (.region [m 25 3,
 m 26 0,
 m 27 4,
 m 28 5,
 o 29 (.slstr (.t 26) (some (.t 27)) (some (.t 28))),
 n 30 (.bslice 0 1 1 [(.str [])] [(0, 1, (.t 29))]),
 e 31 (.app 0 1 16 (.t 25) (.t 30)),
 m 3 31])
       .skip))
      (.region [m 32 5,
 o 33 (.bin .add (.t 32) (ci 1)),
 m 4 33]))))
     (.region [m 10 5,
 o 11 (.bin .add (.t 10) (ci 1)),
 m 5 11]))))))
   (.seq (.region [m 34 3,
 m 2 34])
   .ret))))))) }
theorem tr271 : trF cx Tryz.f271 = pf271 := by kernel_rfl
/-- depot/words.shapeOf -/
def pf272 : PF := { ntmps := 57, results := [.cell 2 true 4, .tmp 3], body :=
  (.seq (.region [n 2 (.new 0 [(.int .i64 (.ofNat 0)), (.int .i64 (.ofNat 0)), (.int .i64 (.ofNat 0)), (.bool false)]),
 o 3 (.mv (.c (.bool false)))])
  (.seq (.seq (.region [m 4 0])
  (.block 0 (.seq (.region [o 6 (.bin .eql (.t 4) (.c (.str [103, 101, 116]))),
 m 5 6])
   (.cond (.t 5)
    (.seq (.region [o 7 (.build [(.int .i64 (.ofNat 0)), (.int .i64 (.ofNat 0)), (.int .i64 (.ofNat 0)), (.bool false)] [(0, 1, (ci 1)), (1, 1, (ci 1)), (2, 1, (ci 64)), (3, 1, (.c (.bool false)))]),
 x (.store 4 (.t 2) (.t 7)),
 o 3 (.mv (.c (.bool true)))])
    .ret)
    (.seq (.region [o 9 (.bin .eql (.t 4) (.c (.str [103, 101, 116, 115]))),
 m 8 9])
    (.cond (.t 8)
     (.seq (.region [o 10 (.build [(.int .i64 (.ofNat 0)), (.int .i64 (.ofNat 0)), (.int .i64 (.ofNat 0)), (.bool false)] [(0, 1, (ci 2)), (1, 1, (ci 1)), (2, 1, (ci 64)), (3, 1, (.c (.bool false)))]),
 x (.store 4 (.t 2) (.t 10)),
 o 3 (.mv (.c (.bool true)))])
     .ret)
     (.seq (.region [o 12 (.bin .eql (.t 4) (.c (.str [115, 101, 116]))),
 m 11 12])
     (.cond (.t 11)
      (.seq (.region [o 13 (.build [(.int .i64 (.ofNat 0)), (.int .i64 (.ofNat 0)), (.int .i64 (.ofNat 0)), (.bool false)] [(0, 1, (ci 3)), (1, 1, (ci 4)), (2, 1, (ci 4)), (3, 1, (.c (.bool true)))]),
 x (.store 4 (.t 2) (.t 13)),
 o 3 (.mv (.c (.bool true)))])
      .ret)
      (.seq (.region [o 15 (.bin .eql (.t 4) (.c (.str [97, 100, 100]))),
 m 14 15])
      (.cond (.t 14)
       (.seq (.region [o 16 (.build [(.int .i64 (.ofNat 0)), (.int .i64 (.ofNat 0)), (.int .i64 (.ofNat 0)), (.bool false)] [(0, 1, (ci 4)), (1, 1, (ci 4)), (2, 1, (ci 4)), (3, 1, (.c (.bool true)))]),
 x (.store 4 (.t 2) (.t 16)),
 o 3 (.mv (.c (.bool true)))])
       .ret)
       (.seq (.region [o 18 (.bin .eql (.t 4) (.c (.str [114, 101, 112, 108, 97, 99, 101]))),
 m 17 18])
       (.cond (.t 17)
        (.seq (.region [o 19 (.build [(.int .i64 (.ofNat 0)), (.int .i64 (.ofNat 0)), (.int .i64 (.ofNat 0)), (.bool false)] [(0, 1, (ci 5)), (1, 1, (ci 4)), (2, 1, (ci 4)), (3, 1, (.c (.bool true)))]),
 x (.store 4 (.t 2) (.t 19)),
 o 3 (.mv (.c (.bool true)))])
        .ret)
        (.seq (.region [o 21 (.bin .eql (.t 4) (.c (.str [97, 112, 112, 101, 110, 100]))),
 m 20 21])
        (.cond (.t 20)
         (.seq (.region [o 22 (.build [(.int .i64 (.ofNat 0)), (.int .i64 (.ofNat 0)), (.int .i64 (.ofNat 0)), (.bool false)] [(0, 1, (ci 6)), (1, 1, (ci 4)), (2, 1, (ci 4)), (3, 1, (.c (.bool true)))]),
 x (.store 4 (.t 2) (.t 22)),
 o 3 (.mv (.c (.bool true)))])
         .ret)
         (.seq (.region [o 24 (.bin .eql (.t 4) (.c (.str [112, 114, 101, 112, 101, 110, 100]))),
 m 23 24])
         (.cond (.t 23)
          (.seq (.region [o 25 (.build [(.int .i64 (.ofNat 0)), (.int .i64 (.ofNat 0)), (.int .i64 (.ofNat 0)), (.bool false)] [(0, 1, (ci 7)), (1, 1, (ci 4)), (2, 1, (ci 4)), (3, 1, (.c (.bool true)))]),
 x (.store 4 (.t 2) (.t 25)),
 o 3 (.mv (.c (.bool true)))])
          .ret)
          (.seq (.region [o 27 (.bin .eql (.t 4) (.c (.str [99, 97, 115]))),
 m 26 27])
          (.cond (.t 26)
           (.seq (.region [o 28 (.build [(.int .i64 (.ofNat 0)), (.int .i64 (.ofNat 0)), (.int .i64 (.ofNat 0)), (.bool false)] [(0, 1, (ci 8)), (1, 1, (ci 5)), (2, 1, (ci 5)), (3, 1, (.c (.bool true)))]),
 x (.store 4 (.t 2) (.t 28)),
 o 3 (.mv (.c (.bool true)))])
           .ret)
           (.seq (.region [o 30 (.bin .eql (.t 4) (.c (.str [100, 101, 108, 101, 116, 101]))),
 m 29 30])
           (.cond (.t 29)
            (.seq (.region [o 31 (.build [(.int .i64 (.ofNat 0)), (.int .i64 (.ofNat 0)), (.int .i64 (.ofNat 0)), (.bool false)] [(0, 1, (ci 9)), (1, 1, (ci 1)), (2, 1, (ci 1)), (3, 1, (.c (.bool true)))]),
 x (.store 4 (.t 2) (.t 31)),
 o 3 (.mv (.c (.bool true)))])
            .ret)
            (.seq (.region [o 33 (.bin .eql (.t 4) (.c (.str [105, 110, 99, 114]))),
 m 32 33])
            (.cond (.t 32)
             (.seq (.region [o 34 (.build [(.int .i64 (.ofNat 0)), (.int .i64 (.ofNat 0)), (.int .i64 (.ofNat 0)), (.bool false)] [(0, 1, (ci 10)), (1, 1, (ci 2)), (2, 1, (ci 2)), (3, 1, (.c (.bool true)))]),
 x (.store 4 (.t 2) (.t 34)),
 o 3 (.mv (.c (.bool true)))])
             .ret)
             (.seq (.region [o 36 (.bin .eql (.t 4) (.c (.str [100, 101, 99, 114]))),
 m 35 36])
             (.cond (.t 35)
              (.seq (.region [o 37 (.build [(.int .i64 (.ofNat 0)), (.int .i64 (.ofNat 0)), (.int .i64 (.ofNat 0)), (.bool false)] [(0, 1, (ci 11)), (1, 1, (ci 2)), (2, 1, (ci 2)), (3, 1, (.c (.bool true)))]),
 x (.store 4 (.t 2) (.t 37)),
 o 3 (.mv (.c (.bool true)))])
              .ret)
              (.seq (.region [o 39 (.bin .eql (.t 4) (.c (.str [116, 111, 117, 99, 104]))),
 m 38 39])
              (.cond (.t 38)
               (.seq (.region [o 40 (.build [(.int .i64 (.ofNat 0)), (.int .i64 (.ofNat 0)), (.int .i64 (.ofNat 0)), (.bool false)] [(0, 1, (ci 12)), (1, 1, (ci 2)), (2, 1, (ci 2)), (3, 1, (.c (.bool true)))]),
 x (.store 4 (.t 2) (.t 40)),
 o 3 (.mv (.c (.bool true)))])
               .ret)
               (.seq (.region [o 42 (.bin .eql (.t 4) (.c (.str [102, 108, 117, 115, 104, 95, 97, 108, 108]))),
 m 41 42])
               (.cond (.t 41)
                (.seq (.region [o 43 (.build [(.int .i64 (.ofNat 0)), (.int .i64 (.ofNat 0)), (.int .i64 (.ofNat 0)), (.bool false)] [(0, 1, (ci 13)), (1, 1, (ci 0)), (2, 1, (ci 1)), (3, 1, (.c (.bool true)))]),
 x (.store 4 (.t 2) (.t 43)),
 o 3 (.mv (.c (.bool true)))])
                .ret)
                (.seq (.region [o 45 (.bin .eql (.t 4) (.c (.str [118, 101, 114, 115, 105, 111, 110]))),
 m 44 45])
                (.cond (.t 44)
                 (.seq (.region [o 46 (.build [(.int .i64 (.ofNat 0)), (.int .i64 (.ofNat 0)), (.int .i64 (.ofNat 0)), (.bool false)] [(0, 1, (ci 14)), (1, 1, (ci 0)), (2, 1, (ci 0)), (3, 1, (.c (.bool false)))]),
 x (.store 4 (.t 2) (.t 46)),
 o 3 (.mv (.c (.bool true)))])
                 .ret)
                 (.seq (.region [o 48 (.bin .eql (.t 4) (.c (.str [118, 101, 114, 98, 111, 115, 105, 116, 121]))),
 m 47 48])
                 (.cond (.t 47)
                  (.seq (.region [o 49 (.build [(.int .i64 (.ofNat 0)), (.int .i64 (.ofNat 0)), (.int .i64 (.ofNat 0)), (.bool false)] [(0, 1, (ci 15)), (1, 1, (ci 1)), (2, 1, (ci 1)), (3, 1, (.c (.bool true)))]),
 x (.store 4 (.t 2) (.t 49)),
 o 3 (.mv (.c (.bool true)))])
                  .ret)
                  (.seq (.region [o 51 (.bin .eql (.t 4) (.c (.str [115, 116, 97, 116, 115]))),
 m 50 51])
                  (.cond (.t 50)
                   (.seq (.region [o 52 (.build [(.int .i64 (.ofNat 0)), (.int .i64 (.ofNat 0)), (.int .i64 (.ofNat 0)), (.bool false)] [(0, 1, (ci 16)), (1, 1, (ci 0)), (2, 1, (ci 0)), (3, 1, (.c (.bool false)))]),
 x (.store 4 (.t 2) (.t 52)),
 o 3 (.mv (.c (.bool true)))])
                   .ret)
                   (.seq (.region [o 54 (.bin .eql (.t 4) (.c (.str [113, 117, 105, 116]))),
 m 53 54])
                   (.cond (.t 53)
                    (.seq (.region [o 55 (.build [(.int .i64 (.ofNat 0)), (.int .i64 (.ofNat 0)), (.int .i64 (.ofNat 0)), (.bool false)] [(0, 1, (ci 17)), (1, 1, (ci 0)), (2, 1, (ci 0)), (3, 1, (.c (.bool false)))]),
 x (.store 4 (.t 2) (.t 55)),
 o 3 (.mv (.c (.bool true)))])
                    .ret)
                    .skip))))))))))))))))))))))))))))))))))))
  (.seq (.region [o 56 (.build [(.int .i64 (.ofNat 0)), (.int .i64 (.ofNat 0)), (.int .i64 (.ofNat 0)), (.bool false)] []),
 x (.store 4 (.t 2) (.t 56)),
 o 3 (.mv (.c (.bool false)))])
  .ret))) }
theorem tr272 : trF cx Tryz.f272 = pf272 := by kernel_rfl
/-- internal/stringslite.HasSuffix -/
def pf314 : PF := { ntmps := 21, results := [.tmp 4], body :=
  (.seq (.region [o 4 (.mv (.c (.bool false)))])
  (.seq (.region [m 5 0,
 o 6 (.lens (.t 5)),
 m 7 1,
 o 8 (.lens (.t 7)),
 o 9 (.bin .geq (.t 6) (.t 8)),
 m 10 9,
 gm 11 10 true 0,
 gm 12 10 true 0,
 go 13 10 true (.lens (.t 12)),
 gm 14 10 true 1,
 go 15 10 true (.lens (.t 14)),
 go 16 10 true (.bin .sub (.t 13) (.t 15)),
 go 17 10 true (.slstr (.t 11) (some (.t 16)) none),
 gm 18 10 true 1,
 go 19 10 true (.bin .eql (.t 17) (.t 18)),
 o 20 (.pick (.t 10) (.t 19) (.c (.bool false))),
 m 4 20])
  .ret)) }
theorem tr314 : trF cx Tryz.f314 = pf314 := by kernel_rfl
end Go.Proofs.YthogpieophmajaaGreatDoor
