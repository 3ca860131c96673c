/- The functions that this seat's laws reach, for the clean machine; each is what the translation makes of the given text. Conditions: none. Printed by program. -/
import Derived.Test.YthogpieophmajaaGreatDoorLibMA
namespace Go.Proofs.YthogpieophmajaaGreatDoor
open Go.Dp
/-- depot/place.Stripe -/
def pf189 : PF := { ntmps := 44, results := [.tmp 6], body :=
  (.seq (.region [o 6 (.mv (.c .nils))])
  (.seq (.seq (.region [m 10 2,
 o 11 (.bin .lss (.t 10) (ci 1)),
 m 12 11,
 gm 13 12 false 2,
 go 14 12 false (.bin .gtr (.t 13) (ci 12)),
 o 15 (.pick (.t 12) (.c (.bool true)) (.t 14)),
 m 16 15,
 gm 17 16 false 1,
 go 18 16 false (.bin .lss (.t 17) (ci 0)),
 o 19 (.pick (.t 16) (.c (.bool true)) (.t 18)),
 m 20 19,
 gm 21 20 false 1,
 gm 22 20 false 2,
 go 23 20 false (.bin .gtr (.t 21) (.t 22)),
 o 24 (.pick (.t 20) (.c (.bool true)) (.t 23))])
  (.cond (.t 24)
   (.seq (.region [o 6 (.mv (.c .nils))])
   .ret)
   .skip))
  (.seq (.region [m 25 0,
 e 26 (.call 249 [(.t 25)]),
 o 27 (.cint .i64 (.t 26)),
 m 28 2,
 o 29 (.bin .rem (.t 27) (.t 28)),
 m 7 29])
  (.seq (.region [o 8 (.mv (.c .nils))])
  (.seq (.seq (.region [m 30 1,
 o 31 (.mv (ci 0))])
  (.block 0 (.loop (.seq (.region [o 32 (.bin .lss (.t 31) (.t 30))])
    (.seq (.cond (.t 32)
     .skip
     (.exit 0))
    (.seq (.block 1 (.seq (.region [m 33 31,
 m 9 33])
     (.region [m 34 8,
 m 35 7,
 m 36 9,
 o 37 (.bin .add (.t 35) (.t 36)),
 m 38 2,
 o 39 (.bin .rem (.t 37) (.t 38)),
 n 40 (.bslice 0 1 1 [(.int .i64 (.ofNat 0))] [(0, 1, (.t 39))]),
 e 41 (.app 0 1 8 (.t 34) (.t 40)),
 m 8 41])))
    (.region [o 42 (.bin .add (.t 31) (ci 1)),
 m 31 42])))))))
  (.seq (.region [m 43 8,
 m 6 43])
  .ret)))))) }
theorem tr189 : trF cx Tryz.f189 = pf189 := by kernel_rfl
/-- (*depot/task.Task).ask -/
def pf191 : PF := { ntmps := 30, results := [], body :=
  (.seq (.region [n 5 (.box (.t 2))])
  (.seq (.region [m 6 1,
 m 7 0,
 o 8 (.nilck (.t 7)),
 o 9 (.faddr 7 (.t 8)),
 o 10 (.load false 1 (.t 9)),
 o 11 (.faddr 1 (.t 5)),
 x (.store 1 (.t 11) (.t 6)),
 .again ⟨(some 10), none, (.r (.load false 1 (.t 9)))⟩,
 o 12 (.faddr 6 (.t 5)),
 x (.store 1 (.t 12) (.t 10))])
  (.seq (.region [m 13 0,
 m 14 0,
 o 15 (.nilck (.t 14)),
 o 16 (.faddr 36 (.t 15)),
 o 17 (.load false 1 (.t 16)),
 o 18 (.load true 9 (.t 5)),
 n 19 (.bslice 0 9 1 [(.int .i64 (.ofNat 0)), (.int .i64 (.ofNat 0)), (.int .i64 (.ofNat 0)), (.int .i64 (.ofNat 0)), (.int .i64 (.ofNat 0)), (.int .i64 (.ofNat 0)), (.str []), (.int .i64 (.ofNat 0)), (.str [])] [(0, 9, (.t 18))]),
 e 20 (.app 0 9 88 (.t 17) (.t 19)),
 o 21 (.nilck (.t 13)),
 o 22 (.faddr 36 (.t 21)),
 x (.store 1 (.t 22) (.t 20))])
  (.region [m 23 0,
 o 24 (.nilck (.t 23)),
 o 25 (.faddr 22 (.t 24)),
 o 26 (.load false 1 (.t 25)),
 o 27 (.bin .add (.t 26) (ci 1)),
 o 28 (.nilck (.t 23)),
 o 29 (.faddr 22 (.t 28)),
 x (.store 1 (.t 29) (.t 27))])))) }
theorem tr191 : trF cx Tryz.f191 = pf191 := by kernel_rfl
/-- (*depot/task.Task).found -/
def pf193 : PF := { ntmps := 117, results := [], body :=
  (.seq (.region [n 3 (.box (.t 1))])
  (.seq (.region [m 4 0,
 m 5 0,
 o 6 (.nilck (.t 5)),
 o 7 (.faddr 42 (.t 6)),
 o 8 (.load false 1 (.t 7)),
 o 9 (.faddr 13 (.t 3)),
 o 10 (.load false 1 (.t 9)),
 o 11 (.bin .gtr (.t 8) (.t 10)),
 m 12 11,
 gm 13 12 true 0,
 go 14 12 true (.nilck (.t 13)),
 go 15 12 true (.faddr 42 (.t 14)),
 go 16 12 true (.load false 1 (.t 15)),
 go 17 12 true (.bin .gtr (.t 16) (ci 0)),
 o 18 (.pick (.t 12) (.t 17) (.c (.bool false))),
 m 19 18,
 gm 20 19 true 0,
 go 21 19 true (.nilck (.t 20)),
 go 22 19 true (.faddr 37 (.t 21)),
 go 23 19 true (.faddr 3 (.t 22)),
 go 24 19 true (.load false 1 (.t 23)),
 go 25 19 true (.faddr 12 (.t 3)),
 go 26 19 true (.load false 1 (.t 25)),
 .op ⟨(some 27), (some (19, true)), (.e (.call 256 [(.t 24), (.t 26)]))⟩,
 o 28 (.pick (.t 19) (.t 27) (.c (.bool false))),
 o 29 (.nilck (.t 4)),
 o 30 (.faddr 43 (.t 29)),
 x (.store 1 (.t 30) (.t 28))])
  (.seq (.seq (.region [m 31 0,
 o 32 (.nilck (.t 31)),
 o 33 (.faddr 42 (.t 32)),
 o 34 (.load false 1 (.t 33)),
 o 35 (.bin .gtr (.t 34) (ci 0)),
 m 36 35,
 gm 37 36 true 0,
 go 38 36 true (.nilck (.t 37)),
 go 39 36 true (.faddr 43 (.t 38)),
 go 40 36 true (.load false 1 (.t 39)),
 go 41 36 true (.un .not (.t 40)),
 o 42 (.pick (.t 36) (.t 41) (.c (.bool false)))])
  (.cond (.t 42)
   (.region [m 43 0,
 m 44 0,
 o 45 (.nilck (.t 44)),
 o 46 (.faddr 51 (.t 45)),
 o 47 (.load false 1 (.t 46)),
 m 48 0,
 o 49 (.nilck (.t 48)),
 o 50 (.faddr 37 (.t 49)),
 o 51 (.faddr 0 (.t 50)),
 o 52 (.load false 1 (.t 51)),
 n 53 (.bslice 0 1 1 [(.int .i64 (.ofNat 0))] [(0, 1, (.t 52))]),
 e 54 (.app 0 1 8 (.t 47) (.t 53)),
 o 55 (.nilck (.t 43)),
 o 56 (.faddr 51 (.t 55)),
 x (.store 1 (.t 56) (.t 54))])
   .skip))
  (.block 0 (.seq (.region [m 61 0,
 o 62 (.nilck (.t 61)),
 o 63 (.faddr 17 (.t 62)),
 o 64 (.load false 1 (.t 63)),
 o 65 (.bin .geq (.t 64) (ci 0)),
 m 66 65,
 gm 67 66 true 0,
 go 68 66 true (.nilck (.t 67)),
 go 69 66 true (.faddr 43 (.t 68)),
 go 70 66 true (.load false 1 (.t 69)),
 go 71 66 true (.un .not (.t 70)),
 o 72 (.pick (.t 66) (.t 71) (.c (.bool false))),
 m 60 72])
   (.cond (.t 60)
    (.region [m 73 0,
 o 74 (.load true 14 (.t 3)),
 e 75 (.call 196 [(.t 73), (.t 74)])])
    (.seq (.region [m 77 0,
 o 78 (.nilck (.t 77)),
 o 79 (.faddr 42 (.t 78)),
 o 80 (.load false 1 (.t 79)),
 o 81 (.bin .eql (.t 80) (ci 0)),
 m 82 81,
 gm 83 82 true 0,
 go 84 82 true (.load true 14 (.t 3)),
 .op ⟨(some 85), (some (82, true)), (.e (.call 257 [(.t 83), (.t 84)]))⟩,
 o 86 (.pick (.t 82) (.t 85) (.c (.bool false))),
 m 76 86])
    (.cond (.t 76)
     (.region [m 87 0,
 o 88 (.load true 14 (.t 3)),
 m 89 0,
 o 90 (.nilck (.t 89)),
 o 91 (.faddr 18 (.t 90)),
 o 92 (.load false 1 (.t 91)),
 o 93 (.bad)])
     (.seq (.region [m 95 0,
 o 96 (.nilck (.t 95)),
 o 97 (.faddr 43 (.t 96)),
 o 98 (.load false 1 (.t 97)),
 m 99 98,
 gm 100 99 true 0,
 go 101 99 true (.nilck (.t 100)),
 go 102 99 true (.faddr 17 (.t 101)),
 go 103 99 true (.load false 1 (.t 102)),
 go 104 99 true (.bin .geq (.t 103) (ci 0)),
 gm 105 99 true 104,
 gm 106 105 false 0,
 go 107 105 false (.nilck (.t 106)),
 go 108 105 false (.faddr 8 (.t 107)),
 go 109 105 false (.faddr 0 (.t 108)),
 go 110 105 false (.load false 1 (.t 109)),
 .op ⟨(some 111), (some (105, false)), (.e (.call 258 [(.t 110)]))⟩,
 go 112 99 true (.pick (.t 105) (.c (.bool true)) (.t 111)),
 o 113 (.pick (.t 99) (.t 112) (.c (.bool false))),
 m 94 113])
     (.cond (.t 94)
      (.region [m 114 0,
 o 115 (.load true 14 (.t 3)),
 o 116 (.bad)])
      (.region [m 57 0,
 o 58 (.load true 14 (.t 3)),
 e 59 (.call 197 [(.t 57), (.t 58)])]))))))))))) }
theorem tr193 : trF cx Tryz.f193 = pf193 := by kernel_rfl
/-- (*depot/task.Task).clean -/
def pf196 : PF := { ntmps := 30, results := [], body :=
  (.seq (.region [n 3 (.box (.t 1))])
  (.seq (.region [m 6 0,
 e 7 (.call 212 [(.t 6), (ci 8)])])
  (.seq (.seq (.region [m 8 0,
 o 9 (.nilck (.t 8)),
 o 10 (.faddr 51 (.t 9)),
 o 11 (.load false 1 (.t 10)),
 o 12 (.lensl (.t 11)),
 o 13 (.mv (ci 0))])
  (.block 0 (.loop (.seq (.region [o 14 (.bin .lss (.t 13) (.t 12))])
    (.seq (.cond (.t 14)
     .skip
     (.exit 0))
    (.seq (.block 1 (.seq (.region [o 15 (.iasl 1 (.t 11) (.t 13)),
 o 16 (.load false 1 (.t 15)),
 m 5 16])
     (.region [m 17 0,
 o 18 (.load true 14 (.t 3)),
 m 19 0,
 o 20 (.nilck (.t 19)),
 o 21 (.faddr 19 (.t 20)),
 o 22 (.load false 1 (.t 21)),
 m 23 5,
 o 24 (.build [(.int .i64 (.ofNat 0)), (.int .i64 (.ofNat 0)), (.int .i64 (.ofNat 0)), (.int .i64 (.ofNat 0)), (.int .i64 (.ofNat 0)), (.int .i64 (.ofNat 0)), (.str []), (.int .i64 (.ofNat 0)), (.str [])] [(0, 1, (ci 3)), (5, 1, (ci 2)), (7, 1, (.t 23))]),
 o 25 (.bad)])))
    (.region [o 26 (.bin .add (.t 13) (ci 1)),
 m 13 26])))))))
  (.region [m 27 0,
 o 28 (.load true 14 (.t 3)),
 e 29 (.call 146 [(.t 27), (.t 28)])])))) }
theorem tr196 : trF cx Tryz.f196 = pf196 := by kernel_rfl
/-- (*depot/task.Task).decide -/
def pf197 : PF := { ntmps := 182, results := [], body :=
  (.seq (.region [n 3 (.box (.t 1))])
  (.seq (.region [m 11 0,
 o 12 (.nilck (.t 11)),
 o 13 (.faddr 37 (.t 12)),
 o 14 (.load true 5 (.t 13)),
 n 4 (.new 0 [(.int .i64 (.ofNat 0)), (.int .i64 (.ofNat 0)), (.int .i64 (.ofNat 0)), (.int .i64 (.ofNat 0)), (.int .i64 (.ofNat 0))]),
 x (.store 5 (.t 4) (.t 14))])
  (.seq (.seq (.region [m 15 0,
 o 16 (.nilck (.t 15)),
 o 17 (.faddr 8 (.t 16)),
 o 18 (.faddr 0 (.t 17)),
 o 19 (.load false 1 (.t 18)),
 o 20 (.bin .eql (.t 19) (ci 1)),
 m 21 20,
 gm 22 21 false 0,
 go 23 21 false (.nilck (.t 22)),
 go 24 21 false (.faddr 8 (.t 23)),
 go 25 21 false (.faddr 0 (.t 24)),
 go 26 21 false (.load false 1 (.t 25)),
 go 27 21 false (.bin .eql (.t 26) (ci 2)),
 o 28 (.pick (.t 21) (.c (.bool true)) (.t 27))])
  (.cond (.t 28)
   (.seq (.region [m 29 0,
 o 30 (.nilck (.t 29)),
 o 31 (.faddr 8 (.t 30)),
 o 32 (.faddr 0 (.t 31)),
 o 33 (.load false 1 (.t 32)),
 o 34 (.bin .eql (.t 33) (ci 2)),
 o 35 (.build [(.int .i64 (.ofNat 0)), .nils, (.bool false), (.int .u64 (.ofNat 0)), (.str []), (.int .i64 (.ofNat 0)), (.int .i64 (.ofNat 0)), (.int .i64 (.ofNat 0)), (.int .i64 (.ofNat 0))] [(0, 1, (ci 1)), (2, 1, (.t 34))]),
 n 5 (.new 0 [(.int .i64 (.ofNat 0)), .nils, (.bool false), (.int .u64 (.ofNat 0)), (.str []), (.int .i64 (.ofNat 0)), (.int .i64 (.ofNat 0)), (.int .i64 (.ofNat 0)), (.int .i64 (.ofNat 0))]),
 x (.store 9 (.t 5) (.t 35))])
   (.seq (.seq (.region [m 36 0,
 o 37 (.nilck (.t 36)),
 o 38 (.faddr 43 (.t 37)),
 o 39 (.load false 1 (.t 38))])
   (.cond (.t 39)
    (.region [m 40 0,
 o 41 (.nilck (.t 40)),
 o 42 (.faddr 7 (.t 41)),
 o 43 (.load false 1 (.t 42)),
 o 44 (.faddr 2 (.t 4)),
 o 45 (.load false 1 (.t 44)),
 m 46 0,
 o 47 (.nilck (.t 46)),
 o 48 (.faddr 45 (.t 47)),
 o 49 (.load false 1 (.t 48)),
 o 50 (.faddr 1 (.t 4)),
 o 51 (.load false 1 (.t 50)),
 o 52 (.build [(.str []), (.int .i64 (.ofNat 0)), (.str []), (.int .i64 (.ofNat 0))] [(0, 1, (.t 43)), (1, 1, (.t 45)), (2, 1, (.t 49)), (3, 1, (.t 51))]),
 n 53 (.bslice 0 4 1 [(.str []), (.int .i64 (.ofNat 0)), (.str []), (.int .i64 (.ofNat 0))] [(0, 4, (.t 52))]),
 o 54 (.faddr 1 (.t 5)),
 x (.store 1 (.t 54) (.t 53))])
    .skip))
   (.seq (.region [m 55 0,
 o 56 (.load true 9 (.t 5)),
 e 57 (.call 198 [(.t 55), (.t 56)])])
   (.seq (.region [m 58 0,
 o 59 (.load true 14 (.t 3)),
 e 60 (.call 196 [(.t 58), (.t 59)])])
   .ret))))
   .skip))
  (.seq (.region [m 61 0,
 o 62 (.nilck (.t 61)),
 o 63 (.faddr 7 (.t 62)),
 o 64 (.load false 1 (.t 63)),
 o 65 (.faddr 2 (.t 4)),
 o 66 (.load false 1 (.t 65)),
 o 67 (.faddr 3 (.t 4)),
 o 68 (.load false 1 (.t 67)),
 m 69 0,
 o 70 (.nilck (.t 69)),
 o 71 (.faddr 45 (.t 70)),
 o 72 (.load false 1 (.t 71)),
 o 73 (.faddr 1 (.t 4)),
 o 74 (.load false 1 (.t 73)),
 o 75 (.build [(.str []), (.int .i64 (.ofNat 0)), (.int .i64 (.ofNat 0)), (.str []), (.int .i64 (.ofNat 0))] [(0, 1, (.t 64)), (1, 1, (.t 66)), (2, 1, (.t 68)), (3, 1, (.t 72)), (4, 1, (.t 74))]),
 n 6 (.new 0 [(.str []), (.int .i64 (.ofNat 0)), (.int .i64 (.ofNat 0)), (.str []), (.int .i64 (.ofNat 0))]),
 x (.store 5 (.t 6) (.t 75))])
  (.seq (.region [m 77 0,
 o 78 (.nilck (.t 77)),
 o 79 (.faddr 8 (.t 78)),
 o 80 (.load true 9 (.t 79)),
 o 81 (.load true 5 (.t 6)),
 m 82 0,
 o 83 (.nilck (.t 82)),
 o 84 (.faddr 43 (.t 83)),
 o 85 (.load false 1 (.t 84)),
 o 86 (.faddr 12 (.t 3)),
 o 87 (.load false 1 (.t 86)),
 m 88 0,
 o 89 (.nilck (.t 88)),
 o 90 (.faddr 18 (.t 89)),
 o 91 (.load false 1 (.t 90)),
 o 92 (.bad),
 m 76 92,
 o 93 (.ext 0 (.t 76)),
 o 94 (.ext 1 (.t 76)),
 o 95 (.ext 2 (.t 76)),
 o 96 (.ext 3 (.t 76)),
 n 7 (.new 0 [(.int .i64 (.ofNat 0)), .nils, (.bool false), (.int .u64 (.ofNat 0)), (.str []), (.int .i64 (.ofNat 0)), (.int .i64 (.ofNat 0)), (.int .i64 (.ofNat 0)), (.int .i64 (.ofNat 0))]),
 n 8 (.new 0 [(.str []), (.int .i64 (.ofNat 0)), (.int .i64 (.ofNat 0)), (.str []), (.int .i64 (.ofNat 0))]),
 x (.store 9 (.t 7) (.t 93)),
 x (.store 5 (.t 8) (.t 94)),
 m 9 95,
 m 10 96])
  (.seq (.region [m 97 0,
 o 98 (.load true 9 (.t 7)),
 o 99 (.nilck (.t 97)),
 o 100 (.faddr 52 (.t 99)),
 x (.store 9 (.t 100) (.t 98))])
  (.block 0 (.seq (.region [m 124 10,
 m 123 124])
   (.cond (.t 123)
    (.seq (.region [m 125 0,
 m 126 0,
 o 127 (.nilck (.t 126)),
 o 128 (.faddr 51 (.t 127)),
 o 129 (.load false 1 (.t 128)),
 o 130 (.faddr 0 (.t 4)),
 o 131 (.load false 1 (.t 130)),
 n 132 (.bslice 0 1 1 [(.int .i64 (.ofNat 0))] [(0, 1, (.t 131))]),
 e 133 (.app 0 1 8 (.t 129) (.t 132)),
 o 134 (.nilck (.t 125)),
 o 135 (.faddr 51 (.t 134)),
 x (.store 1 (.t 135) (.t 133))])
    (.seq (.region [m 136 0,
 e 137 (.call 212 [(.t 136), (ci 6)])])
    (.seq (.region [m 138 0,
 o 139 (.load true 14 (.t 3)),
 m 140 0,
 o 141 (.nilck (.t 140)),
 o 142 (.faddr 20 (.t 141)),
 o 143 (.load false 1 (.t 142)),
 m 144 0,
 o 145 (.nilck (.t 144)),
 o 146 (.faddr 18 (.t 145)),
 o 147 (.load false 1 (.t 146)),
 o 148 (.build [(.int .i64 (.ofNat 0)), (.int .i64 (.ofNat 0)), (.int .i64 (.ofNat 0)), (.int .i64 (.ofNat 0)), (.int .i64 (.ofNat 0)), (.int .i64 (.ofNat 0)), (.str []), (.int .i64 (.ofNat 0)), (.str [])] [(0, 1, (ci 3)), (5, 1, (ci 1)), (7, 1, (.t 147))]),
 o 149 (.bad)])
    (.region [m 150 0,
 o 151 (.load true 14 (.t 3)),
 e 152 (.call 146 [(.t 150), (.t 151)])]))))
    (.seq (.region [m 154 9,
 o 155 (.un .not (.t 154)),
 m 153 155])
    (.cond (.t 153)
     (.seq (.region [m 156 0,
 o 157 (.load true 9 (.t 7)),
 e 158 (.call 198 [(.t 156), (.t 157)])])
     (.region [m 159 0,
 o 160 (.load true 14 (.t 3)),
 e 161 (.call 196 [(.t 159), (.t 160)])]))
     (.seq (.region [m 163 0,
 o 164 (.nilck (.t 163)),
 o 165 (.faddr 8 (.t 164)),
 o 166 (.faddr 0 (.t 165)),
 o 167 (.load false 1 (.t 166)),
 o 168 (.bin .eql (.t 167) (ci 12)),
 m 162 168])
     (.cond (.t 162)
      (.seq (.region [m 169 0,
 o 170 (.load true 5 (.t 4)),
 o 171 (.nilck (.t 169)),
 o 172 (.faddr 46 (.t 171)),
 x (.store 5 (.t 172) (.t 170))])
      (.seq (.region [m 173 0,
 o 174 (.faddr 2 (.t 8)),
 o 175 (.load false 1 (.t 174)),
 o 176 (.nilck (.t 173)),
 o 177 (.faddr 46 (.t 176)),
 o 178 (.faddr 3 (.t 177)),
 x (.store 1 (.t 178) (.t 175))])
      (.region [m 179 0,
 o 180 (.load true 14 (.t 3)),
 o 181 (.bad)])))
      (.seq (.region [m 101 0,
 m 102 0,
 o 103 (.nilck (.t 102)),
 o 104 (.faddr 18 (.t 103)),
 o 105 (.load false 1 (.t 104)),
 o 106 (.faddr 4 (.t 8)),
 o 107 (.load false 1 (.t 106)),
 o 108 (.faddr 1 (.t 8)),
 o 109 (.load false 1 (.t 108)),
 o 110 (.faddr 2 (.t 8)),
 o 111 (.load false 1 (.t 110)),
 o 112 (.faddr 3 (.t 8)),
 o 113 (.load false 1 (.t 112)),
 o 114 (.lens (.t 113)),
 o 115 (.build [(.int .i64 (.ofNat 0)), (.int .i64 (.ofNat 0)), (.int .i64 (.ofNat 0)), (.int .i64 (.ofNat 0)), (.int .i64 (.ofNat 0))] [(0, 1, (.t 105)), (1, 1, (.t 107)), (2, 1, (.t 109)), (3, 1, (.t 111)), (4, 1, (.t 114))]),
 o 116 (.nilck (.t 101)),
 o 117 (.faddr 46 (.t 116)),
 x (.store 5 (.t 117) (.t 115))])
      (.region [m 118 0,
 o 119 (.load true 14 (.t 3)),
 o 120 (.faddr 3 (.t 8)),
 o 121 (.load false 1 (.t 120)),
 o 122 (.bad)]))))))))))))))) }
theorem tr197 : trF cx Tryz.f197 = pf197 := by kernel_rfl
/-- (*depot/task.Task).tell -/
def pf198 : PF := { ntmps := 11, results := [], body :=
  (.seq (.region [n 3 (.box (.t 1))])
  (.region [m 4 0,
 m 5 0,
 o 6 (.load true 9 (.t 3)),
 o 7 (.nilck (.t 4)),
 o 8 (.faddr 61 (.t 7)),
 x (.store 9 (.t 8) (.t 6)),
 o 9 (.nilck (.t 5)),
 o 10 (.faddr 70 (.t 9)),
 x (.store 1 (.t 10) (.c (.bool true)))])) }
theorem tr198 : trF cx Tryz.f198 = pf198 := by kernel_rfl
/-- slices.IndexFunc[[]*depot/router.ticket,*depot/router.ticket] -/
def pf199 : PF := { ntmps := 19, results := [.tmp 4], body :=
  (.seq (.region [o 4 (.mv (ci 0))])
  (.seq (.seq (.region [m 6 0,
 o 7 (.lensl (.t 6)),
 o 8 (.mv (ci 0))])
  (.block 0 (.loop (.seq (.region [o 9 (.bin .lss (.t 8) (.t 7))])
    (.seq (.cond (.t 9)
     .skip
     (.exit 0))
    (.seq (.block 1 (.seq (.region [m 10 8,
 m 5 10])
     (.seq (.region [m 11 1,
 m 12 0,
 m 13 5,
 o 14 (.iasl 1 (.t 12) (.t 13)),
 o 15 (.load false 1 (.t 14)),
 e 16 (.callv (.t 11) [(.t 15)])])
     (.cond (.t 16)
      (.seq (.region [m 17 5,
 m 4 17])
      .ret)
      .skip))))
    (.region [o 18 (.bin .add (.t 8) (ci 1)),
 m 8 18])))))))
  (.seq (.region [o 4 (.mv (.c (.int .i64 (.negSucc 0))))])
  .ret))) }
theorem tr199 : trF cx Tryz.f199 = pf199 := by kernel_rfl
/-- (*depot/router.Router).tell$1 -/
def pf200 : PF := { ntmps := 11, results := [.tmp 3], body :=
  (.seq (.region [o 3 (.mv (.c (.bool false)))])
  (.seq (.region [m 4 0,
 o 5 (.nilck (.t 4)),
 o 6 (.faddr 0 (.t 5)),
 o 7 (.load false 1 (.t 6)),
 o 8 (.faddr 10 (.t 1)),
 o 9 (.load false 1 (.t 8)),
 o 10 (.bin .eql (.t 7) (.t 9)),
 m 3 10])
  .ret)) }
theorem tr200 : trF cx Tryz.f200 = pf200 := by kernel_rfl
/-- slices.Delete[[]*depot/router.ticket,*depot/router.ticket] -/
def pf201 : PF := { ntmps := 33, results := [.tmp 6], body :=
  (.seq (.region [o 6 (.mv (.c .nils))])
  (.seq (.region [m 8 0,
 m 9 1,
 m 10 2,
 m 11 0,
 o 12 (.lensl (.t 11)),
 o 13 (.slsl 1 (.t 8) (some (.t 9)) (some (.t 10)) (some (.t 12)))])
  (.seq (.seq (.region [m 14 1,
 m 15 2,
 o 16 (.bin .eql (.t 14) (.t 15))])
  (.cond (.t 16)
   (.seq (.region [m 17 0,
 m 6 17])
   .ret)
   .skip))
  (.seq (.region [m 18 0,
 o 19 (.lensl (.t 18)),
 m 7 19])
  (.seq (.region [m 20 0,
 m 21 1,
 o 22 (.slsl 1 (.t 20) none (some (.t 21)) none),
 m 23 0,
 m 24 2,
 o 25 (.slsl 1 (.t 23) (some (.t 24)) none none),
 e 26 (.app 0 1 8 (.t 22) (.t 25)),
 m 0 26])
  (.seq (.region [m 27 0,
 m 28 0,
 o 29 (.lensl (.t 28)),
 m 30 7,
 o 31 (.slsl 1 (.t 27) (some (.t 29)) (some (.t 30)) none),
 x (.clear [.nilp] (.t 31))])
  (.seq (.region [m 32 0,
 m 6 32])
  .ret))))))) }
theorem tr201 : trF cx Tryz.f201 = pf201 := by kernel_rfl
/-- slices.DeleteFunc[[]*depot/router.job,*depot/router.job] -/
def pf202 : PF := { ntmps := 42, results := [.tmp 4], body :=
  (.seq (.region [o 4 (.mv (.c .nils))])
  (.seq (.region [m 8 0,
 m 9 1,
 e 10 (.call 264 [(.t 8), (.t 9)]),
 m 5 10])
  (.seq (.seq (.region [m 11 5,
 o 12 (.bin .eql (.t 11) (.c (.int .i64 (.negSucc 0))))])
  (.cond (.t 12)
   (.seq (.region [m 13 0,
 m 4 13])
   .ret)
   .skip))
  (.seq (.seq (.region [m 14 5,
 o 15 (.bin .add (.t 14) (ci 1)),
 m 6 15])
  (.block 0 (.loop (.seq (.seq (.region [m 16 6,
 m 17 0,
 o 18 (.lensl (.t 17)),
 o 19 (.bin .lss (.t 16) (.t 18))])
    (.cond (.t 19)
     .skip
     (.exit 0)))
    (.seq (.block 1 (.seq (.region [m 22 0,
 m 23 6,
 o 24 (.iasl 1 (.t 22) (.t 23)),
 o 25 (.load false 1 (.t 24)),
 m 7 25])
     (.seq (.region [m 26 1,
 m 27 7,
 e 28 (.callv (.t 26) [(.t 27)]),
 o 29 (.un .not (.t 28))])
     (.cond (.t 29)
      (.seq (.region [m 30 0,
 m 31 5,
 m 32 7,
 o 33 (.iasl 1 (.t 30) (.t 31)),
 x (.store 1 (.t 33) (.t 32))])
      (.region [m 34 5,
 o 35 (.bin .add (.t 34) (ci 1)),
 m 5 35]))
      .skip))))
    (.region [m 20 6,
 o 21 (.bin .add (.t 20) (ci 1)),
 m 6 21]))))))
  (.seq (.region [m 36 0,
 m 37 5,
 o 38 (.slsl 1 (.t 36) (some (.t 37)) none none),
 x (.clear [.nilp] (.t 38))])
  (.seq (.region [m 39 0,
 m 40 5,
 o 41 (.slsl 1 (.t 39) none (some (.t 40)) none),
 m 4 41])
  .ret)))))) }
theorem tr202 : trF cx Tryz.f202 = pf202 := by kernel_rfl
/-- (*depot/router.Router).over$1 -/
def pf203 : PF := { ntmps := 7, results := [.tmp 3], body :=
  (.seq (.region [o 3 (.mv (.c (.bool false)))])
  (.seq (.region [m 4 0,
 o 5 (.load false 1 (.t 1)),
 o 6 (.eqc false (.t 4) (.t 5)),
 m 3 6])
  .ret)) }
theorem tr203 : trF cx Tryz.f203 = pf203 := by kernel_rfl
/-- slices.IndexFunc[[]depot/router.want,depot/router.want] -/
def pf206 : PF := { ntmps := 19, results := [.tmp 4], body :=
  (.seq (.region [o 4 (.mv (ci 0))])
  (.seq (.seq (.region [m 6 0,
 o 7 (.lensl (.t 6)),
 o 8 (.mv (ci 0))])
  (.block 0 (.loop (.seq (.region [o 9 (.bin .lss (.t 8) (.t 7))])
    (.seq (.cond (.t 9)
     .skip
     (.exit 0))
    (.seq (.block 1 (.seq (.region [m 10 8,
 m 5 10])
     (.seq (.region [m 11 1,
 m 12 0,
 m 13 5,
 o 14 (.iasl 14 (.t 12) (.t 13)),
 o 15 (.load true 14 (.t 14)),
 e 16 (.callv (.t 11) [(.t 15)])])
     (.cond (.t 16)
      (.seq (.region [m 17 5,
 m 4 17])
      .ret)
      .skip))))
    (.region [o 18 (.bin .add (.t 8) (ci 1)),
 m 8 18])))))))
  (.seq (.region [o 4 (.mv (.c (.int .i64 (.negSucc 0))))])
  .ret))) }
theorem tr206 : trF cx Tryz.f206 = pf206 := by kernel_rfl
/-- (*depot/router.Router).over$2 -/
def pf207 : PF := { ntmps := 12, results := [.tmp 3], body :=
  (.seq (.region [n 2 (.box (.t 0)),
 o 3 (.mv (.c (.bool false)))])
  (.seq (.region [o 4 (.faddr 0 (.t 2)),
 o 5 (.load false 1 (.t 4)),
 o 6 (.load false 1 (.t 1)),
 o 7 (.nilck (.t 6)),
 o 8 (.faddr 1 (.t 7)),
 o 9 (.faddr 0 (.t 8)),
 o 10 (.load false 1 (.t 9)),
 o 11 (.bin .eql (.t 5) (.t 10)),
 m 3 11])
  .ret)) }
theorem tr207 : trF cx Tryz.f207 = pf207 := by kernel_rfl
/-- depot/place.Metas -/
def pf211 : PF := { ntmps := 19, results := [.tmp 6], body :=
  (.seq (.region [o 6 (.mv (.c .nils))])
  (.seq (.seq (.region [m 7 1,
 o 8 (.bin .lss (.t 7) (ci 0)),
 m 9 8,
 gm 10 9 false 1,
 gm 11 9 false 2,
 go 12 9 false (.bin .geq (.t 10) (.t 11)),
 o 13 (.pick (.t 9) (.c (.bool true)) (.t 12))])
  (.cond (.t 13)
   (.seq (.region [o 6 (.mv (.c .nils))])
   .ret)
   .skip))
  (.seq (.region [m 14 0,
 m 15 1,
 o 16 (.bin .add (.t 15) (ci 1)),
 m 17 2,
 e 18 (.call 189 [(.t 14), (.t 16), (.t 17)]),
 m 6 18])
  .ret))) }
theorem tr211 : trF cx Tryz.f211 = pf211 := by kernel_rfl
/-- (*depot/task.Task).enter -/
def pf212 : PF := { ntmps := 14, results := [], body :=
  (.region [m 4 0,
 m 5 0,
 m 6 0,
 m 7 1,
 o 8 (.nilck (.t 4)),
 o 9 (.faddr 21 (.t 8)),
 x (.store 1 (.t 9) (.t 7)),
 o 10 (.nilck (.t 5)),
 o 11 (.faddr 22 (.t 10)),
 x (.store 1 (.t 11) (ci 0)),
 o 12 (.nilck (.t 6)),
 o 13 (.faddr 23 (.t 12)),
 x (.store 1 (.t 13) (ci 0))]) }
theorem tr212 : trF cx Tryz.f212 = pf212 := by kernel_rfl
/-- depot/answer.values -/
def pf213 : PF := { ntmps := 44, results := [.tmp 4], body :=
  (.seq (.region [o 4 (.mv (.c (.str [])))])
  (.seq (.region [n 5 (.new 1 [.nilp, .nils])])
  (.seq (.seq (.region [m 9 0,
 o 10 (.lensl (.t 9)),
 o 11 (.mv (ci 0))])
  (.block 0 (.loop (.seq (.region [o 12 (.bin .lss (.t 11) (.t 10))])
    (.seq (.cond (.t 12)
     .skip
     (.exit 0))
    (.seq (.block 1 (.seq (.region [o 13 (.iasl 4 (.t 9) (.t 11)),
 o 14 (.load true 4 (.t 13)),
 n 7 (.new 0 [(.str []), (.int .i64 (.ofNat 0)), (.str []), (.int .i64 (.ofNat 0))]),
 x (.store 4 (.t 7) (.t 14))])
     (.seq (.region [o 15 (.faddr 0 (.t 7)),
 o 16 (.load false 1 (.t 15)),
 o 17 (.faddr 1 (.t 7)),
 o 18 (.load false 1 (.t 17)),
 o 19 (.bad),
 o 20 (.faddr 2 (.t 7)),
 o 21 (.load false 1 (.t 20)),
 o 22 (.lens (.t 21)),
 o 23 (.bad),
 n 24 (.bslice 0 1 4 [(.str []), (.str []), (.str []), (.str [])] [(0, 1, (.c (.str [86, 65, 76, 85, 69]))), (1, 1, (.t 16)), (2, 1, (.t 19)), (3, 1, (.t 23))]),
 m 8 24])
     (.seq (.seq (.region [m 25 1])
     (.cond (.t 25)
      (.region [m 26 8,
 o 27 (.faddr 3 (.t 7)),
 o 28 (.load false 1 (.t 27)),
 o 29 (.bad),
 n 30 (.bslice 0 1 1 [(.str [])] [(0, 1, (.t 29))]),
 e 31 (.app 0 1 16 (.t 26) (.t 30)),
 m 8 31])
      .skip))
     (.region [m 32 8,
 o 33 (.bad),
 o 34 (.bin .add (.t 33) (.c (.str [13, 10]))),
 o 35 (.faddr 2 (.t 7)),
 o 36 (.load false 1 (.t 35)),
 o 37 (.bin .add (.t 34) (.t 36)),
 o 38 (.bin .add (.t 37) (.c (.str [13, 10]))),
 o 39 (.bad)])))))
    (.region [o 40 (.bin .add (.t 11) (ci 1)),
 m 11 40])))))))
  (.seq (.region [e 41 (.call 68 [(.t 5)]),
 o 42 (.bin .add (.t 41) (.c (.str [69, 78, 68]))),
 o 43 (.bin .add (.t 42) (.c (.str [13, 10]))),
 m 4 43])
  .ret)))) }
theorem tr213 : trF cx Tryz.f213 = pf213 := by kernel_rfl
/-- strings.TrimSuffix -/
def pf218 : PF := { ntmps := 8, results := [.tmp 4], body :=
  (.seq (.region [o 4 (.mv (.c (.str [])))])
  (.seq (.region [m 5 0,
 m 6 1,
 e 7 (.call 270 [(.t 5), (.t 6)]),
 m 4 7])
  .ret)) }
theorem tr218 : trF cx Tryz.f218 = pf218 := by kernel_rfl
/-- depot/words.Line -/
def pf219 : PF := { ntmps := 72, results := [.cell 2 true 9, .tmp 3], body :=
  (.seq (.region [n 2 (.new 0 [(.int .i64 (.ofNat 0)), .nils, (.int .i64 (.ofNat 0)), (.int .i64 (.ofNat 0)), (.int .i64 (.ofNat 0)), (.int .i64 (.ofNat 0)), (.int .u64 (.ofNat 0)), (.bool false), (.str [])]),
 o 3 (.mv (ci 0))])
  (.seq (.region [m 9 0,
 e 10 (.call 271 [(.t 9)]),
 m 4 10])
  (.seq (.seq (.region [m 11 4,
 o 12 (.lensl (.t 11)),
 o 13 (.bin .eql (.t 12) (ci 0))])
  (.cond (.t 13)
   (.seq (.region [o 14 (.build [(.int .i64 (.ofNat 0)), .nils, (.int .i64 (.ofNat 0)), (.int .i64 (.ofNat 0)), (.int .i64 (.ofNat 0)), (.int .i64 (.ofNat 0)), (.int .u64 (.ofNat 0)), (.bool false), (.str [])] []),
 x (.store 9 (.t 2) (.t 14)),
 o 3 (.mv (ci 4))])
   .ret)
   .skip))
  (.seq (.region [m 16 4,
 o 17 (.iasl 1 (.t 16) (ci 0)),
 o 18 (.load false 1 (.t 17)),
 e 19 (.call 272 [(.t 18)]),
 m 15 19,
 o 20 (.ext 0 (.t 15)),
 o 21 (.ext 1 (.t 15)),
 n 5 (.new 0 [(.int .i64 (.ofNat 0)), (.int .i64 (.ofNat 0)), (.int .i64 (.ofNat 0)), (.bool false)]),
 x (.store 4 (.t 5) (.t 20)),
 m 6 21])
  (.seq (.region [m 22 4,
 o 23 (.slsl 1 (.t 22) (some (ci 1)) none none),
 m 4 23])
  (.seq (.region [o 24 (.faddr 0 (.t 5)),
 o 25 (.load false 1 (.t 24)),
 o 26 (.build [(.int .i64 (.ofNat 0)), .nils, (.int .i64 (.ofNat 0)), (.int .i64 (.ofNat 0)), (.int .i64 (.ofNat 0)), (.int .i64 (.ofNat 0)), (.int .u64 (.ofNat 0)), (.bool false), (.str [])] [(0, 1, (.t 25))]),
 n 7 (.new 0 [(.int .i64 (.ofNat 0)), .nils, (.int .i64 (.ofNat 0)), (.int .i64 (.ofNat 0)), (.int .i64 (.ofNat 0)), (.int .i64 (.ofNat 0)), (.int .u64 (.ofNat 0)), (.bool false), (.str [])]),
 x (.store 9 (.t 7) (.t 26))])
  (.seq (.seq (.region [m 27 4,
 o 28 (.lensl (.t 27)),
 m 8 28])
  (.seq (.region [o 29 (.faddr 3 (.t 5)),
 o 30 (.load false 1 (.t 29)),
 m 31 30,
 gm 32 31 true 8,
 go 33 31 true (.faddr 1 (.t 5)),
 go 34 31 true (.load false 1 (.t 33)),
 go 35 31 true (.bin .gtr (.t 32) (.t 34)),
 o 36 (.pick (.t 31) (.t 35) (.c (.bool false))),
 m 37 36,
 gm 38 37 true 4,
 gm 39 37 true 8,
 go 40 37 true (.bin .sub (.t 39) (ci 1)),
 go 41 37 true (.iasl 1 (.t 38) (.t 40)),
 go 42 37 true (.load false 1 (.t 41)),
 go 43 37 true (.bin .eql (.t 42) (.c (.str [110, 111, 114, 101, 112, 108, 121]))),
 o 44 (.pick (.t 37) (.t 43) (.c (.bool false)))])
  (.cond (.t 44)
   (.region [m 45 4,
 m 46 8,
 o 47 (.bin .sub (.t 46) (ci 1)),
 o 48 (.slsl 1 (.t 45) none (some (.t 47)) none),
 o 49 (.faddr 7 (.t 7)),
 x (.store 1 (.t 49) (.c (.bool true))),
 .again ⟨(some 48), none, (.r (.slsl 1 (.t 45) none (some (.t 47)) none))⟩,
 m 4 48])
   .skip)))
  (.seq (.seq (.region [m 50 6,
 o 51 (.un .not (.t 50)),
 m 52 51,
 gm 53 52 false 4,
 go 54 52 false (.lensl (.t 53)),
 go 55 52 false (.faddr 1 (.t 5)),
 go 56 52 false (.load false 1 (.t 55)),
 go 57 52 false (.bin .lss (.t 54) (.t 56)),
 o 58 (.pick (.t 52) (.c (.bool true)) (.t 57)),
 m 59 58,
 gm 60 59 false 4,
 go 61 59 false (.lensl (.t 60)),
 go 62 59 false (.faddr 2 (.t 5)),
 go 63 59 false (.load false 1 (.t 62)),
 go 64 59 false (.bin .gtr (.t 61) (.t 63)),
 o 65 (.pick (.t 59) (.c (.bool true)) (.t 64))])
  (.cond (.t 65)
   (.seq (.region [o 66 (.build [(.int .i64 (.ofNat 0)), .nils, (.int .i64 (.ofNat 0)), (.int .i64 (.ofNat 0)), (.int .i64 (.ofNat 0)), (.int .i64 (.ofNat 0)), (.int .u64 (.ofNat 0)), (.bool false), (.str [])] []),
 x (.store 9 (.t 2) (.t 66)),
 o 3 (.mv (ci 4))])
   .ret)
   .skip))
  (.seq (.seq (.region [m 67 4,
 e 68 (.call 273 [(.t 7), (.t 67)]),
 o 69 (.un .not (.t 68))])
  (.cond (.t 69)
   (.seq (.region [o 70 (.build [(.int .i64 (.ofNat 0)), .nils, (.int .i64 (.ofNat 0)), (.int .i64 (.ofNat 0)), (.int .i64 (.ofNat 0)), (.int .i64 (.ofNat 0)), (.int .u64 (.ofNat 0)), (.bool false), (.str [])] []),
 x (.store 9 (.t 2) (.t 70)),
 o 3 (.mv (ci 1))])
   .ret)
   .skip))
  (.seq (.region [o 71 (.load true 9 (.t 7)),
 x (.store 9 (.t 2) (.t 71)),
 o 3 (.mv (ci 0))])
  .ret)))))))))) }
theorem tr219 : trF cx Tryz.f219 = pf219 := by kernel_rfl
/-- slices.pdqsortOrdered[int] -/
def pf222 : PF := { ntmps := 134, results := [], body :=
  (.seq (.region [o 8 (.mv (.c (.bool true)))])
  (.seq (.region [o 9 (.mv (.c (.bool true)))])
  (.block 0 (.loop (.block 1 (.seq (.region [m 19 2,
 m 20 1,
 o 21 (.bin .sub (.t 19) (.t 20)),
 m 10 21])
     (.seq (.seq (.region [m 22 10,
 o 23 (.bin .leq (.t 22) (ci 12))])
     (.cond (.t 23)
      (.seq (.region [m 24 0,
 m 25 1,
 m 26 2,
 e 27 (.call 275 [(.t 24), (.t 25), (.t 26)])])
      .ret)
      .skip))
     (.seq (.seq (.region [m 28 3,
 o 29 (.bin .eql (.t 28) (ci 0))])
     (.cond (.t 29)
      (.seq (.region [m 30 0,
 m 31 1,
 m 32 2,
 o 33 (.bad)])
      .ret)
      .skip))
     (.seq (.seq (.region [m 34 8,
 o 35 (.un .not (.t 34))])
     (.cond (.t 35)
      (.seq (.region [m 36 0,
 m 37 1,
 m 38 2,
 o 39 (.bad)])
      (.region [m 40 3,
 o 41 (.bin .sub (.t 40) (ci 1)),
 m 3 41]))
      .skip))
     (.seq (.region [m 43 0,
 m 44 1,
 m 45 2,
 o 46 (.bad),
 m 42 46,
 o 47 (.ext 0 (.t 42)),
 o 48 (.ext 1 (.t 42)),
 m 11 47,
 m 12 48])
     (.seq (.seq (.region [m 49 12,
 o 50 (.bin .eql (.t 49) (ci 2))])
     (.cond (.t 50)
      (.seq (.region [m 51 0,
 m 52 1,
 m 53 2,
 o 54 (.bad)])
      (.seq (.region [m 55 2,
 o 56 (.bin .sub (.t 55) (ci 1)),
 m 57 11,
 m 58 1,
 o 59 (.bin .sub (.t 57) (.t 58)),
 o 60 (.bin .sub (.t 56) (.t 59)),
 m 11 60])
      (.region [o 12 (.mv (ci 1))])))
      .skip))
     (.seq (.seq (.region [m 61 8,
 m 62 61,
 gm 63 62 true 9,
 o 64 (.pick (.t 62) (.t 63) (.c (.bool false))),
 m 65 64,
 gm 66 65 true 12,
 go 67 65 true (.bin .eql (.t 66) (ci 1)),
 o 68 (.pick (.t 65) (.t 67) (.c (.bool false)))])
     (.cond (.t 68)
      (.seq (.region [m 69 0,
 m 70 1,
 m 71 2,
 o 72 (.bad)])
      (.cond (.t 72)
       .ret
       .skip))
      .skip))
     (.seq (.seq (.region [m 73 1,
 o 74 (.bin .gtr (.t 73) (ci 0)),
 m 75 74,
 gm 76 75 true 0,
 gm 77 75 true 1,
 go 78 75 true (.bin .sub (.t 77) (ci 1)),
 go 79 75 true (.iasl 1 (.t 76) (.t 78)),
 go 80 75 true (.load false 1 (.t 79)),
 gm 81 75 true 0,
 gm 82 75 true 11,
 go 83 75 true (.iasl 1 (.t 81) (.t 82)),
 go 84 75 true (.load false 1 (.t 83)),
 .op ⟨(some 85), (some (75, true)), (.e (.call 281 [(.t 80), (.t 84)]))⟩,
 go 86 75 true (.un .not (.t 85)),
 o 87 (.pick (.t 75) (.t 86) (.c (.bool false)))])
     (.cond (.t 87)
      (.seq (.region [m 88 0,
 m 89 1,
 m 90 2,
 m 91 11,
 o 92 (.bad),
 m 13 92])
      (.seq (.region [m 93 13,
 m 1 93])
      (.exit 1)))
      .skip))
     (.seq (.region [m 95 0,
 m 96 1,
 m 97 2,
 m 98 11,
 o 99 (.bad),
 m 94 99,
 o 100 (.ext 0 (.t 94)),
 o 101 (.ext 1 (.t 94)),
 m 14 100,
 m 15 101])
     (.seq (.region [m 102 15,
 m 9 102])
     (.seq (.region [m 103 14,
 m 104 1,
 o 105 (.bin .sub (.t 103) (.t 104)),
 m 106 2,
 m 107 14,
 o 108 (.bin .sub (.t 106) (.t 107)),
 m 16 105,
 m 17 108])
     (.seq (.region [m 109 10,
 o 110 (.bin .quo (.t 109) (ci 8)),
 m 18 110])
     (.seq (.region [m 111 16,
 m 112 17,
 o 113 (.bin .lss (.t 111) (.t 112))])
     (.cond (.t 113)
      (.seq (.region [m 114 16,
 m 115 18,
 o 116 (.bin .geq (.t 114) (.t 115)),
 m 8 116])
      (.seq (.region [m 117 0,
 m 118 1,
 m 119 14,
 m 120 3,
 e 121 (.call 222 [(.t 117), (.t 118), (.t 119), (.t 120)])])
      (.region [m 122 14,
 o 123 (.bin .add (.t 122) (ci 1)),
 m 1 123])))
      (.seq (.region [m 124 17,
 m 125 18,
 o 126 (.bin .geq (.t 124) (.t 125)),
 m 8 126])
      (.seq (.region [m 127 0,
 m 128 14,
 o 129 (.bin .add (.t 128) (ci 1)),
 m 130 2,
 m 131 3,
 e 132 (.call 222 [(.t 127), (.t 129), (.t 130), (.t 131)])])
      (.region [m 133 14,
 m 2 133])))))))))))))))))))))) }
theorem tr222 : trF cx Tryz.f222 = pf222 := by kernel_rfl
/-- internal/stringslite.IndexByte -/
def pf232 : PF := { ntmps := 8, results := [.tmp 4], body :=
  (.seq (.region [o 4 (.mv (ci 0))])
  (.seq (.region [m 5 0,
 m 6 1,
 o 7 (.index (.t 5) (.t 6)),
 m 4 7])
  .ret)) }
theorem tr232 : trF cx Tryz.f232 = pf232 := by kernel_rfl
/-- slices.insertionSortOrdered[string] -/
def pf237 : PF := { ntmps := 49, results := [], body :=
  (.seq (.region [m 8 1,
 o 9 (.bin .add (.t 8) (ci 1)),
 m 6 9])
  (.block 0 (.loop (.seq (.seq (.region [m 10 6,
 m 11 2,
 o 12 (.bin .lss (.t 10) (.t 11))])
    (.cond (.t 12)
     .skip
     (.exit 0)))
    (.seq (.block 1 (.seq (.region [m 15 6,
 m 7 15])
     (.block 2 (.loop (.seq (.seq (.region [m 16 7,
 m 17 1,
 o 18 (.bin .gtr (.t 16) (.t 17)),
 m 19 18,
 gm 20 19 true 0,
 gm 21 19 true 7,
 go 22 19 true (.iasl 1 (.t 20) (.t 21)),
 go 23 19 true (.load false 1 (.t 22)),
 gm 24 19 true 0,
 gm 25 19 true 7,
 go 26 19 true (.bin .sub (.t 25) (ci 1)),
 go 27 19 true (.iasl 1 (.t 24) (.t 26)),
 go 28 19 true (.load false 1 (.t 27)),
 .op ⟨(some 29), (some (19, true)), (.e (.call 243 [(.t 23), (.t 28)]))⟩,
 o 30 (.pick (.t 19) (.t 29) (.c (.bool false)))])
       (.cond (.t 30)
        .skip
        (.exit 2)))
       (.seq (.block 3 (.region [m 33 0,
 m 34 7,
 m 35 0,
 m 36 7,
 o 37 (.bin .sub (.t 36) (ci 1)),
 m 38 0,
 m 39 7,
 o 40 (.bin .sub (.t 39) (ci 1)),
 o 41 (.iasl 1 (.t 38) (.t 40)),
 o 42 (.load false 1 (.t 41)),
 m 43 0,
 m 44 7,
 o 45 (.iasl 1 (.t 43) (.t 44)),
 o 46 (.load false 1 (.t 45)),
 o 47 (.iasl 1 (.t 33) (.t 34)),
 x (.store 1 (.t 47) (.t 42)),
 o 48 (.iasl 1 (.t 35) (.t 37)),
 x (.store 1 (.t 48) (.t 46))]))
       (.region [m 31 7,
 o 32 (.bin .sub (.t 31) (ci 1)),
 m 7 32])))))))
    (.region [m 13 6,
 o 14 (.bin .add (.t 13) (ci 1)),
 m 6 14])))))) }
theorem tr237 : trF cx Tryz.f237 = pf237 := by kernel_rfl
/-- cmp.Less[string] -/
def pf243 : PF := { ntmps := 17, results := [.tmp 4], body :=
  (.seq (.region [o 4 (.mv (.c (.bool false)))])
  (.seq (.region [m 5 0,
 o 6 (.bad),
 m 7 6,
 gm 8 7 true 1,
 o 9 (.bad),
 go 10 7 true (.un .not (.t 9)),
 o 11 (.pick (.t 7) (.t 10) (.c (.bool false))),
 m 12 11,
 gm 13 12 false 0,
 gm 14 12 false 1,
 go 15 12 false (.bin .lss (.t 13) (.t 14)),
 o 16 (.pick (.t 12) (.c (.bool true)) (.t 15)),
 m 4 16])
  .ret)) }
theorem tr243 : trF cx Tryz.f243 = pf243 := by kernel_rfl
/-- math/bits.Len64 -/
def pf247 : PF := { ntmps := 25, results := [.tmp 2], body :=
  (.seq (.region [o 2 (.mv (ci 0))])
  (.seq (.seq (.region [m 3 0,
 o 4 (.bin .geq (.t 3) (.c (.int .u64 (.ofNat 4294967296))))])
  (.cond (.t 4)
   (.seq (.region [m 5 0,
 o 6 (.bin .shr (.t 5) (.c (.int .u64 (.ofNat 32)))),
 m 0 6])
   (.region [o 2 (.mv (ci 32))]))
   .skip))
  (.seq (.seq (.region [m 7 0,
 o 8 (.bin .geq (.t 7) (.c (.int .u64 (.ofNat 65536))))])
  (.cond (.t 8)
   (.seq (.region [m 9 0,
 o 10 (.bin .shr (.t 9) (.c (.int .u64 (.ofNat 16)))),
 m 0 10])
   (.region [m 11 2,
 o 12 (.bin .add (.t 11) (ci 16)),
 m 2 12]))
   .skip))
  (.seq (.seq (.region [m 13 0,
 o 14 (.bin .geq (.t 13) (.c (.int .u64 (.ofNat 256))))])
  (.cond (.t 14)
   (.seq (.region [m 15 0,
 o 16 (.bin .shr (.t 15) (.c (.int .u64 (.ofNat 8)))),
 m 0 16])
   (.region [m 17 2,
 o 18 (.bin .add (.t 17) (ci 8)),
 m 2 18]))
   .skip))
  (.seq (.region [m 19 2,
 m 20 0,
 o 21 (.cint .u8 (.t 20)),
 o 22 (.ixstr (.c (.str [0, 1, 2, 2, 3, 3, 3, 3, 4, 4, 4, 4, 4, 4, 4, 4, 5, 5, 5, 5, 5, 5, 5, 5, 5, 5, 5, 5, 5, 5, 5, 5, 6, 6, 6, 6, 6, 6, 6, 6, 6, 6, 6, 6, 6, 6, 6, 6, 6, 6, 6, 6, 6, 6, 6, 6, 6, 6, 6, 6, 6, 6, 6, 6, 7, 7, 7, 7, 7, 7, 7, 7, 7, 7, 7, 7, 7, 7, 7, 7, 7, 7, 7, 7, 7, 7, 7, 7, 7, 7, 7, 7, 7, 7, 7, 7, 7, 7, 7, 7, 7, 7, 7, 7, 7, 7, 7, 7, 7, 7, 7, 7, 7, 7, 7, 7, 7, 7, 7, 7, 7, 7, 7, 7, 7, 7, 7, 7, 8, 8, 8, 8, 8, 8, 8, 8, 8, 8, 8, 8, 8, 8, 8, 8, 8, 8, 8, 8, 8, 8, 8, 8, 8, 8, 8, 8, 8, 8, 8, 8, 8, 8, 8, 8, 8, 8, 8, 8, 8, 8, 8, 8, 8, 8, 8, 8, 8, 8, 8, 8, 8, 8, 8, 8, 8, 8, 8, 8, 8, 8, 8, 8, 8, 8, 8, 8, 8, 8, 8, 8, 8, 8, 8, 8, 8, 8, 8, 8, 8, 8, 8, 8, 8, 8, 8, 8, 8, 8, 8, 8, 8, 8, 8, 8, 8, 8, 8, 8, 8, 8, 8, 8, 8, 8, 8, 8, 8, 8, 8, 8, 8, 8, 8, 8, 8, 8, 8, 8, 8, 8, 8, 8, 8, 8, 8, 8])) (.t 21)),
 o 23 (.cint .i64 (.t 22)),
 o 24 (.bin .add (.t 19) (.t 23)),
 m 2 24])
  .ret))))) }
theorem tr247 : trF cx Tryz.f247 = pf247 := by kernel_rfl
/-- depot/chain.Hash -/
def pf249 : PF := { ntmps := 20, results := [.tmp 2], body :=
  (.seq (.region [o 2 (.mv (.c (.int .u32 (.ofNat 0))))])
  (.seq (.region [o 3 (.mv (.c (.int .u32 (.ofNat 2166136261))))])
  (.seq (.seq (.region [m 5 0,
 o 6 (.lens (.t 5)),
 o 7 (.mv (ci 0))])
  (.block 0 (.loop (.seq (.region [o 8 (.bin .lss (.t 7) (.t 6))])
    (.seq (.cond (.t 8)
     .skip
     (.exit 0))
    (.seq (.block 1 (.seq (.region [m 9 7,
 m 4 9])
     (.seq (.region [m 10 3,
 m 11 0,
 m 12 4,
 o 13 (.ixstr (.t 11) (.t 12)),
 o 14 (.cint .u32 (.t 13)),
 o 15 (.bin .xor (.t 10) (.t 14)),
 m 3 15])
     (.region [m 16 3,
 o 17 (.bin .mul (.t 16) (.c (.int .u32 (.ofNat 16777619)))),
 m 3 17]))))
    (.region [o 18 (.bin .add (.t 7) (ci 1)),
 m 7 18])))))))
  (.seq (.region [m 19 3,
 m 2 19])
  .ret)))) }
theorem tr249 : trF cx Tryz.f249 = pf249 := by kernel_rfl
/-- depot/when.Live -/
def pf256 : PF := { ntmps := 16, results := [.tmp 4], body :=
  (.seq (.region [o 4 (.mv (.c (.bool false)))])
  (.seq (.region [m 5 0,
 o 6 (.bin .eql (.t 5) (ci 0)),
 m 7 6,
 gm 8 7 false 0,
 go 9 7 false (.bin .gtr (.t 8) (ci 0)),
 gm 10 7 false 9,
 gm 11 10 true 0,
 gm 12 10 true 1,
 go 13 10 true (.bin .gtr (.t 11) (.t 12)),
 go 14 7 false (.pick (.t 10) (.t 13) (.c (.bool false))),
 o 15 (.pick (.t 7) (.c (.bool true)) (.t 14)),
 m 4 15])
  .ret)) }
theorem tr256 : trF cx Tryz.f256 = pf256 := by kernel_rfl
/-- (*depot/task.Task).unseen -/
def pf257 : PF := { ntmps := 31, results := [.tmp 4], body :=
  (.seq (.region [n 3 (.box (.t 1)),
 o 4 (.mv (.c (.bool false)))])
  (.seq (.seq (.region [m 7 0,
 o 8 (.nilck (.t 7)),
 o 9 (.faddr 20 (.t 8)),
 o 10 (.load false 1 (.t 9)),
 o 11 (.lensl (.t 10)),
 o 12 (.mv (ci 0))])
  (.block 0 (.loop (.seq (.region [o 13 (.bin .lss (.t 12) (.t 11))])
    (.seq (.cond (.t 13)
     .skip
     (.exit 0))
    (.seq (.block 1 (.seq (.region [o 14 (.iasl 1 (.t 10) (.t 12)),
 o 15 (.load false 1 (.t 14)),
 m 6 15])
     (.seq (.region [m 16 6,
 o 17 (.faddr 0 (.t 3)),
 o 18 (.iaarr 12 1 (.t 17) (.t 16)),
 o 19 (.load false 1 (.t 18)),
 o 20 (.bin .neq (.t 19) (ci 0)),
 m 21 20,
 gm 22 21 true 0,
 gm 23 21 true 6,
 go 24 21 true (.nilck (.t 22)),
 go 25 21 true (.faddr 24 (.t 24)),
 go 26 21 true (.iaarr 12 1 (.t 25) (.t 23)),
 go 27 21 true (.load false 1 (.t 26)),
 go 28 21 true (.bin .eql (.t 27) (ci 0)),
 o 29 (.pick (.t 21) (.t 28) (.c (.bool false)))])
     (.cond (.t 29)
      (.seq (.region [o 4 (.mv (.c (.bool true)))])
      .ret)
      .skip))))
    (.region [o 30 (.bin .add (.t 12) (ci 1)),
 m 12 30])))))))
  (.seq (.region [o 4 (.mv (.c (.bool false)))])
  .ret))) }
theorem tr257 : trF cx Tryz.f257 = pf257 := by kernel_rfl
/-- depot/task.reads -/
def pf258 : PF := { ntmps := 11, results := [.tmp 2], body :=
  (.seq (.region [o 2 (.mv (.c (.bool false)))])
  (.seq (.seq (.region [m 3 0])
  (.block 0 (.seq (.seq (.region [o 5 (.bin .eql (.t 3) (ci 1)),
 m 4 5])
   (.cond (.t 4)
    .skip
    (.seq (.region [o 6 (.bin .eql (.t 3) (ci 2)),
 m 4 6])
    (.cond (.t 4)
     .skip
     (.seq (.region [o 7 (.bin .eql (.t 3) (ci 6)),
 m 4 7])
     (.cond (.t 4)
      .skip
      (.seq (.region [o 8 (.bin .eql (.t 3) (ci 7)),
 m 4 8])
      (.cond (.t 4)
       .skip
       (.seq (.region [o 9 (.bin .eql (.t 3) (ci 10)),
 m 4 9])
       (.cond (.t 4)
        .skip
        (.region [o 10 (.bin .eql (.t 3) (ci 11)),
 m 4 10])))))))))))
   (.cond (.t 4)
    (.seq (.region [o 2 (.mv (.c (.bool true)))])
    .ret)
    .skip))))
  (.seq (.region [o 2 (.mv (.c (.bool false)))])
  .ret))) }
theorem tr258 : trF cx Tryz.f258 = pf258 := by kernel_rfl
/-- slices.IndexFunc[[]*depot/router.job,*depot/router.job] -/
def pf264 : PF := { ntmps := 19, results := [.tmp 4], body :=
  (.seq (.region [o 4 (.mv (ci 0))])
  (.seq (.seq (.region [m 6 0,
 o 7 (.lensl (.t 6)),
 o 8 (.mv (ci 0))])
  (.block 0 (.loop (.seq (.region [o 9 (.bin .lss (.t 8) (.t 7))])
    (.seq (.cond (.t 9)
     .skip
     (.exit 0))
    (.seq (.block 1 (.seq (.region [m 10 8,
 m 5 10])
     (.seq (.region [m 11 1,
 m 12 0,
 m 13 5,
 o 14 (.iasl 1 (.t 12) (.t 13)),
 o 15 (.load false 1 (.t 14)),
 e 16 (.callv (.t 11) [(.t 15)])])
     (.cond (.t 16)
      (.seq (.region [m 17 5,
 m 4 17])
      .ret)
      .skip))))
    (.region [o 18 (.bin .add (.t 8) (ci 1)),
 m 8 18])))))))
  (.seq (.region [o 4 (.mv (.c (.int .i64 (.negSucc 0))))])
  .ret))) }
theorem tr264 : trF cx Tryz.f264 = pf264 := by kernel_rfl
/-- internal/stringslite.TrimSuffix -/
def pf270 : PF := { ntmps := 16, results := [.tmp 4], body :=
  (.seq (.region [o 4 (.mv (.c (.str [])))])
  (.seq (.seq (.region [m 5 0,
 m 6 1,
 e 7 (.call 314 [(.t 5), (.t 6)])])
  (.cond (.t 7)
   (.seq (.region [m 8 0,
 m 9 0,
 o 10 (.lens (.t 9)),
 m 11 1,
 o 12 (.lens (.t 11)),
 o 13 (.bin .sub (.t 10) (.t 12)),
 o 14 (.slstr (.t 8) none (some (.t 13))),
 m 4 14])
   .ret)
   .skip))
  (.seq (.region [m 15 0,
 m 4 15])
  .ret))) }
theorem tr270 : trF cx Tryz.f270 = pf270 := by kernel_rfl
/-- depot/words.Split -/
def pf271 : PF := { ntmps := 35, results := [.tmp 2], body :=
  (.seq (.region [o 2 (.mv (.c .nils))])
  (.scope (.seq (.region [o 3 (.mv (.c .nils))])
   (.seq (.region [o 4 (.mv (ci 0))])
   (.seq .skip
   (.seq (.seq (.region [o 5 (.mv (ci 0))])
   (.block 0 (.loop (.seq (.seq (.region [m 6 5,
 m 7 0,
 o 8 (.lens (.t 7)),
 o 9 (.bin .leq (.t 6) (.t 8))])
     (.cond (.t 9)
      .skip
      (.exit 0)))
     (.seq (.block 1 (.seq (.seq (.region [m 12 5,
 m 13 0,
 o 14 (.lens (.t 13)),
 o 15 (.bin .lss (.t 12) (.t 14)),
 m 16 15,
 gm 17 16 true 0,
 gm 18 16 true 5,
 go 19 16 true (.ixstr (.t 17) (.t 18)),
 go 20 16 true (.bin .neq (.t 19) (.c (.int .u8 (.ofNat 32)))),
 o 21 (.pick (.t 16) (.t 20) (.c (.bool false)))])
      (.cond (.t 21)
       (.exit 1)
       .skip))
      (.seq (.seq (.region [m 22 5,
 m 23 4,
 o 24 (.bin .gtr (.t 22) (.t 23))])
      (.cond (.t 24)
       (.region [m 25 3,
 m 26 0,
 m 27 4,
 m 28 5,
 o 29 (.slstr (.t 26) (some (.t 27)) (some (.t 28))),
 n 30 (.bslice 0 1 1 [(.str [])] [(0, 1, (.t 29))]),
 e 31 (.app 0 1 16 (.t 25) (.t 30)),
 m 3 31])
       .skip))
      (.region [m 32 5,
 o 33 (.bin .add (.t 32) (ci 1)),
 m 4 33]))))
     (.region [m 10 5,
 o 11 (.bin .add (.t 10) (ci 1)),
 m 5 11]))))))
   (.seq (.region [m 34 3,
 m 2 34])
   .ret))))))) }
theorem tr271 : trF cx Tryz.f271 = pf271 := by kernel_rfl
/-- depot/words.shapeOf -/
def pf272 : PF := { ntmps := 57, results := [.cell 2 true 4, .tmp 3], body :=
  (.seq (.region [n 2 (.new 0 [(.int .i64 (.ofNat 0)), (.int .i64 (.ofNat 0)), (.int .i64 (.ofNat 0)), (.bool false)]),
 o 3 (.mv (.c (.bool false)))])
  (.seq (.seq (.region [m 4 0])
  (.block 0 (.seq (.region [o 6 (.bin .eql (.t 4) (.c (.str [103, 101, 116]))),
 m 5 6])
   (.cond (.t 5)
    (.seq (.region [o 7 (.build [(.int .i64 (.ofNat 0)), (.int .i64 (.ofNat 0)), (.int .i64 (.ofNat 0)), (.bool false)] [(0, 1, (ci 1)), (1, 1, (ci 1)), (2, 1, (ci 64)), (3, 1, (.c (.bool false)))]),
 x (.store 4 (.t 2) (.t 7)),
 o 3 (.mv (.c (.bool true)))])
    .ret)
    (.seq (.region [o 9 (.bin .eql (.t 4) (.c (.str [103, 101, 116, 115]))),
 m 8 9])
    (.cond (.t 8)
     (.seq (.region [o 10 (.build [(.int .i64 (.ofNat 0)), (.int .i64 (.ofNat 0)), (.int .i64 (.ofNat 0)), (.bool false)] [(0, 1, (ci 2)), (1, 1, (ci 1)), (2, 1, (ci 64)), (3, 1, (.c (.bool false)))]),
 x (.store 4 (.t 2) (.t 10)),
 o 3 (.mv (.c (.bool true)))])
     .ret)
     (.seq (.region [o 12 (.bin .eql (.t 4) (.c (.str [115, 101, 116]))),
 m 11 12])
     (.cond (.t 11)
      (.seq (.region [o 13 (.build [(.int .i64 (.ofNat 0)), (.int .i64 (.ofNat 0)), (.int .i64 (.ofNat 0)), (.bool false)] [(0, 1, (ci 3)), (1, 1, (ci 4)), (2, 1, (ci 4)), (3, 1, (.c (.bool true)))]),
 x (.store 4 (.t 2) (.t 13)),
 o 3 (.mv (.c (.bool true)))])
      .ret)
      (.seq (.region [o 15 (.bin .eql (.t 4) (.c (.str [97, 100, 100]))),
 m 14 15])
      (.cond (.t 14)
       (.seq (.region [o 16 (.build [(.int .i64 (.ofNat 0)), (.int .i64 (.ofNat 0)), (.int .i64 (.ofNat 0)), (.bool false)] [(0, 1, (ci 4)), (1, 1, (ci 4)), (2, 1, (ci 4)), (3, 1, (.c (.bool true)))]),
 x (.store 4 (.t 2) (.t 16)),
 o 3 (.mv (.c (.bool true)))])
       .ret)
       (.seq (.region [o 18 (.bin .eql (.t 4) (.c (.str [114, 101, 112, 108, 97, 99, 101]))),
 m 17 18])
       (.cond (.t 17)
        (.seq (.region [o 19 (.build [(.int .i64 (.ofNat 0)), (.int .i64 (.ofNat 0)), (.int .i64 (.ofNat 0)), (.bool false)] [(0, 1, (ci 5)), (1, 1, (ci 4)), (2, 1, (ci 4)), (3, 1, (.c (.bool true)))]),
 x (.store 4 (.t 2) (.t 19)),
 o 3 (.mv (.c (.bool true)))])
        .ret)
        (.seq (.region [o 21 (.bin .eql (.t 4) (.c (.str [97, 112, 112, 101, 110, 100]))),
 m 20 21])
        (.cond (.t 20)
         (.seq (.region [o 22 (.build [(.int .i64 (.ofNat 0)), (.int .i64 (.ofNat 0)), (.int .i64 (.ofNat 0)), (.bool false)] [(0, 1, (ci 6)), (1, 1, (ci 4)), (2, 1, (ci 4)), (3, 1, (.c (.bool true)))]),
 x (.store 4 (.t 2) (.t 22)),
 o 3 (.mv (.c (.bool true)))])
         .ret)
         (.seq (.region [o 24 (.bin .eql (.t 4) (.c (.str [112, 114, 101, 112, 101, 110, 100]))),
 m 23 24])
         (.cond (.t 23)
          (.seq (.region [o 25 (.build [(.int .i64 (.ofNat 0)), (.int .i64 (.ofNat 0)), (.int .i64 (.ofNat 0)), (.bool false)] [(0, 1, (ci 7)), (1, 1, (ci 4)), (2, 1, (ci 4)), (3, 1, (.c (.bool true)))]),
 x (.store 4 (.t 2) (.t 25)),
 o 3 (.mv (.c (.bool true)))])
          .ret)
          (.seq (.region [o 27 (.bin .eql (.t 4) (.c (.str [99, 97, 115]))),
 m 26 27])
          (.cond (.t 26)
           (.seq (.region [o 28 (.build [(.int .i64 (.ofNat 0)), (.int .i64 (.ofNat 0)), (.int .i64 (.ofNat 0)), (.bool false)] [(0, 1, (ci 8)), (1, 1, (ci 5)), (2, 1, (ci 5)), (3, 1, (.c (.bool true)))]),
 x (.store 4 (.t 2) (.t 28)),
 o 3 (.mv (.c (.bool true)))])
           .ret)
           (.seq (.region [o 30 (.bin .eql (.t 4) (.c (.str [100, 101, 108, 101, 116, 101]))),
 m 29 30])
           (.cond (.t 29)
            (.seq (.region [o 31 (.build [(.int .i64 (.ofNat 0)), (.int .i64 (.ofNat 0)), (.int .i64 (.ofNat 0)), (.bool false)] [(0, 1, (ci 9)), (1, 1, (ci 1)), (2, 1, (ci 1)), (3, 1, (.c (.bool true)))]),
 x (.store 4 (.t 2) (.t 31)),
 o 3 (.mv (.c (.bool true)))])
            .ret)
            (.seq (.region [o 33 (.bin .eql (.t 4) (.c (.str [105, 110, 99, 114]))),
 m 32 33])
            (.cond (.t 32)
             (.seq (.region [o 34 (.build [(.int .i64 (.ofNat 0)), (.int .i64 (.ofNat 0)), (.int .i64 (.ofNat 0)), (.bool false)] [(0, 1, (ci 10)), (1, 1, (ci 2)), (2, 1, (ci 2)), (3, 1, (.c (.bool true)))]),
 x (.store 4 (.t 2) (.t 34)),
 o 3 (.mv (.c (.bool true)))])
             .ret)
             (.seq (.region [o 36 (.bin .eql (.t 4) (.c (.str [100, 101, 99, 114]))),
 m 35 36])
             (.cond (.t 35)
              (.seq (.region [o 37 (.build [(.int .i64 (.ofNat 0)), (.int .i64 (.ofNat 0)), (.int .i64 (.ofNat 0)), (.bool false)] [(0, 1, (ci 11)), (1, 1, (ci 2)), (2, 1, (ci 2)), (3, 1, (.c (.bool true)))]),
 x (.store 4 (.t 2) (.t 37)),
 o 3 (.mv (.c (.bool true)))])
              .ret)
              (.seq (.region [o 39 (.bin .eql (.t 4) (.c (.str [116, 111, 117, 99, 104]))),
 m 38 39])
              (.cond (.t 38)
               (.seq (.region [o 40 (.build [(.int .i64 (.ofNat 0)), (.int .i64 (.ofNat 0)), (.int .i64 (.ofNat 0)), (.bool false)] [(0, 1, (ci 12)), (1, 1, (ci 2)), (2, 1, (ci 2)), (3, 1, (.c (.bool true)))]),
 x (.store 4 (.t 2) (.t 40)),
 o 3 (.mv (.c (.bool true)))])
               .ret)
               (.seq (.region [o 42 (.bin .eql (.t 4) (.c (.str [102, 108, 117, 115, 104, 95, 97, 108, 108]))),
 m 41 42])
               (.cond (.t 41)
                (.seq (.region [o 43 (.build [(.int .i64 (.ofNat 0)), (.int .i64 (.ofNat 0)), (.int .i64 (.ofNat 0)), (.bool false)] [(0, 1, (ci 13)), (1, 1, (ci 0)), (2, 1, (ci 1)), (3, 1, (.c (.bool true)))]),
 x (.store 4 (.t 2) (.t 43)),
 o 3 (.mv (.c (.bool true)))])
                .ret)
                (.seq (.region [o 45 (.bin .eql (.t 4) (.c (.str [118, 101, 114, 115, 105, 111, 110]))),
 m 44 45])
                (.cond (.t 44)
                 (.seq (.region [o 46 (.build [(.int .i64 (.ofNat 0)), (.int .i64 (.ofNat 0)), (.int .i64 (.ofNat 0)), (.bool false)] [(0, 1, (ci 14)), (1, 1, (ci 0)), (2, 1, (ci 0)), (3, 1, (.c (.bool false)))]),
 x (.store 4 (.t 2) (.t 46)),
 o 3 (.mv (.c (.bool true)))])
                 .ret)
                 (.seq (.region [o 48 (.bin .eql (.t 4) (.c (.str [118, 101, 114, 98, 111, 115, 105, 116, 121]))),
 m 47 48])
                 (.cond (.t 47)
                  (.seq (.region [o 49 (.build [(.int .i64 (.ofNat 0)), (.int .i64 (.ofNat 0)), (.int .i64 (.ofNat 0)), (.bool false)] [(0, 1, (ci 15)), (1, 1, (ci 1)), (2, 1, (ci 1)), (3, 1, (.c (.bool true)))]),
 x (.store 4 (.t 2) (.t 49)),
 o 3 (.mv (.c (.bool true)))])
                  .ret)
                  (.seq (.region [o 51 (.bin .eql (.t 4) (.c (.str [115, 116, 97, 116, 115]))),
 m 50 51])
                  (.cond (.t 50)
                   (.seq (.region [o 52 (.build [(.int .i64 (.ofNat 0)), (.int .i64 (.ofNat 0)), (.int .i64 (.ofNat 0)), (.bool false)] [(0, 1, (ci 16)), (1, 1, (ci 0)), (2, 1, (ci 0)), (3, 1, (.c (.bool false)))]),
 x (.store 4 (.t 2) (.t 52)),
 o 3 (.mv (.c (.bool true)))])
                   .ret)
                   (.seq (.region [o 54 (.bin .eql (.t 4) (.c (.str [113, 117, 105, 116]))),
 m 53 54])
                   (.cond (.t 53)
                    (.seq (.region [o 55 (.build [(.int .i64 (.ofNat 0)), (.int .i64 (.ofNat 0)), (.int .i64 (.ofNat 0)), (.bool false)] [(0, 1, (ci 17)), (1, 1, (ci 0)), (2, 1, (ci 0)), (3, 1, (.c (.bool false)))]),
 x (.store 4 (.t 2) (.t 55)),
 o 3 (.mv (.c (.bool true)))])
                    .ret)
                    .skip))))))))))))))))))))))))))))))))))))
  (.seq (.region [o 56 (.build [(.int .i64 (.ofNat 0)), (.int .i64 (.ofNat 0)), (.int .i64 (.ofNat 0)), (.bool false)] []),
 x (.store 4 (.t 2) (.t 56)),
 o 3 (.mv (.c (.bool false)))])
  .ret))) }
theorem tr272 : trF cx Tryz.f272 = pf272 := by kernel_rfl
/-- depot/words.fill -/
def pf273 : PF := { ntmps := 127, results := [.tmp 4], body :=
  (.seq (.region [o 4 (.mv (.c (.bool false)))])
  (.seq (.seq (.region [m 10 0,
 o 11 (.nilck (.t 10)),
 o 12 (.faddr 0 (.t 11)),
 o 13 (.load false 1 (.t 12))])
  (.block 0 (.seq (.seq (.region [o 15 (.bin .eql (.t 13) (ci 1)),
 m 14 15])
   (.cond (.t 14)
    .skip
    (.region [o 16 (.bin .eql (.t 13) (ci 2)),
 m 14 16])))
   (.cond (.t 14)
    (.seq (.seq (.region [m 17 1,
 o 18 (.lensl (.t 17)),
 o 19 (.mv (ci 0))])
    (.block 1 (.loop (.seq (.region [o 20 (.bin .lss (.t 19) (.t 18))])
      (.seq (.cond (.t 20)
       .skip
       (.exit 1))
      (.seq (.block 2 (.seq (.region [o 21 (.iasl 1 (.t 17) (.t 19)),
 o 22 (.load false 1 (.t 21)),
 m 6 22])
       (.seq (.region [m 23 6,
 e 24 (.call 100 [(.t 23)]),
 o 25 (.un .not (.t 24))])
       (.cond (.t 25)
        (.seq (.region [o 4 (.mv (.c (.bool false)))])
        .ret)
        .skip))))
      (.region [o 26 (.bin .add (.t 19) (ci 1)),
 m 19 26])))))))
    (.seq (.region [m 27 0,
 m 28 0,
 o 29 (.nilck (.t 28)),
 o 30 (.faddr 1 (.t 29)),
 o 31 (.load false 1 (.t 30)),
 m 32 1,
 e 33 (.app 0 1 16 (.t 31) (.t 32)),
 o 34 (.nilck (.t 27)),
 o 35 (.faddr 1 (.t 34)),
 x (.store 1 (.t 35) (.t 33))])
    (.seq (.region [o 4 (.mv (.c (.bool true)))])
    .ret)))
    (.seq (.region [o 37 (.bin .eql (.t 13) (ci 13)),
 m 36 37])
    (.cond (.t 36)
     (.seq (.region [m 38 1,
 o 39 (.lensl (.t 38)),
 o 40 (.bin .eql (.t 39) (ci 0)),
 m 41 40,
 gm 42 41 false 1,
 go 43 41 false (.iasl 1 (.t 42) (ci 0)),
 go 44 41 false (.load false 1 (.t 43)),
 go 45 41 false (.bin .eql (.t 44) (.c (.str [48]))),
 o 46 (.pick (.t 41) (.c (.bool true)) (.t 45)),
 m 4 46])
     .ret)
     (.seq (.region [o 48 (.bin .eql (.t 13) (ci 15)),
 m 47 48])
     (.cond (.t 47)
      (.seq (.region [m 50 1,
 o 51 (.iasl 1 (.t 50) (ci 0)),
 o 52 (.load false 1 (.t 51)),
 o 53 (.bad),
 m 49 53,
 o 54 (.ext 0 (.t 49)),
 o 55 (.ext 1 (.t 49)),
 m 7 54,
 m 8 55])
      (.seq (.region [m 56 8,
 m 4 56])
      .ret))
      (.seq (.seq (.region [o 58 (.bin .eql (.t 13) (ci 14)),
 m 57 58])
      (.cond (.t 57)
       .skip
       (.seq (.region [o 59 (.bin .eql (.t 13) (ci 16)),
 m 57 59])
       (.cond (.t 57)
        .skip
        (.region [o 60 (.bin .eql (.t 13) (ci 17)),
 m 57 60])))))
      (.cond (.t 57)
       (.seq (.region [o 4 (.mv (.c (.bool true)))])
       .ret)
       .skip))))))))))
  (.seq (.seq (.region [m 61 1,
 o 62 (.iasl 1 (.t 61) (ci 0)),
 o 63 (.load false 1 (.t 62)),
 e 64 (.call 100 [(.t 63)]),
 o 65 (.un .not (.t 64))])
  (.cond (.t 65)
   (.seq (.region [o 4 (.mv (.c (.bool false)))])
   .ret)
   .skip))
  (.seq (.region [m 66 0,
 m 67 0,
 o 68 (.nilck (.t 67)),
 o 69 (.faddr 1 (.t 68)),
 o 70 (.load false 1 (.t 69)),
 m 71 1,
 o 72 (.iasl 1 (.t 71) (ci 0)),
 o 73 (.load false 1 (.t 72)),
 n 74 (.bslice 0 1 1 [(.str [])] [(0, 1, (.t 73))]),
 e 75 (.app 0 1 16 (.t 70) (.t 74)),
 o 76 (.nilck (.t 66)),
 o 77 (.faddr 1 (.t 76)),
 x (.store 1 (.t 77) (.t 75))])
  (.seq (.region [o 9 (.mv (.c (.bool true)))])
  (.seq (.block 3 (.seq (.region [m 79 0,
 o 80 (.nilck (.t 79)),
 o 81 (.faddr 0 (.t 80)),
 o 82 (.load false 1 (.t 81)),
 e 83 (.call 46 [(.t 82)]),
 m 78 83])
   (.cond (.t 78)
    (.region [m 84 0,
 m 85 1,
 o 86 (.bad),
 m 9 86])
    (.seq (.region [m 88 0,
 o 89 (.nilck (.t 88)),
 o 90 (.faddr 0 (.t 89)),
 o 91 (.load false 1 (.t 90)),
 o 92 (.bin .eql (.t 91) (ci 10)),
 m 93 92,
 gm 94 93 false 0,
 go 95 93 false (.nilck (.t 94)),
 go 96 93 false (.faddr 0 (.t 95)),
 go 97 93 false (.load false 1 (.t 96)),
 go 98 93 false (.bin .eql (.t 97) (ci 11)),
 o 99 (.pick (.t 93) (.c (.bool true)) (.t 98)),
 m 87 99])
    (.cond (.t 87)
     (.region [m 101 0,
 m 102 1,
 o 103 (.iasl 1 (.t 102) (ci 1)),
 o 104 (.load false 1 (.t 103)),
 o 105 (.bad),
 m 100 105,
 o 106 (.ext 0 (.t 100)),
 o 107 (.ext 1 (.t 100)),
 o 108 (.nilck (.t 101)),
 o 109 (.faddr 6 (.t 108)),
 x (.store 1 (.t 109) (.t 106)),
 m 9 107])
     (.seq (.region [m 111 0,
 o 112 (.nilck (.t 111)),
 o 113 (.faddr 0 (.t 112)),
 o 114 (.load false 1 (.t 113)),
 o 115 (.bin .eql (.t 114) (ci 12)),
 m 110 115])
     (.cond (.t 110)
      (.region [m 117 0,
 m 118 1,
 o 119 (.iasl 1 (.t 118) (ci 1)),
 o 120 (.load false 1 (.t 119)),
 o 121 (.bad),
 m 116 121,
 o 122 (.ext 0 (.t 116)),
 o 123 (.ext 1 (.t 116)),
 o 124 (.nilck (.t 117)),
 o 125 (.faddr 3 (.t 124)),
 x (.store 1 (.t 125) (.t 122)),
 m 9 123])
      .skip)))))))
  (.seq (.region [m 126 9,
 m 4 126])
  .ret))))))) }
theorem tr273 : trF cx Tryz.f273 = pf273 := by kernel_rfl
/-- slices.insertionSortOrdered[int] -/
def pf275 : PF := { ntmps := 49, results := [], body :=
  (.seq (.region [m 8 1,
 o 9 (.bin .add (.t 8) (ci 1)),
 m 6 9])
  (.block 0 (.loop (.seq (.seq (.region [m 10 6,
 m 11 2,
 o 12 (.bin .lss (.t 10) (.t 11))])
    (.cond (.t 12)
     .skip
     (.exit 0)))
    (.seq (.block 1 (.seq (.region [m 15 6,
 m 7 15])
     (.block 2 (.loop (.seq (.seq (.region [m 16 7,
 m 17 1,
 o 18 (.bin .gtr (.t 16) (.t 17)),
 m 19 18,
 gm 20 19 true 0,
 gm 21 19 true 7,
 go 22 19 true (.iasl 1 (.t 20) (.t 21)),
 go 23 19 true (.load false 1 (.t 22)),
 gm 24 19 true 0,
 gm 25 19 true 7,
 go 26 19 true (.bin .sub (.t 25) (ci 1)),
 go 27 19 true (.iasl 1 (.t 24) (.t 26)),
 go 28 19 true (.load false 1 (.t 27)),
 .op ⟨(some 29), (some (19, true)), (.e (.call 281 [(.t 23), (.t 28)]))⟩,
 o 30 (.pick (.t 19) (.t 29) (.c (.bool false)))])
       (.cond (.t 30)
        .skip
        (.exit 2)))
       (.seq (.block 3 (.region [m 33 0,
 m 34 7,
 m 35 0,
 m 36 7,
 o 37 (.bin .sub (.t 36) (ci 1)),
 m 38 0,
 m 39 7,
 o 40 (.bin .sub (.t 39) (ci 1)),
 o 41 (.iasl 1 (.t 38) (.t 40)),
 o 42 (.load false 1 (.t 41)),
 m 43 0,
 m 44 7,
 o 45 (.iasl 1 (.t 43) (.t 44)),
 o 46 (.load false 1 (.t 45)),
 o 47 (.iasl 1 (.t 33) (.t 34)),
 x (.store 1 (.t 47) (.t 42)),
 o 48 (.iasl 1 (.t 35) (.t 37)),
 x (.store 1 (.t 48) (.t 46))]))
       (.region [m 31 7,
 o 32 (.bin .sub (.t 31) (ci 1)),
 m 7 32])))))))
    (.region [m 13 6,
 o 14 (.bin .add (.t 13) (ci 1)),
 m 6 14])))))) }
theorem tr275 : trF cx Tryz.f275 = pf275 := by kernel_rfl
/-- cmp.Less[int] -/
def pf281 : PF := { ntmps := 17, results := [.tmp 4], body :=
  (.seq (.region [o 4 (.mv (.c (.bool false)))])
  (.seq (.region [m 5 0,
 o 6 (.bad),
 m 7 6,
 gm 8 7 true 1,
 o 9 (.bad),
 go 10 7 true (.un .not (.t 9)),
 o 11 (.pick (.t 7) (.t 10) (.c (.bool false))),
 m 12 11,
 gm 13 12 false 0,
 gm 14 12 false 1,
 go 15 12 false (.bin .lss (.t 13) (.t 14)),
 o 16 (.pick (.t 12) (.c (.bool true)) (.t 15)),
 m 4 16])
  .ret)) }
theorem tr281 : trF cx Tryz.f281 = pf281 := by kernel_rfl
/-- internal/stringslite.HasSuffix -/
def pf314 : PF := { ntmps := 21, results := [.tmp 4], body :=
  (.seq (.region [o 4 (.mv (.c (.bool false)))])
  (.seq (.region [m 5 0,
 o 6 (.lens (.t 5)),
 m 7 1,
 o 8 (.lens (.t 7)),
 o 9 (.bin .geq (.t 6) (.t 8)),
 m 10 9,
 gm 11 10 true 0,
 gm 12 10 true 0,
 go 13 10 true (.lens (.t 12)),
 gm 14 10 true 1,
 go 15 10 true (.lens (.t 14)),
 go 16 10 true (.bin .sub (.t 13) (.t 15)),
 go 17 10 true (.slstr (.t 11) (some (.t 16)) none),
 gm 18 10 true 1,
 go 19 10 true (.bin .eql (.t 17) (.t 18)),
 o 20 (.pick (.t 10) (.t 19) (.c (.bool false))),
 m 4 20])
  .ret)) }
theorem tr314 : trF cx Tryz.f314 = pf314 := by kernel_rfl
end Go.Proofs.YthogpieophmajaaGreatDoor
