/- The functions that this seat's laws reach, for the clean machine; each is what the translation makes of the given text. Conditions: none. Printed by program. -/
import Derived.Test.YtjdkgodpkojdoaaChecked
import Derived.KernelRfl
import Derived.Test.YtjdkgodpkojdoaaQqZ
namespace Go.Proofs.Ytjdkgodpkojdoaa
open Go.Dp

/-- depot/depotlaw17.SlotRuns -/
def pf4 : PF := { ntmps := 131, results := [.tmp 0], body :=
  (.seq (.region [.op ⟨(some 0), none, (.r (.mv (.c (.bool false))))⟩])
  (.seq (.region [.op ⟨(some 19), none, (.e (.call 9 [(.c (.int .i64 (.ofNat 1))), (.c (.int .i64 (.ofNat 4))), (.c (.int .i64 (.ofNat 1024)))]))⟩,
    .op ⟨(some 18), none, (.r (.mv (.t 19)))⟩,
    .op ⟨(some 20), none, (.r (.ext 0 (.t 18)))⟩,
    .op ⟨(some 21), none, (.r (.ext 1 (.t 18)))⟩,
    .op ⟨(some 1), none, (.r (.mv (.t 20)))⟩,
    .op ⟨(some 2), none, (.r (.mv (.t 21)))⟩])
  (.seq (.seq (.region [.op ⟨(some 22), none, (.r (.mv (.t 1)))⟩,
    .op ⟨(some 23), none, (.r (.eqc false (.t 22) (.c .nilp)))⟩,
    .op ⟨(some 24), none, (.r (.mv (.t 23)))⟩,
    .op ⟨(some 25), (some (24, false)), (.r (.mv (.t 2)))⟩,
    .op ⟨(some 26), (some (24, false)), (.r (.bin .neq (.t 25) (.c (.int .i64 (.ofNat 0)))))⟩,
    .op ⟨(some 27), none, (.r (.pick (.t 24) (.c (.bool true)) (.t 26)))⟩])
  (.cond (.t 27)
   (.seq (.region [.op ⟨(some 0), none, (.r (.mv (.c (.bool false))))⟩])
   .ret)
   .skip))
  (.seq (.region [.op ⟨(some 29), none, (.r (.mv (.t 1)))⟩,
    .op ⟨(some 30), none, (.e (.call 11 [(.c (.int .i64 (.ofNat 5))), (.c (.int .i64 (.ofNat 1))), (.c (.str [])), (.c (.str [])), (.c (.int .i64 (.ofNat 0)))]))⟩,
    .op ⟨(some 31), none, (.e (.call 10 [(.t 29), (.t 30)]))⟩,
    .op ⟨(some 28), none, (.r (.mv (.t 31)))⟩,
    .op ⟨(some 32), none, (.r (.ext 0 (.t 28)))⟩,
    .op ⟨(some 33), none, (.r (.ext 1 (.t 28)))⟩,
    .op ⟨(some 3), none, (.n (.new 0 [(.int .i64 (.ofNat 0)), (.int .i64 (.ofNat 0)), (.int .i64 (.ofNat 0)), (.int .i64 (.ofNat 0)), (.int .i64 (.ofNat 0)), (.int .i64 (.ofNat 0)), (.str []), (.int .i64 (.ofNat 0)), (.str [])]))⟩,
    .op ⟨none, none, (.e (.store 9 (.t 3) (.t 32)))⟩,
    .op ⟨(some 4), none, (.r (.mv (.t 33)))⟩])
  (.seq (.region [.op ⟨(some 35), none, (.r (.mv (.t 1)))⟩,
    .op ⟨(some 36), none, (.e (.call 11 [(.c (.int .i64 (.ofNat 5))), (.c (.int .i64 (.ofNat 1))), (.c (.str [])), (.c (.str [])), (.c (.int .i64 (.ofNat 0)))]))⟩,
    .op ⟨(some 37), none, (.e (.call 10 [(.t 35), (.t 36)]))⟩,
    .op ⟨(some 34), none, (.r (.mv (.t 37)))⟩,
    .op ⟨(some 38), none, (.r (.ext 0 (.t 34)))⟩,
    .op ⟨(some 39), none, (.r (.ext 1 (.t 34)))⟩,
    .op ⟨(some 5), none, (.n (.new 0 [(.int .i64 (.ofNat 0)), (.int .i64 (.ofNat 0)), (.int .i64 (.ofNat 0)), (.int .i64 (.ofNat 0)), (.int .i64 (.ofNat 0)), (.int .i64 (.ofNat 0)), (.str []), (.int .i64 (.ofNat 0)), (.str [])]))⟩,
    .op ⟨none, none, (.e (.store 9 (.t 5) (.t 38)))⟩,
    .op ⟨(some 6), none, (.r (.mv (.t 39)))⟩])
  (.seq (.region [.op ⟨(some 40), none, (.e (.call 11 [(.c (.int .i64 (.ofNat 5))), (.c (.int .i64 (.ofNat 1))), (.c (.str [])), (.c (.str [])), (.c (.int .i64 (.ofNat 0)))]))⟩,
    .op ⟨(some 7), none, (.n (.new 0 [(.int .i64 (.ofNat 0)), (.int .i64 (.ofNat 0)), (.int .i64 (.ofNat 0)), (.int .i64 (.ofNat 0)), (.int .i64 (.ofNat 0)), (.int .i64 (.ofNat 0)), (.str []), (.int .i64 (.ofNat 0)), (.str [])]))⟩,
    .op ⟨none, none, (.e (.store 9 (.t 7) (.t 40)))⟩])
  (.seq (.region [.op ⟨(some 41), none, (.r (.faddr 2 (.t 7)))⟩,
    .op ⟨none, none, (.e (.store 1 (.t 41) (.c (.int .i64 (.ofNat 2)))))⟩])
  (.seq (.region [.op ⟨(some 43), none, (.r (.mv (.t 1)))⟩,
    .op ⟨(some 44), none, (.r (.load true 9 (.t 7)))⟩,
    .op ⟨(some 45), none, (.e (.call 10 [(.t 43), (.t 44)]))⟩,
    .op ⟨(some 42), none, (.r (.mv (.t 45)))⟩,
    .op ⟨(some 46), none, (.r (.ext 0 (.t 42)))⟩,
    .op ⟨(some 47), none, (.r (.ext 1 (.t 42)))⟩,
    .op ⟨(some 8), none, (.n (.new 0 [(.int .i64 (.ofNat 0)), (.int .i64 (.ofNat 0)), (.int .i64 (.ofNat 0)), (.int .i64 (.ofNat 0)), (.int .i64 (.ofNat 0)), (.int .i64 (.ofNat 0)), (.str []), (.int .i64 (.ofNat 0)), (.str [])]))⟩,
    .op ⟨none, none, (.e (.store 9 (.t 8) (.t 46)))⟩,
    .op ⟨(some 9), none, (.r (.mv (.t 47)))⟩])
  (.seq (.region [.op ⟨(some 49), none, (.r (.mv (.t 1)))⟩,
    .op ⟨(some 50), none, (.e (.call 11 [(.c (.int .i64 (.ofNat 1))), (.c (.int .i64 (.ofNat 2))), (.c (.str [97])), (.c (.str [120])), (.c (.int .i64 (.ofNat 5)))]))⟩,
    .op ⟨(some 51), none, (.e (.call 10 [(.t 49), (.t 50)]))⟩,
    .op ⟨(some 48), none, (.r (.mv (.t 51)))⟩,
    .op ⟨(some 52), none, (.r (.ext 0 (.t 48)))⟩,
    .op ⟨(some 53), none, (.r (.ext 1 (.t 48)))⟩,
    .op ⟨(some 10), none, (.n (.new 0 [(.int .i64 (.ofNat 0)), (.int .i64 (.ofNat 0)), (.int .i64 (.ofNat 0)), (.int .i64 (.ofNat 0)), (.int .i64 (.ofNat 0)), (.int .i64 (.ofNat 0)), (.str []), (.int .i64 (.ofNat 0)), (.str [])]))⟩,
    .op ⟨none, none, (.e (.store 9 (.t 10) (.t 52)))⟩,
    .op ⟨(some 11), none, (.r (.mv (.t 53)))⟩])
  (.seq (.region [.op ⟨(some 55), none, (.r (.mv (.t 1)))⟩,
    .op ⟨(some 56), none, (.e (.call 11 [(.c (.int .i64 (.ofNat 2))), (.c (.int .i64 (.ofNat 3))), (.c (.str [97])), (.c (.str [])), (.c (.int .i64 (.ofNat 0)))]))⟩,
    .op ⟨(some 57), none, (.e (.call 10 [(.t 55), (.t 56)]))⟩,
    .op ⟨(some 54), none, (.r (.mv (.t 57)))⟩,
    .op ⟨(some 58), none, (.r (.ext 0 (.t 54)))⟩,
    .op ⟨(some 59), none, (.r (.ext 1 (.t 54)))⟩,
    .op ⟨(some 12), none, (.n (.new 0 [(.int .i64 (.ofNat 0)), (.int .i64 (.ofNat 0)), (.int .i64 (.ofNat 0)), (.int .i64 (.ofNat 0)), (.int .i64 (.ofNat 0)), (.int .i64 (.ofNat 0)), (.str []), (.int .i64 (.ofNat 0)), (.str [])]))⟩,
    .op ⟨none, none, (.e (.store 9 (.t 12) (.t 58)))⟩,
    .op ⟨(some 13), none, (.r (.mv (.t 59)))⟩])
  (.seq (.region [.op ⟨(some 60), none, (.r (.mv (.t 1)))⟩,
    .op ⟨(some 61), none, (.e (.call 12 [(.t 60)]))⟩])
  (.seq (.region [.op ⟨(some 63), none, (.r (.mv (.t 1)))⟩,
    .op ⟨(some 64), none, (.e (.call 11 [(.c (.int .i64 (.ofNat 2))), (.c (.int .i64 (.ofNat 4))), (.c (.str [97])), (.c (.str [])), (.c (.int .i64 (.ofNat 0)))]))⟩,
    .op ⟨(some 65), none, (.e (.call 10 [(.t 63), (.t 64)]))⟩,
    .op ⟨(some 62), none, (.r (.mv (.t 65)))⟩,
    .op ⟨(some 66), none, (.r (.ext 0 (.t 62)))⟩,
    .op ⟨(some 67), none, (.r (.ext 1 (.t 62)))⟩,
    .op ⟨(some 14), none, (.n (.new 0 [(.int .i64 (.ofNat 0)), (.int .i64 (.ofNat 0)), (.int .i64 (.ofNat 0)), (.int .i64 (.ofNat 0)), (.int .i64 (.ofNat 0)), (.int .i64 (.ofNat 0)), (.str []), (.int .i64 (.ofNat 0)), (.str [])]))⟩,
    .op ⟨none, none, (.e (.store 9 (.t 14) (.t 66)))⟩,
    .op ⟨(some 15), none, (.r (.mv (.t 67)))⟩])
  (.seq (.region [.op ⟨(some 69), none, (.r (.mv (.t 1)))⟩,
    .op ⟨(some 70), none, (.e (.call 11 [(.c (.int .i64 (.ofNat 5))), (.c (.int .i64 (.ofNat 5))), (.c (.str [])), (.c (.str [])), (.c (.int .i64 (.ofNat 0)))]))⟩,
    .op ⟨(some 71), none, (.e (.call 10 [(.t 69), (.t 70)]))⟩,
    .op ⟨(some 68), none, (.r (.mv (.t 71)))⟩,
    .op ⟨(some 72), none, (.r (.ext 0 (.t 68)))⟩,
    .op ⟨(some 73), none, (.r (.ext 1 (.t 68)))⟩,
    .op ⟨(some 16), none, (.n (.new 0 [(.int .i64 (.ofNat 0)), (.int .i64 (.ofNat 0)), (.int .i64 (.ofNat 0)), (.int .i64 (.ofNat 0)), (.int .i64 (.ofNat 0)), (.int .i64 (.ofNat 0)), (.str []), (.int .i64 (.ofNat 0)), (.str [])]))⟩,
    .op ⟨none, none, (.e (.store 9 (.t 16) (.t 72)))⟩,
    .op ⟨(some 17), none, (.r (.mv (.t 73)))⟩])
  (.seq (.region [.op ⟨(some 74), none, (.r (.mv (.t 4)))⟩,
    .op ⟨(some 75), none, (.r (.mv (.t 74)))⟩,
    .op ⟨(some 76), (some (75, true)), (.r (.load true 9 (.t 3)))⟩,
    .op ⟨(some 77), (some (75, true)), (.r (.build [(.int .i64 (.ofNat 0)), (.int .i64 (.ofNat 0)), (.int .i64 (.ofNat 0)), (.int .i64 (.ofNat 0)), (.int .i64 (.ofNat 0)), (.int .i64 (.ofNat 0)), (.str []), (.int .i64 (.ofNat 0)), (.str [])] [(0, 1, (.c (.int .i64 (.ofNat 6)))), (1, 1, (.c (.int .i64 (.ofNat 1)))), (2, 1, (.c (.int .i64 (.ofNat 3)))), (3, 1, (.c (.int .i64 (.ofNat 1))))]))⟩,
    .op ⟨(some 78), (some (75, true)), (.r (.eqa false [(.i .i64), (.i .i64), (.i .i64), (.i .i64), (.i .i64), (.i .i64), .s, (.i .i64), .s] (.t 76) (.t 77)))⟩,
    .op ⟨(some 79), none, (.r (.pick (.t 75) (.t 78) (.c (.bool false))))⟩,
    .op ⟨(some 80), none, (.r (.mv (.t 79)))⟩,
    .op ⟨(some 81), (some (80, true)), (.r (.mv (.t 6)))⟩,
    .op ⟨(some 82), none, (.r (.pick (.t 80) (.t 81) (.c (.bool false))))⟩,
    .op ⟨(some 83), none, (.r (.mv (.t 82)))⟩,
    .op ⟨(some 84), (some (83, true)), (.r (.load true 9 (.t 5)))⟩,
    .op ⟨(some 85), (some (83, true)), (.r (.load true 9 (.t 3)))⟩,
    .op ⟨(some 86), (some (83, true)), (.r (.eqa false [(.i .i64), (.i .i64), (.i .i64), (.i .i64), (.i .i64), (.i .i64), .s, (.i .i64), .s] (.t 84) (.t 85)))⟩,
    .op ⟨(some 87), none, (.r (.pick (.t 83) (.t 86) (.c (.bool false))))⟩,
    .op ⟨(some 88), none, (.r (.mv (.t 87)))⟩,
    .op ⟨(some 89), (some (88, true)), (.r (.mv (.t 9)))⟩,
    .op ⟨(some 90), (some (88, true)), (.r (.un .not (.t 89)))⟩,
    .op ⟨(some 91), none, (.r (.pick (.t 88) (.t 90) (.c (.bool false))))⟩,
    .op ⟨(some 92), none, (.r (.mv (.t 91)))⟩,
    .op ⟨(some 93), (some (92, true)), (.r (.mv (.t 11)))⟩,
    .op ⟨(some 94), none, (.r (.pick (.t 92) (.t 93) (.c (.bool false))))⟩,
    .op ⟨(some 95), none, (.r (.mv (.t 94)))⟩,
    .op ⟨(some 96), (some (95, true)), (.r (.faddr 7 (.t 10)))⟩,
    .op ⟨(some 97), (some (95, true)), (.r (.load false 1 (.t 96)))⟩,
    .op ⟨(some 98), (some (95, true)), (.r (.bin .eql (.t 97) (.c (.int .i64 (.ofNat 5)))))⟩,
    .op ⟨(some 99), none, (.r (.pick (.t 95) (.t 98) (.c (.bool false))))⟩,
    .op ⟨(some 100), none, (.r (.mv (.t 99)))⟩,
    .op ⟨(some 101), (some (100, true)), (.r (.mv (.t 13)))⟩,
    .op ⟨(some 102), none, (.r (.pick (.t 100) (.t 101) (.c (.bool false))))⟩,
    .op ⟨(some 103), none, (.r (.mv (.t 102)))⟩,
    .op ⟨(some 104), (some (103, true)), (.r (.faddr 7 (.t 12)))⟩,
    .op ⟨(some 105), (some (103, true)), (.r (.load false 1 (.t 104)))⟩,
    .op ⟨(some 106), (some (103, true)), (.r (.bin .eql (.t 105) (.c (.int .i64 (.ofNat 5)))))⟩,
    .op ⟨(some 107), none, (.r (.pick (.t 103) (.t 106) (.c (.bool false))))⟩,
    .op ⟨(some 108), none, (.r (.mv (.t 107)))⟩,
    .op ⟨(some 109), (some (108, true)), (.r (.faddr 8 (.t 12)))⟩,
    .op ⟨(some 110), (some (108, true)), (.r (.load false 1 (.t 109)))⟩,
    .op ⟨(some 111), (some (108, true)), (.r (.bin .eql (.t 110) (.c (.str [120]))))⟩,
    .op ⟨(some 112), none, (.r (.pick (.t 108) (.t 111) (.c (.bool false))))⟩,
    .op ⟨(some 113), none, (.r (.mv (.t 112)))⟩,
    .op ⟨(some 114), (some (113, true)), (.r (.mv (.t 15)))⟩,
    .op ⟨(some 115), (some (113, true)), (.r (.un .not (.t 114)))⟩,
    .op ⟨(some 116), none, (.r (.pick (.t 113) (.t 115) (.c (.bool false))))⟩,
    .op ⟨(some 117), none, (.r (.mv (.t 116)))⟩,
    .op ⟨(some 118), (some (117, true)), (.r (.mv (.t 17)))⟩,
    .op ⟨(some 119), (some (117, true)), (.r (.un .not (.t 118)))⟩,
    .op ⟨(some 120), none, (.r (.pick (.t 117) (.t 119) (.c (.bool false))))⟩,
    .op ⟨(some 121), none, (.r (.mv (.t 120)))⟩,
    .op ⟨(some 122), (some (121, true)), (.r (.mv (.t 1)))⟩,
    .op ⟨(some 123), (some (121, true)), (.e (.call 13 [(.t 122)]))⟩,
    .op ⟨(some 124), (some (121, true)), (.r (.un .not (.t 123)))⟩,
    .op ⟨(some 125), none, (.r (.pick (.t 121) (.t 124) (.c (.bool false))))⟩,
    .op ⟨(some 126), none, (.r (.mv (.t 125)))⟩,
    .op ⟨(some 127), (some (126, true)), (.r (.mv (.t 1)))⟩,
    .op ⟨(some 128), (some (126, true)), (.e (.call 14 [(.t 127)]))⟩,
    .op ⟨(some 129), (some (126, true)), (.r (.bin .eql (.t 128) (.c (.int .i64 (.ofNat 3)))))⟩,
    .op ⟨(some 130), none, (.r (.pick (.t 126) (.t 129) (.c (.bool false))))⟩,
    .op ⟨(some 0), none, (.r (.mv (.t 130)))⟩])
  .ret)))))))))))))) }
/-- depot/slot.New -/
def pf9 : PF := { ntmps := 31, results := [.tmp 6, .tmp 7], body :=
  (.seq (.region [.op ⟨(some 6), none, (.r (.mv (.c .nilp)))⟩,
    .op ⟨(some 7), none, (.r (.mv (.c (.int .i64 (.ofNat 0)))))⟩])
  (.seq (.seq (.region [.op ⟨(some 10), none, (.r (.mv (.t 0)))⟩,
    .op ⟨(some 11), none, (.r (.bin .lss (.t 10) (.c (.int .i64 (.ofNat 0)))))⟩,
    .op ⟨(some 12), none, (.r (.mv (.t 11)))⟩,
    .op ⟨(some 13), (some (12, false)), (.r (.mv (.t 0)))⟩,
    .op ⟨(some 14), (some (12, false)), (.r (.bin .geq (.t 13) (.c (.int .i64 (.ofNat 12)))))⟩,
    .op ⟨(some 15), none, (.r (.pick (.t 12) (.c (.bool true)) (.t 14)))⟩])
  (.cond (.t 15)
   (.seq (.region [.op ⟨(some 6), none, (.r (.mv (.c .nilp)))⟩,
     .op ⟨(some 7), none, (.r (.mv (.c (.int .i64 (.ofNat 1)))))⟩])
   .ret)
   .skip))
  (.seq (.region [.op ⟨(some 17), none, (.r (.mv (.t 1)))⟩,
    .op ⟨(some 18), none, (.r (.mv (.t 2)))⟩,
    .op ⟨(some 19), none, (.e (.call 20 [(.t 17), (.t 18)]))⟩,
    .op ⟨(some 16), none, (.r (.mv (.t 19)))⟩,
    .op ⟨(some 20), none, (.r (.ext 0 (.t 16)))⟩,
    .op ⟨(some 21), none, (.r (.ext 1 (.t 16)))⟩,
    .op ⟨(some 8), none, (.r (.mv (.t 20)))⟩,
    .op ⟨(some 9), none, (.r (.mv (.t 21)))⟩])
  (.seq (.seq (.region [.op ⟨(some 22), none, (.r (.mv (.t 9)))⟩,
    .op ⟨(some 23), none, (.r (.bin .neq (.t 22) (.c (.int .i64 (.ofNat 0)))))⟩])
  (.cond (.t 23)
   (.seq (.region [.op ⟨(some 24), none, (.r (.mv (.t 9)))⟩,
     .op ⟨(some 6), none, (.r (.mv (.c .nilp)))⟩,
     .op ⟨(some 7), none, (.r (.mv (.t 24)))⟩])
   .ret)
   .skip))
  (.seq (.region [.op ⟨(some 25), none, (.r (.mv (.t 0)))⟩,
    .op ⟨(some 26), none, (.r (.mv (.t 1)))⟩,
    .op ⟨(some 27), none, (.r (.mv (.t 2)))⟩,
    .op ⟨(some 28), none, (.r (.mv (.t 8)))⟩,
    .op ⟨(some 29), none, (.r (.build [(.int .i64 (.ofNat 0)), (.int .i64 (.ofNat 0)), (.int .i64 (.ofNat 0)), (.bool false), (.int .i64 (.ofNat 0)), (.int .i64 (.ofNat 0)), .nilp, .nils] [(0, 1, (.t 25)), (1, 1, (.t 26)), (2, 1, (.t 27)), (6, 1, (.t 28))]))⟩,
    .op ⟨(some 30), none, (.n (.box (.t 29)))⟩,
    .op ⟨(some 6), none, (.r (.mv (.t 30)))⟩,
    .op ⟨(some 7), none, (.r (.mv (.c (.int .i64 (.ofNat 0)))))⟩])
  .ret))))) }
/-- (*depot/slot.Slot).Take -/
def pf10 : PF := { ntmps := 122, results := [.cell 4 true 9, .tmp 5], body :=
  (.seq (.region [.op ⟨(some 2), none, (.n (.box (.t 0)))⟩,
    .op ⟨(some 3), none, (.n (.box (.t 1)))⟩,
    .op ⟨(some 4), none, (.n (.new 0 [(.int .i64 (.ofNat 0)), (.int .i64 (.ofNat 0)), (.int .i64 (.ofNat 0)), (.int .i64 (.ofNat 0)), (.int .i64 (.ofNat 0)), (.int .i64 (.ofNat 0)), (.str []), (.int .i64 (.ofNat 0)), (.str [])]))⟩,
    .op ⟨(some 5), none, (.r (.mv (.c (.bool false))))⟩])
  (.scope (.seq (.seq (.region [.op ⟨(some 9), none, (.r (.load true 9 (.t 3)))⟩,
     .op ⟨(some 10), none, (.e (.call 15 [(.t 9)]))⟩,
     .op ⟨(some 11), none, (.r (.un .not (.t 10)))⟩,
     .op ⟨(some 12), none, (.r (.mv (.t 11)))⟩,
     .op ⟨(some 13), (some (12, false)), (.r (.faddr 0 (.t 3)))⟩,
     .op ⟨(some 14), (some (12, false)), (.r (.load false 1 (.t 13)))⟩,
     .op ⟨(some 15), (some (12, false)), (.r (.bin .geq (.t 14) (.c (.int .i64 (.ofNat 6)))))⟩,
     .op ⟨(some 16), none, (.r (.pick (.t 12) (.c (.bool true)) (.t 15)))⟩,
     .op ⟨(some 17), none, (.r (.mv (.t 16)))⟩,
     .op ⟨(some 18), (some (17, false)), (.r (.faddr 1 (.t 3)))⟩,
     .op ⟨(some 19), (some (17, false)), (.r (.load false 1 (.t 18)))⟩,
     .op ⟨(some 20), (some (17, false)), (.r (.load false 1 (.t 2)))⟩,
     .op ⟨(some 21), (some (17, false)), (.r (.nilck (.t 20)))⟩,
     .op ⟨(some 22), (some (17, false)), (.r (.faddr 0 (.t 21)))⟩,
     .op ⟨(some 23), (some (17, false)), (.r (.load false 1 (.t 22)))⟩,
     .op ⟨(some 24), (some (17, false)), (.r (.bin .neq (.t 19) (.t 23)))⟩,
     .op ⟨(some 25), none, (.r (.pick (.t 17) (.c (.bool true)) (.t 24)))⟩])
   (.cond (.t 25)
    (.seq (.region [.op ⟨(some 26), none, (.r (.build [(.int .i64 (.ofNat 0)), (.int .i64 (.ofNat 0)), (.int .i64 (.ofNat 0)), (.int .i64 (.ofNat 0)), (.int .i64 (.ofNat 0)), (.int .i64 (.ofNat 0)), (.str []), (.int .i64 (.ofNat 0)), (.str [])] []))⟩,
      .op ⟨none, none, (.e (.store 9 (.t 4) (.t 26)))⟩,
      .op ⟨(some 5), none, (.r (.mv (.c (.bool false))))⟩])
    .ret)
    .skip))
   (.seq (.seq (.region [.op ⟨(some 27), none, (.r (.faddr 0 (.t 3)))⟩,
     .op ⟨(some 28), none, (.r (.load false 1 (.t 27)))⟩,
     .op ⟨(some 29), none, (.r (.bin .eql (.t 28) (.c (.int .i64 (.ofNat 5)))))⟩])
   (.cond (.t 29)
    (.seq (.region [.op ⟨(some 30), none, (.r (.load false 1 (.t 2)))⟩,
      .op ⟨(some 31), none, (.r (.load true 9 (.t 3)))⟩,
      .op ⟨(some 32), none, (.e (.call 21 [(.t 30), (.t 31)]))⟩,
      .op ⟨(some 33), none, (.r (.ext 0 (.t 32)))⟩,
      .op ⟨(some 34), none, (.r (.ext 1 (.t 32)))⟩,
      .op ⟨none, none, (.e (.store 9 (.t 4) (.t 33)))⟩,
      .op ⟨(some 5), none, (.r (.mv (.t 34)))⟩])
    .ret)
    .skip))
   (.seq (.seq (.region [.op ⟨(some 35), none, (.r (.load false 1 (.t 2)))⟩,
     .op ⟨(some 36), none, (.r (.nilck (.t 35)))⟩,
     .op ⟨(some 37), none, (.r (.faddr 3 (.t 36)))⟩,
     .op ⟨(some 38), none, (.r (.load false 1 (.t 37)))⟩,
     .op ⟨(some 39), none, (.r (.un .not (.t 38)))⟩,
     .op ⟨(some 40), none, (.r (.mv (.t 39)))⟩,
     .op ⟨(some 41), (some (40, false)), (.r (.faddr 2 (.t 3)))⟩,
     .op ⟨(some 42), (some (40, false)), (.r (.load false 1 (.t 41)))⟩,
     .op ⟨(some 43), (some (40, false)), (.r (.load false 1 (.t 2)))⟩,
     .op ⟨(some 44), (some (40, false)), (.r (.nilck (.t 43)))⟩,
     .op ⟨(some 45), (some (40, false)), (.r (.faddr 4 (.t 44)))⟩,
     .op ⟨(some 46), (some (40, false)), (.r (.load false 1 (.t 45)))⟩,
     .op ⟨(some 47), (some (40, false)), (.r (.bin .neq (.t 42) (.t 46)))⟩,
     .op ⟨(some 48), none, (.r (.pick (.t 40) (.c (.bool true)) (.t 47)))⟩,
     .op ⟨(some 49), none, (.r (.mv (.t 48)))⟩,
     .op ⟨(some 50), (some (49, false)), (.r (.faddr 3 (.t 3)))⟩,
     .op ⟨(some 51), (some (49, false)), (.r (.load false 1 (.t 50)))⟩,
     .op ⟨(some 52), (some (49, false)), (.r (.load false 1 (.t 2)))⟩,
     .op ⟨(some 53), (some (49, false)), (.r (.nilck (.t 52)))⟩,
     .op ⟨(some 54), (some (49, false)), (.r (.faddr 5 (.t 53)))⟩,
     .op ⟨(some 55), (some (49, false)), (.r (.load false 1 (.t 54)))⟩,
     .op ⟨(some 56), (some (49, false)), (.r (.bin .lss (.t 51) (.t 55)))⟩,
     .op ⟨(some 57), none, (.r (.pick (.t 49) (.c (.bool true)) (.t 56)))⟩])
   (.cond (.t 57)
    (.seq (.region [.op ⟨(some 58), none, (.r (.build [(.int .i64 (.ofNat 0)), (.int .i64 (.ofNat 0)), (.int .i64 (.ofNat 0)), (.int .i64 (.ofNat 0)), (.int .i64 (.ofNat 0)), (.int .i64 (.ofNat 0)), (.str []), (.int .i64 (.ofNat 0)), (.str [])] []))⟩,
      .op ⟨none, none, (.e (.store 9 (.t 4) (.t 58)))⟩,
      .op ⟨(some 5), none, (.r (.mv (.c (.bool false))))⟩])
    .ret)
    .skip))
   (.seq (.seq (.region [.op ⟨(some 59), none, (.r (.faddr 4 (.t 3)))⟩,
     .op ⟨(some 60), none, (.r (.load false 1 (.t 59)))⟩,
     .op ⟨(some 61), none, (.r (.load false 1 (.t 2)))⟩,
     .op ⟨(some 62), none, (.r (.nilck (.t 61)))⟩,
     .op ⟨(some 63), none, (.r (.faddr 5 (.t 62)))⟩,
     .op ⟨(some 64), none, (.r (.load false 1 (.t 63)))⟩,
     .op ⟨(some 65), none, (.r (.bin .gtr (.t 60) (.t 64)))⟩])
   (.cond (.t 65)
    (.seq (.region [.op ⟨(some 66), none, (.r (.load false 1 (.t 2)))⟩,
      .op ⟨(some 67), none, (.r (.faddr 4 (.t 3)))⟩,
      .op ⟨(some 68), none, (.r (.load false 1 (.t 67)))⟩,
      .op ⟨(some 69), none, (.r (.nilck (.t 66)))⟩,
      .op ⟨(some 70), none, (.r (.faddr 5 (.t 69)))⟩,
      .op ⟨none, none, (.e (.store 1 (.t 70) (.t 68)))⟩])
    (.region [.op ⟨(some 71), none, (.r (.load false 1 (.t 2)))⟩,
      .op ⟨(some 72), none, (.r (.load false 1 (.t 2)))⟩,
      .op ⟨(some 73), none, (.r (.nilck (.t 72)))⟩,
      .op ⟨(some 74), none, (.r (.faddr 7 (.t 73)))⟩,
      .op ⟨(some 75), none, (.r (.load false 1 (.t 74)))⟩,
      .op ⟨(some 76), none, (.r (.mkfn 23 [(.t 2)]))⟩,
      .op ⟨(some 77), none, (.e (.call 22 [(.t 75), (.t 76)]))⟩,
      .again ⟨(some 71), none, (.r (.load false 1 (.t 2)))⟩,
      .op ⟨(some 78), none, (.r (.nilck (.t 71)))⟩,
      .op ⟨(some 79), none, (.r (.faddr 7 (.t 78)))⟩,
      .op ⟨none, none, (.e (.store 1 (.t 79) (.t 77)))⟩]))
    .skip))
   (.seq (.seq (.region [.op ⟨(some 80), none, (.r (.faddr 3 (.t 3)))⟩,
     .op ⟨(some 81), none, (.r (.load false 1 (.t 80)))⟩,
     .op ⟨(some 82), none, (.r (.load false 1 (.t 2)))⟩,
     .op ⟨(some 83), none, (.r (.nilck (.t 82)))⟩,
     .op ⟨(some 84), none, (.r (.faddr 5 (.t 83)))⟩,
     .op ⟨(some 85), none, (.r (.load false 1 (.t 84)))⟩,
     .op ⟨(some 86), none, (.r (.bin .lss (.t 81) (.t 85)))⟩])
   (.cond (.t 86)
    (.seq (.region [.op ⟨(some 87), none, (.r (.build [(.int .i64 (.ofNat 0)), (.int .i64 (.ofNat 0)), (.int .i64 (.ofNat 0)), (.int .i64 (.ofNat 0)), (.int .i64 (.ofNat 0)), (.int .i64 (.ofNat 0)), (.str []), (.int .i64 (.ofNat 0)), (.str [])] []))⟩,
      .op ⟨none, none, (.e (.store 9 (.t 4) (.t 87)))⟩,
      .op ⟨(some 5), none, (.r (.mv (.c (.bool false))))⟩])
    .ret)
    .skip))
   (.seq .skip
   (.seq (.seq (.region [.op ⟨(some 88), none, (.r (.load false 1 (.t 2)))⟩,
     .op ⟨(some 89), none, (.r (.nilck (.t 88)))⟩,
     .op ⟨(some 90), none, (.r (.faddr 7 (.t 89)))⟩,
     .op ⟨(some 91), none, (.r (.load false 1 (.t 90)))⟩,
     .op ⟨(some 92), none, (.r (.lensl (.t 91)))⟩,
     .op ⟨(some 93), none, (.r (.mv (.c (.int .i64 (.ofNat 0)))))⟩])
   (.block 0 (.loop (.seq (.region [.op ⟨(some 94), none, (.r (.bin .lss (.t 93) (.t 92)))⟩])
     (.seq (.cond (.t 94)
      .skip
      (.exit 0))
     (.seq (.block 1 (.seq (.region [.op ⟨(some 95), none, (.r (.iasl 10 (.t 91) (.t 93)))⟩,
        .op ⟨(some 96), none, (.r (.load true 10 (.t 95)))⟩,
        .op ⟨(some 7), none, (.n (.new 0 [(.int .i64 (.ofNat 0)), (.int .i64 (.ofNat 0)), (.int .i64 (.ofNat 0)), (.int .i64 (.ofNat 0)), (.int .i64 (.ofNat 0)), (.int .i64 (.ofNat 0)), (.int .i64 (.ofNat 0)), (.str []), (.int .i64 (.ofNat 0)), (.str [])]))⟩,
        .op ⟨none, none, (.e (.store 10 (.t 7) (.t 96)))⟩])
      (.seq (.seq (.region [.op ⟨(some 97), none, (.r (.faddr 0 (.t 7)))⟩,
        .op ⟨(some 98), none, (.r (.load false 1 (.t 97)))⟩,
        .op ⟨(some 99), none, (.r (.faddr 3 (.t 3)))⟩,
        .op ⟨(some 100), none, (.r (.load false 1 (.t 99)))⟩,
        .op ⟨(some 101), none, (.r (.bin .neq (.t 98) (.t 100)))⟩])
      (.cond (.t 101)
       (.exit 1)
       .skip))
      (.seq (.region [.op ⟨(some 102), none, (.r (.faddr 1 (.t 7)))⟩,
        .op ⟨(some 103), none, (.r (.load true 9 (.t 102)))⟩,
        .op ⟨none, none, (.e (.store 9 (.t 4) (.t 103)))⟩,
        .op ⟨(some 5), none, (.r (.mv (.c (.bool true))))⟩])
      .ret))))
     (.region [.op ⟨(some 104), none, (.r (.bin .add (.t 93) (.c (.int .i64 (.ofNat 1)))))⟩,
       .op ⟨(some 93), none, (.r (.mv (.t 104)))⟩])))))))
   (.seq (.region [.op ⟨(some 105), none, (.r (.load false 1 (.t 2)))⟩,
     .op ⟨(some 106), none, (.r (.load true 9 (.t 3)))⟩,
     .op ⟨(some 107), none, (.e (.call 24 [(.t 105), (.t 106)]))⟩,
     .op ⟨(some 8), none, (.n (.new 0 [(.int .i64 (.ofNat 0)), (.int .i64 (.ofNat 0)), (.int .i64 (.ofNat 0)), (.int .i64 (.ofNat 0)), (.int .i64 (.ofNat 0)), (.int .i64 (.ofNat 0)), (.str []), (.int .i64 (.ofNat 0)), (.str [])]))⟩,
     .op ⟨none, none, (.e (.store 9 (.t 8) (.t 107)))⟩])
   (.seq (.region [.op ⟨(some 108), none, (.r (.load false 1 (.t 2)))⟩,
     .op ⟨(some 109), none, (.r (.load false 1 (.t 2)))⟩,
     .op ⟨(some 110), none, (.r (.nilck (.t 109)))⟩,
     .op ⟨(some 111), none, (.r (.faddr 7 (.t 110)))⟩,
     .op ⟨(some 112), none, (.r (.load false 1 (.t 111)))⟩,
     .op ⟨(some 113), none, (.r (.faddr 3 (.t 3)))⟩,
     .op ⟨(some 114), none, (.r (.load false 1 (.t 113)))⟩,
     .op ⟨(some 115), none, (.r (.load true 9 (.t 8)))⟩,
     .op ⟨(some 116), none, (.r (.build [(.int .i64 (.ofNat 0)), (.int .i64 (.ofNat 0)), (.int .i64 (.ofNat 0)), (.int .i64 (.ofNat 0)), (.int .i64 (.ofNat 0)), (.int .i64 (.ofNat 0)), (.int .i64 (.ofNat 0)), (.str []), (.int .i64 (.ofNat 0)), (.str [])] [(0, 1, (.t 114)), (1, 9, (.t 115))]))⟩,
     .op ⟨(some 117), none, (.n (.bslice 0 10 1 [(.int .i64 (.ofNat 0)), (.int .i64 (.ofNat 0)), (.int .i64 (.ofNat 0)), (.int .i64 (.ofNat 0)), (.int .i64 (.ofNat 0)), (.int .i64 (.ofNat 0)), (.int .i64 (.ofNat 0)), (.str []), (.int .i64 (.ofNat 0)), (.str [])] [(0, 10, (.t 116))]))⟩,
     .op ⟨(some 118), none, (.e (.app 0 10 96 (.t 112) (.t 117)))⟩,
     .again ⟨(some 108), none, (.r (.load false 1 (.t 2)))⟩,
     .op ⟨(some 119), none, (.r (.nilck (.t 108)))⟩,
     .op ⟨(some 120), none, (.r (.faddr 7 (.t 119)))⟩,
     .op ⟨none, none, (.e (.store 1 (.t 120) (.t 118)))⟩])
   (.seq (.region [.op ⟨(some 121), none, (.r (.load true 9 (.t 8)))⟩,
     .op ⟨none, none, (.e (.store 9 (.t 4) (.t 121)))⟩,
     .op ⟨(some 5), none, (.r (.mv (.c (.bool true))))⟩])
   .ret)))))))))))) }
/-- depot/depotlaw17.ask -/
def pf11 : PF := { ntmps := 22, results := [.cell 10 true 9], body :=
  (.seq (.region [.op ⟨(some 10), none, (.n (.new 0 [(.int .i64 (.ofNat 0)), (.int .i64 (.ofNat 0)), (.int .i64 (.ofNat 0)), (.int .i64 (.ofNat 0)), (.int .i64 (.ofNat 0)), (.int .i64 (.ofNat 0)), (.str []), (.int .i64 (.ofNat 0)), (.str [])]))⟩])
  (.seq (.region [.op ⟨(some 12), none, (.r (.mv (.t 0)))⟩,
    .op ⟨(some 13), none, (.r (.mv (.t 1)))⟩,
    .op ⟨(some 14), none, (.r (.mv (.t 2)))⟩,
    .op ⟨(some 15), none, (.r (.mv (.t 3)))⟩,
    .op ⟨(some 16), none, (.r (.mv (.t 4)))⟩,
    .op ⟨(some 17), none, (.r (.build [(.int .i64 (.ofNat 0)), (.int .i64 (.ofNat 0)), (.int .i64 (.ofNat 0)), (.int .i64 (.ofNat 0)), (.int .i64 (.ofNat 0)), (.int .i64 (.ofNat 0)), (.str []), (.int .i64 (.ofNat 0)), (.str [])] [(0, 1, (.t 12)), (1, 1, (.c (.int .i64 (.ofNat 1)))), (2, 1, (.c (.int .i64 (.ofNat 3)))), (3, 1, (.t 13)), (6, 1, (.t 14)), (8, 1, (.t 15)), (7, 1, (.t 16))]))⟩,
    .op ⟨(some 11), none, (.n (.new 0 [(.int .i64 (.ofNat 0)), (.int .i64 (.ofNat 0)), (.int .i64 (.ofNat 0)), (.int .i64 (.ofNat 0)), (.int .i64 (.ofNat 0)), (.int .i64 (.ofNat 0)), (.str []), (.int .i64 (.ofNat 0)), (.str [])]))⟩,
    .op ⟨none, none, (.e (.store 9 (.t 11) (.t 17)))⟩])
  (.seq (.seq (.region [.op ⟨(some 18), none, (.r (.mv (.t 0)))⟩,
    .op ⟨(some 19), none, (.r (.bin .neq (.t 18) (.c (.int .i64 (.ofNat 5)))))⟩])
  (.cond (.t 19)
   (.region [.op ⟨(some 20), none, (.r (.faddr 5 (.t 11)))⟩,
     .op ⟨none, none, (.e (.store 1 (.t 20) (.c (.int .i64 (.ofNat 1)))))⟩])
   .skip))
  (.seq (.region [.op ⟨(some 21), none, (.r (.load true 9 (.t 11)))⟩,
    .op ⟨none, none, (.e (.store 9 (.t 10) (.t 21)))⟩])
  .ret)))) }
/-- (*depot/slot.Slot).Wipe -/
def pf12 : PF := { ntmps := 7, results := [], body :=
  (.seq (.region [.op ⟨(some 2), none, (.r (.mv (.t 0)))⟩,
    .op ⟨(some 3), none, (.e (.call 25 [(.t 2)]))⟩])
  (.region [.op ⟨(some 4), none, (.r (.mv (.t 0)))⟩,
    .op ⟨(some 5), none, (.r (.nilck (.t 4)))⟩,
    .op ⟨(some 6), none, (.r (.faddr 3 (.t 5)))⟩,
    .op ⟨none, none, (.e (.store 1 (.t 6) (.c (.bool false))))⟩])) }
/-- (*depot/slot.Slot).On -/
def pf13 : PF := { ntmps := 7, results := [.tmp 2], body :=
  (.seq (.region [.op ⟨(some 2), none, (.r (.mv (.c (.bool false))))⟩])
  (.seq (.region [.op ⟨(some 3), none, (.r (.mv (.t 0)))⟩,
    .op ⟨(some 4), none, (.r (.nilck (.t 3)))⟩,
    .op ⟨(some 5), none, (.r (.faddr 3 (.t 4)))⟩,
    .op ⟨(some 6), none, (.r (.load false 1 (.t 5)))⟩,
    .op ⟨(some 2), none, (.r (.mv (.t 6)))⟩])
  .ret)) }
/-- (*depot/slot.Slot).Inc -/
def pf14 : PF := { ntmps := 7, results := [.tmp 2], body :=
  (.seq (.region [.op ⟨(some 2), none, (.r (.mv (.c (.int .i64 (.ofNat 0)))))⟩])
  (.seq (.region [.op ⟨(some 3), none, (.r (.mv (.t 0)))⟩,
    .op ⟨(some 4), none, (.r (.nilck (.t 3)))⟩,
    .op ⟨(some 5), none, (.r (.faddr 4 (.t 4)))⟩,
    .op ⟨(some 6), none, (.r (.load false 1 (.t 5)))⟩,
    .op ⟨(some 2), none, (.r (.mv (.t 6)))⟩])
  .ret)) }
/-- depot/wire.Right -/
def pf15 : PF := { ntmps := 57, results := [.tmp 2], body :=
  (.seq (.region [.op ⟨(some 1), none, (.n (.box (.t 0)))⟩,
    .op ⟨(some 2), none, (.r (.mv (.c (.bool false))))⟩])
  (.seq (.seq (.region [.op ⟨(some 4), none, (.r (.faddr 0 (.t 1)))⟩,
    .op ⟨(some 5), none, (.r (.load false 1 (.t 4)))⟩,
    .op ⟨(some 6), none, (.r (.bin .lss (.t 5) (.c (.int .i64 (.ofNat 1)))))⟩,
    .op ⟨(some 7), none, (.r (.mv (.t 6)))⟩,
    .op ⟨(some 8), (some (7, false)), (.r (.faddr 0 (.t 1)))⟩,
    .op ⟨(some 9), (some (7, false)), (.r (.load false 1 (.t 8)))⟩,
    .op ⟨(some 10), (some (7, false)), (.r (.bin .gtr (.t 9) (.c (.int .i64 (.ofNat 7)))))⟩,
    .op ⟨(some 11), none, (.r (.pick (.t 7) (.c (.bool true)) (.t 10)))⟩,
    .op ⟨(some 12), none, (.r (.mv (.t 11)))⟩,
    .op ⟨(some 13), (some (12, false)), (.r (.faddr 1 (.t 1)))⟩,
    .op ⟨(some 14), (some (12, false)), (.r (.load false 1 (.t 13)))⟩,
    .op ⟨(some 15), (some (12, false)), (.e (.call 26 [(.t 14), (.c (.int .i64 (.ofNat 11)))]))⟩,
    .op ⟨(some 16), (some (12, false)), (.r (.un .not (.t 15)))⟩,
    .op ⟨(some 17), none, (.r (.pick (.t 12) (.c (.bool true)) (.t 16)))⟩,
    .op ⟨(some 18), none, (.r (.mv (.t 17)))⟩,
    .op ⟨(some 19), (some (18, false)), (.r (.faddr 0 (.t 1)))⟩,
    .op ⟨(some 20), (some (18, false)), (.r (.load false 1 (.t 19)))⟩,
    .op ⟨(some 21), (some (18, false)), (.r (.faddr 5 (.t 1)))⟩,
    .op ⟨(some 22), (some (18, false)), (.r (.load false 1 (.t 21)))⟩,
    .op ⟨(some 23), (some (18, false)), (.e (.call 27 [(.t 20), (.t 22)]))⟩,
    .op ⟨(some 24), (some (18, false)), (.r (.un .not (.t 23)))⟩,
    .op ⟨(some 25), none, (.r (.pick (.t 18) (.c (.bool true)) (.t 24)))⟩])
  (.cond (.t 25)
   (.seq (.region [.op ⟨(some 2), none, (.r (.mv (.c (.bool false))))⟩])
   .ret)
   .skip))
  (.seq (.region [.op ⟨(some 26), none, (.r (.faddr 2 (.t 1)))⟩,
    .op ⟨(some 27), none, (.r (.load false 1 (.t 26)))⟩,
    .op ⟨(some 28), none, (.e (.call 26 [(.t 27), (.c (.int .i64 (.ofNat 1099511627776)))]))⟩,
    .op ⟨(some 29), none, (.r (.mv (.t 28)))⟩,
    .op ⟨(some 30), (some (29, true)), (.r (.faddr 3 (.t 1)))⟩,
    .op ⟨(some 31), (some (29, true)), (.r (.load false 1 (.t 30)))⟩,
    .op ⟨(some 32), (some (29, true)), (.e (.call 26 [(.t 31), (.c (.int .i64 (.ofNat 1099511627776)))]))⟩,
    .op ⟨(some 33), none, (.r (.pick (.t 29) (.t 32) (.c (.bool false))))⟩,
    .op ⟨(some 34), none, (.r (.mv (.t 33)))⟩,
    .op ⟨(some 35), (some (34, true)), (.r (.faddr 4 (.t 1)))⟩,
    .op ⟨(some 36), (some (34, true)), (.r (.load false 1 (.t 35)))⟩,
    .op ⟨(some 37), (some (34, true)), (.e (.call 26 [(.t 36), (.c (.int .i64 (.ofNat 1099511627776)))]))⟩,
    .op ⟨(some 38), none, (.r (.pick (.t 34) (.t 37) (.c (.bool false))))⟩,
    .op ⟨(some 39), none, (.r (.mv (.t 38)))⟩,
    .op ⟨(some 40), (some (39, true)), (.r (.faddr 7 (.t 1)))⟩,
    .op ⟨(some 41), (some (39, true)), (.r (.load false 1 (.t 40)))⟩,
    .op ⟨(some 42), (some (39, true)), (.e (.call 26 [(.t 41), (.c (.int .i64 (.ofNat 1099511627776)))]))⟩,
    .op ⟨(some 43), none, (.r (.pick (.t 39) (.t 42) (.c (.bool false))))⟩,
    .op ⟨(some 3), none, (.r (.mv (.t 43)))⟩])
  (.seq (.region [.op ⟨(some 44), none, (.r (.mv (.t 3)))⟩,
    .op ⟨(some 45), none, (.r (.mv (.t 44)))⟩,
    .op ⟨(some 46), (some (45, true)), (.r (.faddr 6 (.t 1)))⟩,
    .op ⟨(some 47), (some (45, true)), (.r (.load false 1 (.t 46)))⟩,
    .op ⟨(some 48), (some (45, true)), (.r (.lens (.t 47)))⟩,
    .op ⟨(some 49), (some (45, true)), (.r (.bin .leq (.t 48) (.c (.int .i64 (.ofNat 250)))))⟩,
    .op ⟨(some 50), none, (.r (.pick (.t 45) (.t 49) (.c (.bool false))))⟩,
    .op ⟨(some 51), none, (.r (.mv (.t 50)))⟩,
    .op ⟨(some 52), (some (51, true)), (.r (.faddr 8 (.t 1)))⟩,
    .op ⟨(some 53), (some (51, true)), (.r (.load false 1 (.t 52)))⟩,
    .op ⟨(some 54), (some (51, true)), (.r (.lens (.t 53)))⟩,
    .op ⟨(some 55), (some (51, true)), (.r (.bin .leq (.t 54) (.c (.int .i64 (.ofNat 1049600)))))⟩,
    .op ⟨(some 56), none, (.r (.pick (.t 51) (.t 55) (.c (.bool false))))⟩,
    .op ⟨(some 2), none, (.r (.mv (.t 56)))⟩])
  .ret)))) }
/-- depot/item.New -/
def pf20 : PF := { ntmps := 22, results := [.tmp 4, .tmp 5], body :=
  (.seq (.region [.op ⟨(some 4), none, (.r (.mv (.c .nilp)))⟩,
    .op ⟨(some 5), none, (.r (.mv (.c (.int .i64 (.ofNat 0)))))⟩])
  (.seq (.region [.op ⟨(some 9), none, (.r (.mv (.t 0)))⟩,
    .op ⟨(some 10), none, (.r (.mv (.t 1)))⟩,
    .op ⟨(some 11), none, (.e (.call 31 [(.t 9), (.t 10)]))⟩,
    .op ⟨(some 8), none, (.r (.mv (.t 11)))⟩,
    .op ⟨(some 12), none, (.r (.ext 0 (.t 8)))⟩,
    .op ⟨(some 13), none, (.r (.ext 1 (.t 8)))⟩,
    .op ⟨(some 6), none, (.r (.mv (.t 12)))⟩,
    .op ⟨(some 7), none, (.r (.mv (.t 13)))⟩])
  (.seq (.seq (.region [.op ⟨(some 14), none, (.r (.mv (.t 7)))⟩,
    .op ⟨(some 15), none, (.r (.bin .neq (.t 14) (.c (.int .i64 (.ofNat 0)))))⟩])
  (.cond (.t 15)
   (.seq (.region [.op ⟨(some 16), none, (.r (.mv (.t 7)))⟩,
     .op ⟨(some 4), none, (.r (.mv (.c .nilp)))⟩,
     .op ⟨(some 5), none, (.r (.mv (.t 16)))⟩])
   .ret)
   .skip))
  (.seq (.region [.op ⟨(some 17), none, (.r (.mv (.t 6)))⟩,
    .op ⟨(some 19), none, (.n (.mksl 0 6 56 [(.str []), (.int .i64 (.ofNat 0)), (.int .i64 (.ofNat 0)), (.bool false), (.int .i64 (.ofNat 0)), (.int .i64 (.ofNat 0))] (.c (.int .i64 (.ofNat 1))) (.c (.int .i64 (.ofNat 1)))))⟩,
    .op ⟨(some 18), none, (.e (.call 32 []))⟩,
    .op ⟨(some 20), none, (.r (.build [.nilp, .nilp, .nils, .nils] [(0, 1, (.t 17)), (1, 1, (.t 18)), (2, 1, (.t 19))]))⟩,
    .op ⟨(some 21), none, (.n (.box (.t 20)))⟩,
    .op ⟨(some 4), none, (.r (.mv (.t 21)))⟩,
    .op ⟨(some 5), none, (.r (.mv (.c (.int .i64 (.ofNat 0)))))⟩])
  .ret)))) }
/-- (*depot/slot.Slot).reset -/
def pf21 : PF := { ntmps := 49, results := [.cell 4 true 9, .tmp 5], body :=
  (.seq (.region [.op ⟨(some 3), none, (.n (.box (.t 1)))⟩,
    .op ⟨(some 4), none, (.n (.new 0 [(.int .i64 (.ofNat 0)), (.int .i64 (.ofNat 0)), (.int .i64 (.ofNat 0)), (.int .i64 (.ofNat 0)), (.int .i64 (.ofNat 0)), (.int .i64 (.ofNat 0)), (.str []), (.int .i64 (.ofNat 0)), (.str [])]))⟩,
    .op ⟨(some 5), none, (.r (.mv (.c (.bool false))))⟩])
  (.seq (.seq (.region [.op ⟨(some 6), none, (.r (.faddr 2 (.t 3)))⟩,
    .op ⟨(some 7), none, (.r (.load false 1 (.t 6)))⟩,
    .op ⟨(some 8), none, (.r (.mv (.t 0)))⟩,
    .op ⟨(some 9), none, (.r (.nilck (.t 8)))⟩,
    .op ⟨(some 10), none, (.r (.faddr 4 (.t 9)))⟩,
    .op ⟨(some 11), none, (.r (.load false 1 (.t 10)))⟩,
    .op ⟨(some 12), none, (.r (.bin .gtr (.t 7) (.t 11)))⟩])
  (.cond (.t 12)
   (.seq (.region [.op ⟨(some 13), none, (.r (.mv (.t 0)))⟩,
     .op ⟨(some 14), none, (.e (.call 25 [(.t 13)]))⟩])
   (.region [.op ⟨(some 15), none, (.r (.mv (.t 0)))⟩,
     .op ⟨(some 16), none, (.r (.mv (.t 0)))⟩,
     .op ⟨(some 17), none, (.r (.faddr 2 (.t 3)))⟩,
     .op ⟨(some 18), none, (.r (.load false 1 (.t 17)))⟩,
     .op ⟨(some 19), none, (.r (.nilck (.t 15)))⟩,
     .op ⟨(some 20), none, (.r (.faddr 3 (.t 19)))⟩,
     .op ⟨none, none, (.e (.store 1 (.t 20) (.c (.bool true))))⟩,
     .again ⟨(some 18), none, (.r (.load false 1 (.t 17)))⟩,
     .op ⟨(some 21), none, (.r (.nilck (.t 16)))⟩,
     .op ⟨(some 22), none, (.r (.faddr 4 (.t 21)))⟩,
     .op ⟨none, none, (.e (.store 1 (.t 22) (.t 18)))⟩]))
   .skip))
  (.seq (.seq (.region [.op ⟨(some 23), none, (.r (.mv (.t 0)))⟩,
    .op ⟨(some 24), none, (.r (.nilck (.t 23)))⟩,
    .op ⟨(some 25), none, (.r (.faddr 3 (.t 24)))⟩,
    .op ⟨(some 26), none, (.r (.load false 1 (.t 25)))⟩,
    .op ⟨(some 27), none, (.r (.un .not (.t 26)))⟩,
    .op ⟨(some 28), none, (.r (.mv (.t 27)))⟩,
    .op ⟨(some 29), (some (28, false)), (.r (.faddr 2 (.t 3)))⟩,
    .op ⟨(some 30), (some (28, false)), (.r (.load false 1 (.t 29)))⟩,
    .op ⟨(some 31), (some (28, false)), (.r (.mv (.t 0)))⟩,
    .op ⟨(some 32), (some (28, false)), (.r (.nilck (.t 31)))⟩,
    .op ⟨(some 33), (some (28, false)), (.r (.faddr 4 (.t 32)))⟩,
    .op ⟨(some 34), (some (28, false)), (.r (.load false 1 (.t 33)))⟩,
    .op ⟨(some 35), (some (28, false)), (.r (.bin .neq (.t 30) (.t 34)))⟩,
    .op ⟨(some 36), none, (.r (.pick (.t 28) (.c (.bool true)) (.t 35)))⟩])
  (.cond (.t 36)
   (.seq (.region [.op ⟨(some 37), none, (.r (.build [(.int .i64 (.ofNat 0)), (.int .i64 (.ofNat 0)), (.int .i64 (.ofNat 0)), (.int .i64 (.ofNat 0)), (.int .i64 (.ofNat 0)), (.int .i64 (.ofNat 0)), (.str []), (.int .i64 (.ofNat 0)), (.str [])] []))⟩,
     .op ⟨none, none, (.e (.store 9 (.t 4) (.t 37)))⟩,
     .op ⟨(some 5), none, (.r (.mv (.c (.bool false))))⟩])
   .ret)
   .skip))
  (.seq (.region [.op ⟨(some 38), none, (.r (.mv (.t 0)))⟩,
    .op ⟨(some 39), none, (.r (.nilck (.t 38)))⟩,
    .op ⟨(some 40), none, (.r (.faddr 0 (.t 39)))⟩,
    .op ⟨(some 41), none, (.r (.load false 1 (.t 40)))⟩,
    .op ⟨(some 42), none, (.r (.mv (.t 0)))⟩,
    .op ⟨(some 43), none, (.r (.nilck (.t 42)))⟩,
    .op ⟨(some 44), none, (.r (.faddr 4 (.t 43)))⟩,
    .op ⟨(some 45), none, (.r (.load false 1 (.t 44)))⟩,
    .op ⟨(some 46), none, (.r (.faddr 3 (.t 3)))⟩,
    .op ⟨(some 47), none, (.r (.load false 1 (.t 46)))⟩,
    .op ⟨(some 48), none, (.r (.build [(.int .i64 (.ofNat 0)), (.int .i64 (.ofNat 0)), (.int .i64 (.ofNat 0)), (.int .i64 (.ofNat 0)), (.int .i64 (.ofNat 0)), (.int .i64 (.ofNat 0)), (.str []), (.int .i64 (.ofNat 0)), (.str [])] [(0, 1, (.c (.int .i64 (.ofNat 6)))), (1, 1, (.t 41)), (2, 1, (.t 45)), (3, 1, (.t 47))]))⟩,
    .op ⟨none, none, (.e (.store 9 (.t 4) (.t 48)))⟩,
    .op ⟨(some 5), none, (.r (.mv (.c (.bool true))))⟩])
  .ret)))) }
/-- slices.DeleteFunc[[]depot/slot.did,depot/slot.did] -/
def pf22 : PF := { ntmps := 42, results := [.tmp 4], body :=
  (.seq (.region [.op ⟨(some 4), none, (.r (.mv (.c .nils)))⟩])
  (.seq (.region [.op ⟨(some 8), none, (.r (.mv (.t 0)))⟩,
    .op ⟨(some 9), none, (.r (.mv (.t 1)))⟩,
    .op ⟨(some 10), none, (.e (.call 33 [(.t 8), (.t 9)]))⟩,
    .op ⟨(some 5), none, (.r (.mv (.t 10)))⟩])
  (.seq (.seq (.region [.op ⟨(some 11), none, (.r (.mv (.t 5)))⟩,
    .op ⟨(some 12), none, (.r (.bin .eql (.t 11) (.c (.int .i64 (.negSucc 0)))))⟩])
  (.cond (.t 12)
   (.seq (.region [.op ⟨(some 13), none, (.r (.mv (.t 0)))⟩,
     .op ⟨(some 4), none, (.r (.mv (.t 13)))⟩])
   .ret)
   .skip))
  (.seq (.seq (.region [.op ⟨(some 14), none, (.r (.mv (.t 5)))⟩,
    .op ⟨(some 15), none, (.r (.bin .add (.t 14) (.c (.int .i64 (.ofNat 1)))))⟩,
    .op ⟨(some 6), none, (.r (.mv (.t 15)))⟩])
  (.block 0 (.loop (.seq (.seq (.region [.op ⟨(some 16), none, (.r (.mv (.t 6)))⟩,
      .op ⟨(some 17), none, (.r (.mv (.t 0)))⟩,
      .op ⟨(some 18), none, (.r (.lensl (.t 17)))⟩,
      .op ⟨(some 19), none, (.r (.bin .lss (.t 16) (.t 18)))⟩])
    (.cond (.t 19)
     .skip
     (.exit 0)))
    (.seq (.block 1 (.seq (.region [.op ⟨(some 22), none, (.r (.mv (.t 0)))⟩,
       .op ⟨(some 23), none, (.r (.mv (.t 6)))⟩,
       .op ⟨(some 24), none, (.r (.iasl 10 (.t 22) (.t 23)))⟩,
       .op ⟨(some 25), none, (.r (.load true 10 (.t 24)))⟩,
       .op ⟨(some 7), none, (.n (.new 0 [(.int .i64 (.ofNat 0)), (.int .i64 (.ofNat 0)), (.int .i64 (.ofNat 0)), (.int .i64 (.ofNat 0)), (.int .i64 (.ofNat 0)), (.int .i64 (.ofNat 0)), (.int .i64 (.ofNat 0)), (.str []), (.int .i64 (.ofNat 0)), (.str [])]))⟩,
       .op ⟨none, none, (.e (.store 10 (.t 7) (.t 25)))⟩])
     (.seq (.region [.op ⟨(some 26), none, (.r (.mv (.t 1)))⟩,
       .op ⟨(some 27), none, (.r (.load true 10 (.t 7)))⟩,
       .op ⟨(some 28), none, (.e (.callv (.t 26) [(.t 27)]))⟩,
       .op ⟨(some 29), none, (.r (.un .not (.t 28)))⟩])
     (.cond (.t 29)
      (.seq (.region [.op ⟨(some 30), none, (.r (.mv (.t 0)))⟩,
        .op ⟨(some 31), none, (.r (.mv (.t 5)))⟩,
        .op ⟨(some 32), none, (.r (.load true 10 (.t 7)))⟩,
        .op ⟨(some 33), none, (.r (.iasl 10 (.t 30) (.t 31)))⟩,
        .op ⟨none, none, (.e (.store 10 (.t 33) (.t 32)))⟩])
      (.region [.op ⟨(some 34), none, (.r (.mv (.t 5)))⟩,
        .op ⟨(some 35), none, (.r (.bin .add (.t 34) (.c (.int .i64 (.ofNat 1)))))⟩,
        .op ⟨(some 5), none, (.r (.mv (.t 35)))⟩]))
      .skip))))
    (.region [.op ⟨(some 20), none, (.r (.mv (.t 6)))⟩,
      .op ⟨(some 21), none, (.r (.bin .add (.t 20) (.c (.int .i64 (.ofNat 1)))))⟩,
      .op ⟨(some 6), none, (.r (.mv (.t 21)))⟩]))))))
  (.seq (.region [.op ⟨(some 36), none, (.r (.mv (.t 0)))⟩,
    .op ⟨(some 37), none, (.r (.mv (.t 5)))⟩,
    .op ⟨(some 38), none, (.r (.slsl 10 (.t 36) (some (.t 37)) none none))⟩,
    .op ⟨none, none, (.e (.clear [(.int .i64 (.ofNat 0)), (.int .i64 (.ofNat 0)), (.int .i64 (.ofNat 0)), (.int .i64 (.ofNat 0)), (.int .i64 (.ofNat 0)), (.int .i64 (.ofNat 0)), (.int .i64 (.ofNat 0)), (.str []), (.int .i64 (.ofNat 0)), (.str [])] (.t 38)))⟩])
  (.seq (.region [.op ⟨(some 39), none, (.r (.mv (.t 0)))⟩,
    .op ⟨(some 40), none, (.r (.mv (.t 5)))⟩,
    .op ⟨(some 41), none, (.r (.slsl 10 (.t 39) none (some (.t 40)) none))⟩,
    .op ⟨(some 4), none, (.r (.mv (.t 41)))⟩])
  .ret)))))) }
/-- (*depot/slot.Slot).Take$1 -/
def pf23 : PF := { ntmps := 11, results := [.tmp 3], body :=
  (.seq (.region [.op ⟨(some 2), none, (.n (.box (.t 0)))⟩,
    .op ⟨(some 3), none, (.r (.mv (.c (.bool false))))⟩])
  (.seq (.region [.op ⟨(some 4), none, (.r (.faddr 0 (.t 2)))⟩,
    .op ⟨(some 5), none, (.r (.load false 1 (.t 4)))⟩,
    .op ⟨(some 6), none, (.r (.load false 1 (.t 1)))⟩,
    .op ⟨(some 7), none, (.r (.nilck (.t 6)))⟩,
    .op ⟨(some 8), none, (.r (.faddr 5 (.t 7)))⟩,
    .op ⟨(some 9), none, (.r (.load false 1 (.t 8)))⟩,
    .op ⟨(some 10), none, (.r (.bin .lss (.t 5) (.t 9)))⟩,
    .op ⟨(some 3), none, (.r (.mv (.t 10)))⟩])
  .ret)) }
/-- (*depot/slot.Slot).do -/
def pf24 : PF := { ntmps := 115, results := [.cell 4 true 9], body :=
  (.seq (.region [.op ⟨(some 3), none, (.n (.box (.t 1)))⟩,
    .op ⟨(some 4), none, (.n (.new 0 [(.int .i64 (.ofNat 0)), (.int .i64 (.ofNat 0)), (.int .i64 (.ofNat 0)), (.int .i64 (.ofNat 0)), (.int .i64 (.ofNat 0)), (.int .i64 (.ofNat 0)), (.str []), (.int .i64 (.ofNat 0)), (.str [])]))⟩])
  (.seq (.region [.op ⟨(some 11), none, (.r (.mv (.t 0)))⟩,
    .op ⟨(some 12), none, (.r (.nilck (.t 11)))⟩,
    .op ⟨(some 13), none, (.r (.faddr 0 (.t 12)))⟩,
    .op ⟨(some 14), none, (.r (.load false 1 (.t 13)))⟩,
    .op ⟨(some 15), none, (.r (.mv (.t 0)))⟩,
    .op ⟨(some 16), none, (.r (.nilck (.t 15)))⟩,
    .op ⟨(some 17), none, (.r (.faddr 4 (.t 16)))⟩,
    .op ⟨(some 18), none, (.r (.load false 1 (.t 17)))⟩,
    .op ⟨(some 19), none, (.r (.faddr 3 (.t 3)))⟩,
    .op ⟨(some 20), none, (.r (.load false 1 (.t 19)))⟩,
    .op ⟨(some 21), none, (.r (.faddr 5 (.t 3)))⟩,
    .op ⟨(some 22), none, (.r (.load false 1 (.t 21)))⟩,
    .op ⟨(some 23), none, (.r (.faddr 6 (.t 3)))⟩,
    .op ⟨(some 24), none, (.r (.load false 1 (.t 23)))⟩,
    .op ⟨(some 25), none, (.r (.build [(.int .i64 (.ofNat 0)), (.int .i64 (.ofNat 0)), (.int .i64 (.ofNat 0)), (.int .i64 (.ofNat 0)), (.int .i64 (.ofNat 0)), (.int .i64 (.ofNat 0)), (.str []), (.int .i64 (.ofNat 0)), (.str [])] [(0, 1, (.c (.int .i64 (.ofNat 6)))), (1, 1, (.t 14)), (2, 1, (.t 18)), (3, 1, (.t 20)), (5, 1, (.t 22)), (6, 1, (.t 24))]))⟩,
    .op ⟨(some 5), none, (.n (.new 0 [(.int .i64 (.ofNat 0)), (.int .i64 (.ofNat 0)), (.int .i64 (.ofNat 0)), (.int .i64 (.ofNat 0)), (.int .i64 (.ofNat 0)), (.int .i64 (.ofNat 0)), (.str []), (.int .i64 (.ofNat 0)), (.str [])]))⟩,
    .op ⟨none, none, (.e (.store 9 (.t 5) (.t 25)))⟩])
  (.seq (.seq (.region [.op ⟨(some 26), none, (.r (.faddr 0 (.t 3)))⟩,
    .op ⟨(some 27), none, (.r (.load false 1 (.t 26)))⟩,
    .op ⟨(some 28), none, (.r (.bin .eql (.t 27) (.c (.int .i64 (.ofNat 4)))))⟩])
  (.cond (.t 28)
   (.seq (.region [.op ⟨(some 29), none, (.r (.mv (.t 0)))⟩,
     .op ⟨(some 30), none, (.r (.faddr 6 (.t 3)))⟩,
     .op ⟨(some 31), none, (.r (.load false 1 (.t 30)))⟩,
     .op ⟨(some 32), none, (.e (.call 34 [(.t 29), (.t 31)]))⟩,
     .op ⟨(some 33), none, (.r (.faddr 8 (.t 5)))⟩,
     .op ⟨none, none, (.e (.store 1 (.t 33) (.t 32)))⟩])
   (.seq (.region [.op ⟨(some 34), none, (.r (.load true 9 (.t 5)))⟩,
     .op ⟨none, none, (.e (.store 9 (.t 4) (.t 34)))⟩])
   .ret))
   .skip))
  (.seq (.region [.op ⟨(some 36), none, (.r (.mv (.t 0)))⟩,
    .op ⟨(some 37), none, (.r (.load true 9 (.t 3)))⟩,
    .op ⟨(some 38), none, (.e (.call 35 [(.t 36), (.t 37)]))⟩,
    .op ⟨(some 35), none, (.r (.mv (.t 38)))⟩,
    .op ⟨(some 39), none, (.r (.ext 0 (.t 35)))⟩,
    .op ⟨(some 40), none, (.r (.ext 1 (.t 35)))⟩,
    .op ⟨(some 41), none, (.r (.ext 2 (.t 35)))⟩,
    .op ⟨(some 6), none, (.r (.mv (.t 39)))⟩,
    .op ⟨(some 7), none, (.r (.mv (.t 40)))⟩,
    .op ⟨(some 8), none, (.r (.mv (.t 41)))⟩])
  (.seq (.seq (.region [.op ⟨(some 42), none, (.r (.faddr 0 (.t 3)))⟩,
    .op ⟨(some 43), none, (.r (.load false 1 (.t 42)))⟩])
  (.block 0 (.seq (.region [.op ⟨(some 45), none, (.r (.bin .eql (.t 43) (.c (.int .i64 (.ofNat 1)))))⟩,
     .op ⟨(some 44), none, (.r (.mv (.t 45)))⟩])
   (.cond (.t 44)
    (.seq (.seq (.region [.op ⟨(some 46), none, (.r (.mv (.t 8)))⟩,
      .op ⟨(some 47), none, (.r (.mv (.t 46)))⟩,
      .op ⟨(some 48), (some (47, true)), (.r (.mv (.t 6)))⟩,
      .op ⟨(some 49), (some (47, true)), (.r (.faddr 7 (.t 3)))⟩,
      .op ⟨(some 50), (some (47, true)), (.r (.load false 1 (.t 49)))⟩,
      .op ⟨(some 51), (some (47, true)), (.r (.bin .gtr (.t 48) (.t 50)))⟩,
      .op ⟨(some 52), none, (.r (.pick (.t 47) (.t 51) (.c (.bool false))))⟩])
    (.cond (.t 52)
     (.seq (.region [.op ⟨(some 53), none, (.r (.mv (.t 6)))⟩,
       .op ⟨(some 54), none, (.r (.faddr 7 (.t 5)))⟩,
       .op ⟨none, none, (.e (.store 1 (.t 54) (.t 53)))⟩])
     (.seq (.region [.op ⟨(some 55), none, (.r (.load true 9 (.t 5)))⟩,
       .op ⟨none, none, (.e (.store 9 (.t 4) (.t 55)))⟩])
     .ret))
     .skip))
    (.seq (.region [.op ⟨(some 56), none, (.r (.faddr 7 (.t 3)))⟩,
      .op ⟨(some 57), none, (.r (.load false 1 (.t 56)))⟩,
      .op ⟨(some 58), none, (.r (.faddr 7 (.t 5)))⟩,
      .op ⟨none, none, (.e (.store 1 (.t 58) (.t 57)))⟩])
    (.seq (.region [.op ⟨(some 60), none, (.r (.mv (.t 0)))⟩,
      .op ⟨(some 61), none, (.r (.nilck (.t 60)))⟩,
      .op ⟨(some 62), none, (.r (.faddr 6 (.t 61)))⟩,
      .op ⟨(some 63), none, (.r (.load false 1 (.t 62)))⟩,
      .op ⟨(some 64), none, (.r (.load true 9 (.t 3)))⟩,
      .op ⟨(some 66), none, (.r (.faddr 7 (.t 3)))⟩,
      .op ⟨(some 67), none, (.r (.load false 1 (.t 66)))⟩,
      .op ⟨(some 70), none, (.r (.faddr 8 (.t 3)))⟩,
      .op ⟨(some 71), none, (.r (.load false 1 (.t 70)))⟩,
      .op ⟨(some 65), none, (.e (.call 37 [(.t 64)]))⟩,
      .again ⟨(some 71), none, (.r (.load false 1 (.t 70)))⟩,
      .again ⟨(some 67), none, (.r (.load false 1 (.t 66)))⟩,
      .again ⟨(some 63), none, (.r (.load false 1 (.t 62)))⟩,
      .op ⟨(some 68), none, (.e (.call 38 [(.c .nils), (.t 67)]))⟩,
      .again ⟨(some 71), none, (.r (.load false 1 (.t 70)))⟩,
      .again ⟨(some 63), none, (.r (.load false 1 (.t 62)))⟩,
      .op ⟨(some 69), none, (.r (.b2s (.t 68)))⟩,
      .op ⟨(some 72), none, (.r (.bin .add (.t 69) (.t 71)))⟩,
      .op ⟨(some 73), none, (.e (.call 36 [(.t 63), (.t 65), (.t 72), (.c (.bool false))]))⟩,
      .op ⟨(some 59), none, (.r (.mv (.t 73)))⟩,
      .op ⟨(some 74), none, (.r (.ext 0 (.t 59)))⟩,
      .op ⟨(some 75), none, (.r (.ext 1 (.t 59)))⟩,
      .op ⟨(some 9), none, (.r (.mv (.t 74)))⟩,
      .op ⟨(some 10), none, (.r (.mv (.t 75)))⟩])
    (.seq (.region [.op ⟨(some 76), none, (.r (.mv (.t 10)))⟩,
      .op ⟨(some 77), none, (.r (.bin .neq (.t 76) (.c (.int .i64 (.ofNat 0)))))⟩])
    (.cond (.t 77)
     (.seq (.region [.op ⟨(some 78), none, (.r (.mv (.t 0)))⟩,
       .op ⟨(some 79), none, (.r (.nilck (.t 78)))⟩,
       .op ⟨(some 80), none, (.r (.faddr 0 (.t 79)))⟩,
       .op ⟨(some 81), none, (.r (.load false 1 (.t 80)))⟩,
       .op ⟨(some 82), none, (.r (.mv (.t 0)))⟩,
       .op ⟨(some 83), none, (.r (.nilck (.t 82)))⟩,
       .op ⟨(some 84), none, (.r (.faddr 4 (.t 83)))⟩,
       .op ⟨(some 85), none, (.r (.load false 1 (.t 84)))⟩,
       .op ⟨(some 86), none, (.r (.faddr 3 (.t 3)))⟩,
       .op ⟨(some 87), none, (.r (.load false 1 (.t 86)))⟩,
       .op ⟨(some 88), none, (.r (.build [(.int .i64 (.ofNat 0)), (.int .i64 (.ofNat 0)), (.int .i64 (.ofNat 0)), (.int .i64 (.ofNat 0)), (.int .i64 (.ofNat 0)), (.int .i64 (.ofNat 0)), (.str []), (.int .i64 (.ofNat 0)), (.str [])] [(0, 1, (.c (.int .i64 (.ofNat 7)))), (1, 1, (.t 81)), (2, 1, (.t 85)), (3, 1, (.t 87))]))⟩,
       .op ⟨none, none, (.e (.store 9 (.t 4) (.t 88)))⟩])
     .ret)
     .skip)))))
    (.seq (.region [.op ⟨(some 90), none, (.r (.bin .eql (.t 43) (.c (.int .i64 (.ofNat 2)))))⟩,
      .op ⟨(some 89), none, (.r (.mv (.t 90)))⟩])
    (.cond (.t 89)
     (.region [.op ⟨(some 91), none, (.r (.mv (.t 6)))⟩,
       .op ⟨(some 92), none, (.r (.mv (.t 7)))⟩,
       .op ⟨(some 93), none, (.r (.faddr 7 (.t 5)))⟩,
       .op ⟨none, none, (.e (.store 1 (.t 93) (.t 91)))⟩,
       .op ⟨(some 94), none, (.r (.faddr 8 (.t 5)))⟩,
       .op ⟨none, none, (.e (.store 1 (.t 94) (.t 92)))⟩])
     (.seq (.region [.op ⟨(some 96), none, (.r (.bin .eql (.t 43) (.c (.int .i64 (.ofNat 3)))))⟩,
       .op ⟨(some 95), none, (.r (.mv (.t 96)))⟩])
     (.cond (.t 95)
      (.seq (.region [.op ⟨(some 97), none, (.r (.faddr 7 (.t 3)))⟩,
        .op ⟨(some 98), none, (.r (.load false 1 (.t 97)))⟩,
        .op ⟨(some 99), none, (.r (.faddr 7 (.t 5)))⟩,
        .op ⟨none, none, (.e (.store 1 (.t 99) (.t 98)))⟩])
      (.seq (.region [.op ⟨(some 100), none, (.r (.mv (.t 8)))⟩,
        .op ⟨(some 101), none, (.r (.mv (.t 100)))⟩,
        .op ⟨(some 102), (some (101, true)), (.r (.mv (.t 6)))⟩,
        .op ⟨(some 103), (some (101, true)), (.r (.faddr 7 (.t 3)))⟩,
        .op ⟨(some 104), (some (101, true)), (.r (.load false 1 (.t 103)))⟩,
        .op ⟨(some 105), (some (101, true)), (.r (.bin .leq (.t 102) (.t 104)))⟩,
        .op ⟨(some 106), none, (.r (.pick (.t 101) (.t 105) (.c (.bool false))))⟩])
      (.cond (.t 106)
       (.region [.op ⟨(some 107), none, (.r (.mv (.t 0)))⟩,
         .op ⟨(some 108), none, (.r (.nilck (.t 107)))⟩,
         .op ⟨(some 109), none, (.r (.faddr 6 (.t 108)))⟩,
         .op ⟨(some 110), none, (.r (.load false 1 (.t 109)))⟩,
         .op ⟨(some 111), none, (.r (.load true 9 (.t 3)))⟩,
         .op ⟨(some 112), none, (.e (.call 37 [(.t 111)]))⟩,
         .again ⟨(some 110), none, (.r (.load false 1 (.t 109)))⟩,
         .op ⟨(some 113), none, (.e (.call 39 [(.t 110), (.t 112)]))⟩])
       .skip)))
      .skip))))))))
  (.seq (.region [.op ⟨(some 114), none, (.r (.load true 9 (.t 5)))⟩,
    .op ⟨none, none, (.e (.store 9 (.t 4) (.t 114)))⟩])
  .ret)))))) }
/-- (*depot/slot.Slot).clear -/
def pf25 : PF := { ntmps := 23, results := [], body :=
  (.seq (.region [.op ⟨(some 3), none, (.r (.mv (.t 0)))⟩,
    .op ⟨(some 4), none, (.r (.mv (.t 0)))⟩,
    .op ⟨(some 5), none, (.r (.nilck (.t 4)))⟩,
    .op ⟨(some 6), none, (.r (.faddr 1 (.t 5)))⟩,
    .op ⟨(some 7), none, (.r (.load false 1 (.t 6)))⟩,
    .op ⟨(some 8), none, (.r (.mv (.t 0)))⟩,
    .op ⟨(some 9), none, (.r (.nilck (.t 8)))⟩,
    .op ⟨(some 10), none, (.r (.faddr 2 (.t 9)))⟩,
    .op ⟨(some 11), none, (.r (.load false 1 (.t 10)))⟩,
    .op ⟨(some 12), none, (.e (.call 20 [(.t 7), (.t 11)]))⟩,
    .op ⟨(some 2), none, (.r (.mv (.t 12)))⟩,
    .op ⟨(some 13), none, (.r (.ext 0 (.t 2)))⟩,
    .op ⟨(some 14), none, (.r (.ext 1 (.t 2)))⟩,
    .op ⟨(some 15), none, (.r (.nilck (.t 3)))⟩,
    .op ⟨(some 16), none, (.r (.faddr 6 (.t 15)))⟩,
    .op ⟨none, none, (.e (.store 1 (.t 16) (.t 13)))⟩])
  (.region [.op ⟨(some 17), none, (.r (.mv (.t 0)))⟩,
    .op ⟨(some 18), none, (.r (.mv (.t 0)))⟩,
    .op ⟨(some 19), none, (.r (.nilck (.t 17)))⟩,
    .op ⟨(some 20), none, (.r (.faddr 7 (.t 19)))⟩,
    .op ⟨none, none, (.e (.store 1 (.t 20) (.c .nils)))⟩,
    .op ⟨(some 21), none, (.r (.nilck (.t 18)))⟩,
    .op ⟨(some 22), none, (.r (.faddr 5 (.t 21)))⟩,
    .op ⟨none, none, (.e (.store 1 (.t 22) (.c (.int .i64 (.ofNat 0)))))⟩])) }
/-- depot/wire.within -/
def pf26 : PF := { ntmps := 12, results := [.tmp 4], body :=
  (.seq (.region [.op ⟨(some 4), none, (.r (.mv (.c (.bool false))))⟩])
  (.seq (.region [.op ⟨(some 5), none, (.r (.mv (.t 0)))⟩,
    .op ⟨(some 6), none, (.r (.bin .geq (.t 5) (.c (.int .i64 (.ofNat 0)))))⟩,
    .op ⟨(some 7), none, (.r (.mv (.t 6)))⟩,
    .op ⟨(some 8), (some (7, true)), (.r (.mv (.t 0)))⟩,
    .op ⟨(some 9), (some (7, true)), (.r (.mv (.t 1)))⟩,
    .op ⟨(some 10), (some (7, true)), (.r (.bin .leq (.t 8) (.t 9)))⟩,
    .op ⟨(some 11), none, (.r (.pick (.t 7) (.t 10) (.c (.bool false))))⟩,
    .op ⟨(some 4), none, (.r (.mv (.t 11)))⟩])
  .ret)) }
/-- depot/wire.role -/
def pf27 : PF := { ntmps := 30, results := [.tmp 4], body :=
  (.seq (.region [.op ⟨(some 4), none, (.r (.mv (.c (.bool false))))⟩])
  (.seq (.seq (.region [.op ⟨(some 5), none, (.r (.mv (.t 0)))⟩])
  (.block 0 (.seq (.seq (.region [.op ⟨(some 7), none, (.r (.bin .eql (.t 5) (.c (.int .i64 (.ofNat 4)))))⟩,
     .op ⟨(some 6), none, (.r (.mv (.t 7)))⟩])
   (.cond (.t 6)
    .skip
    (.seq (.region [.op ⟨(some 8), none, (.r (.bin .eql (.t 5) (.c (.int .i64 (.ofNat 5)))))⟩,
      .op ⟨(some 6), none, (.r (.mv (.t 8)))⟩])
    (.cond (.t 6)
     .skip
     (.region [.op ⟨(some 9), none, (.r (.bin .eql (.t 5) (.c (.int .i64 (.ofNat 7)))))⟩,
       .op ⟨(some 6), none, (.r (.mv (.t 9)))⟩])))))
   (.cond (.t 6)
    (.seq (.region [.op ⟨(some 10), none, (.r (.mv (.t 1)))⟩,
      .op ⟨(some 11), none, (.r (.bin .eql (.t 10) (.c (.int .i64 (.ofNat 0)))))⟩,
      .op ⟨(some 4), none, (.r (.mv (.t 11)))⟩])
    .ret)
    (.seq (.region [.op ⟨(some 13), none, (.r (.bin .eql (.t 5) (.c (.int .i64 (.ofNat 6)))))⟩,
      .op ⟨(some 12), none, (.r (.mv (.t 13)))⟩])
    (.cond (.t 12)
     (.seq (.region [.op ⟨(some 14), none, (.r (.mv (.t 1)))⟩,
       .op ⟨(some 15), none, (.r (.bin .eql (.t 14) (.c (.int .i64 (.ofNat 0)))))⟩,
       .op ⟨(some 16), none, (.r (.mv (.t 15)))⟩,
       .op ⟨(some 17), (some (16, false)), (.r (.mv (.t 1)))⟩,
       .op ⟨(some 18), (some (16, false)), (.r (.bin .eql (.t 17) (.c (.int .i64 (.ofNat 1)))))⟩,
       .op ⟨(some 19), none, (.r (.pick (.t 16) (.c (.bool true)) (.t 18)))⟩,
       .op ⟨(some 20), none, (.r (.mv (.t 19)))⟩,
       .op ⟨(some 21), (some (20, false)), (.r (.mv (.t 1)))⟩,
       .op ⟨(some 22), (some (20, false)), (.r (.bin .eql (.t 21) (.c (.int .i64 (.ofNat 2)))))⟩,
       .op ⟨(some 23), none, (.r (.pick (.t 20) (.c (.bool true)) (.t 22)))⟩,
       .op ⟨(some 4), none, (.r (.mv (.t 23)))⟩])
     .ret)
     .skip))))))
  (.seq (.region [.op ⟨(some 24), none, (.r (.mv (.t 1)))⟩,
    .op ⟨(some 25), none, (.r (.bin .eql (.t 24) (.c (.int .i64 (.ofNat 1)))))⟩,
    .op ⟨(some 26), none, (.r (.mv (.t 25)))⟩,
    .op ⟨(some 27), (some (26, false)), (.r (.mv (.t 1)))⟩,
    .op ⟨(some 28), (some (26, false)), (.r (.bin .eql (.t 27) (.c (.int .i64 (.ofNat 2)))))⟩,
    .op ⟨(some 29), none, (.r (.pick (.t 26) (.c (.bool true)) (.t 28)))⟩,
    .op ⟨(some 4), none, (.r (.mv (.t 29)))⟩])
  .ret))) }
/-- math/bits.Len -/
def pf30 : PF := { ntmps := 8, results := [.tmp 2], body :=
  (.seq (.region [.op ⟨(some 2), none, (.r (.mv (.c (.int .i64 (.ofNat 0)))))⟩])
  (.seq (.cond (.c (.bool false))
   (.seq (.region [.op ⟨(some 3), none, (.r (.mv (.t 0)))⟩,
     .op ⟨(some 4), none, (.r (.cint .u32 (.t 3)))⟩,
     .op ⟨(some 5), none, (.e (.call 49 [(.t 4)]))⟩,
     .op ⟨(some 2), none, (.r (.mv (.t 5)))⟩])
   .ret)
   .skip)
  (.seq (.region [.op ⟨(some 6), none, (.r (.mv (.t 0)))⟩,
    .op ⟨(some 7), none, (.e (.call 50 [(.t 6)]))⟩,
    .op ⟨(some 2), none, (.r (.mv (.t 7)))⟩])
  .ret))) }
/-- depot/slab.New -/
def pf31 : PF := { ntmps := 44, results := [.tmp 4, .tmp 5], body :=
  (.seq (.region [.op ⟨(some 4), none, (.r (.mv (.c .nilp)))⟩,
    .op ⟨(some 5), none, (.r (.mv (.c (.int .i64 (.ofNat 0)))))⟩])
  (.seq (.seq (.region [.op ⟨(some 8), none, (.r (.mv (.t 0)))⟩,
    .op ⟨(some 9), none, (.r (.bin .lss (.t 8) (.c (.int .i64 (.ofNat 1)))))⟩,
    .op ⟨(some 10), none, (.r (.mv (.t 9)))⟩,
    .op ⟨(some 11), (some (10, false)), (.r (.mv (.t 0)))⟩,
    .op ⟨(some 12), (some (10, false)), (.r (.bin .gtr (.t 11) (.c (.int .i64 (.ofNat 64)))))⟩,
    .op ⟨(some 13), none, (.r (.pick (.t 10) (.c (.bool true)) (.t 12)))⟩,
    .op ⟨(some 14), none, (.r (.mv (.t 13)))⟩,
    .op ⟨(some 15), (some (14, false)), (.r (.mv (.t 1)))⟩,
    .op ⟨(some 16), (some (14, false)), (.r (.bin .lss (.t 15) (.c (.int .i64 (.ofNat 64)))))⟩,
    .op ⟨(some 17), none, (.r (.pick (.t 14) (.c (.bool true)) (.t 16)))⟩,
    .op ⟨(some 18), none, (.r (.mv (.t 17)))⟩,
    .op ⟨(some 19), (some (18, false)), (.r (.mv (.t 1)))⟩,
    .op ⟨(some 20), (some (18, false)), (.r (.bin .gtr (.t 19) (.c (.int .i64 (.ofNat 65536)))))⟩,
    .op ⟨(some 21), none, (.r (.pick (.t 18) (.c (.bool true)) (.t 20)))⟩])
  (.cond (.t 21)
   (.seq (.region [.op ⟨(some 4), none, (.r (.mv (.c .nilp)))⟩,
     .op ⟨(some 5), none, (.r (.mv (.c (.int .i64 (.ofNat 1)))))⟩])
   .ret)
   .skip))
  (.seq (.region [.op ⟨(some 22), none, (.r (.mv (.t 1)))⟩,
    .op ⟨(some 23), none, (.r (.mv (.t 0)))⟩,
    .op ⟨(some 24), none, (.r (.build [(.int .i64 (.ofNat 0)), (.int .i64 (.ofNat 0)), (.int .i64 (.ofNat 0)), .nils] [(0, 1, (.t 22)), (1, 1, (.t 23))]))⟩,
    .op ⟨(some 25), none, (.n (.box (.t 24)))⟩,
    .op ⟨(some 6), none, (.r (.mv (.t 25)))⟩])
  (.seq (.seq (.region [.op ⟨(some 7), none, (.r (.mv (.c (.int .i64 (.ofNat 64)))))⟩])
  (.block 0 (.loop (.seq (.seq (.region [.op ⟨(some 26), none, (.r (.mv (.t 7)))⟩,
      .op ⟨(some 27), none, (.r (.mv (.t 1)))⟩,
      .op ⟨(some 28), none, (.r (.bin .leq (.t 26) (.t 27)))⟩])
    (.cond (.t 28)
     .skip
     (.exit 0)))
    (.seq (.block 1 (.region [.op ⟨(some 31), none, (.r (.mv (.t 6)))⟩,
       .op ⟨(some 32), none, (.r (.mv (.t 6)))⟩,
       .op ⟨(some 33), none, (.r (.nilck (.t 32)))⟩,
       .op ⟨(some 34), none, (.r (.faddr 3 (.t 33)))⟩,
       .op ⟨(some 35), none, (.r (.load false 1 (.t 34)))⟩,
       .op ⟨(some 36), none, (.r (.mv (.t 7)))⟩,
       .op ⟨(some 37), none, (.n (.mkmap))⟩,
       .op ⟨(some 38), none, (.r (.build [(.int .i64 (.ofNat 0)), .nils, .nilm, (.int .i64 (.ofNat 0))] [(0, 1, (.t 36)), (2, 1, (.t 37))]))⟩,
       .op ⟨(some 39), none, (.n (.bslice 0 4 1 [(.int .i64 (.ofNat 0)), .nils, .nilm, (.int .i64 (.ofNat 0))] [(0, 4, (.t 38))]))⟩,
       .op ⟨(some 40), none, (.e (.app 0 4 48 (.t 35) (.t 39)))⟩,
       .op ⟨(some 41), none, (.r (.nilck (.t 31)))⟩,
       .op ⟨(some 42), none, (.r (.faddr 3 (.t 41)))⟩,
       .op ⟨none, none, (.e (.store 1 (.t 42) (.t 40)))⟩]))
    (.region [.op ⟨(some 29), none, (.r (.mv (.t 7)))⟩,
      .op ⟨(some 30), none, (.r (.bin .mul (.t 29) (.c (.int .i64 (.ofNat 2)))))⟩,
      .op ⟨(some 7), none, (.r (.mv (.t 30)))⟩]))))))
  (.seq (.region [.op ⟨(some 43), none, (.r (.mv (.t 6)))⟩,
    .op ⟨(some 4), none, (.r (.mv (.t 43)))⟩,
    .op ⟨(some 5), none, (.r (.mv (.c (.int .i64 (.ofNat 0)))))⟩])
  .ret))))) }
/-- depot/chain.New -/
def pf32 : PF := { ntmps := 4, results := [.tmp 0], body :=
  (.seq (.region [.op ⟨(some 0), none, (.r (.mv (.c .nilp)))⟩])
  (.seq (.region [.op ⟨(some 1), none, (.n (.mksl 0 1 24 [.nils] (.c (.int .i64 (.ofNat 4))) (.c (.int .i64 (.ofNat 4)))))⟩,
    .op ⟨(some 2), none, (.r (.build [.nils, .nils, (.int .i64 (.ofNat 0)), (.int .i64 (.ofNat 0))] [(0, 1, (.t 1))]))⟩,
    .op ⟨(some 3), none, (.n (.box (.t 2)))⟩,
    .op ⟨(some 0), none, (.r (.mv (.t 3)))⟩])
  .ret)) }
/-- slices.IndexFunc[[]depot/slot.did,depot/slot.did] -/
def pf33 : PF := { ntmps := 19, results := [.tmp 4], body :=
  (.seq (.region [.op ⟨(some 4), none, (.r (.mv (.c (.int .i64 (.ofNat 0)))))⟩])
  (.seq (.seq (.region [.op ⟨(some 6), none, (.r (.mv (.t 0)))⟩,
    .op ⟨(some 7), none, (.r (.lensl (.t 6)))⟩,
    .op ⟨(some 8), none, (.r (.mv (.c (.int .i64 (.ofNat 0)))))⟩])
  (.block 0 (.loop (.seq (.region [.op ⟨(some 9), none, (.r (.bin .lss (.t 8) (.t 7)))⟩])
    (.seq (.cond (.t 9)
     .skip
     (.exit 0))
    (.seq (.block 1 (.seq (.region [.op ⟨(some 10), none, (.r (.mv (.t 8)))⟩,
       .op ⟨(some 5), none, (.r (.mv (.t 10)))⟩])
     (.seq (.region [.op ⟨(some 11), none, (.r (.mv (.t 1)))⟩,
       .op ⟨(some 12), none, (.r (.mv (.t 0)))⟩,
       .op ⟨(some 13), none, (.r (.mv (.t 5)))⟩,
       .op ⟨(some 14), none, (.r (.iasl 10 (.t 12) (.t 13)))⟩,
       .op ⟨(some 15), none, (.r (.load true 10 (.t 14)))⟩,
       .op ⟨(some 16), none, (.e (.callv (.t 11) [(.t 15)]))⟩])
     (.cond (.t 16)
      (.seq (.region [.op ⟨(some 17), none, (.r (.mv (.t 5)))⟩,
        .op ⟨(some 4), none, (.r (.mv (.t 17)))⟩])
      .ret)
      .skip))))
    (.region [.op ⟨(some 18), none, (.r (.bin .add (.t 8) (.c (.int .i64 (.ofNat 1)))))⟩,
      .op ⟨(some 8), none, (.r (.mv (.t 18)))⟩])))))))
  (.seq (.region [.op ⟨(some 4), none, (.r (.mv (.c (.int .i64 (.negSucc 0)))))⟩])
  .ret))) }
/-- (*depot/slot.Slot).scan -/
def pf34 : PF := { ntmps := 54, results := [.tmp 4], body :=
  (.seq (.region [.op ⟨(some 4), none, (.r (.mv (.c (.str []))))⟩])
  (.seq (.region [.op ⟨(some 5), none, (.r (.mv (.c .nils)))⟩])
  (.seq (.seq (.region [.op ⟨(some 11), none, (.r (.mv (.t 0)))⟩,
    .op ⟨(some 12), none, (.r (.nilck (.t 11)))⟩,
    .op ⟨(some 13), none, (.r (.faddr 6 (.t 12)))⟩,
    .op ⟨(some 14), none, (.r (.load false 1 (.t 13)))⟩,
    .op ⟨(some 15), none, (.e (.call 51 [(.t 14)]))⟩,
    .op ⟨(some 16), none, (.r (.lensl (.t 15)))⟩,
    .op ⟨(some 17), none, (.r (.mv (.c (.int .i64 (.ofNat 0)))))⟩])
  (.block 0 (.loop (.seq (.region [.op ⟨(some 18), none, (.r (.bin .lss (.t 17) (.t 16)))⟩])
    (.seq (.cond (.t 18)
     .skip
     (.exit 0))
    (.seq (.block 1 (.seq (.region [.op ⟨(some 19), none, (.r (.iasl 1 (.t 15) (.t 17)))⟩,
       .op ⟨(some 20), none, (.r (.load false 1 (.t 19)))⟩,
       .op ⟨(some 7), none, (.r (.mv (.t 20)))⟩])
     (.seq (.region [.op ⟨(some 21), none, (.r (.mv (.t 7)))⟩,
       .op ⟨(some 22), none, (.r (.ixstr (.t 21) (.c (.int .i64 (.ofNat 0)))))⟩,
       .op ⟨(some 23), none, (.r (.bin .eql (.t 22) (.c (.int .u8 (.ofNat 109)))))⟩,
       .op ⟨(some 24), none, (.r (.mv (.t 23)))⟩,
       .op ⟨(some 25), (some (24, true)), (.r (.mv (.t 7)))⟩,
       .op ⟨(some 26), (some (24, true)), (.r (.slstr (.t 25) (some (.c (.int .i64 (.ofNat 1)))) none))⟩,
       .op ⟨(some 27), (some (24, true)), (.r (.mv (.t 1)))⟩,
       .op ⟨(some 28), (some (24, true)), (.r (.bin .gtr (.t 26) (.t 27)))⟩,
       .op ⟨(some 29), none, (.r (.pick (.t 24) (.t 28) (.c (.bool false))))⟩])
     (.cond (.t 29)
      (.region [.op ⟨(some 30), none, (.r (.mv (.t 5)))⟩,
        .op ⟨(some 31), none, (.r (.mv (.t 7)))⟩,
        .op ⟨(some 32), none, (.r (.slstr (.t 31) (some (.c (.int .i64 (.ofNat 1)))) none))⟩,
        .op ⟨(some 33), none, (.n (.bslice 0 1 1 [(.str [])] [(0, 1, (.t 32))]))⟩,
        .op ⟨(some 34), none, (.e (.app 0 1 16 (.t 30) (.t 33)))⟩,
        .op ⟨(some 5), none, (.r (.mv (.t 34)))⟩])
      .skip))))
    (.region [.op ⟨(some 35), none, (.r (.bin .add (.t 17) (.c (.int .i64 (.ofNat 1)))))⟩,
      .op ⟨(some 17), none, (.r (.mv (.t 35)))⟩])))))))
  (.seq (.region [.op ⟨(some 36), none, (.r (.mv (.t 5)))⟩,
    .op ⟨(some 37), none, (.e (.call 52 [(.t 36)]))⟩])
  (.seq (.region [.op ⟨(some 8), none, (.r (.mv (.c .nils)))⟩])
  (.seq (.seq (.region [.op ⟨(some 38), none, (.r (.mv (.t 5)))⟩,
    .op ⟨(some 39), none, (.r (.mv (.t 5)))⟩,
    .op ⟨(some 40), none, (.r (.lensl (.t 39)))⟩,
    .op ⟨(some 41), none, (.r (.minmax false [(.t 40), (.c (.int .i64 (.ofNat 16)))]))⟩,
    .op ⟨(some 42), none, (.r (.slsl 1 (.t 38) none (some (.t 41)) none))⟩,
    .op ⟨(some 43), none, (.r (.lensl (.t 42)))⟩,
    .op ⟨(some 44), none, (.r (.mv (.c (.int .i64 (.ofNat 0)))))⟩])
  (.block 2 (.loop (.seq (.region [.op ⟨(some 45), none, (.r (.bin .lss (.t 44) (.t 43)))⟩])
    (.seq (.cond (.t 45)
     .skip
     (.exit 2))
    (.seq (.block 3 (.seq (.region [.op ⟨(some 46), none, (.r (.iasl 1 (.t 42) (.t 44)))⟩,
       .op ⟨(some 47), none, (.r (.load false 1 (.t 46)))⟩,
       .op ⟨(some 10), none, (.r (.mv (.t 47)))⟩])
     (.region [.op ⟨(some 48), none, (.r (.mv (.t 8)))⟩,
       .op ⟨(some 49), none, (.r (.mv (.t 10)))⟩,
       .op ⟨(some 50), none, (.e (.call 53 [(.t 48), (.t 49)]))⟩,
       .op ⟨(some 8), none, (.r (.mv (.t 50)))⟩])))
    (.region [.op ⟨(some 51), none, (.r (.bin .add (.t 44) (.c (.int .i64 (.ofNat 1)))))⟩,
      .op ⟨(some 44), none, (.r (.mv (.t 51)))⟩])))))))
  (.seq (.region [.op ⟨(some 52), none, (.r (.mv (.t 8)))⟩,
    .op ⟨(some 53), none, (.r (.b2s (.t 52)))⟩,
    .op ⟨(some 4), none, (.r (.mv (.t 53)))⟩])
  .ret))))))) }
/-- (*depot/slot.Slot).stands -/
def pf35 : PF := { ntmps := 33, results := [.tmp 4, .tmp 5, .tmp 6], body :=
  (.seq (.region [.op ⟨(some 3), none, (.n (.box (.t 1)))⟩,
    .op ⟨(some 4), none, (.r (.mv (.c (.int .i64 (.ofNat 0)))))⟩,
    .op ⟨(some 5), none, (.r (.mv (.c (.str []))))⟩,
    .op ⟨(some 6), none, (.r (.mv (.c (.bool false))))⟩])
  (.seq (.region [.op ⟨(some 12), none, (.r (.mv (.t 0)))⟩,
    .op ⟨(some 13), none, (.r (.nilck (.t 12)))⟩,
    .op ⟨(some 14), none, (.r (.faddr 6 (.t 13)))⟩,
    .op ⟨(some 15), none, (.r (.load false 1 (.t 14)))⟩,
    .op ⟨(some 16), none, (.r (.load true 9 (.t 3)))⟩,
    .op ⟨(some 17), none, (.e (.call 37 [(.t 16)]))⟩,
    .again ⟨(some 15), none, (.r (.load false 1 (.t 14)))⟩,
    .op ⟨(some 18), none, (.e (.call 54 [(.t 15), (.t 17)]))⟩,
    .op ⟨(some 11), none, (.r (.mv (.t 18)))⟩,
    .op ⟨(some 19), none, (.r (.ext 0 (.t 11)))⟩,
    .op ⟨(some 20), none, (.r (.ext 1 (.t 11)))⟩,
    .op ⟨(some 7), none, (.r (.mv (.t 19)))⟩,
    .op ⟨(some 8), none, (.r (.mv (.t 20)))⟩])
  (.seq (.seq (.region [.op ⟨(some 21), none, (.r (.mv (.t 8)))⟩,
    .op ⟨(some 22), none, (.r (.un .not (.t 21)))⟩])
  (.cond (.t 22)
   (.seq (.region [.op ⟨(some 4), none, (.r (.mv (.c (.int .i64 (.ofNat 0)))))⟩,
     .op ⟨(some 5), none, (.r (.mv (.c (.str []))))⟩,
     .op ⟨(some 6), none, (.r (.mv (.c (.bool false))))⟩])
   .ret)
   .skip))
  (.seq (.region [.op ⟨(some 23), none, (.r (.mv (.t 7)))⟩,
    .op ⟨(some 24), none, (.n (.s2b (.t 23)))⟩,
    .op ⟨(some 25), none, (.e (.call 55 [(.t 24)]))⟩,
    .op ⟨(some 9), none, (.r (.mv (.t 25)))⟩])
  (.seq (.region [.op ⟨(some 26), none, (.r (.mv (.t 9)))⟩,
    .op ⟨(some 27), none, (.e (.call 56 [(.t 26)]))⟩,
    .op ⟨(some 10), none, (.r (.mv (.t 27)))⟩])
  (.seq (.region [.op ⟨(some 28), none, (.r (.mv (.t 10)))⟩,
    .op ⟨(some 29), none, (.r (.mv (.t 7)))⟩,
    .op ⟨(some 30), none, (.r (.mv (.t 9)))⟩,
    .op ⟨(some 31), none, (.e (.call 57 [(.t 30)]))⟩,
    .op ⟨(some 32), none, (.r (.slstr (.t 29) (some (.t 31)) none))⟩,
    .op ⟨(some 4), none, (.r (.mv (.t 28)))⟩,
    .op ⟨(some 5), none, (.r (.mv (.t 32)))⟩,
    .op ⟨(some 6), none, (.r (.mv (.c (.bool true))))⟩])
  .ret)))))) }
/-- (*depot/item.Store).Put -/
def pf36 : PF := { ntmps := 137, results := [.tmp 8, .tmp 9], body :=
  (.seq (.region [.op ⟨(some 8), none, (.r (.mv (.c .nils)))⟩,
    .op ⟨(some 9), none, (.r (.mv (.c (.int .i64 (.ofNat 0)))))⟩])
  (.seq (.region [.op ⟨(some 17), none, (.r (.mv (.t 0)))⟩,
    .op ⟨(some 18), none, (.r (.mv (.t 1)))⟩,
    .op ⟨(some 19), none, (.e (.call 39 [(.t 17), (.t 18)]))⟩])
  (.seq (.region [.op ⟨(some 20), none, (.r (.mv (.t 0)))⟩,
    .op ⟨(some 21), none, (.r (.nilck (.t 20)))⟩,
    .op ⟨(some 22), none, (.r (.faddr 0 (.t 21)))⟩,
    .op ⟨(some 23), none, (.r (.load false 1 (.t 22)))⟩,
    .op ⟨(some 24), none, (.r (.mv (.t 1)))⟩,
    .op ⟨(some 25), none, (.r (.lens (.t 24)))⟩,
    .op ⟨(some 26), none, (.r (.mv (.t 2)))⟩,
    .op ⟨(some 27), none, (.r (.lens (.t 26)))⟩,
    .op ⟨(some 28), none, (.r (.bin .add (.t 25) (.t 27)))⟩,
    .op ⟨(some 29), none, (.e (.call 58 [(.t 23), (.t 28)]))⟩,
    .op ⟨(some 10), none, (.r (.mv (.t 29)))⟩])
  (.seq (.seq (.region [.op ⟨(some 30), none, (.r (.mv (.t 10)))⟩,
    .op ⟨(some 31), none, (.r (.bin .lss (.t 30) (.c (.int .i64 (.ofNat 0)))))⟩])
  (.cond (.t 31)
   (.seq (.region [.op ⟨(some 8), none, (.r (.mv (.c .nils)))⟩,
     .op ⟨(some 9), none, (.r (.mv (.c (.int .i64 (.ofNat 2)))))⟩])
   .ret)
   .skip))
  (.seq (.region [.op ⟨(some 11), none, (.r (.mv (.c .nils)))⟩])
  (.seq (.region [.op ⟨(some 33), none, (.r (.mv (.t 0)))⟩,
    .op ⟨(some 34), none, (.r (.nilck (.t 33)))⟩,
    .op ⟨(some 35), none, (.r (.faddr 0 (.t 34)))⟩,
    .op ⟨(some 36), none, (.r (.load false 1 (.t 35)))⟩,
    .op ⟨(some 37), none, (.r (.mv (.t 1)))⟩,
    .op ⟨(some 38), none, (.r (.mv (.t 2)))⟩,
    .op ⟨(some 39), none, (.r (.bin .add (.t 37) (.t 38)))⟩,
    .op ⟨(some 40), none, (.e (.call 59 [(.t 36), (.t 39)]))⟩,
    .op ⟨(some 32), none, (.r (.mv (.t 40)))⟩,
    .op ⟨(some 41), none, (.r (.ext 0 (.t 32)))⟩,
    .op ⟨(some 42), none, (.r (.ext 1 (.t 32)))⟩,
    .op ⟨(some 12), none, (.n (.new 0 [(.int .i64 (.ofNat 0)), (.int .i64 (.ofNat 0))]))⟩,
    .op ⟨none, none, (.e (.store 2 (.t 12) (.t 41)))⟩,
    .op ⟨(some 13), none, (.r (.mv (.t 42)))⟩])
  (.seq (.block 0 (.loop (.seq (.seq (.region [.op ⟨(some 43), none, (.r (.mv (.t 13)))⟩,
      .op ⟨(some 44), none, (.r (.bin .eql (.t 43) (.c (.int .i64 (.ofNat 6)))))⟩])
    (.cond (.t 44)
     .skip
     (.exit 0)))
    (.block 1 (.seq (.region [.op ⟨(some 45), none, (.r (.mv (.t 0)))⟩,
       .op ⟨(some 46), none, (.r (.mv (.t 10)))⟩,
       .op ⟨(some 47), none, (.e (.call 60 [(.t 45), (.t 46)]))⟩,
       .op ⟨(some 14), none, (.r (.mv (.t 47)))⟩])
     (.seq (.seq (.region [.op ⟨(some 48), none, (.r (.mv (.t 14)))⟩,
       .op ⟨(some 49), none, (.r (.bin .eql (.t 48) (.c (.int .i64 (.ofNat 0)))))⟩])
     (.cond (.t 49)
      (.seq (.region [.op ⟨(some 50), none, (.r (.mv (.t 11)))⟩,
        .op ⟨(some 8), none, (.r (.mv (.t 50)))⟩,
        .op ⟨(some 9), none, (.r (.mv (.c (.int .i64 (.ofNat 6)))))⟩])
      .ret)
      .skip))
     (.seq (.region [.op ⟨(some 51), none, (.r (.mv (.t 11)))⟩,
       .op ⟨(some 52), none, (.r (.mv (.t 0)))⟩,
       .op ⟨(some 53), none, (.r (.nilck (.t 52)))⟩,
       .op ⟨(some 54), none, (.r (.faddr 2 (.t 53)))⟩,
       .op ⟨(some 55), none, (.r (.load false 1 (.t 54)))⟩,
       .op ⟨(some 56), none, (.r (.mv (.t 14)))⟩,
       .op ⟨(some 57), none, (.r (.iasl 6 (.t 55) (.t 56)))⟩,
       .op ⟨(some 58), none, (.r (.faddr 0 (.t 57)))⟩,
       .op ⟨(some 59), none, (.r (.load false 1 (.t 58)))⟩,
       .op ⟨(some 60), none, (.n (.bslice 0 1 1 [(.str [])] [(0, 1, (.t 59))]))⟩,
       .op ⟨(some 61), none, (.e (.app 0 1 16 (.t 51) (.t 60)))⟩,
       .op ⟨(some 11), none, (.r (.mv (.t 61)))⟩])
     (.seq (.region [.op ⟨(some 62), none, (.r (.mv (.t 0)))⟩,
       .op ⟨(some 63), none, (.r (.mv (.t 14)))⟩,
       .op ⟨(some 64), none, (.e (.call 61 [(.t 62), (.t 63)]))⟩])
     (.region [.op ⟨(some 66), none, (.r (.mv (.t 0)))⟩,
       .op ⟨(some 67), none, (.r (.nilck (.t 66)))⟩,
       .op ⟨(some 68), none, (.r (.faddr 0 (.t 67)))⟩,
       .op ⟨(some 69), none, (.r (.load false 1 (.t 68)))⟩,
       .op ⟨(some 70), none, (.r (.mv (.t 1)))⟩,
       .op ⟨(some 71), none, (.r (.mv (.t 2)))⟩,
       .op ⟨(some 72), none, (.r (.bin .add (.t 70) (.t 71)))⟩,
       .op ⟨(some 73), none, (.e (.call 59 [(.t 69), (.t 72)]))⟩,
       .op ⟨(some 65), none, (.r (.mv (.t 73)))⟩,
       .op ⟨(some 74), none, (.r (.ext 0 (.t 65)))⟩,
       .op ⟨(some 75), none, (.r (.ext 1 (.t 65)))⟩,
       .op ⟨none, none, (.e (.store 2 (.t 12) (.t 74)))⟩,
       .op ⟨(some 13), none, (.r (.mv (.t 75)))⟩])))))))))
  (.seq (.region [.op ⟨(some 76), none, (.r (.mv (.t 0)))⟩,
    .op ⟨(some 77), none, (.r (.nilck (.t 76)))⟩,
    .op ⟨(some 78), none, (.r (.faddr 2 (.t 77)))⟩,
    .op ⟨(some 79), none, (.r (.load false 1 (.t 78)))⟩,
    .op ⟨(some 80), none, (.r (.lensl (.t 79)))⟩,
    .op ⟨(some 15), none, (.r (.mv (.t 80)))⟩])
  (.seq (.seq (.region [.op ⟨(some 81), none, (.r (.mv (.t 0)))⟩,
    .op ⟨(some 82), none, (.r (.nilck (.t 81)))⟩,
    .op ⟨(some 83), none, (.r (.faddr 3 (.t 82)))⟩,
    .op ⟨(some 84), none, (.r (.load false 1 (.t 83)))⟩,
    .op ⟨(some 85), none, (.r (.lensl (.t 84)))⟩,
    .op ⟨(some 16), none, (.r (.mv (.t 85)))⟩])
  (.seq (.region [.op ⟨(some 86), none, (.r (.mv (.t 16)))⟩,
    .op ⟨(some 87), none, (.r (.bin .gtr (.t 86) (.c (.int .i64 (.ofNat 0)))))⟩])
  (.cond (.t 87)
   (.region [.op ⟨(some 88), none, (.r (.mv (.t 0)))⟩,
     .op ⟨(some 89), none, (.r (.mv (.t 0)))⟩,
     .op ⟨(some 90), none, (.r (.nilck (.t 89)))⟩,
     .op ⟨(some 91), none, (.r (.faddr 3 (.t 90)))⟩,
     .op ⟨(some 92), none, (.r (.load false 1 (.t 91)))⟩,
     .op ⟨(some 93), none, (.r (.mv (.t 16)))⟩,
     .op ⟨(some 94), none, (.r (.bin .sub (.t 93) (.c (.int .i64 (.ofNat 1)))))⟩,
     .op ⟨(some 95), none, (.r (.iasl 1 (.t 92) (.t 94)))⟩,
     .op ⟨(some 96), none, (.r (.load false 1 (.t 95)))⟩,
     .op ⟨(some 97), none, (.r (.mv (.t 0)))⟩,
     .op ⟨(some 98), none, (.r (.nilck (.t 97)))⟩,
     .op ⟨(some 99), none, (.r (.faddr 3 (.t 98)))⟩,
     .op ⟨(some 100), none, (.r (.load false 1 (.t 99)))⟩,
     .op ⟨(some 101), none, (.r (.mv (.t 16)))⟩,
     .op ⟨(some 102), none, (.r (.bin .sub (.t 101) (.c (.int .i64 (.ofNat 1)))))⟩,
     .op ⟨(some 103), none, (.r (.slsl 1 (.t 100) none (some (.t 102)) none))⟩,
     .op ⟨(some 15), none, (.r (.mv (.t 96)))⟩,
     .op ⟨(some 104), none, (.r (.nilck (.t 88)))⟩,
     .op ⟨(some 105), none, (.r (.faddr 3 (.t 104)))⟩,
     .op ⟨none, none, (.e (.store 1 (.t 105) (.t 103)))⟩])
   (.region [.op ⟨(some 106), none, (.r (.mv (.t 0)))⟩,
     .op ⟨(some 107), none, (.r (.mv (.t 0)))⟩,
     .op ⟨(some 108), none, (.r (.nilck (.t 107)))⟩,
     .op ⟨(some 109), none, (.r (.faddr 2 (.t 108)))⟩,
     .op ⟨(some 110), none, (.r (.load false 1 (.t 109)))⟩,
     .op ⟨(some 111), none, (.r (.build [(.str []), (.int .i64 (.ofNat 0)), (.int .i64 (.ofNat 0)), (.bool false), (.int .i64 (.ofNat 0)), (.int .i64 (.ofNat 0))] []))⟩,
     .op ⟨(some 112), none, (.n (.bslice 0 6 1 [(.str []), (.int .i64 (.ofNat 0)), (.int .i64 (.ofNat 0)), (.bool false), (.int .i64 (.ofNat 0)), (.int .i64 (.ofNat 0))] [(0, 6, (.t 111))]))⟩,
     .op ⟨(some 113), none, (.e (.app 0 6 56 (.t 110) (.t 112)))⟩,
     .op ⟨(some 114), none, (.r (.nilck (.t 106)))⟩,
     .op ⟨(some 115), none, (.r (.faddr 2 (.t 114)))⟩,
     .op ⟨none, none, (.e (.store 1 (.t 115) (.t 113)))⟩]))))
  (.seq (.region [.op ⟨(some 116), none, (.r (.mv (.t 0)))⟩,
    .op ⟨(some 117), none, (.r (.nilck (.t 116)))⟩,
    .op ⟨(some 118), none, (.r (.faddr 2 (.t 117)))⟩,
    .op ⟨(some 119), none, (.r (.load false 1 (.t 118)))⟩,
    .op ⟨(some 120), none, (.r (.mv (.t 15)))⟩,
    .op ⟨(some 121), none, (.r (.mv (.t 1)))⟩,
    .op ⟨(some 122), none, (.r (.load true 2 (.t 12)))⟩,
    .op ⟨(some 123), none, (.r (.mv (.t 3)))⟩,
    .op ⟨(some 124), none, (.r (.build [(.str []), (.int .i64 (.ofNat 0)), (.int .i64 (.ofNat 0)), (.bool false), (.int .i64 (.ofNat 0)), (.int .i64 (.ofNat 0))] [(0, 1, (.t 121)), (1, 2, (.t 122)), (3, 1, (.t 123))]))⟩,
    .op ⟨(some 125), none, (.r (.iasl 6 (.t 119) (.t 120)))⟩,
    .op ⟨none, none, (.e (.store 6 (.t 125) (.t 124)))⟩])
  (.seq (.region [.op ⟨(some 126), none, (.r (.mv (.t 0)))⟩,
    .op ⟨(some 127), none, (.r (.mv (.t 15)))⟩,
    .op ⟨(some 128), none, (.e (.call 62 [(.t 126), (.t 127)]))⟩])
  (.seq (.region [.op ⟨(some 129), none, (.r (.mv (.t 0)))⟩,
    .op ⟨(some 130), none, (.r (.nilck (.t 129)))⟩,
    .op ⟨(some 131), none, (.r (.faddr 1 (.t 130)))⟩,
    .op ⟨(some 132), none, (.r (.load false 1 (.t 131)))⟩,
    .op ⟨(some 133), none, (.r (.mv (.t 1)))⟩,
    .op ⟨(some 134), none, (.r (.mv (.t 15)))⟩,
    .op ⟨(some 135), none, (.e (.call 63 [(.t 132), (.t 133), (.t 134)]))⟩])
  (.seq (.region [.op ⟨(some 136), none, (.r (.mv (.t 11)))⟩,
    .op ⟨(some 8), none, (.r (.mv (.t 136)))⟩,
    .op ⟨(some 9), none, (.r (.mv (.c (.int .i64 (.ofNat 0)))))⟩])
  .ret))))))))))))) }
/-- depot/slot.name -/
def pf37 : PF := { ntmps := 18, results := [.tmp 2], body :=
  (.seq (.region [.op ⟨(some 1), none, (.n (.box (.t 0)))⟩,
    .op ⟨(some 2), none, (.r (.mv (.c (.str []))))⟩])
  (.seq (.seq (.region [.op ⟨(some 3), none, (.r (.faddr 5 (.t 1)))⟩,
    .op ⟨(some 4), none, (.r (.load false 1 (.t 3)))⟩,
    .op ⟨(some 5), none, (.r (.bin .eql (.t 4) (.c (.int .i64 (.ofNat 1)))))⟩])
  (.cond (.t 5)
   (.seq (.region [.op ⟨(some 6), none, (.r (.faddr 6 (.t 1)))⟩,
     .op ⟨(some 7), none, (.r (.load false 1 (.t 6)))⟩,
     .op ⟨(some 8), none, (.r (.bin .add (.c (.str [109])) (.t 7)))⟩,
     .op ⟨(some 2), none, (.r (.mv (.t 8)))⟩])
   .ret)
   .skip))
  (.seq (.region [.op ⟨(some 9), none, (.n (.bslice 2 1 1 [(.int .u8 (.ofNat 0))] [(0, 1, (.c (.int .u8 (.ofNat 112))))]))⟩,
    .op ⟨(some 10), none, (.r (.bad))⟩,
    .op ⟨(some 11), none, (.r (.faddr 7 (.t 1)))⟩,
    .op ⟨(some 12), none, (.r (.load false 1 (.t 11)))⟩,
    .op ⟨(some 15), none, (.r (.faddr 6 (.t 1)))⟩,
    .op ⟨(some 16), none, (.r (.load false 1 (.t 15)))⟩,
    .op ⟨(some 13), none, (.e (.call 38 [(.t 10), (.t 12)]))⟩,
    .again ⟨(some 16), none, (.r (.load false 1 (.t 15)))⟩,
    .op ⟨(some 14), none, (.r (.b2s (.t 13)))⟩,
    .op ⟨(some 17), none, (.r (.bin .add (.t 14) (.t 16)))⟩,
    .op ⟨(some 2), none, (.r (.mv (.t 17)))⟩])
  .ret))) }
/-- depot/pack.Num -/
def pf38 : PF := { ntmps := 9, results := [.tmp 4], body :=
  (.seq (.region [.op ⟨(some 4), none, (.r (.mv (.c .nils)))⟩])
  (.seq (.region [.op ⟨(some 5), none, (.r (.mv (.t 0)))⟩,
    .op ⟨(some 6), none, (.e (.call 65 [(.t 5), (.c (.int .i64 (.ofNat 10)))]))⟩,
    .op ⟨(some 7), none, (.r (.mv (.t 1)))⟩,
    .op ⟨(some 8), none, (.e (.call 64 [(.t 6), (.t 7)]))⟩,
    .op ⟨(some 4), none, (.r (.mv (.t 8)))⟩])
  .ret)) }
/-- (*depot/item.Store).Drop -/
def pf39 : PF := { ntmps := 21, results := [.tmp 4], body :=
  (.seq (.region [.op ⟨(some 4), none, (.r (.mv (.c (.bool false))))⟩])
  (.seq (.region [.op ⟨(some 8), none, (.r (.mv (.t 0)))⟩,
    .op ⟨(some 9), none, (.r (.nilck (.t 8)))⟩,
    .op ⟨(some 10), none, (.r (.faddr 1 (.t 9)))⟩,
    .op ⟨(some 11), none, (.r (.load false 1 (.t 10)))⟩,
    .op ⟨(some 12), none, (.r (.mv (.t 1)))⟩,
    .op ⟨(some 13), none, (.e (.call 66 [(.t 11), (.t 12)]))⟩,
    .op ⟨(some 7), none, (.r (.mv (.t 13)))⟩,
    .op ⟨(some 14), none, (.r (.ext 0 (.t 7)))⟩,
    .op ⟨(some 15), none, (.r (.ext 1 (.t 7)))⟩,
    .op ⟨(some 5), none, (.r (.mv (.t 14)))⟩,
    .op ⟨(some 6), none, (.r (.mv (.t 15)))⟩])
  (.seq (.seq (.region [.op ⟨(some 16), none, (.r (.mv (.t 6)))⟩])
  (.cond (.t 16)
   (.region [.op ⟨(some 17), none, (.r (.mv (.t 0)))⟩,
     .op ⟨(some 18), none, (.r (.mv (.t 5)))⟩,
     .op ⟨(some 19), none, (.e (.call 61 [(.t 17), (.t 18)]))⟩])
   .skip))
  (.seq (.region [.op ⟨(some 20), none, (.r (.mv (.t 6)))⟩,
    .op ⟨(some 4), none, (.r (.mv (.t 20)))⟩])
  .ret)))) }
/-- math/bits.Len32 -/
def pf49 : PF := { ntmps := 19, results := [.tmp 2], body :=
  (.seq (.region [.op ⟨(some 2), none, (.r (.mv (.c (.int .i64 (.ofNat 0)))))⟩])
  (.seq (.seq (.region [.op ⟨(some 3), none, (.r (.mv (.t 0)))⟩,
    .op ⟨(some 4), none, (.r (.bin .geq (.t 3) (.c (.int .u32 (.ofNat 65536)))))⟩])
  (.cond (.t 4)
   (.seq (.region [.op ⟨(some 5), none, (.r (.mv (.t 0)))⟩,
     .op ⟨(some 6), none, (.r (.bin .shr (.t 5) (.c (.int .u64 (.ofNat 16)))))⟩,
     .op ⟨(some 0), none, (.r (.mv (.t 6)))⟩])
   (.region [.op ⟨(some 2), none, (.r (.mv (.c (.int .i64 (.ofNat 16)))))⟩]))
   .skip))
  (.seq (.seq (.region [.op ⟨(some 7), none, (.r (.mv (.t 0)))⟩,
    .op ⟨(some 8), none, (.r (.bin .geq (.t 7) (.c (.int .u32 (.ofNat 256)))))⟩])
  (.cond (.t 8)
   (.seq (.region [.op ⟨(some 9), none, (.r (.mv (.t 0)))⟩,
     .op ⟨(some 10), none, (.r (.bin .shr (.t 9) (.c (.int .u64 (.ofNat 8)))))⟩,
     .op ⟨(some 0), none, (.r (.mv (.t 10)))⟩])
   (.region [.op ⟨(some 11), none, (.r (.mv (.t 2)))⟩,
     .op ⟨(some 12), none, (.r (.bin .add (.t 11) (.c (.int .i64 (.ofNat 8)))))⟩,
     .op ⟨(some 2), none, (.r (.mv (.t 12)))⟩]))
   .skip))
  (.seq (.region [.op ⟨(some 13), none, (.r (.mv (.t 2)))⟩,
    .op ⟨(some 14), none, (.r (.mv (.t 0)))⟩,
    .op ⟨(some 15), none, (.r (.cint .u8 (.t 14)))⟩,
    .op ⟨(some 16), none, (.r (.ixstr (.c (.str [0, 1, 2, 2, 3, 3, 3, 3, 4, 4, 4, 4, 4, 4, 4, 4, 5, 5, 5, 5, 5, 5, 5, 5, 5, 5, 5, 5, 5, 5, 5, 5, 6, 6, 6, 6, 6, 6, 6, 6, 6, 6, 6, 6, 6, 6, 6, 6, 6, 6, 6, 6, 6, 6, 6, 6, 6, 6, 6, 6, 6, 6, 6, 6, 7, 7, 7, 7, 7, 7, 7, 7, 7, 7, 7, 7, 7, 7, 7, 7, 7, 7, 7, 7, 7, 7, 7, 7, 7, 7, 7, 7, 7, 7, 7, 7, 7, 7, 7, 7, 7, 7, 7, 7, 7, 7, 7, 7, 7, 7, 7, 7, 7, 7, 7, 7, 7, 7, 7, 7, 7, 7, 7, 7, 7, 7, 7, 7, 8, 8, 8, 8, 8, 8, 8, 8, 8, 8, 8, 8, 8, 8, 8, 8, 8, 8, 8, 8, 8, 8, 8, 8, 8, 8, 8, 8, 8, 8, 8, 8, 8, 8, 8, 8, 8, 8, 8, 8, 8, 8, 8, 8, 8, 8, 8, 8, 8, 8, 8, 8, 8, 8, 8, 8, 8, 8, 8, 8, 8, 8, 8, 8, 8, 8, 8, 8, 8, 8, 8, 8, 8, 8, 8, 8, 8, 8, 8, 8, 8, 8, 8, 8, 8, 8, 8, 8, 8, 8, 8, 8, 8, 8, 8, 8, 8, 8, 8, 8, 8, 8, 8, 8, 8, 8, 8, 8, 8, 8, 8, 8, 8, 8, 8, 8, 8, 8, 8, 8, 8, 8, 8, 8, 8, 8, 8, 8])) (.t 15)))⟩,
    .op ⟨(some 17), none, (.r (.cint .i64 (.t 16)))⟩,
    .op ⟨(some 18), none, (.r (.bin .add (.t 13) (.t 17)))⟩,
    .op ⟨(some 2), none, (.r (.mv (.t 18)))⟩])
  .ret)))) }
/-- math/bits.Len64 -/
def pf50 : PF := { ntmps := 25, results := [.tmp 2], body :=
  (.seq (.region [.op ⟨(some 2), none, (.r (.mv (.c (.int .i64 (.ofNat 0)))))⟩])
  (.seq (.seq (.region [.op ⟨(some 3), none, (.r (.mv (.t 0)))⟩,
    .op ⟨(some 4), none, (.r (.bin .geq (.t 3) (.c (.int .u64 (.ofNat 4294967296)))))⟩])
  (.cond (.t 4)
   (.seq (.region [.op ⟨(some 5), none, (.r (.mv (.t 0)))⟩,
     .op ⟨(some 6), none, (.r (.bin .shr (.t 5) (.c (.int .u64 (.ofNat 32)))))⟩,
     .op ⟨(some 0), none, (.r (.mv (.t 6)))⟩])
   (.region [.op ⟨(some 2), none, (.r (.mv (.c (.int .i64 (.ofNat 32)))))⟩]))
   .skip))
  (.seq (.seq (.region [.op ⟨(some 7), none, (.r (.mv (.t 0)))⟩,
    .op ⟨(some 8), none, (.r (.bin .geq (.t 7) (.c (.int .u64 (.ofNat 65536)))))⟩])
  (.cond (.t 8)
   (.seq (.region [.op ⟨(some 9), none, (.r (.mv (.t 0)))⟩,
     .op ⟨(some 10), none, (.r (.bin .shr (.t 9) (.c (.int .u64 (.ofNat 16)))))⟩,
     .op ⟨(some 0), none, (.r (.mv (.t 10)))⟩])
   (.region [.op ⟨(some 11), none, (.r (.mv (.t 2)))⟩,
     .op ⟨(some 12), none, (.r (.bin .add (.t 11) (.c (.int .i64 (.ofNat 16)))))⟩,
     .op ⟨(some 2), none, (.r (.mv (.t 12)))⟩]))
   .skip))
  (.seq (.seq (.region [.op ⟨(some 13), none, (.r (.mv (.t 0)))⟩,
    .op ⟨(some 14), none, (.r (.bin .geq (.t 13) (.c (.int .u64 (.ofNat 256)))))⟩])
  (.cond (.t 14)
   (.seq (.region [.op ⟨(some 15), none, (.r (.mv (.t 0)))⟩,
     .op ⟨(some 16), none, (.r (.bin .shr (.t 15) (.c (.int .u64 (.ofNat 8)))))⟩,
     .op ⟨(some 0), none, (.r (.mv (.t 16)))⟩])
   (.region [.op ⟨(some 17), none, (.r (.mv (.t 2)))⟩,
     .op ⟨(some 18), none, (.r (.bin .add (.t 17) (.c (.int .i64 (.ofNat 8)))))⟩,
     .op ⟨(some 2), none, (.r (.mv (.t 18)))⟩]))
   .skip))
  (.seq (.region [.op ⟨(some 19), none, (.r (.mv (.t 2)))⟩,
    .op ⟨(some 20), none, (.r (.mv (.t 0)))⟩,
    .op ⟨(some 21), none, (.r (.cint .u8 (.t 20)))⟩,
    .op ⟨(some 22), none, (.r (.ixstr (.c (.str [0, 1, 2, 2, 3, 3, 3, 3, 4, 4, 4, 4, 4, 4, 4, 4, 5, 5, 5, 5, 5, 5, 5, 5, 5, 5, 5, 5, 5, 5, 5, 5, 6, 6, 6, 6, 6, 6, 6, 6, 6, 6, 6, 6, 6, 6, 6, 6, 6, 6, 6, 6, 6, 6, 6, 6, 6, 6, 6, 6, 6, 6, 6, 6, 7, 7, 7, 7, 7, 7, 7, 7, 7, 7, 7, 7, 7, 7, 7, 7, 7, 7, 7, 7, 7, 7, 7, 7, 7, 7, 7, 7, 7, 7, 7, 7, 7, 7, 7, 7, 7, 7, 7, 7, 7, 7, 7, 7, 7, 7, 7, 7, 7, 7, 7, 7, 7, 7, 7, 7, 7, 7, 7, 7, 7, 7, 7, 7, 8, 8, 8, 8, 8, 8, 8, 8, 8, 8, 8, 8, 8, 8, 8, 8, 8, 8, 8, 8, 8, 8, 8, 8, 8, 8, 8, 8, 8, 8, 8, 8, 8, 8, 8, 8, 8, 8, 8, 8, 8, 8, 8, 8, 8, 8, 8, 8, 8, 8, 8, 8, 8, 8, 8, 8, 8, 8, 8, 8, 8, 8, 8, 8, 8, 8, 8, 8, 8, 8, 8, 8, 8, 8, 8, 8, 8, 8, 8, 8, 8, 8, 8, 8, 8, 8, 8, 8, 8, 8, 8, 8, 8, 8, 8, 8, 8, 8, 8, 8, 8, 8, 8, 8, 8, 8, 8, 8, 8, 8, 8, 8, 8, 8, 8, 8, 8, 8, 8, 8, 8, 8, 8, 8, 8, 8, 8, 8])) (.t 21)))⟩,
    .op ⟨(some 23), none, (.r (.cint .i64 (.t 22)))⟩,
    .op ⟨(some 24), none, (.r (.bin .add (.t 19) (.t 23)))⟩,
    .op ⟨(some 2), none, (.r (.mv (.t 24)))⟩])
  .ret))))) }
/-- (*depot/item.Store).Keys -/
def pf51 : PF := { ntmps := 34, results := [.tmp 2], body :=
  (.seq (.region [.op ⟨(some 2), none, (.r (.mv (.c .nils)))⟩])
  (.seq (.region [.op ⟨(some 3), none, (.r (.mv (.c .nils)))⟩])
  (.seq (.seq (.region [.op ⟨(some 5), none, (.r (.mv (.t 0)))⟩,
    .op ⟨(some 6), none, (.r (.nilck (.t 5)))⟩,
    .op ⟨(some 7), none, (.r (.faddr 2 (.t 6)))⟩,
    .op ⟨(some 8), none, (.r (.load false 1 (.t 7)))⟩,
    .op ⟨(some 9), none, (.r (.iasl 6 (.t 8) (.c (.int .i64 (.ofNat 0)))))⟩,
    .op ⟨(some 10), none, (.r (.faddr 4 (.t 9)))⟩,
    .op ⟨(some 11), none, (.r (.load false 1 (.t 10)))⟩,
    .op ⟨(some 4), none, (.r (.mv (.t 11)))⟩])
  (.block 0 (.loop (.seq (.seq (.region [.op ⟨(some 12), none, (.r (.mv (.t 4)))⟩,
      .op ⟨(some 13), none, (.r (.bin .neq (.t 12) (.c (.int .i64 (.ofNat 0)))))⟩])
    (.cond (.t 13)
     .skip
     (.exit 0)))
    (.seq (.block 1 (.region [.op ⟨(some 22), none, (.r (.mv (.t 3)))⟩,
       .op ⟨(some 23), none, (.r (.mv (.t 0)))⟩,
       .op ⟨(some 24), none, (.r (.nilck (.t 23)))⟩,
       .op ⟨(some 25), none, (.r (.faddr 2 (.t 24)))⟩,
       .op ⟨(some 26), none, (.r (.load false 1 (.t 25)))⟩,
       .op ⟨(some 27), none, (.r (.mv (.t 4)))⟩,
       .op ⟨(some 28), none, (.r (.iasl 6 (.t 26) (.t 27)))⟩,
       .op ⟨(some 29), none, (.r (.faddr 0 (.t 28)))⟩,
       .op ⟨(some 30), none, (.r (.load false 1 (.t 29)))⟩,
       .op ⟨(some 31), none, (.n (.bslice 0 1 1 [(.str [])] [(0, 1, (.t 30))]))⟩,
       .op ⟨(some 32), none, (.e (.app 0 1 16 (.t 22) (.t 31)))⟩,
       .op ⟨(some 3), none, (.r (.mv (.t 32)))⟩]))
    (.region [.op ⟨(some 14), none, (.r (.mv (.t 0)))⟩,
      .op ⟨(some 15), none, (.r (.nilck (.t 14)))⟩,
      .op ⟨(some 16), none, (.r (.faddr 2 (.t 15)))⟩,
      .op ⟨(some 17), none, (.r (.load false 1 (.t 16)))⟩,
      .op ⟨(some 18), none, (.r (.mv (.t 4)))⟩,
      .op ⟨(some 19), none, (.r (.iasl 6 (.t 17) (.t 18)))⟩,
      .op ⟨(some 20), none, (.r (.faddr 4 (.t 19)))⟩,
      .op ⟨(some 21), none, (.r (.load false 1 (.t 20)))⟩,
      .op ⟨(some 4), none, (.r (.mv (.t 21)))⟩]))))))
  (.seq (.region [.op ⟨(some 33), none, (.r (.mv (.t 3)))⟩,
    .op ⟨(some 2), none, (.r (.mv (.t 33)))⟩])
  .ret)))) }
/-- slices.Sort[[]string,string] -/
def pf52 : PF := { ntmps := 11, results := [], body :=
  (.seq (.region [.op ⟨(some 3), none, (.r (.mv (.t 0)))⟩,
    .op ⟨(some 4), none, (.r (.lensl (.t 3)))⟩,
    .op ⟨(some 2), none, (.r (.mv (.t 4)))⟩])
  (.region [.op ⟨(some 5), none, (.r (.mv (.t 0)))⟩,
    .op ⟨(some 6), none, (.r (.mv (.t 2)))⟩,
    .op ⟨(some 7), none, (.r (.mv (.t 2)))⟩,
    .op ⟨(some 8), none, (.r (.cint .u64 (.t 7)))⟩,
    .op ⟨(some 9), none, (.e (.call 30 [(.t 8)]))⟩,
    .op ⟨(some 10), none, (.e (.call 73 [(.t 5), (.c (.int .i64 (.ofNat 0))), (.t 6), (.t 9)]))⟩])) }
/-- depot/pack.Text -/
def pf53 : PF := { ntmps := 15, results := [.tmp 4], body :=
  (.seq (.region [.op ⟨(some 4), none, (.r (.mv (.c .nils)))⟩])
  (.seq (.region [.op ⟨(some 5), none, (.r (.mv (.t 0)))⟩,
    .op ⟨(some 6), none, (.r (.mv (.t 1)))⟩,
    .op ⟨(some 7), none, (.r (.lens (.t 6)))⟩,
    .op ⟨(some 8), none, (.r (.bin .add (.c (.int .i64 (.ofNat 10))) (.t 7)))⟩,
    .op ⟨(some 9), none, (.e (.call 65 [(.t 5), (.t 8)]))⟩,
    .op ⟨(some 10), none, (.r (.mv (.t 1)))⟩,
    .op ⟨(some 11), none, (.r (.lens (.t 10)))⟩,
    .op ⟨(some 12), none, (.e (.call 64 [(.t 9), (.t 11)]))⟩,
    .op ⟨(some 13), none, (.r (.mv (.t 1)))⟩,
    .op ⟨(some 14), none, (.e (.app 2 1 1 (.t 12) (.t 13)))⟩,
    .op ⟨(some 4), none, (.r (.mv (.t 14)))⟩])
  .ret)) }
/-- (*depot/item.Store).Get -/
def pf54 : PF := { ntmps := 34, results := [.tmp 4, .tmp 5], body :=
  (.seq (.region [.op ⟨(some 4), none, (.r (.mv (.c (.str []))))⟩,
    .op ⟨(some 5), none, (.r (.mv (.c (.bool false))))⟩])
  (.seq (.region [.op ⟨(some 11), none, (.r (.mv (.t 0)))⟩,
    .op ⟨(some 12), none, (.r (.mv (.t 1)))⟩,
    .op ⟨(some 13), none, (.e (.call 74 [(.t 11), (.t 12)]))⟩,
    .op ⟨(some 10), none, (.r (.mv (.t 13)))⟩,
    .op ⟨(some 14), none, (.r (.ext 0 (.t 10)))⟩,
    .op ⟨(some 15), none, (.r (.ext 1 (.t 10)))⟩,
    .op ⟨(some 6), none, (.r (.mv (.t 14)))⟩,
    .op ⟨(some 7), none, (.r (.mv (.t 15)))⟩])
  (.seq (.seq (.region [.op ⟨(some 16), none, (.r (.mv (.t 7)))⟩])
  (.cond (.t 16)
   (.seq (.region [.op ⟨(some 18), none, (.r (.mv (.t 0)))⟩,
     .op ⟨(some 19), none, (.r (.nilck (.t 18)))⟩,
     .op ⟨(some 20), none, (.r (.faddr 1 (.t 19)))⟩,
     .op ⟨(some 21), none, (.r (.load false 1 (.t 20)))⟩,
     .op ⟨(some 22), none, (.r (.mv (.t 1)))⟩,
     .op ⟨(some 23), none, (.e (.call 66 [(.t 21), (.t 22)]))⟩,
     .op ⟨(some 17), none, (.r (.mv (.t 23)))⟩,
     .op ⟨(some 24), none, (.r (.ext 0 (.t 17)))⟩,
     .op ⟨(some 25), none, (.r (.ext 1 (.t 17)))⟩,
     .op ⟨(some 8), none, (.r (.mv (.t 24)))⟩,
     .op ⟨(some 9), none, (.r (.mv (.t 25)))⟩])
   (.seq (.region [.op ⟨(some 26), none, (.r (.mv (.t 0)))⟩,
     .op ⟨(some 27), none, (.r (.mv (.t 8)))⟩,
     .op ⟨(some 28), none, (.e (.call 75 [(.t 26), (.t 27)]))⟩])
   (.region [.op ⟨(some 29), none, (.r (.mv (.t 0)))⟩,
     .op ⟨(some 30), none, (.r (.mv (.t 8)))⟩,
     .op ⟨(some 31), none, (.e (.call 62 [(.t 29), (.t 30)]))⟩])))
   .skip))
  (.seq (.region [.op ⟨(some 32), none, (.r (.mv (.t 6)))⟩,
    .op ⟨(some 33), none, (.r (.mv (.t 7)))⟩,
    .op ⟨(some 4), none, (.r (.mv (.t 32)))⟩,
    .op ⟨(some 5), none, (.r (.mv (.t 33)))⟩])
  .ret)))) }
/-- depot/pack.Read -/
def pf55 : PF := { ntmps := 7, results := [.tmp 2], body :=
  (.seq (.region [.op ⟨(some 2), none, (.r (.mv (.c .nilp)))⟩])
  (.seq (.region [.op ⟨(some 3), none, (.r (.mv (.t 0)))⟩,
    .op ⟨(some 4), none, (.e (.call 65 [(.t 3), (.c (.int .i64 (.ofNat 0)))]))⟩,
    .op ⟨(some 5), none, (.r (.build [.nils, (.int .i64 (.ofNat 0)), (.int .i64 (.ofNat 0))] [(0, 1, (.t 4))]))⟩,
    .op ⟨(some 6), none, (.n (.box (.t 5)))⟩,
    .op ⟨(some 2), none, (.r (.mv (.t 6)))⟩])
  .ret)) }
/-- (*depot/pack.Reader).Num -/
def pf56 : PF := { ntmps := 84, results := [.tmp 2], body :=
  (.seq (.region [.op ⟨(some 2), none, (.r (.mv (.c (.int .i64 (.ofNat 0)))))⟩])
  (.seq (.seq (.region [.op ⟨(some 7), none, (.r (.mv (.t 0)))⟩,
    .op ⟨(some 8), none, (.r (.nilck (.t 7)))⟩,
    .op ⟨(some 9), none, (.r (.faddr 2 (.t 8)))⟩,
    .op ⟨(some 10), none, (.r (.load false 1 (.t 9)))⟩,
    .op ⟨(some 11), none, (.r (.bin .neq (.t 10) (.c (.int .i64 (.ofNat 0)))))⟩])
  (.cond (.t 11)
   (.seq (.region [.op ⟨(some 2), none, (.r (.mv (.c (.int .i64 (.ofNat 0)))))⟩])
   .ret)
   .skip))
  (.seq (.region [.op ⟨(some 12), none, (.r (.mv (.t 0)))⟩,
    .op ⟨(some 13), none, (.r (.nilck (.t 12)))⟩,
    .op ⟨(some 14), none, (.r (.faddr 1 (.t 13)))⟩,
    .op ⟨(some 15), none, (.r (.load false 1 (.t 14)))⟩,
    .op ⟨(some 3), none, (.r (.mv (.t 15)))⟩,
    .op ⟨(some 4), none, (.r (.mv (.c (.int .u64 (.ofNat 0)))))⟩])
  (.seq (.region [.op ⟨(some 5), none, (.r (.mv (.c (.int .i64 (.ofNat 0)))))⟩])
  (.block 0 (.loop (.seq (.block 1 (.seq (.seq (.region [.op ⟨(some 18), none, (.r (.mv (.t 0)))⟩,
       .op ⟨(some 19), none, (.r (.nilck (.t 18)))⟩,
       .op ⟨(some 20), none, (.r (.faddr 1 (.t 19)))⟩,
       .op ⟨(some 21), none, (.r (.load false 1 (.t 20)))⟩,
       .op ⟨(some 22), none, (.r (.mv (.t 0)))⟩,
       .op ⟨(some 23), none, (.r (.nilck (.t 22)))⟩,
       .op ⟨(some 24), none, (.r (.faddr 0 (.t 23)))⟩,
       .op ⟨(some 25), none, (.r (.load false 1 (.t 24)))⟩,
       .op ⟨(some 26), none, (.r (.lensl (.t 25)))⟩,
       .op ⟨(some 27), none, (.r (.bin .eql (.t 21) (.t 26)))⟩])
     (.cond (.t 27)
      (.seq (.region [.op ⟨(some 28), none, (.r (.mv (.t 0)))⟩,
        .op ⟨(some 29), none, (.r (.mv (.t 3)))⟩,
        .op ⟨(some 30), none, (.e (.call 76 [(.t 28), (.t 29), (.c (.int .i64 (.ofNat 3)))]))⟩])
      (.seq (.region [.op ⟨(some 2), none, (.r (.mv (.c (.int .i64 (.ofNat 0)))))⟩])
      .ret))
      .skip))
     (.seq (.region [.op ⟨(some 31), none, (.r (.mv (.t 0)))⟩,
       .op ⟨(some 32), none, (.r (.nilck (.t 31)))⟩,
       .op ⟨(some 33), none, (.r (.faddr 0 (.t 32)))⟩,
       .op ⟨(some 34), none, (.r (.load false 1 (.t 33)))⟩,
       .op ⟨(some 35), none, (.r (.mv (.t 0)))⟩,
       .op ⟨(some 36), none, (.r (.nilck (.t 35)))⟩,
       .op ⟨(some 37), none, (.r (.faddr 1 (.t 36)))⟩,
       .op ⟨(some 38), none, (.r (.load false 1 (.t 37)))⟩,
       .op ⟨(some 39), none, (.r (.iasl 1 (.t 34) (.t 38)))⟩,
       .op ⟨(some 40), none, (.r (.load false 1 (.t 39)))⟩,
       .op ⟨(some 6), none, (.r (.mv (.t 40)))⟩])
     (.seq (.seq (.region [.op ⟨(some 41), none, (.r (.mv (.t 5)))⟩,
       .op ⟨(some 42), none, (.r (.bin .gtr (.t 41) (.c (.int .i64 (.ofNat 0)))))⟩,
       .op ⟨(some 43), none, (.r (.mv (.t 42)))⟩,
       .op ⟨(some 44), (some (43, true)), (.r (.mv (.t 6)))⟩,
       .op ⟨(some 45), (some (43, true)), (.r (.bin .eql (.t 44) (.c (.int .u8 (.ofNat 0)))))⟩,
       .op ⟨(some 46), none, (.r (.pick (.t 43) (.t 45) (.c (.bool false))))⟩,
       .op ⟨(some 47), none, (.r (.mv (.t 46)))⟩,
       .op ⟨(some 48), (some (47, false)), (.r (.mv (.t 5)))⟩,
       .op ⟨(some 49), (some (47, false)), (.r (.bin .eql (.t 48) (.c (.int .i64 (.ofNat 9)))))⟩,
       .op ⟨(some 50), (some (47, false)), (.r (.mv (.t 49)))⟩,
       .op ⟨(some 51), (some (50, true)), (.r (.mv (.t 6)))⟩,
       .op ⟨(some 52), (some (50, true)), (.r (.bin .gtr (.t 51) (.c (.int .u8 (.ofNat 1)))))⟩,
       .op ⟨(some 53), (some (47, false)), (.r (.pick (.t 50) (.t 52) (.c (.bool false))))⟩,
       .op ⟨(some 54), none, (.r (.pick (.t 47) (.c (.bool true)) (.t 53)))⟩])
     (.cond (.t 54)
      (.seq (.region [.op ⟨(some 55), none, (.r (.mv (.t 0)))⟩,
        .op ⟨(some 56), none, (.r (.mv (.t 3)))⟩,
        .op ⟨(some 57), none, (.e (.call 76 [(.t 55), (.t 56), (.c (.int .i64 (.ofNat 4)))]))⟩])
      (.seq (.region [.op ⟨(some 2), none, (.r (.mv (.c (.int .i64 (.ofNat 0)))))⟩])
      .ret))
      .skip))
     (.seq (.region [.op ⟨(some 58), none, (.r (.mv (.t 0)))⟩,
       .op ⟨(some 59), none, (.r (.nilck (.t 58)))⟩,
       .op ⟨(some 60), none, (.r (.faddr 1 (.t 59)))⟩,
       .op ⟨(some 61), none, (.r (.load false 1 (.t 60)))⟩,
       .op ⟨(some 62), none, (.r (.bin .add (.t 61) (.c (.int .i64 (.ofNat 1)))))⟩,
       .op ⟨(some 63), none, (.r (.nilck (.t 58)))⟩,
       .op ⟨(some 64), none, (.r (.faddr 1 (.t 63)))⟩,
       .op ⟨none, none, (.e (.store 1 (.t 64) (.t 62)))⟩])
     (.seq (.region [.op ⟨(some 65), none, (.r (.mv (.t 4)))⟩,
       .op ⟨(some 66), none, (.r (.mv (.t 6)))⟩,
       .op ⟨(some 67), none, (.r (.bin .and (.t 66) (.c (.int .u8 (.ofNat 127)))))⟩,
       .op ⟨(some 68), none, (.r (.cint .u64 (.t 67)))⟩,
       .op ⟨(some 69), none, (.r (.mv (.t 5)))⟩,
       .op ⟨(some 70), none, (.r (.bin .mul (.c (.int .i64 (.ofNat 7))) (.t 69)))⟩,
       .op ⟨(some 71), none, (.r (.cint .u64 (.t 70)))⟩,
       .op ⟨(some 72), none, (.r (.bin .shl (.t 68) (.t 71)))⟩,
       .op ⟨(some 73), none, (.r (.bin .or (.t 65) (.t 72)))⟩,
       .op ⟨(some 4), none, (.r (.mv (.t 73)))⟩])
     (.seq (.region [.op ⟨(some 74), none, (.r (.mv (.t 6)))⟩,
       .op ⟨(some 75), none, (.r (.bin .lss (.t 74) (.c (.int .u8 (.ofNat 128)))))⟩])
     (.cond (.t 75)
      (.seq (.region [.op ⟨(some 76), none, (.r (.mv (.t 4)))⟩,
        .op ⟨(some 77), none, (.r (.bin .shr (.t 76) (.c (.int .u64 (.ofNat 1)))))⟩,
        .op ⟨(some 78), none, (.r (.cint .i64 (.t 77)))⟩,
        .op ⟨(some 79), none, (.r (.mv (.t 4)))⟩,
        .op ⟨(some 80), none, (.r (.bin .and (.t 79) (.c (.int .u64 (.ofNat 1)))))⟩,
        .op ⟨(some 81), none, (.r (.cint .i64 (.t 80)))⟩,
        .op ⟨(some 82), none, (.r (.un .neg (.t 81)))⟩,
        .op ⟨(some 83), none, (.r (.bin .xor (.t 78) (.t 82)))⟩,
        .op ⟨(some 2), none, (.r (.mv (.t 83)))⟩])
      .ret)
      .skip))))))))
    (.region [.op ⟨(some 16), none, (.r (.mv (.t 5)))⟩,
      .op ⟨(some 17), none, (.r (.bin .add (.t 16) (.c (.int .i64 (.ofNat 1)))))⟩,
      .op ⟨(some 5), none, (.r (.mv (.t 17)))⟩])))))))) }
/-- (*depot/pack.Reader).At -/
def pf57 : PF := { ntmps := 7, results := [.tmp 2], body :=
  (.seq (.region [.op ⟨(some 2), none, (.r (.mv (.c (.int .i64 (.ofNat 0)))))⟩])
  (.seq (.region [.op ⟨(some 3), none, (.r (.mv (.t 0)))⟩,
    .op ⟨(some 4), none, (.r (.nilck (.t 3)))⟩,
    .op ⟨(some 5), none, (.r (.faddr 1 (.t 4)))⟩,
    .op ⟨(some 6), none, (.r (.load false 1 (.t 5)))⟩,
    .op ⟨(some 2), none, (.r (.mv (.t 6)))⟩])
  .ret)) }
/-- (*depot/slab.Slab).Class -/
def pf58 : PF := { ntmps := 25, results := [.tmp 4], body :=
  (.seq (.region [.op ⟨(some 4), none, (.r (.mv (.c (.int .i64 (.ofNat 0)))))⟩])
  (.seq (.seq (.region [.op ⟨(some 7), none, (.r (.mv (.t 1)))⟩,
    .op ⟨(some 8), none, (.r (.bin .lss (.t 7) (.c (.int .i64 (.ofNat 0)))))⟩])
  (.cond (.t 8)
   (.seq (.region [.op ⟨(some 4), none, (.r (.mv (.c (.int .i64 (.negSucc 0)))))⟩])
   .ret)
   .skip))
  (.seq (.seq (.region [.op ⟨(some 9), none, (.r (.mv (.t 0)))⟩,
    .op ⟨(some 10), none, (.r (.nilck (.t 9)))⟩,
    .op ⟨(some 11), none, (.r (.faddr 3 (.t 10)))⟩,
    .op ⟨(some 12), none, (.r (.load false 1 (.t 11)))⟩,
    .op ⟨(some 13), none, (.r (.lensl (.t 12)))⟩,
    .op ⟨(some 14), none, (.r (.mv (.c (.int .i64 (.ofNat 0)))))⟩])
  (.block 0 (.loop (.seq (.region [.op ⟨(some 15), none, (.r (.bin .lss (.t 14) (.t 13)))⟩])
    (.seq (.cond (.t 15)
     .skip
     (.exit 0))
    (.seq (.block 1 (.seq (.region [.op ⟨(some 16), none, (.r (.mv (.t 14)))⟩,
       .op ⟨(some 17), none, (.r (.iasl 4 (.t 12) (.t 14)))⟩,
       .op ⟨(some 18), none, (.r (.load true 4 (.t 17)))⟩,
       .op ⟨(some 6), none, (.n (.new 0 [(.int .i64 (.ofNat 0)), .nils, .nilm, (.int .i64 (.ofNat 0))]))⟩,
       .op ⟨(some 5), none, (.r (.mv (.t 16)))⟩,
       .op ⟨none, none, (.e (.store 4 (.t 6) (.t 18)))⟩])
     (.seq (.region [.op ⟨(some 19), none, (.r (.faddr 0 (.t 6)))⟩,
       .op ⟨(some 20), none, (.r (.load false 1 (.t 19)))⟩,
       .op ⟨(some 21), none, (.r (.mv (.t 1)))⟩,
       .op ⟨(some 22), none, (.r (.bin .geq (.t 20) (.t 21)))⟩])
     (.cond (.t 22)
      (.seq (.region [.op ⟨(some 23), none, (.r (.mv (.t 5)))⟩,
        .op ⟨(some 4), none, (.r (.mv (.t 23)))⟩])
      .ret)
      .skip))))
    (.region [.op ⟨(some 24), none, (.r (.bin .add (.t 14) (.c (.int .i64 (.ofNat 1)))))⟩,
      .op ⟨(some 14), none, (.r (.mv (.t 24)))⟩])))))))
  (.seq (.region [.op ⟨(some 4), none, (.r (.mv (.c (.int .i64 (.negSucc 0)))))⟩])
  .ret)))) }
/-- (*depot/slab.Slab).Alloc -/
def pf59 : PF := { ntmps := 123, results := [.cell 4 true 2, .tmp 5], body :=
  (.seq (.region [.op ⟨(some 4), none, (.n (.new 0 [(.int .i64 (.ofNat 0)), (.int .i64 (.ofNat 0))]))⟩,
    .op ⟨(some 5), none, (.r (.mv (.c (.int .i64 (.ofNat 0)))))⟩])
  (.seq (.region [.op ⟨(some 11), none, (.r (.mv (.t 0)))⟩,
    .op ⟨(some 12), none, (.r (.mv (.t 1)))⟩,
    .op ⟨(some 13), none, (.r (.lens (.t 12)))⟩,
    .op ⟨(some 14), none, (.e (.call 58 [(.t 11), (.t 13)]))⟩,
    .op ⟨(some 6), none, (.r (.mv (.t 14)))⟩])
  (.seq (.seq (.region [.op ⟨(some 15), none, (.r (.mv (.t 6)))⟩,
    .op ⟨(some 16), none, (.r (.bin .lss (.t 15) (.c (.int .i64 (.ofNat 0)))))⟩])
  (.cond (.t 16)
   (.seq (.region [.op ⟨(some 17), none, (.r (.build [(.int .i64 (.ofNat 0)), (.int .i64 (.ofNat 0))] []))⟩,
     .op ⟨none, none, (.e (.store 2 (.t 4) (.t 17)))⟩,
     .op ⟨(some 5), none, (.r (.mv (.c (.int .i64 (.ofNat 2)))))⟩])
   .ret)
   .skip))
  (.seq (.region [.op ⟨(some 18), none, (.r (.mv (.t 0)))⟩,
    .op ⟨(some 19), none, (.r (.nilck (.t 18)))⟩,
    .op ⟨(some 20), none, (.r (.faddr 3 (.t 19)))⟩,
    .op ⟨(some 21), none, (.r (.load false 1 (.t 20)))⟩,
    .op ⟨(some 22), none, (.r (.mv (.t 6)))⟩,
    .op ⟨(some 23), none, (.r (.iasl 4 (.t 21) (.t 22)))⟩,
    .op ⟨(some 7), none, (.r (.mv (.t 23)))⟩])
  (.seq (.seq (.region [.op ⟨(some 24), none, (.r (.mv (.t 7)))⟩,
    .op ⟨(some 25), none, (.r (.nilck (.t 24)))⟩,
    .op ⟨(some 26), none, (.r (.faddr 1 (.t 25)))⟩,
    .op ⟨(some 27), none, (.r (.load false 1 (.t 26)))⟩,
    .op ⟨(some 28), none, (.r (.lensl (.t 27)))⟩,
    .op ⟨(some 29), none, (.r (.bin .eql (.t 28) (.c (.int .i64 (.ofNat 0)))))⟩])
  (.cond (.t 29)
   (.seq (.seq (.region [.op ⟨(some 30), none, (.r (.mv (.t 0)))⟩,
     .op ⟨(some 31), none, (.r (.nilck (.t 30)))⟩,
     .op ⟨(some 32), none, (.r (.faddr 1 (.t 31)))⟩,
     .op ⟨(some 33), none, (.r (.load false 1 (.t 32)))⟩,
     .op ⟨(some 34), none, (.r (.bin .eql (.t 33) (.c (.int .i64 (.ofNat 0)))))⟩])
   (.cond (.t 34)
    (.seq (.region [.op ⟨(some 35), none, (.r (.build [(.int .i64 (.ofNat 0)), (.int .i64 (.ofNat 0))] []))⟩,
      .op ⟨none, none, (.e (.store 2 (.t 4) (.t 35)))⟩,
      .op ⟨(some 5), none, (.r (.mv (.c (.int .i64 (.ofNat 6)))))⟩])
    .ret)
    .skip))
   (.seq (.region [.op ⟨(some 36), none, (.r (.mv (.t 0)))⟩,
     .op ⟨(some 37), none, (.r (.nilck (.t 36)))⟩,
     .op ⟨(some 38), none, (.r (.faddr 1 (.t 37)))⟩,
     .op ⟨(some 39), none, (.r (.load false 1 (.t 38)))⟩,
     .op ⟨(some 40), none, (.r (.bin .sub (.t 39) (.c (.int .i64 (.ofNat 1)))))⟩,
     .op ⟨(some 41), none, (.r (.nilck (.t 36)))⟩,
     .op ⟨(some 42), none, (.r (.faddr 1 (.t 41)))⟩,
     .op ⟨none, none, (.e (.store 1 (.t 42) (.t 40)))⟩])
   (.seq (.region [.op ⟨(some 43), none, (.r (.mv (.t 0)))⟩,
     .op ⟨(some 44), none, (.r (.nilck (.t 43)))⟩,
     .op ⟨(some 45), none, (.r (.faddr 2 (.t 44)))⟩,
     .op ⟨(some 46), none, (.r (.load false 1 (.t 45)))⟩,
     .op ⟨(some 47), none, (.r (.bin .add (.t 46) (.c (.int .i64 (.ofNat 1)))))⟩,
     .op ⟨(some 48), none, (.r (.nilck (.t 43)))⟩,
     .op ⟨(some 49), none, (.r (.faddr 2 (.t 48)))⟩,
     .op ⟨none, none, (.e (.store 1 (.t 49) (.t 47)))⟩])
   (.seq (.region [.op ⟨(some 50), none, (.r (.mv (.t 0)))⟩,
     .op ⟨(some 51), none, (.r (.nilck (.t 50)))⟩,
     .op ⟨(some 52), none, (.r (.faddr 0 (.t 51)))⟩,
     .op ⟨(some 53), none, (.r (.load false 1 (.t 52)))⟩,
     .op ⟨(some 54), none, (.r (.mv (.t 7)))⟩,
     .op ⟨(some 55), none, (.r (.nilck (.t 54)))⟩,
     .op ⟨(some 56), none, (.r (.faddr 0 (.t 55)))⟩,
     .op ⟨(some 57), none, (.r (.load false 1 (.t 56)))⟩,
     .op ⟨(some 58), none, (.r (.bin .quo (.t 53) (.t 57)))⟩,
     .op ⟨(some 8), none, (.r (.mv (.t 58)))⟩])
   (.seq (.seq (.region [.op ⟨(some 59), none, (.r (.mv (.t 8)))⟩,
     .op ⟨(some 60), none, (.r (.bin .sub (.t 59) (.c (.int .i64 (.ofNat 1)))))⟩,
     .op ⟨(some 9), none, (.r (.mv (.t 60)))⟩])
   (.block 0 (.loop (.seq (.seq (.region [.op ⟨(some 61), none, (.r (.mv (.t 9)))⟩,
       .op ⟨(some 62), none, (.r (.bin .geq (.t 61) (.c (.int .i64 (.ofNat 0)))))⟩])
     (.cond (.t 62)
      .skip
      (.exit 0)))
     (.seq (.block 1 (.region [.op ⟨(some 65), none, (.r (.mv (.t 7)))⟩,
        .op ⟨(some 66), none, (.r (.mv (.t 7)))⟩,
        .op ⟨(some 67), none, (.r (.nilck (.t 66)))⟩,
        .op ⟨(some 68), none, (.r (.faddr 1 (.t 67)))⟩,
        .op ⟨(some 69), none, (.r (.load false 1 (.t 68)))⟩,
        .op ⟨(some 70), none, (.r (.mv (.t 7)))⟩,
        .op ⟨(some 71), none, (.r (.nilck (.t 70)))⟩,
        .op ⟨(some 72), none, (.r (.faddr 3 (.t 71)))⟩,
        .op ⟨(some 73), none, (.r (.load false 1 (.t 72)))⟩,
        .op ⟨(some 74), none, (.r (.mv (.t 9)))⟩,
        .op ⟨(some 75), none, (.r (.bin .add (.t 73) (.t 74)))⟩,
        .op ⟨(some 76), none, (.n (.bslice 0 1 1 [(.int .i64 (.ofNat 0))] [(0, 1, (.t 75))]))⟩,
        .op ⟨(some 77), none, (.e (.app 0 1 8 (.t 69) (.t 76)))⟩,
        .op ⟨(some 78), none, (.r (.nilck (.t 65)))⟩,
        .op ⟨(some 79), none, (.r (.faddr 1 (.t 78)))⟩,
        .op ⟨none, none, (.e (.store 1 (.t 79) (.t 77)))⟩]))
     (.region [.op ⟨(some 63), none, (.r (.mv (.t 9)))⟩,
       .op ⟨(some 64), none, (.r (.bin .sub (.t 63) (.c (.int .i64 (.ofNat 1)))))⟩,
       .op ⟨(some 9), none, (.r (.mv (.t 64)))⟩]))))))
   (.region [.op ⟨(some 80), none, (.r (.mv (.t 7)))⟩,
     .op ⟨(some 81), none, (.r (.nilck (.t 80)))⟩,
     .op ⟨(some 82), none, (.r (.faddr 3 (.t 81)))⟩,
     .op ⟨(some 83), none, (.r (.load false 1 (.t 82)))⟩,
     .op ⟨(some 84), none, (.r (.mv (.t 8)))⟩,
     .op ⟨(some 85), none, (.r (.bin .add (.t 83) (.t 84)))⟩,
     .op ⟨(some 86), none, (.r (.nilck (.t 80)))⟩,
     .op ⟨(some 87), none, (.r (.faddr 3 (.t 86)))⟩,
     .op ⟨none, none, (.e (.store 1 (.t 87) (.t 85)))⟩]))))))
   .skip))
  (.seq (.region [.op ⟨(some 88), none, (.r (.mv (.t 7)))⟩,
    .op ⟨(some 89), none, (.r (.nilck (.t 88)))⟩,
    .op ⟨(some 90), none, (.r (.faddr 1 (.t 89)))⟩,
    .op ⟨(some 91), none, (.r (.load false 1 (.t 90)))⟩,
    .op ⟨(some 92), none, (.r (.mv (.t 7)))⟩,
    .op ⟨(some 93), none, (.r (.nilck (.t 92)))⟩,
    .op ⟨(some 94), none, (.r (.faddr 1 (.t 93)))⟩,
    .op ⟨(some 95), none, (.r (.load false 1 (.t 94)))⟩,
    .op ⟨(some 96), none, (.r (.lensl (.t 95)))⟩,
    .op ⟨(some 97), none, (.r (.bin .sub (.t 96) (.c (.int .i64 (.ofNat 1)))))⟩,
    .op ⟨(some 98), none, (.r (.iasl 1 (.t 91) (.t 97)))⟩,
    .op ⟨(some 99), none, (.r (.load false 1 (.t 98)))⟩,
    .op ⟨(some 10), none, (.r (.mv (.t 99)))⟩])
  (.seq (.region [.op ⟨(some 100), none, (.r (.mv (.t 7)))⟩,
    .op ⟨(some 101), none, (.r (.mv (.t 7)))⟩,
    .op ⟨(some 102), none, (.r (.nilck (.t 101)))⟩,
    .op ⟨(some 103), none, (.r (.faddr 1 (.t 102)))⟩,
    .op ⟨(some 104), none, (.r (.load false 1 (.t 103)))⟩,
    .op ⟨(some 105), none, (.r (.mv (.t 7)))⟩,
    .op ⟨(some 106), none, (.r (.nilck (.t 105)))⟩,
    .op ⟨(some 107), none, (.r (.faddr 1 (.t 106)))⟩,
    .op ⟨(some 108), none, (.r (.load false 1 (.t 107)))⟩,
    .op ⟨(some 109), none, (.r (.lensl (.t 108)))⟩,
    .op ⟨(some 110), none, (.r (.bin .sub (.t 109) (.c (.int .i64 (.ofNat 1)))))⟩,
    .op ⟨(some 111), none, (.r (.slsl 1 (.t 104) none (some (.t 110)) none))⟩,
    .op ⟨(some 112), none, (.r (.nilck (.t 100)))⟩,
    .op ⟨(some 113), none, (.r (.faddr 1 (.t 112)))⟩,
    .op ⟨none, none, (.e (.store 1 (.t 113) (.t 111)))⟩])
  (.seq (.region [.op ⟨(some 114), none, (.r (.mv (.t 7)))⟩,
    .op ⟨(some 115), none, (.r (.nilck (.t 114)))⟩,
    .op ⟨(some 116), none, (.r (.faddr 2 (.t 115)))⟩,
    .op ⟨(some 117), none, (.r (.load false 1 (.t 116)))⟩,
    .op ⟨(some 118), none, (.r (.mv (.t 10)))⟩,
    .op ⟨(some 119), none, (.r (.mv (.t 1)))⟩,
    .op ⟨none, none, (.e (.mupd false (.t 117) (.t 118) (.t 119)))⟩])
  (.seq (.region [.op ⟨(some 120), none, (.r (.mv (.t 6)))⟩,
    .op ⟨(some 121), none, (.r (.mv (.t 10)))⟩,
    .op ⟨(some 122), none, (.r (.build [(.int .i64 (.ofNat 0)), (.int .i64 (.ofNat 0))] [(0, 1, (.t 120)), (1, 1, (.t 121))]))⟩,
    .op ⟨none, none, (.e (.store 2 (.t 4) (.t 122)))⟩,
    .op ⟨(some 5), none, (.r (.mv (.c (.int .i64 (.ofNat 0)))))⟩])
  .ret))))))))) }
/-- (*depot/item.Store).oldest -/
def pf60 : PF := { ntmps := 47, results := [.tmp 4], body :=
  (.seq (.region [.op ⟨(some 4), none, (.r (.mv (.c (.int .i64 (.ofNat 0)))))⟩])
  (.scope (.seq (.region [.op ⟨(some 5), none, (.r (.mv (.c (.int .i64 (.ofNat 0)))))⟩])
   (.seq .skip
   (.seq (.seq (.region [.op ⟨(some 7), none, (.r (.mv (.t 0)))⟩,
     .op ⟨(some 8), none, (.r (.nilck (.t 7)))⟩,
     .op ⟨(some 9), none, (.r (.faddr 2 (.t 8)))⟩,
     .op ⟨(some 10), none, (.r (.load false 1 (.t 9)))⟩,
     .op ⟨(some 11), none, (.r (.iasl 6 (.t 10) (.c (.int .i64 (.ofNat 0)))))⟩,
     .op ⟨(some 12), none, (.r (.faddr 5 (.t 11)))⟩,
     .op ⟨(some 13), none, (.r (.load false 1 (.t 12)))⟩,
     .op ⟨(some 6), none, (.r (.mv (.t 13)))⟩])
   (.block 0 (.loop (.seq (.seq (.region [.op ⟨(some 14), none, (.r (.mv (.t 6)))⟩,
       .op ⟨(some 15), none, (.r (.bin .neq (.t 14) (.c (.int .i64 (.ofNat 0)))))⟩])
     (.cond (.t 15)
      .skip
      (.exit 0)))
     (.seq (.block 1 (.seq (.seq (.region [.op ⟨(some 24), none, (.r (.mv (.t 0)))⟩,
        .op ⟨(some 25), none, (.r (.nilck (.t 24)))⟩,
        .op ⟨(some 26), none, (.r (.faddr 2 (.t 25)))⟩,
        .op ⟨(some 27), none, (.r (.load false 1 (.t 26)))⟩,
        .op ⟨(some 28), none, (.r (.mv (.t 6)))⟩,
        .op ⟨(some 29), none, (.r (.iasl 6 (.t 27) (.t 28)))⟩,
        .op ⟨(some 30), none, (.r (.faddr 3 (.t 29)))⟩,
        .op ⟨(some 31), none, (.r (.load false 1 (.t 30)))⟩,
        .op ⟨(some 32), none, (.r (.mv (.t 31)))⟩,
        .op ⟨(some 33), (some (32, false)), (.r (.mv (.t 0)))⟩,
        .op ⟨(some 34), (some (32, false)), (.r (.nilck (.t 33)))⟩,
        .op ⟨(some 35), (some (32, false)), (.r (.faddr 2 (.t 34)))⟩,
        .op ⟨(some 36), (some (32, false)), (.r (.load false 1 (.t 35)))⟩,
        .op ⟨(some 37), (some (32, false)), (.r (.mv (.t 6)))⟩,
        .op ⟨(some 38), (some (32, false)), (.r (.iasl 6 (.t 36) (.t 37)))⟩,
        .op ⟨(some 39), (some (32, false)), (.r (.faddr 1 (.t 38)))⟩,
        .op ⟨(some 40), (some (32, false)), (.r (.faddr 0 (.t 39)))⟩,
        .op ⟨(some 41), (some (32, false)), (.r (.load false 1 (.t 40)))⟩,
        .op ⟨(some 42), (some (32, false)), (.r (.mv (.t 1)))⟩,
        .op ⟨(some 43), (some (32, false)), (.r (.bin .neq (.t 41) (.t 42)))⟩,
        .op ⟨(some 44), none, (.r (.pick (.t 32) (.c (.bool true)) (.t 43)))⟩])
      (.cond (.t 44)
       (.exit 1)
       .skip))
      (.seq (.region [.op ⟨(some 45), none, (.r (.mv (.t 6)))⟩,
        .op ⟨(some 5), none, (.r (.mv (.t 45)))⟩])
      (.exit 0))))
     (.region [.op ⟨(some 16), none, (.r (.mv (.t 0)))⟩,
       .op ⟨(some 17), none, (.r (.nilck (.t 16)))⟩,
       .op ⟨(some 18), none, (.r (.faddr 2 (.t 17)))⟩,
       .op ⟨(some 19), none, (.r (.load false 1 (.t 18)))⟩,
       .op ⟨(some 20), none, (.r (.mv (.t 6)))⟩,
       .op ⟨(some 21), none, (.r (.iasl 6 (.t 19) (.t 20)))⟩,
       .op ⟨(some 22), none, (.r (.faddr 5 (.t 21)))⟩,
       .op ⟨(some 23), none, (.r (.load false 1 (.t 22)))⟩,
       .op ⟨(some 6), none, (.r (.mv (.t 23)))⟩]))))))
   (.seq (.region [.op ⟨(some 46), none, (.r (.mv (.t 5)))⟩,
     .op ⟨(some 4), none, (.r (.mv (.t 46)))⟩])
   .ret)))))) }
/-- (*depot/item.Store).gone -/
def pf61 : PF := { ntmps := 50, results := [], body :=
  (.seq (.region [.op ⟨(some 4), none, (.r (.mv (.t 0)))⟩,
    .op ⟨(some 5), none, (.r (.nilck (.t 4)))⟩,
    .op ⟨(some 6), none, (.r (.faddr 0 (.t 5)))⟩,
    .op ⟨(some 7), none, (.r (.load false 1 (.t 6)))⟩,
    .op ⟨(some 8), none, (.r (.mv (.t 0)))⟩,
    .op ⟨(some 9), none, (.r (.nilck (.t 8)))⟩,
    .op ⟨(some 10), none, (.r (.faddr 2 (.t 9)))⟩,
    .op ⟨(some 11), none, (.r (.load false 1 (.t 10)))⟩,
    .op ⟨(some 12), none, (.r (.mv (.t 1)))⟩,
    .op ⟨(some 13), none, (.r (.iasl 6 (.t 11) (.t 12)))⟩,
    .op ⟨(some 14), none, (.r (.faddr 1 (.t 13)))⟩,
    .op ⟨(some 15), none, (.r (.load true 2 (.t 14)))⟩,
    .op ⟨(some 16), none, (.e (.call 77 [(.t 7), (.t 15)]))⟩])
  (.seq (.region [.op ⟨(some 17), none, (.r (.mv (.t 0)))⟩,
    .op ⟨(some 18), none, (.r (.nilck (.t 17)))⟩,
    .op ⟨(some 19), none, (.r (.faddr 1 (.t 18)))⟩,
    .op ⟨(some 20), none, (.r (.load false 1 (.t 19)))⟩,
    .op ⟨(some 21), none, (.r (.mv (.t 0)))⟩,
    .op ⟨(some 22), none, (.r (.nilck (.t 21)))⟩,
    .op ⟨(some 23), none, (.r (.faddr 2 (.t 22)))⟩,
    .op ⟨(some 24), none, (.r (.load false 1 (.t 23)))⟩,
    .op ⟨(some 25), none, (.r (.mv (.t 1)))⟩,
    .op ⟨(some 26), none, (.r (.iasl 6 (.t 24) (.t 25)))⟩,
    .op ⟨(some 27), none, (.r (.faddr 0 (.t 26)))⟩,
    .op ⟨(some 28), none, (.r (.load false 1 (.t 27)))⟩,
    .op ⟨(some 29), none, (.e (.call 78 [(.t 20), (.t 28)]))⟩])
  (.seq (.region [.op ⟨(some 30), none, (.r (.mv (.t 0)))⟩,
    .op ⟨(some 31), none, (.r (.mv (.t 1)))⟩,
    .op ⟨(some 32), none, (.e (.call 75 [(.t 30), (.t 31)]))⟩])
  (.seq (.region [.op ⟨(some 33), none, (.r (.mv (.t 0)))⟩,
    .op ⟨(some 34), none, (.r (.nilck (.t 33)))⟩,
    .op ⟨(some 35), none, (.r (.faddr 2 (.t 34)))⟩,
    .op ⟨(some 36), none, (.r (.load false 1 (.t 35)))⟩,
    .op ⟨(some 37), none, (.r (.mv (.t 1)))⟩,
    .op ⟨(some 38), none, (.r (.build [(.str []), (.int .i64 (.ofNat 0)), (.int .i64 (.ofNat 0)), (.bool false), (.int .i64 (.ofNat 0)), (.int .i64 (.ofNat 0))] []))⟩,
    .op ⟨(some 39), none, (.r (.iasl 6 (.t 36) (.t 37)))⟩,
    .op ⟨none, none, (.e (.store 6 (.t 39) (.t 38)))⟩])
  (.region [.op ⟨(some 40), none, (.r (.mv (.t 0)))⟩,
    .op ⟨(some 41), none, (.r (.mv (.t 0)))⟩,
    .op ⟨(some 42), none, (.r (.nilck (.t 41)))⟩,
    .op ⟨(some 43), none, (.r (.faddr 3 (.t 42)))⟩,
    .op ⟨(some 44), none, (.r (.load false 1 (.t 43)))⟩,
    .op ⟨(some 45), none, (.r (.mv (.t 1)))⟩,
    .op ⟨(some 46), none, (.n (.bslice 0 1 1 [(.int .i64 (.ofNat 0))] [(0, 1, (.t 45))]))⟩,
    .op ⟨(some 47), none, (.e (.app 0 1 8 (.t 44) (.t 46)))⟩,
    .op ⟨(some 48), none, (.r (.nilck (.t 40)))⟩,
    .op ⟨(some 49), none, (.r (.faddr 3 (.t 48)))⟩,
    .op ⟨none, none, (.e (.store 1 (.t 49) (.t 47)))⟩]))))) }
/-- (*depot/item.Store).in -/
def pf62 : PF := { ntmps := 42, results := [], body :=
  (.seq (.region [.op ⟨(some 5), none, (.r (.mv (.t 0)))⟩,
    .op ⟨(some 6), none, (.r (.nilck (.t 5)))⟩,
    .op ⟨(some 7), none, (.r (.faddr 2 (.t 6)))⟩,
    .op ⟨(some 8), none, (.r (.load false 1 (.t 7)))⟩,
    .op ⟨(some 9), none, (.r (.iasl 6 (.t 8) (.c (.int .i64 (.ofNat 0)))))⟩,
    .op ⟨(some 10), none, (.r (.faddr 4 (.t 9)))⟩,
    .op ⟨(some 11), none, (.r (.load false 1 (.t 10)))⟩,
    .op ⟨(some 4), none, (.r (.mv (.t 11)))⟩])
  (.seq (.region [.op ⟨(some 12), none, (.r (.mv (.t 0)))⟩,
    .op ⟨(some 13), none, (.r (.nilck (.t 12)))⟩,
    .op ⟨(some 14), none, (.r (.faddr 2 (.t 13)))⟩,
    .op ⟨(some 15), none, (.r (.load false 1 (.t 14)))⟩,
    .op ⟨(some 16), none, (.r (.mv (.t 1)))⟩,
    .op ⟨(some 17), none, (.r (.mv (.t 0)))⟩,
    .op ⟨(some 18), none, (.r (.nilck (.t 17)))⟩,
    .op ⟨(some 19), none, (.r (.faddr 2 (.t 18)))⟩,
    .op ⟨(some 20), none, (.r (.load false 1 (.t 19)))⟩,
    .op ⟨(some 21), none, (.r (.mv (.t 1)))⟩,
    .op ⟨(some 22), none, (.r (.mv (.t 4)))⟩,
    .op ⟨(some 23), none, (.r (.iasl 6 (.t 15) (.t 16)))⟩,
    .op ⟨(some 24), none, (.r (.faddr 5 (.t 23)))⟩,
    .op ⟨none, none, (.e (.store 1 (.t 24) (.c (.int .i64 (.ofNat 0)))))⟩,
    .op ⟨(some 25), none, (.r (.iasl 6 (.t 20) (.t 21)))⟩,
    .op ⟨(some 26), none, (.r (.faddr 4 (.t 25)))⟩,
    .op ⟨none, none, (.e (.store 1 (.t 26) (.t 22)))⟩])
  (.region [.op ⟨(some 27), none, (.r (.mv (.t 0)))⟩,
    .op ⟨(some 28), none, (.r (.nilck (.t 27)))⟩,
    .op ⟨(some 29), none, (.r (.faddr 2 (.t 28)))⟩,
    .op ⟨(some 30), none, (.r (.load false 1 (.t 29)))⟩,
    .op ⟨(some 31), none, (.r (.mv (.t 0)))⟩,
    .op ⟨(some 32), none, (.r (.nilck (.t 31)))⟩,
    .op ⟨(some 33), none, (.r (.faddr 2 (.t 32)))⟩,
    .op ⟨(some 34), none, (.r (.load false 1 (.t 33)))⟩,
    .op ⟨(some 35), none, (.r (.mv (.t 4)))⟩,
    .op ⟨(some 36), none, (.r (.mv (.t 1)))⟩,
    .op ⟨(some 37), none, (.r (.mv (.t 1)))⟩,
    .op ⟨(some 38), none, (.r (.iasl 6 (.t 30) (.c (.int .i64 (.ofNat 0)))))⟩,
    .op ⟨(some 39), none, (.r (.faddr 4 (.t 38)))⟩,
    .op ⟨none, none, (.e (.store 1 (.t 39) (.t 36)))⟩,
    .op ⟨(some 40), none, (.r (.iasl 6 (.t 34) (.t 35)))⟩,
    .op ⟨(some 41), none, (.r (.faddr 5 (.t 40)))⟩,
    .op ⟨none, none, (.e (.store 1 (.t 41) (.t 37)))⟩]))) }
/-- (*depot/chain.Chain).Put -/
def pf63 : PF := { ntmps := 83, results := [.tmp 6], body :=
  (.seq (.region [.op ⟨(some 6), none, (.r (.mv (.c (.bool false))))⟩])
  (.seq (.region [.op ⟨(some 10), none, (.r (.mv (.t 0)))⟩,
    .op ⟨(some 11), none, (.e (.call 79 [(.t 10)]))⟩])
  (.seq (.region [.op ⟨(some 12), none, (.r (.mv (.t 0)))⟩,
    .op ⟨(some 13), none, (.r (.mv (.t 1)))⟩,
    .op ⟨(some 14), none, (.e (.call 80 [(.t 12), (.t 13)]))⟩,
    .op ⟨(some 7), none, (.r (.mv (.t 14)))⟩])
  (.seq (.seq (.region [.op ⟨(some 15), none, (.r (.mv (.t 7)))⟩,
    .op ⟨(some 16), none, (.r (.nilck (.t 15)))⟩,
    .op ⟨(some 17), none, (.r (.load false 1 (.t 16)))⟩,
    .op ⟨(some 18), none, (.r (.mv (.t 1)))⟩,
    .op ⟨(some 19), none, (.e (.call 81 [(.t 17), (.t 18)]))⟩,
    .op ⟨(some 8), none, (.r (.mv (.t 19)))⟩])
  (.seq (.region [.op ⟨(some 20), none, (.r (.mv (.t 8)))⟩,
    .op ⟨(some 21), none, (.r (.bin .geq (.t 20) (.c (.int .i64 (.ofNat 0)))))⟩])
  (.cond (.t 21)
   (.seq (.region [.op ⟨(some 22), none, (.r (.mv (.t 7)))⟩,
     .op ⟨(some 23), none, (.r (.nilck (.t 22)))⟩,
     .op ⟨(some 24), none, (.r (.load false 1 (.t 23)))⟩,
     .op ⟨(some 25), none, (.r (.mv (.t 8)))⟩,
     .op ⟨(some 26), none, (.r (.mv (.t 2)))⟩,
     .op ⟨(some 27), none, (.r (.iasl 2 (.t 24) (.t 25)))⟩,
     .op ⟨(some 28), none, (.r (.faddr 1 (.t 27)))⟩,
     .op ⟨none, none, (.e (.store 1 (.t 28) (.t 26)))⟩])
   (.seq (.region [.op ⟨(some 6), none, (.r (.mv (.c (.bool false))))⟩])
   .ret))
   .skip)))
  (.seq (.region [.op ⟨(some 29), none, (.r (.mv (.t 7)))⟩,
    .op ⟨(some 30), none, (.r (.mv (.t 7)))⟩,
    .op ⟨(some 31), none, (.r (.nilck (.t 30)))⟩,
    .op ⟨(some 32), none, (.r (.load false 1 (.t 31)))⟩,
    .op ⟨(some 33), none, (.r (.mv (.t 1)))⟩,
    .op ⟨(some 34), none, (.r (.mv (.t 2)))⟩,
    .op ⟨(some 35), none, (.r (.build [(.str []), (.int .i64 (.ofNat 0))] [(0, 1, (.t 33)), (1, 1, (.t 34))]))⟩,
    .op ⟨(some 36), none, (.n (.bslice 0 2 1 [(.str []), (.int .i64 (.ofNat 0))] [(0, 2, (.t 35))]))⟩,
    .op ⟨(some 37), none, (.e (.app 0 2 24 (.t 32) (.t 36)))⟩,
    .op ⟨(some 38), none, (.r (.nilck (.t 29)))⟩,
    .op ⟨none, none, (.e (.store 1 (.t 38) (.t 37)))⟩])
  (.seq (.region [.op ⟨(some 39), none, (.r (.mv (.t 0)))⟩,
    .op ⟨(some 40), none, (.r (.nilck (.t 39)))⟩,
    .op ⟨(some 41), none, (.r (.faddr 3 (.t 40)))⟩,
    .op ⟨(some 42), none, (.r (.load false 1 (.t 41)))⟩,
    .op ⟨(some 43), none, (.r (.bin .add (.t 42) (.c (.int .i64 (.ofNat 1)))))⟩,
    .op ⟨(some 44), none, (.r (.nilck (.t 39)))⟩,
    .op ⟨(some 45), none, (.r (.faddr 3 (.t 44)))⟩,
    .op ⟨none, none, (.e (.store 1 (.t 45) (.t 43)))⟩])
  (.seq (.seq (.region [.op ⟨(some 46), none, (.r (.mv (.t 0)))⟩,
    .op ⟨(some 47), none, (.r (.nilck (.t 46)))⟩,
    .op ⟨(some 48), none, (.r (.faddr 0 (.t 47)))⟩,
    .op ⟨(some 49), none, (.r (.load false 1 (.t 48)))⟩,
    .op ⟨(some 50), none, (.r (.lensl (.t 49)))⟩,
    .op ⟨(some 9), none, (.r (.mv (.t 50)))⟩])
  (.seq (.region [.op ⟨(some 51), none, (.r (.mv (.t 0)))⟩,
    .op ⟨(some 52), none, (.r (.nilck (.t 51)))⟩,
    .op ⟨(some 53), none, (.r (.faddr 1 (.t 52)))⟩,
    .op ⟨(some 54), none, (.r (.load false 1 (.t 53)))⟩,
    .op ⟨(some 55), none, (.r (.lensl (.t 54)))⟩,
    .op ⟨(some 56), none, (.r (.bin .eql (.t 55) (.c (.int .i64 (.ofNat 0)))))⟩,
    .op ⟨(some 57), none, (.r (.mv (.t 56)))⟩,
    .op ⟨(some 58), (some (57, true)), (.r (.mv (.t 0)))⟩,
    .op ⟨(some 59), (some (57, true)), (.r (.nilck (.t 58)))⟩,
    .op ⟨(some 60), (some (57, true)), (.r (.faddr 3 (.t 59)))⟩,
    .op ⟨(some 61), (some (57, true)), (.r (.load false 1 (.t 60)))⟩,
    .op ⟨(some 62), (some (57, true)), (.r (.mv (.t 9)))⟩,
    .op ⟨(some 63), (some (57, true)), (.r (.bin .mul (.c (.int .i64 (.ofNat 2))) (.t 62)))⟩,
    .op ⟨(some 64), (some (57, true)), (.r (.bin .gtr (.t 61) (.t 63)))⟩,
    .op ⟨(some 65), none, (.r (.pick (.t 57) (.t 64) (.c (.bool false))))⟩,
    .op ⟨(some 66), none, (.r (.mv (.t 65)))⟩,
    .op ⟨(some 67), (some (66, true)), (.r (.mv (.t 9)))⟩,
    .op ⟨(some 68), (some (66, true)), (.r (.bin .lss (.t 67) (.c (.int .i64 (.ofNat 4096)))))⟩,
    .op ⟨(some 69), none, (.r (.pick (.t 66) (.t 68) (.c (.bool false))))⟩])
  (.cond (.t 69)
   (.region [.op ⟨(some 70), none, (.r (.mv (.t 0)))⟩,
     .op ⟨(some 71), none, (.r (.mv (.t 0)))⟩,
     .op ⟨(some 72), none, (.r (.mv (.t 0)))⟩,
     .op ⟨(some 73), none, (.r (.nilck (.t 72)))⟩,
     .op ⟨(some 74), none, (.r (.faddr 0 (.t 73)))⟩,
     .op ⟨(some 75), none, (.r (.load false 1 (.t 74)))⟩,
     .op ⟨(some 76), none, (.r (.mv (.t 9)))⟩,
     .op ⟨(some 77), none, (.r (.bin .mul (.c (.int .i64 (.ofNat 2))) (.t 76)))⟩,
     .op ⟨(some 78), none, (.n (.mksl 0 1 24 [.nils] (.t 77) (.t 77)))⟩,
     .op ⟨(some 79), none, (.r (.nilck (.t 70)))⟩,
     .op ⟨(some 80), none, (.r (.faddr 1 (.t 79)))⟩,
     .op ⟨none, none, (.e (.store 1 (.t 80) (.t 75)))⟩,
     .op ⟨(some 81), none, (.r (.nilck (.t 71)))⟩,
     .op ⟨(some 82), none, (.r (.faddr 0 (.t 81)))⟩,
     .op ⟨none, none, (.e (.store 1 (.t 82) (.t 78)))⟩])
   .skip)))
  (.seq (.region [.op ⟨(some 6), none, (.r (.mv (.c (.bool true))))⟩])
  .ret)))))))) }
/-- depot/pack.num -/
def pf64 : PF := { ntmps := 28, results := [.tmp 4], body :=
  (.seq (.region [.op ⟨(some 4), none, (.r (.mv (.c .nils)))⟩])
  (.seq (.region [.op ⟨(some 6), none, (.r (.mv (.t 1)))⟩,
    .op ⟨(some 7), none, (.r (.cint .u64 (.t 6)))⟩,
    .op ⟨(some 8), none, (.r (.bin .shl (.t 7) (.c (.int .u64 (.ofNat 1)))))⟩,
    .op ⟨(some 9), none, (.r (.mv (.t 1)))⟩,
    .op ⟨(some 10), none, (.r (.bin .shr (.t 9) (.c (.int .u64 (.ofNat 63)))))⟩,
    .op ⟨(some 11), none, (.r (.cint .u64 (.t 10)))⟩,
    .op ⟨(some 12), none, (.r (.bin .xor (.t 8) (.t 11)))⟩,
    .op ⟨(some 5), none, (.r (.mv (.t 12)))⟩])
  (.seq (.block 0 (.loop (.seq (.seq (.region [.op ⟨(some 13), none, (.r (.mv (.t 5)))⟩,
      .op ⟨(some 14), none, (.r (.bin .geq (.t 13) (.c (.int .u64 (.ofNat 128)))))⟩])
    (.cond (.t 14)
     .skip
     (.exit 0)))
    (.block 1 (.seq (.region [.op ⟨(some 15), none, (.r (.mv (.t 0)))⟩,
       .op ⟨(some 16), none, (.r (.mv (.t 5)))⟩,
       .op ⟨(some 17), none, (.r (.cint .u8 (.t 16)))⟩,
       .op ⟨(some 18), none, (.r (.bin .or (.t 17) (.c (.int .u8 (.ofNat 128)))))⟩,
       .op ⟨(some 19), none, (.n (.bslice 2 1 1 [(.int .u8 (.ofNat 0))] [(0, 1, (.t 18))]))⟩,
       .op ⟨(some 20), none, (.e (.app 2 1 1 (.t 15) (.t 19)))⟩,
       .op ⟨(some 0), none, (.r (.mv (.t 20)))⟩])
     (.region [.op ⟨(some 21), none, (.r (.mv (.t 5)))⟩,
       .op ⟨(some 22), none, (.r (.bin .shr (.t 21) (.c (.int .u64 (.ofNat 7)))))⟩,
       .op ⟨(some 5), none, (.r (.mv (.t 22)))⟩]))))))
  (.seq (.region [.op ⟨(some 23), none, (.r (.mv (.t 0)))⟩,
    .op ⟨(some 24), none, (.r (.mv (.t 5)))⟩,
    .op ⟨(some 25), none, (.r (.cint .u8 (.t 24)))⟩,
    .op ⟨(some 26), none, (.n (.bslice 2 1 1 [(.int .u8 (.ofNat 0))] [(0, 1, (.t 25))]))⟩,
    .op ⟨(some 27), none, (.e (.app 2 1 1 (.t 23) (.t 26)))⟩,
    .op ⟨(some 4), none, (.r (.mv (.t 27)))⟩])
  .ret)))) }
/-- depot/pack.grown -/
def pf65 : PF := { ntmps := 12, results := [.tmp 4], body :=
  (.seq (.region [.op ⟨(some 4), none, (.r (.mv (.c .nils)))⟩])
  (.seq (.region [.op ⟨(some 5), none, (.r (.mv (.t 0)))⟩,
    .op ⟨(some 6), none, (.r (.lensl (.t 5)))⟩,
    .op ⟨(some 7), none, (.r (.mv (.t 1)))⟩,
    .op ⟨(some 8), none, (.r (.bin .add (.t 6) (.t 7)))⟩,
    .op ⟨(some 9), none, (.n (.mksl 2 1 1 [(.int .u8 (.ofNat 0))] (.c (.int .i64 (.ofNat 0))) (.t 8)))⟩,
    .op ⟨(some 10), none, (.r (.mv (.t 0)))⟩,
    .op ⟨(some 11), none, (.e (.app 2 1 1 (.t 9) (.t 10)))⟩,
    .op ⟨(some 4), none, (.r (.mv (.t 11)))⟩])
  .ret)) }
/-- (*depot/chain.Chain).Get -/
def pf66 : PF := { ntmps := 23, results := [.tmp 4, .tmp 5], body :=
  (.seq (.region [.op ⟨(some 4), none, (.r (.mv (.c (.int .i64 (.ofNat 0)))))⟩,
    .op ⟨(some 5), none, (.r (.mv (.c (.bool false))))⟩])
  (.seq (.region [.op ⟨(some 8), none, (.r (.mv (.t 0)))⟩,
    .op ⟨(some 9), none, (.r (.mv (.t 1)))⟩,
    .op ⟨(some 10), none, (.e (.call 80 [(.t 8), (.t 9)]))⟩,
    .op ⟨(some 11), none, (.r (.nilck (.t 10)))⟩,
    .op ⟨(some 12), none, (.r (.load false 1 (.t 11)))⟩,
    .op ⟨(some 6), none, (.r (.mv (.t 12)))⟩])
  (.seq (.seq (.region [.op ⟨(some 13), none, (.r (.mv (.t 6)))⟩,
    .op ⟨(some 14), none, (.r (.mv (.t 1)))⟩,
    .op ⟨(some 15), none, (.e (.call 81 [(.t 13), (.t 14)]))⟩,
    .op ⟨(some 7), none, (.r (.mv (.t 15)))⟩])
  (.seq (.region [.op ⟨(some 16), none, (.r (.mv (.t 7)))⟩,
    .op ⟨(some 17), none, (.r (.bin .geq (.t 16) (.c (.int .i64 (.ofNat 0)))))⟩])
  (.cond (.t 17)
   (.seq (.region [.op ⟨(some 18), none, (.r (.mv (.t 6)))⟩,
     .op ⟨(some 19), none, (.r (.mv (.t 7)))⟩,
     .op ⟨(some 20), none, (.r (.iasl 2 (.t 18) (.t 19)))⟩,
     .op ⟨(some 21), none, (.r (.faddr 1 (.t 20)))⟩,
     .op ⟨(some 22), none, (.r (.load false 1 (.t 21)))⟩,
     .op ⟨(some 4), none, (.r (.mv (.t 22)))⟩,
     .op ⟨(some 5), none, (.r (.mv (.c (.bool true))))⟩])
   .ret)
   .skip)))
  (.seq (.region [.op ⟨(some 4), none, (.r (.mv (.c (.int .i64 (.ofNat 0)))))⟩,
    .op ⟨(some 5), none, (.r (.mv (.c (.bool false))))⟩])
  .ret)))) }
/-- slices.nextPowerOfTwo -/
def pf68 : PF := { ntmps := 7, results := [.tmp 2], body :=
  (.seq (.region [.op ⟨(some 2), none, (.r (.mv (.c (.int .u64 (.ofNat 0)))))⟩])
  (.seq (.region [.op ⟨(some 3), none, (.r (.mv (.t 0)))⟩,
    .op ⟨(some 4), none, (.r (.cint .u64 (.t 3)))⟩,
    .op ⟨(some 5), none, (.e (.call 30 [(.t 4)]))⟩,
    .op ⟨(some 6), none, (.r (.bin .shl (.c (.int .u64 (.ofNat 1))) (.t 5)))⟩,
    .op ⟨(some 2), none, (.r (.mv (.t 6)))⟩])
  .ret)) }
/-- (*slices.xorshift).Next -/
def pf69 : PF := { ntmps := 33, results := [.tmp 2], body :=
  (.seq (.region [.op ⟨(some 2), none, (.r (.mv (.c (.int .u64 (.ofNat 0)))))⟩])
  (.seq (.region [.op ⟨(some 3), none, (.r (.mv (.t 0)))⟩,
    .op ⟨(some 4), none, (.r (.nilck (.t 3)))⟩,
    .op ⟨(some 5), none, (.r (.load false 1 (.t 4)))⟩,
    .op ⟨(some 6), none, (.r (.mv (.t 0)))⟩,
    .op ⟨(some 7), none, (.r (.nilck (.t 6)))⟩,
    .op ⟨(some 8), none, (.r (.load false 1 (.t 7)))⟩,
    .op ⟨(some 9), none, (.r (.bin .shl (.t 8) (.c (.int .u64 (.ofNat 13)))))⟩,
    .op ⟨(some 10), none, (.r (.bin .xor (.t 5) (.t 9)))⟩,
    .op ⟨(some 11), none, (.r (.nilck (.t 3)))⟩,
    .op ⟨none, none, (.e (.store 1 (.t 11) (.t 10)))⟩])
  (.seq (.region [.op ⟨(some 12), none, (.r (.mv (.t 0)))⟩,
    .op ⟨(some 13), none, (.r (.nilck (.t 12)))⟩,
    .op ⟨(some 14), none, (.r (.load false 1 (.t 13)))⟩,
    .op ⟨(some 15), none, (.r (.mv (.t 0)))⟩,
    .op ⟨(some 16), none, (.r (.nilck (.t 15)))⟩,
    .op ⟨(some 17), none, (.r (.load false 1 (.t 16)))⟩,
    .op ⟨(some 18), none, (.r (.bin .shr (.t 17) (.c (.int .u64 (.ofNat 7)))))⟩,
    .op ⟨(some 19), none, (.r (.bin .xor (.t 14) (.t 18)))⟩,
    .op ⟨(some 20), none, (.r (.nilck (.t 12)))⟩,
    .op ⟨none, none, (.e (.store 1 (.t 20) (.t 19)))⟩])
  (.seq (.region [.op ⟨(some 21), none, (.r (.mv (.t 0)))⟩,
    .op ⟨(some 22), none, (.r (.nilck (.t 21)))⟩,
    .op ⟨(some 23), none, (.r (.load false 1 (.t 22)))⟩,
    .op ⟨(some 24), none, (.r (.mv (.t 0)))⟩,
    .op ⟨(some 25), none, (.r (.nilck (.t 24)))⟩,
    .op ⟨(some 26), none, (.r (.load false 1 (.t 25)))⟩,
    .op ⟨(some 27), none, (.r (.bin .shl (.t 26) (.c (.int .u64 (.ofNat 17)))))⟩,
    .op ⟨(some 28), none, (.r (.bin .xor (.t 23) (.t 27)))⟩,
    .op ⟨(some 29), none, (.r (.nilck (.t 21)))⟩,
    .op ⟨none, none, (.e (.store 1 (.t 29) (.t 28)))⟩])
  (.seq (.region [.op ⟨(some 30), none, (.r (.mv (.t 0)))⟩,
    .op ⟨(some 31), none, (.r (.nilck (.t 30)))⟩,
    .op ⟨(some 32), none, (.r (.load false 1 (.t 31)))⟩,
    .op ⟨(some 2), none, (.r (.mv (.t 32)))⟩])
  .ret))))) }
/-- slices.pdqsortOrdered[string] -/
def pf73 : PF := { ntmps := 134, results := [], body :=
  (.seq (.region [.op ⟨(some 8), none, (.r (.mv (.c (.bool true))))⟩])
  (.seq (.region [.op ⟨(some 9), none, (.r (.mv (.c (.bool true))))⟩])
  (.block 0 (.loop (.block 1 (.seq (.region [.op ⟨(some 19), none, (.r (.mv (.t 2)))⟩,
       .op ⟨(some 20), none, (.r (.mv (.t 1)))⟩,
       .op ⟨(some 21), none, (.r (.bin .sub (.t 19) (.t 20)))⟩,
       .op ⟨(some 10), none, (.r (.mv (.t 21)))⟩])
     (.seq (.seq (.region [.op ⟨(some 22), none, (.r (.mv (.t 10)))⟩,
       .op ⟨(some 23), none, (.r (.bin .leq (.t 22) (.c (.int .i64 (.ofNat 12)))))⟩])
     (.cond (.t 23)
      (.seq (.region [.op ⟨(some 24), none, (.r (.mv (.t 0)))⟩,
        .op ⟨(some 25), none, (.r (.mv (.t 1)))⟩,
        .op ⟨(some 26), none, (.r (.mv (.t 2)))⟩,
        .op ⟨(some 27), none, (.e (.call 83 [(.t 24), (.t 25), (.t 26)]))⟩])
      .ret)
      .skip))
     (.seq (.seq (.region [.op ⟨(some 28), none, (.r (.mv (.t 3)))⟩,
       .op ⟨(some 29), none, (.r (.bin .eql (.t 28) (.c (.int .i64 (.ofNat 0)))))⟩])
     (.cond (.t 29)
      (.seq (.region [.op ⟨(some 30), none, (.r (.mv (.t 0)))⟩,
        .op ⟨(some 31), none, (.r (.mv (.t 1)))⟩,
        .op ⟨(some 32), none, (.r (.mv (.t 2)))⟩,
        .op ⟨(some 33), none, (.e (.call 84 [(.t 30), (.t 31), (.t 32)]))⟩])
      .ret)
      .skip))
     (.seq (.seq (.region [.op ⟨(some 34), none, (.r (.mv (.t 8)))⟩,
       .op ⟨(some 35), none, (.r (.un .not (.t 34)))⟩])
     (.cond (.t 35)
      (.seq (.region [.op ⟨(some 36), none, (.r (.mv (.t 0)))⟩,
        .op ⟨(some 37), none, (.r (.mv (.t 1)))⟩,
        .op ⟨(some 38), none, (.r (.mv (.t 2)))⟩,
        .op ⟨(some 39), none, (.e (.call 85 [(.t 36), (.t 37), (.t 38)]))⟩])
      (.region [.op ⟨(some 40), none, (.r (.mv (.t 3)))⟩,
        .op ⟨(some 41), none, (.r (.bin .sub (.t 40) (.c (.int .i64 (.ofNat 1)))))⟩,
        .op ⟨(some 3), none, (.r (.mv (.t 41)))⟩]))
      .skip))
     (.seq (.region [.op ⟨(some 43), none, (.r (.mv (.t 0)))⟩,
       .op ⟨(some 44), none, (.r (.mv (.t 1)))⟩,
       .op ⟨(some 45), none, (.r (.mv (.t 2)))⟩,
       .op ⟨(some 46), none, (.e (.call 86 [(.t 43), (.t 44), (.t 45)]))⟩,
       .op ⟨(some 42), none, (.r (.mv (.t 46)))⟩,
       .op ⟨(some 47), none, (.r (.ext 0 (.t 42)))⟩,
       .op ⟨(some 48), none, (.r (.ext 1 (.t 42)))⟩,
       .op ⟨(some 11), none, (.r (.mv (.t 47)))⟩,
       .op ⟨(some 12), none, (.r (.mv (.t 48)))⟩])
     (.seq (.seq (.region [.op ⟨(some 49), none, (.r (.mv (.t 12)))⟩,
       .op ⟨(some 50), none, (.r (.bin .eql (.t 49) (.c (.int .i64 (.ofNat 2)))))⟩])
     (.cond (.t 50)
      (.seq (.region [.op ⟨(some 51), none, (.r (.mv (.t 0)))⟩,
        .op ⟨(some 52), none, (.r (.mv (.t 1)))⟩,
        .op ⟨(some 53), none, (.r (.mv (.t 2)))⟩,
        .op ⟨(some 54), none, (.e (.call 87 [(.t 51), (.t 52), (.t 53)]))⟩])
      (.seq (.region [.op ⟨(some 55), none, (.r (.mv (.t 2)))⟩,
        .op ⟨(some 56), none, (.r (.bin .sub (.t 55) (.c (.int .i64 (.ofNat 1)))))⟩,
        .op ⟨(some 57), none, (.r (.mv (.t 11)))⟩,
        .op ⟨(some 58), none, (.r (.mv (.t 1)))⟩,
        .op ⟨(some 59), none, (.r (.bin .sub (.t 57) (.t 58)))⟩,
        .op ⟨(some 60), none, (.r (.bin .sub (.t 56) (.t 59)))⟩,
        .op ⟨(some 11), none, (.r (.mv (.t 60)))⟩])
      (.region [.op ⟨(some 12), none, (.r (.mv (.c (.int .i64 (.ofNat 1)))))⟩])))
      .skip))
     (.seq (.seq (.region [.op ⟨(some 61), none, (.r (.mv (.t 8)))⟩,
       .op ⟨(some 62), none, (.r (.mv (.t 61)))⟩,
       .op ⟨(some 63), (some (62, true)), (.r (.mv (.t 9)))⟩,
       .op ⟨(some 64), none, (.r (.pick (.t 62) (.t 63) (.c (.bool false))))⟩,
       .op ⟨(some 65), none, (.r (.mv (.t 64)))⟩,
       .op ⟨(some 66), (some (65, true)), (.r (.mv (.t 12)))⟩,
       .op ⟨(some 67), (some (65, true)), (.r (.bin .eql (.t 66) (.c (.int .i64 (.ofNat 1)))))⟩,
       .op ⟨(some 68), none, (.r (.pick (.t 65) (.t 67) (.c (.bool false))))⟩])
     (.cond (.t 68)
      (.seq (.region [.op ⟨(some 69), none, (.r (.mv (.t 0)))⟩,
        .op ⟨(some 70), none, (.r (.mv (.t 1)))⟩,
        .op ⟨(some 71), none, (.r (.mv (.t 2)))⟩,
        .op ⟨(some 72), none, (.e (.call 88 [(.t 69), (.t 70), (.t 71)]))⟩])
      (.cond (.t 72)
       .ret
       .skip))
      .skip))
     (.seq (.seq (.region [.op ⟨(some 73), none, (.r (.mv (.t 1)))⟩,
       .op ⟨(some 74), none, (.r (.bin .gtr (.t 73) (.c (.int .i64 (.ofNat 0)))))⟩,
       .op ⟨(some 75), none, (.r (.mv (.t 74)))⟩,
       .op ⟨(some 76), (some (75, true)), (.r (.mv (.t 0)))⟩,
       .op ⟨(some 77), (some (75, true)), (.r (.mv (.t 1)))⟩,
       .op ⟨(some 78), (some (75, true)), (.r (.bin .sub (.t 77) (.c (.int .i64 (.ofNat 1)))))⟩,
       .op ⟨(some 79), (some (75, true)), (.r (.iasl 1 (.t 76) (.t 78)))⟩,
       .op ⟨(some 80), (some (75, true)), (.r (.load false 1 (.t 79)))⟩,
       .op ⟨(some 81), (some (75, true)), (.r (.mv (.t 0)))⟩,
       .op ⟨(some 82), (some (75, true)), (.r (.mv (.t 11)))⟩,
       .op ⟨(some 83), (some (75, true)), (.r (.iasl 1 (.t 81) (.t 82)))⟩,
       .op ⟨(some 84), (some (75, true)), (.r (.load false 1 (.t 83)))⟩,
       .op ⟨(some 85), (some (75, true)), (.e (.call 89 [(.t 80), (.t 84)]))⟩,
       .op ⟨(some 86), (some (75, true)), (.r (.un .not (.t 85)))⟩,
       .op ⟨(some 87), none, (.r (.pick (.t 75) (.t 86) (.c (.bool false))))⟩])
     (.cond (.t 87)
      (.seq (.region [.op ⟨(some 88), none, (.r (.mv (.t 0)))⟩,
        .op ⟨(some 89), none, (.r (.mv (.t 1)))⟩,
        .op ⟨(some 90), none, (.r (.mv (.t 2)))⟩,
        .op ⟨(some 91), none, (.r (.mv (.t 11)))⟩,
        .op ⟨(some 92), none, (.e (.call 90 [(.t 88), (.t 89), (.t 90), (.t 91)]))⟩,
        .op ⟨(some 13), none, (.r (.mv (.t 92)))⟩])
      (.seq (.region [.op ⟨(some 93), none, (.r (.mv (.t 13)))⟩,
        .op ⟨(some 1), none, (.r (.mv (.t 93)))⟩])
      (.exit 1)))
      .skip))
     (.seq (.region [.op ⟨(some 95), none, (.r (.mv (.t 0)))⟩,
       .op ⟨(some 96), none, (.r (.mv (.t 1)))⟩,
       .op ⟨(some 97), none, (.r (.mv (.t 2)))⟩,
       .op ⟨(some 98), none, (.r (.mv (.t 11)))⟩,
       .op ⟨(some 99), none, (.e (.call 91 [(.t 95), (.t 96), (.t 97), (.t 98)]))⟩,
       .op ⟨(some 94), none, (.r (.mv (.t 99)))⟩,
       .op ⟨(some 100), none, (.r (.ext 0 (.t 94)))⟩,
       .op ⟨(some 101), none, (.r (.ext 1 (.t 94)))⟩,
       .op ⟨(some 14), none, (.r (.mv (.t 100)))⟩,
       .op ⟨(some 15), none, (.r (.mv (.t 101)))⟩])
     (.seq (.region [.op ⟨(some 102), none, (.r (.mv (.t 15)))⟩,
       .op ⟨(some 9), none, (.r (.mv (.t 102)))⟩])
     (.seq (.region [.op ⟨(some 103), none, (.r (.mv (.t 14)))⟩,
       .op ⟨(some 104), none, (.r (.mv (.t 1)))⟩,
       .op ⟨(some 105), none, (.r (.bin .sub (.t 103) (.t 104)))⟩,
       .op ⟨(some 106), none, (.r (.mv (.t 2)))⟩,
       .op ⟨(some 107), none, (.r (.mv (.t 14)))⟩,
       .op ⟨(some 108), none, (.r (.bin .sub (.t 106) (.t 107)))⟩,
       .op ⟨(some 16), none, (.r (.mv (.t 105)))⟩,
       .op ⟨(some 17), none, (.r (.mv (.t 108)))⟩])
     (.seq (.region [.op ⟨(some 109), none, (.r (.mv (.t 10)))⟩,
       .op ⟨(some 110), none, (.r (.bin .quo (.t 109) (.c (.int .i64 (.ofNat 8)))))⟩,
       .op ⟨(some 18), none, (.r (.mv (.t 110)))⟩])
     (.seq (.region [.op ⟨(some 111), none, (.r (.mv (.t 16)))⟩,
       .op ⟨(some 112), none, (.r (.mv (.t 17)))⟩,
       .op ⟨(some 113), none, (.r (.bin .lss (.t 111) (.t 112)))⟩])
     (.cond (.t 113)
      (.seq (.region [.op ⟨(some 114), none, (.r (.mv (.t 16)))⟩,
        .op ⟨(some 115), none, (.r (.mv (.t 18)))⟩,
        .op ⟨(some 116), none, (.r (.bin .geq (.t 114) (.t 115)))⟩,
        .op ⟨(some 8), none, (.r (.mv (.t 116)))⟩])
      (.seq (.region [.op ⟨(some 117), none, (.r (.mv (.t 0)))⟩,
        .op ⟨(some 118), none, (.r (.mv (.t 1)))⟩,
        .op ⟨(some 119), none, (.r (.mv (.t 14)))⟩,
        .op ⟨(some 120), none, (.r (.mv (.t 3)))⟩,
        .op ⟨(some 121), none, (.e (.call 73 [(.t 117), (.t 118), (.t 119), (.t 120)]))⟩])
      (.region [.op ⟨(some 122), none, (.r (.mv (.t 14)))⟩,
        .op ⟨(some 123), none, (.r (.bin .add (.t 122) (.c (.int .i64 (.ofNat 1)))))⟩,
        .op ⟨(some 1), none, (.r (.mv (.t 123)))⟩])))
      (.seq (.region [.op ⟨(some 124), none, (.r (.mv (.t 17)))⟩,
        .op ⟨(some 125), none, (.r (.mv (.t 18)))⟩,
        .op ⟨(some 126), none, (.r (.bin .geq (.t 124) (.t 125)))⟩,
        .op ⟨(some 8), none, (.r (.mv (.t 126)))⟩])
      (.seq (.region [.op ⟨(some 127), none, (.r (.mv (.t 0)))⟩,
        .op ⟨(some 128), none, (.r (.mv (.t 14)))⟩,
        .op ⟨(some 129), none, (.r (.bin .add (.t 128) (.c (.int .i64 (.ofNat 1)))))⟩,
        .op ⟨(some 130), none, (.r (.mv (.t 2)))⟩,
        .op ⟨(some 131), none, (.r (.mv (.t 3)))⟩,
        .op ⟨(some 132), none, (.e (.call 73 [(.t 127), (.t 129), (.t 130), (.t 131)]))⟩])
      (.region [.op ⟨(some 133), none, (.r (.mv (.t 14)))⟩,
        .op ⟨(some 2), none, (.r (.mv (.t 133)))⟩])))))))))))))))))))))) }
/-- (*depot/item.Store).Peek -/
def pf74 : PF := { ntmps := 41, results := [.tmp 4, .tmp 5], body :=
  (.seq (.region [.op ⟨(some 4), none, (.r (.mv (.c (.str []))))⟩,
    .op ⟨(some 5), none, (.r (.mv (.c (.bool false))))⟩])
  (.seq (.region [.op ⟨(some 11), none, (.r (.mv (.t 0)))⟩,
    .op ⟨(some 12), none, (.r (.nilck (.t 11)))⟩,
    .op ⟨(some 13), none, (.r (.faddr 1 (.t 12)))⟩,
    .op ⟨(some 14), none, (.r (.load false 1 (.t 13)))⟩,
    .op ⟨(some 15), none, (.r (.mv (.t 1)))⟩,
    .op ⟨(some 16), none, (.e (.call 66 [(.t 14), (.t 15)]))⟩,
    .op ⟨(some 10), none, (.r (.mv (.t 16)))⟩,
    .op ⟨(some 17), none, (.r (.ext 0 (.t 10)))⟩,
    .op ⟨(some 18), none, (.r (.ext 1 (.t 10)))⟩,
    .op ⟨(some 6), none, (.r (.mv (.t 17)))⟩,
    .op ⟨(some 7), none, (.r (.mv (.t 18)))⟩])
  (.seq (.seq (.region [.op ⟨(some 19), none, (.r (.mv (.t 7)))⟩,
    .op ⟨(some 20), none, (.r (.un .not (.t 19)))⟩])
  (.cond (.t 20)
   (.seq (.region [.op ⟨(some 4), none, (.r (.mv (.c (.str []))))⟩,
     .op ⟨(some 5), none, (.r (.mv (.c (.bool false))))⟩])
   .ret)
   .skip))
  (.seq (.region [.op ⟨(some 22), none, (.r (.mv (.t 0)))⟩,
    .op ⟨(some 23), none, (.r (.nilck (.t 22)))⟩,
    .op ⟨(some 24), none, (.r (.faddr 0 (.t 23)))⟩,
    .op ⟨(some 25), none, (.r (.load false 1 (.t 24)))⟩,
    .op ⟨(some 26), none, (.r (.mv (.t 0)))⟩,
    .op ⟨(some 27), none, (.r (.nilck (.t 26)))⟩,
    .op ⟨(some 28), none, (.r (.faddr 2 (.t 27)))⟩,
    .op ⟨(some 29), none, (.r (.load false 1 (.t 28)))⟩,
    .op ⟨(some 30), none, (.r (.mv (.t 6)))⟩,
    .op ⟨(some 31), none, (.r (.iasl 6 (.t 29) (.t 30)))⟩,
    .op ⟨(some 32), none, (.r (.faddr 1 (.t 31)))⟩,
    .op ⟨(some 33), none, (.r (.load true 2 (.t 32)))⟩,
    .op ⟨(some 34), none, (.e (.call 92 [(.t 25), (.t 33)]))⟩,
    .op ⟨(some 21), none, (.r (.mv (.t 34)))⟩,
    .op ⟨(some 35), none, (.r (.ext 0 (.t 21)))⟩,
    .op ⟨(some 36), none, (.r (.ext 1 (.t 21)))⟩,
    .op ⟨(some 8), none, (.r (.mv (.t 35)))⟩,
    .op ⟨(some 9), none, (.r (.mv (.t 36)))⟩])
  (.seq (.region [.op ⟨(some 37), none, (.r (.mv (.t 8)))⟩,
    .op ⟨(some 38), none, (.r (.mv (.t 1)))⟩,
    .op ⟨(some 39), none, (.r (.lens (.t 38)))⟩,
    .op ⟨(some 40), none, (.r (.slstr (.t 37) (some (.t 39)) none))⟩,
    .op ⟨(some 4), none, (.r (.mv (.t 40)))⟩,
    .op ⟨(some 5), none, (.r (.mv (.c (.bool true))))⟩])
  .ret))))) }
/-- (*depot/item.Store).out -/
def pf75 : PF := { ntmps := 32, results := [], body :=
  (.seq (.region [.op ⟨(some 5), none, (.r (.mv (.t 0)))⟩,
    .op ⟨(some 6), none, (.r (.nilck (.t 5)))⟩,
    .op ⟨(some 7), none, (.r (.faddr 2 (.t 6)))⟩,
    .op ⟨(some 8), none, (.r (.load false 1 (.t 7)))⟩,
    .op ⟨(some 9), none, (.r (.mv (.t 1)))⟩,
    .op ⟨(some 10), none, (.r (.iasl 6 (.t 8) (.t 9)))⟩,
    .op ⟨(some 11), none, (.r (.load true 6 (.t 10)))⟩,
    .op ⟨(some 4), none, (.n (.new 0 [(.str []), (.int .i64 (.ofNat 0)), (.int .i64 (.ofNat 0)), (.bool false), (.int .i64 (.ofNat 0)), (.int .i64 (.ofNat 0))]))⟩,
    .op ⟨none, none, (.e (.store 6 (.t 4) (.t 11)))⟩])
  (.region [.op ⟨(some 12), none, (.r (.mv (.t 0)))⟩,
    .op ⟨(some 13), none, (.r (.nilck (.t 12)))⟩,
    .op ⟨(some 14), none, (.r (.faddr 2 (.t 13)))⟩,
    .op ⟨(some 15), none, (.r (.load false 1 (.t 14)))⟩,
    .op ⟨(some 16), none, (.r (.faddr 5 (.t 4)))⟩,
    .op ⟨(some 17), none, (.r (.load false 1 (.t 16)))⟩,
    .op ⟨(some 18), none, (.r (.mv (.t 0)))⟩,
    .op ⟨(some 19), none, (.r (.nilck (.t 18)))⟩,
    .op ⟨(some 20), none, (.r (.faddr 2 (.t 19)))⟩,
    .op ⟨(some 21), none, (.r (.load false 1 (.t 20)))⟩,
    .op ⟨(some 22), none, (.r (.faddr 4 (.t 4)))⟩,
    .op ⟨(some 23), none, (.r (.load false 1 (.t 22)))⟩,
    .op ⟨(some 24), none, (.r (.faddr 4 (.t 4)))⟩,
    .op ⟨(some 25), none, (.r (.load false 1 (.t 24)))⟩,
    .op ⟨(some 26), none, (.r (.faddr 5 (.t 4)))⟩,
    .op ⟨(some 27), none, (.r (.load false 1 (.t 26)))⟩,
    .op ⟨(some 28), none, (.r (.iasl 6 (.t 15) (.t 17)))⟩,
    .op ⟨(some 29), none, (.r (.faddr 4 (.t 28)))⟩,
    .op ⟨none, none, (.e (.store 1 (.t 29) (.t 25)))⟩,
    .again ⟨(some 27), none, (.r (.load false 1 (.t 26)))⟩,
    .again ⟨(some 23), none, (.r (.load false 1 (.t 22)))⟩,
    .op ⟨(some 30), none, (.r (.iasl 6 (.t 21) (.t 23)))⟩,
    .op ⟨(some 31), none, (.r (.faddr 5 (.t 30)))⟩,
    .op ⟨none, none, (.e (.store 1 (.t 31) (.t 27)))⟩])) }
/-- (*depot/pack.Reader).fail -/
def pf76 : PF := { ntmps := 14, results := [], body :=
  (.region [.op ⟨(some 6), none, (.r (.mv (.t 0)))⟩,
    .op ⟨(some 7), none, (.r (.mv (.t 0)))⟩,
    .op ⟨(some 8), none, (.r (.mv (.t 1)))⟩,
    .op ⟨(some 9), none, (.r (.mv (.t 2)))⟩,
    .op ⟨(some 10), none, (.r (.nilck (.t 6)))⟩,
    .op ⟨(some 11), none, (.r (.faddr 1 (.t 10)))⟩,
    .op ⟨none, none, (.e (.store 1 (.t 11) (.t 8)))⟩,
    .op ⟨(some 12), none, (.r (.nilck (.t 7)))⟩,
    .op ⟨(some 13), none, (.r (.faddr 2 (.t 12)))⟩,
    .op ⟨none, none, (.e (.store 1 (.t 13) (.t 9)))⟩]) }
/-- (*depot/slab.Slab).Free -/
def pf77 : PF := { ntmps := 40, results := [.tmp 4], body :=
  (.seq (.region [.op ⟨(some 3), none, (.n (.box (.t 1)))⟩,
    .op ⟨(some 4), none, (.r (.mv (.c (.bool false))))⟩])
  (.seq (.seq (.region [.op ⟨(some 9), none, (.r (.mv (.t 0)))⟩,
    .op ⟨(some 10), none, (.r (.load true 2 (.t 3)))⟩,
    .op ⟨(some 11), none, (.e (.call 92 [(.t 9), (.t 10)]))⟩,
    .op ⟨(some 8), none, (.r (.mv (.t 11)))⟩,
    .op ⟨(some 12), none, (.r (.ext 0 (.t 8)))⟩,
    .op ⟨(some 13), none, (.r (.ext 1 (.t 8)))⟩,
    .op ⟨(some 5), none, (.r (.mv (.t 12)))⟩,
    .op ⟨(some 6), none, (.r (.mv (.t 13)))⟩])
  (.seq (.region [.op ⟨(some 14), none, (.r (.mv (.t 6)))⟩,
    .op ⟨(some 15), none, (.r (.un .not (.t 14)))⟩])
  (.cond (.t 15)
   (.seq (.region [.op ⟨(some 4), none, (.r (.mv (.c (.bool false))))⟩])
   .ret)
   .skip)))
  (.seq (.region [.op ⟨(some 16), none, (.r (.mv (.t 0)))⟩,
    .op ⟨(some 17), none, (.r (.nilck (.t 16)))⟩,
    .op ⟨(some 18), none, (.r (.faddr 3 (.t 17)))⟩,
    .op ⟨(some 19), none, (.r (.load false 1 (.t 18)))⟩,
    .op ⟨(some 20), none, (.r (.faddr 0 (.t 3)))⟩,
    .op ⟨(some 21), none, (.r (.load false 1 (.t 20)))⟩,
    .op ⟨(some 22), none, (.r (.iasl 4 (.t 19) (.t 21)))⟩,
    .op ⟨(some 7), none, (.r (.mv (.t 22)))⟩])
  (.seq (.region [.op ⟨(some 23), none, (.r (.mv (.t 7)))⟩,
    .op ⟨(some 24), none, (.r (.nilck (.t 23)))⟩,
    .op ⟨(some 25), none, (.r (.faddr 2 (.t 24)))⟩,
    .op ⟨(some 26), none, (.r (.load false 1 (.t 25)))⟩,
    .op ⟨(some 27), none, (.r (.faddr 1 (.t 3)))⟩,
    .op ⟨(some 28), none, (.r (.load false 1 (.t 27)))⟩,
    .op ⟨none, none, (.e (.mdel false (.t 26) (.t 28)))⟩])
  (.seq (.region [.op ⟨(some 29), none, (.r (.mv (.t 7)))⟩,
    .op ⟨(some 30), none, (.r (.mv (.t 7)))⟩,
    .op ⟨(some 31), none, (.r (.nilck (.t 30)))⟩,
    .op ⟨(some 32), none, (.r (.faddr 1 (.t 31)))⟩,
    .op ⟨(some 33), none, (.r (.load false 1 (.t 32)))⟩,
    .op ⟨(some 34), none, (.r (.faddr 1 (.t 3)))⟩,
    .op ⟨(some 35), none, (.r (.load false 1 (.t 34)))⟩,
    .op ⟨(some 36), none, (.n (.bslice 0 1 1 [(.int .i64 (.ofNat 0))] [(0, 1, (.t 35))]))⟩,
    .op ⟨(some 37), none, (.e (.app 0 1 8 (.t 33) (.t 36)))⟩,
    .op ⟨(some 38), none, (.r (.nilck (.t 29)))⟩,
    .op ⟨(some 39), none, (.r (.faddr 1 (.t 38)))⟩,
    .op ⟨none, none, (.e (.store 1 (.t 39) (.t 37)))⟩])
  (.seq (.region [.op ⟨(some 4), none, (.r (.mv (.c (.bool true))))⟩])
  .ret)))))) }
/-- (*depot/chain.Chain).Drop -/
def pf78 : PF := { ntmps := 50, results := [.tmp 4], body :=
  (.seq (.region [.op ⟨(some 4), none, (.r (.mv (.c (.bool false))))⟩])
  (.seq (.region [.op ⟨(some 8), none, (.r (.mv (.t 0)))⟩,
    .op ⟨(some 9), none, (.e (.call 79 [(.t 8)]))⟩])
  (.seq (.region [.op ⟨(some 10), none, (.r (.mv (.t 0)))⟩,
    .op ⟨(some 11), none, (.r (.mv (.t 1)))⟩,
    .op ⟨(some 12), none, (.e (.call 80 [(.t 10), (.t 11)]))⟩,
    .op ⟨(some 5), none, (.r (.mv (.t 12)))⟩])
  (.seq (.region [.op ⟨(some 13), none, (.r (.mv (.t 5)))⟩,
    .op ⟨(some 14), none, (.r (.nilck (.t 13)))⟩,
    .op ⟨(some 15), none, (.r (.load false 1 (.t 14)))⟩,
    .op ⟨(some 16), none, (.r (.mv (.t 1)))⟩,
    .op ⟨(some 17), none, (.e (.call 81 [(.t 15), (.t 16)]))⟩,
    .op ⟨(some 6), none, (.r (.mv (.t 17)))⟩])
  (.seq (.seq (.region [.op ⟨(some 18), none, (.r (.mv (.t 6)))⟩,
    .op ⟨(some 19), none, (.r (.bin .lss (.t 18) (.c (.int .i64 (.ofNat 0)))))⟩])
  (.cond (.t 19)
   (.seq (.region [.op ⟨(some 4), none, (.r (.mv (.c (.bool false))))⟩])
   .ret)
   .skip))
  (.seq (.region [.op ⟨(some 20), none, (.r (.mv (.t 5)))⟩,
    .op ⟨(some 21), none, (.r (.nilck (.t 20)))⟩,
    .op ⟨(some 22), none, (.r (.load false 1 (.t 21)))⟩,
    .op ⟨(some 23), none, (.r (.lensl (.t 22)))⟩,
    .op ⟨(some 24), none, (.r (.bin .sub (.t 23) (.c (.int .i64 (.ofNat 1)))))⟩,
    .op ⟨(some 7), none, (.r (.mv (.t 24)))⟩])
  (.seq (.region [.op ⟨(some 25), none, (.r (.mv (.t 5)))⟩,
    .op ⟨(some 26), none, (.r (.nilck (.t 25)))⟩,
    .op ⟨(some 27), none, (.r (.load false 1 (.t 26)))⟩,
    .op ⟨(some 28), none, (.r (.mv (.t 6)))⟩,
    .op ⟨(some 29), none, (.r (.mv (.t 5)))⟩,
    .op ⟨(some 30), none, (.r (.nilck (.t 29)))⟩,
    .op ⟨(some 31), none, (.r (.load false 1 (.t 30)))⟩,
    .op ⟨(some 32), none, (.r (.mv (.t 7)))⟩,
    .op ⟨(some 33), none, (.r (.iasl 2 (.t 31) (.t 32)))⟩,
    .op ⟨(some 34), none, (.r (.load true 2 (.t 33)))⟩,
    .op ⟨(some 35), none, (.r (.iasl 2 (.t 27) (.t 28)))⟩,
    .op ⟨none, none, (.e (.store 2 (.t 35) (.t 34)))⟩])
  (.seq (.region [.op ⟨(some 36), none, (.r (.mv (.t 5)))⟩,
    .op ⟨(some 37), none, (.r (.mv (.t 5)))⟩,
    .op ⟨(some 38), none, (.r (.nilck (.t 37)))⟩,
    .op ⟨(some 39), none, (.r (.load false 1 (.t 38)))⟩,
    .op ⟨(some 40), none, (.r (.mv (.t 7)))⟩,
    .op ⟨(some 41), none, (.r (.slsl 2 (.t 39) none (some (.t 40)) none))⟩,
    .op ⟨(some 42), none, (.r (.nilck (.t 36)))⟩,
    .op ⟨none, none, (.e (.store 1 (.t 42) (.t 41)))⟩])
  (.seq (.region [.op ⟨(some 43), none, (.r (.mv (.t 0)))⟩,
    .op ⟨(some 44), none, (.r (.nilck (.t 43)))⟩,
    .op ⟨(some 45), none, (.r (.faddr 3 (.t 44)))⟩,
    .op ⟨(some 46), none, (.r (.load false 1 (.t 45)))⟩,
    .op ⟨(some 47), none, (.r (.bin .sub (.t 46) (.c (.int .i64 (.ofNat 1)))))⟩,
    .op ⟨(some 48), none, (.r (.nilck (.t 43)))⟩,
    .op ⟨(some 49), none, (.r (.faddr 3 (.t 48)))⟩,
    .op ⟨none, none, (.e (.store 1 (.t 49) (.t 47)))⟩])
  (.seq (.region [.op ⟨(some 4), none, (.r (.mv (.c (.bool true))))⟩])
  .ret)))))))))) }
/-- (*depot/chain.Chain).step -/
def pf79 : PF := { ntmps := 84, results := [], body :=
  (.seq (.seq (.region [.op ⟨(some 6), none, (.r (.mv (.t 0)))⟩,
    .op ⟨(some 7), none, (.r (.nilck (.t 6)))⟩,
    .op ⟨(some 8), none, (.r (.faddr 1 (.t 7)))⟩,
    .op ⟨(some 9), none, (.r (.load false 1 (.t 8)))⟩,
    .op ⟨(some 10), none, (.r (.lensl (.t 9)))⟩,
    .op ⟨(some 11), none, (.r (.bin .eql (.t 10) (.c (.int .i64 (.ofNat 0)))))⟩])
  (.cond (.t 11)
   .ret
   .skip))
  (.seq (.region [.op ⟨(some 12), none, (.r (.mv (.t 0)))⟩,
    .op ⟨(some 13), none, (.r (.nilck (.t 12)))⟩,
    .op ⟨(some 14), none, (.r (.faddr 1 (.t 13)))⟩,
    .op ⟨(some 15), none, (.r (.load false 1 (.t 14)))⟩,
    .op ⟨(some 16), none, (.r (.mv (.t 0)))⟩,
    .op ⟨(some 17), none, (.r (.nilck (.t 16)))⟩,
    .op ⟨(some 18), none, (.r (.faddr 2 (.t 17)))⟩,
    .op ⟨(some 19), none, (.r (.load false 1 (.t 18)))⟩,
    .op ⟨(some 20), none, (.r (.iasl 1 (.t 15) (.t 19)))⟩,
    .op ⟨(some 21), none, (.r (.load false 1 (.t 20)))⟩,
    .op ⟨(some 2), none, (.r (.mv (.t 21)))⟩])
  (.seq (.region [.op ⟨(some 22), none, (.r (.mv (.t 0)))⟩,
    .op ⟨(some 23), none, (.r (.nilck (.t 22)))⟩,
    .op ⟨(some 24), none, (.r (.faddr 1 (.t 23)))⟩,
    .op ⟨(some 25), none, (.r (.load false 1 (.t 24)))⟩,
    .op ⟨(some 26), none, (.r (.mv (.t 0)))⟩,
    .op ⟨(some 27), none, (.r (.nilck (.t 26)))⟩,
    .op ⟨(some 28), none, (.r (.faddr 2 (.t 27)))⟩,
    .op ⟨(some 29), none, (.r (.load false 1 (.t 28)))⟩,
    .op ⟨(some 30), none, (.r (.iasl 1 (.t 25) (.t 29)))⟩,
    .op ⟨none, none, (.e (.store 1 (.t 30) (.c .nils)))⟩])
  (.seq (.region [.op ⟨(some 31), none, (.r (.mv (.t 0)))⟩,
    .op ⟨(some 32), none, (.r (.nilck (.t 31)))⟩,
    .op ⟨(some 33), none, (.r (.faddr 2 (.t 32)))⟩,
    .op ⟨(some 34), none, (.r (.load false 1 (.t 33)))⟩,
    .op ⟨(some 35), none, (.r (.bin .add (.t 34) (.c (.int .i64 (.ofNat 1)))))⟩,
    .op ⟨(some 36), none, (.r (.nilck (.t 31)))⟩,
    .op ⟨(some 37), none, (.r (.faddr 2 (.t 36)))⟩,
    .op ⟨none, none, (.e (.store 1 (.t 37) (.t 35)))⟩])
  (.seq (.seq (.region [.op ⟨(some 38), none, (.r (.mv (.t 2)))⟩,
    .op ⟨(some 39), none, (.r (.lensl (.t 38)))⟩,
    .op ⟨(some 40), none, (.r (.mv (.c (.int .i64 (.ofNat 0)))))⟩])
  (.block 0 (.loop (.seq (.region [.op ⟨(some 41), none, (.r (.bin .lss (.t 40) (.t 39)))⟩])
    (.seq (.cond (.t 41)
     .skip
     (.exit 0))
    (.seq (.block 1 (.seq (.region [.op ⟨(some 42), none, (.r (.iasl 2 (.t 38) (.t 40)))⟩,
       .op ⟨(some 43), none, (.r (.load true 2 (.t 42)))⟩,
       .op ⟨(some 4), none, (.n (.new 0 [(.str []), (.int .i64 (.ofNat 0))]))⟩,
       .op ⟨none, none, (.e (.store 2 (.t 4) (.t 43)))⟩])
     (.seq (.region [.op ⟨(some 44), none, (.r (.mv (.t 0)))⟩,
       .op ⟨(some 45), none, (.r (.nilck (.t 44)))⟩,
       .op ⟨(some 46), none, (.r (.faddr 0 (.t 45)))⟩,
       .op ⟨(some 47), none, (.r (.load false 1 (.t 46)))⟩,
       .op ⟨(some 48), none, (.r (.faddr 0 (.t 4)))⟩,
       .op ⟨(some 49), none, (.r (.load false 1 (.t 48)))⟩,
       .op ⟨(some 52), none, (.r (.mv (.t 0)))⟩,
       .op ⟨(some 53), none, (.r (.nilck (.t 52)))⟩,
       .op ⟨(some 54), none, (.r (.faddr 0 (.t 53)))⟩,
       .op ⟨(some 55), none, (.r (.load false 1 (.t 54)))⟩,
       .op ⟨(some 56), none, (.r (.lensl (.t 55)))⟩,
       .op ⟨(some 50), none, (.e (.call 93 [(.t 49)]))⟩,
       .again ⟨(some 55), none, (.r (.load false 1 (.t 54)))⟩,
       .again ⟨(some 47), none, (.r (.load false 1 (.t 46)))⟩,
       .op ⟨(some 51), none, (.r (.cint .i64 (.t 50)))⟩,
       .op ⟨(some 57), none, (.r (.bin .rem (.t 51) (.t 56)))⟩,
       .op ⟨(some 58), none, (.r (.iasl 1 (.t 47) (.t 57)))⟩,
       .op ⟨(some 5), none, (.r (.mv (.t 58)))⟩])
     (.region [.op ⟨(some 59), none, (.r (.mv (.t 5)))⟩,
       .op ⟨(some 60), none, (.r (.mv (.t 5)))⟩,
       .op ⟨(some 61), none, (.r (.nilck (.t 60)))⟩,
       .op ⟨(some 62), none, (.r (.load false 1 (.t 61)))⟩,
       .op ⟨(some 63), none, (.r (.load true 2 (.t 4)))⟩,
       .op ⟨(some 64), none, (.n (.bslice 0 2 1 [(.str []), (.int .i64 (.ofNat 0))] [(0, 2, (.t 63))]))⟩,
       .op ⟨(some 65), none, (.e (.app 0 2 24 (.t 62) (.t 64)))⟩,
       .op ⟨(some 66), none, (.r (.nilck (.t 59)))⟩,
       .op ⟨none, none, (.e (.store 1 (.t 66) (.t 65)))⟩]))))
    (.region [.op ⟨(some 67), none, (.r (.bin .add (.t 40) (.c (.int .i64 (.ofNat 1)))))⟩,
      .op ⟨(some 40), none, (.r (.mv (.t 67)))⟩])))))))
  (.seq (.region [.op ⟨(some 68), none, (.r (.mv (.t 0)))⟩,
    .op ⟨(some 69), none, (.r (.nilck (.t 68)))⟩,
    .op ⟨(some 70), none, (.r (.faddr 2 (.t 69)))⟩,
    .op ⟨(some 71), none, (.r (.load false 1 (.t 70)))⟩,
    .op ⟨(some 72), none, (.r (.mv (.t 0)))⟩,
    .op ⟨(some 73), none, (.r (.nilck (.t 72)))⟩,
    .op ⟨(some 74), none, (.r (.faddr 1 (.t 73)))⟩,
    .op ⟨(some 75), none, (.r (.load false 1 (.t 74)))⟩,
    .op ⟨(some 76), none, (.r (.lensl (.t 75)))⟩,
    .op ⟨(some 77), none, (.r (.bin .eql (.t 71) (.t 76)))⟩])
  (.cond (.t 77)
   (.region [.op ⟨(some 78), none, (.r (.mv (.t 0)))⟩,
     .op ⟨(some 79), none, (.r (.mv (.t 0)))⟩,
     .op ⟨(some 80), none, (.r (.nilck (.t 78)))⟩,
     .op ⟨(some 81), none, (.r (.faddr 1 (.t 80)))⟩,
     .op ⟨none, none, (.e (.store 1 (.t 81) (.c .nils)))⟩,
     .op ⟨(some 82), none, (.r (.nilck (.t 79)))⟩,
     .op ⟨(some 83), none, (.r (.faddr 2 (.t 82)))⟩,
     .op ⟨none, none, (.e (.store 1 (.t 83) (.c (.int .i64 (.ofNat 0)))))⟩])
   .skip))))))) }
/-- (*depot/chain.Chain).bucket -/
def pf80 : PF := { ntmps := 47, results := [.tmp 4], body :=
  (.seq (.region [.op ⟨(some 4), none, (.r (.mv (.c .nilp)))⟩])
  (.seq (.region [.op ⟨(some 7), none, (.r (.mv (.t 1)))⟩,
    .op ⟨(some 8), none, (.e (.call 93 [(.t 7)]))⟩,
    .op ⟨(some 9), none, (.r (.cint .i64 (.t 8)))⟩,
    .op ⟨(some 5), none, (.r (.mv (.t 9)))⟩])
  (.seq (.seq (.region [.op ⟨(some 10), none, (.r (.mv (.t 0)))⟩,
    .op ⟨(some 11), none, (.r (.nilck (.t 10)))⟩,
    .op ⟨(some 12), none, (.r (.faddr 1 (.t 11)))⟩,
    .op ⟨(some 13), none, (.r (.load false 1 (.t 12)))⟩,
    .op ⟨(some 14), none, (.r (.lensl (.t 13)))⟩,
    .op ⟨(some 6), none, (.r (.mv (.t 14)))⟩])
  (.seq (.region [.op ⟨(some 15), none, (.r (.mv (.t 6)))⟩,
    .op ⟨(some 16), none, (.r (.bin .gtr (.t 15) (.c (.int .i64 (.ofNat 0)))))⟩,
    .op ⟨(some 17), none, (.r (.mv (.t 16)))⟩,
    .op ⟨(some 18), (some (17, true)), (.r (.mv (.t 5)))⟩,
    .op ⟨(some 19), (some (17, true)), (.r (.mv (.t 6)))⟩,
    .op ⟨(some 20), (some (17, true)), (.r (.bin .rem (.t 18) (.t 19)))⟩,
    .op ⟨(some 21), (some (17, true)), (.r (.mv (.t 0)))⟩,
    .op ⟨(some 22), (some (17, true)), (.r (.nilck (.t 21)))⟩,
    .op ⟨(some 23), (some (17, true)), (.r (.faddr 2 (.t 22)))⟩,
    .op ⟨(some 24), (some (17, true)), (.r (.load false 1 (.t 23)))⟩,
    .op ⟨(some 25), (some (17, true)), (.r (.bin .geq (.t 20) (.t 24)))⟩,
    .op ⟨(some 26), none, (.r (.pick (.t 17) (.t 25) (.c (.bool false))))⟩])
  (.cond (.t 26)
   (.seq (.region [.op ⟨(some 27), none, (.r (.mv (.t 0)))⟩,
     .op ⟨(some 28), none, (.r (.nilck (.t 27)))⟩,
     .op ⟨(some 29), none, (.r (.faddr 1 (.t 28)))⟩,
     .op ⟨(some 30), none, (.r (.load false 1 (.t 29)))⟩,
     .op ⟨(some 31), none, (.r (.mv (.t 5)))⟩,
     .op ⟨(some 32), none, (.r (.mv (.t 6)))⟩,
     .op ⟨(some 33), none, (.r (.bin .rem (.t 31) (.t 32)))⟩,
     .op ⟨(some 34), none, (.r (.iasl 1 (.t 30) (.t 33)))⟩,
     .op ⟨(some 4), none, (.r (.mv (.t 34)))⟩])
   .ret)
   .skip)))
  (.seq (.region [.op ⟨(some 35), none, (.r (.mv (.t 0)))⟩,
    .op ⟨(some 36), none, (.r (.nilck (.t 35)))⟩,
    .op ⟨(some 37), none, (.r (.faddr 0 (.t 36)))⟩,
    .op ⟨(some 38), none, (.r (.load false 1 (.t 37)))⟩,
    .op ⟨(some 39), none, (.r (.mv (.t 5)))⟩,
    .op ⟨(some 40), none, (.r (.mv (.t 0)))⟩,
    .op ⟨(some 41), none, (.r (.nilck (.t 40)))⟩,
    .op ⟨(some 42), none, (.r (.faddr 0 (.t 41)))⟩,
    .op ⟨(some 43), none, (.r (.load false 1 (.t 42)))⟩,
    .op ⟨(some 44), none, (.r (.lensl (.t 43)))⟩,
    .op ⟨(some 45), none, (.r (.bin .rem (.t 39) (.t 44)))⟩,
    .op ⟨(some 46), none, (.r (.iasl 1 (.t 38) (.t 45)))⟩,
    .op ⟨(some 4), none, (.r (.mv (.t 46)))⟩])
  .ret)))) }
/-- depot/chain.find -/
def pf81 : PF := { ntmps := 22, results := [.tmp 4], body :=
  (.seq (.region [.op ⟨(some 4), none, (.r (.mv (.c (.int .i64 (.ofNat 0)))))⟩])
  (.scope (.seq (.region [.op ⟨(some 5), none, (.r (.mv (.c (.int .i64 (.negSucc 0)))))⟩])
   (.seq .skip
   (.seq (.seq (.region [.op ⟨(some 8), none, (.r (.mv (.t 0)))⟩,
     .op ⟨(some 9), none, (.r (.lensl (.t 8)))⟩,
     .op ⟨(some 10), none, (.r (.mv (.c (.int .i64 (.ofNat 0)))))⟩])
   (.block 0 (.loop (.seq (.region [.op ⟨(some 11), none, (.r (.bin .lss (.t 10) (.t 9)))⟩])
     (.seq (.cond (.t 11)
      .skip
      (.exit 0))
     (.seq (.block 1 (.seq (.region [.op ⟨(some 12), none, (.r (.mv (.t 10)))⟩,
        .op ⟨(some 13), none, (.r (.iasl 2 (.t 8) (.t 10)))⟩,
        .op ⟨(some 14), none, (.r (.load true 2 (.t 13)))⟩,
        .op ⟨(some 7), none, (.n (.new 0 [(.str []), (.int .i64 (.ofNat 0))]))⟩,
        .op ⟨(some 6), none, (.r (.mv (.t 12)))⟩,
        .op ⟨none, none, (.e (.store 2 (.t 7) (.t 14)))⟩])
      (.seq (.region [.op ⟨(some 15), none, (.r (.faddr 0 (.t 7)))⟩,
        .op ⟨(some 16), none, (.r (.load false 1 (.t 15)))⟩,
        .op ⟨(some 17), none, (.r (.mv (.t 1)))⟩,
        .op ⟨(some 18), none, (.r (.bin .eql (.t 16) (.t 17)))⟩])
      (.cond (.t 18)
       (.seq (.region [.op ⟨(some 19), none, (.r (.mv (.t 6)))⟩,
         .op ⟨(some 5), none, (.r (.mv (.t 19)))⟩])
       (.exit 0))
       .skip))))
     (.region [.op ⟨(some 20), none, (.r (.bin .add (.t 10) (.c (.int .i64 (.ofNat 1)))))⟩,
       .op ⟨(some 10), none, (.r (.mv (.t 20)))⟩])))))))
   (.seq (.region [.op ⟨(some 21), none, (.r (.mv (.t 5)))⟩,
     .op ⟨(some 4), none, (.r (.mv (.t 21)))⟩])
   .ret)))))) }
/-- slices.insertionSortOrdered[string] -/
def pf83 : PF := { ntmps := 49, results := [], body :=
  (.seq (.region [.op ⟨(some 8), none, (.r (.mv (.t 1)))⟩,
    .op ⟨(some 9), none, (.r (.bin .add (.t 8) (.c (.int .i64 (.ofNat 1)))))⟩,
    .op ⟨(some 6), none, (.r (.mv (.t 9)))⟩])
  (.block 0 (.loop (.seq (.seq (.region [.op ⟨(some 10), none, (.r (.mv (.t 6)))⟩,
      .op ⟨(some 11), none, (.r (.mv (.t 2)))⟩,
      .op ⟨(some 12), none, (.r (.bin .lss (.t 10) (.t 11)))⟩])
    (.cond (.t 12)
     .skip
     (.exit 0)))
    (.seq (.block 1 (.seq (.region [.op ⟨(some 15), none, (.r (.mv (.t 6)))⟩,
       .op ⟨(some 7), none, (.r (.mv (.t 15)))⟩])
     (.block 2 (.loop (.seq (.seq (.region [.op ⟨(some 16), none, (.r (.mv (.t 7)))⟩,
         .op ⟨(some 17), none, (.r (.mv (.t 1)))⟩,
         .op ⟨(some 18), none, (.r (.bin .gtr (.t 16) (.t 17)))⟩,
         .op ⟨(some 19), none, (.r (.mv (.t 18)))⟩,
         .op ⟨(some 20), (some (19, true)), (.r (.mv (.t 0)))⟩,
         .op ⟨(some 21), (some (19, true)), (.r (.mv (.t 7)))⟩,
         .op ⟨(some 22), (some (19, true)), (.r (.iasl 1 (.t 20) (.t 21)))⟩,
         .op ⟨(some 23), (some (19, true)), (.r (.load false 1 (.t 22)))⟩,
         .op ⟨(some 24), (some (19, true)), (.r (.mv (.t 0)))⟩,
         .op ⟨(some 25), (some (19, true)), (.r (.mv (.t 7)))⟩,
         .op ⟨(some 26), (some (19, true)), (.r (.bin .sub (.t 25) (.c (.int .i64 (.ofNat 1)))))⟩,
         .op ⟨(some 27), (some (19, true)), (.r (.iasl 1 (.t 24) (.t 26)))⟩,
         .op ⟨(some 28), (some (19, true)), (.r (.load false 1 (.t 27)))⟩,
         .op ⟨(some 29), (some (19, true)), (.e (.call 89 [(.t 23), (.t 28)]))⟩,
         .op ⟨(some 30), none, (.r (.pick (.t 19) (.t 29) (.c (.bool false))))⟩])
       (.cond (.t 30)
        .skip
        (.exit 2)))
       (.seq (.block 3 (.region [.op ⟨(some 33), none, (.r (.mv (.t 0)))⟩,
          .op ⟨(some 34), none, (.r (.mv (.t 7)))⟩,
          .op ⟨(some 35), none, (.r (.mv (.t 0)))⟩,
          .op ⟨(some 36), none, (.r (.mv (.t 7)))⟩,
          .op ⟨(some 37), none, (.r (.bin .sub (.t 36) (.c (.int .i64 (.ofNat 1)))))⟩,
          .op ⟨(some 38), none, (.r (.mv (.t 0)))⟩,
          .op ⟨(some 39), none, (.r (.mv (.t 7)))⟩,
          .op ⟨(some 40), none, (.r (.bin .sub (.t 39) (.c (.int .i64 (.ofNat 1)))))⟩,
          .op ⟨(some 41), none, (.r (.iasl 1 (.t 38) (.t 40)))⟩,
          .op ⟨(some 42), none, (.r (.load false 1 (.t 41)))⟩,
          .op ⟨(some 43), none, (.r (.mv (.t 0)))⟩,
          .op ⟨(some 44), none, (.r (.mv (.t 7)))⟩,
          .op ⟨(some 45), none, (.r (.iasl 1 (.t 43) (.t 44)))⟩,
          .op ⟨(some 46), none, (.r (.load false 1 (.t 45)))⟩,
          .op ⟨(some 47), none, (.r (.iasl 1 (.t 33) (.t 34)))⟩,
          .op ⟨none, none, (.e (.store 1 (.t 47) (.t 42)))⟩,
          .op ⟨(some 48), none, (.r (.iasl 1 (.t 35) (.t 37)))⟩,
          .op ⟨none, none, (.e (.store 1 (.t 48) (.t 46)))⟩]))
       (.region [.op ⟨(some 31), none, (.r (.mv (.t 7)))⟩,
         .op ⟨(some 32), none, (.r (.bin .sub (.t 31) (.c (.int .i64 (.ofNat 1)))))⟩,
         .op ⟨(some 7), none, (.r (.mv (.t 32)))⟩])))))))
    (.region [.op ⟨(some 13), none, (.r (.mv (.t 6)))⟩,
      .op ⟨(some 14), none, (.r (.bin .add (.t 13) (.c (.int .i64 (.ofNat 1)))))⟩,
      .op ⟨(some 6), none, (.r (.mv (.t 14)))⟩])))))) }
/-- slices.heapSortOrdered[string] -/
def pf84 : PF := { ntmps := 56, results := [], body :=
  (.seq (.region [.op ⟨(some 11), none, (.r (.mv (.t 1)))⟩,
    .op ⟨(some 6), none, (.r (.mv (.t 11)))⟩])
  (.seq (.region [.op ⟨(some 7), none, (.r (.mv (.c (.int .i64 (.ofNat 0)))))⟩])
  (.seq (.region [.op ⟨(some 12), none, (.r (.mv (.t 2)))⟩,
    .op ⟨(some 13), none, (.r (.mv (.t 1)))⟩,
    .op ⟨(some 14), none, (.r (.bin .sub (.t 12) (.t 13)))⟩,
    .op ⟨(some 8), none, (.r (.mv (.t 14)))⟩])
  (.seq (.seq (.region [.op ⟨(some 15), none, (.r (.mv (.t 8)))⟩,
    .op ⟨(some 16), none, (.r (.bin .sub (.t 15) (.c (.int .i64 (.ofNat 1)))))⟩,
    .op ⟨(some 17), none, (.r (.bin .quo (.t 16) (.c (.int .i64 (.ofNat 2)))))⟩,
    .op ⟨(some 9), none, (.r (.mv (.t 17)))⟩])
  (.block 0 (.loop (.seq (.seq (.region [.op ⟨(some 18), none, (.r (.mv (.t 9)))⟩,
      .op ⟨(some 19), none, (.r (.bin .geq (.t 18) (.c (.int .i64 (.ofNat 0)))))⟩])
    (.cond (.t 19)
     .skip
     (.exit 0)))
    (.seq (.block 1 (.region [.op ⟨(some 22), none, (.r (.mv (.t 0)))⟩,
       .op ⟨(some 23), none, (.r (.mv (.t 9)))⟩,
       .op ⟨(some 24), none, (.r (.mv (.t 8)))⟩,
       .op ⟨(some 25), none, (.r (.mv (.t 6)))⟩,
       .op ⟨(some 26), none, (.e (.call 94 [(.t 22), (.t 23), (.t 24), (.t 25)]))⟩]))
    (.region [.op ⟨(some 20), none, (.r (.mv (.t 9)))⟩,
      .op ⟨(some 21), none, (.r (.bin .sub (.t 20) (.c (.int .i64 (.ofNat 1)))))⟩,
      .op ⟨(some 9), none, (.r (.mv (.t 21)))⟩]))))))
  (.seq (.region [.op ⟨(some 27), none, (.r (.mv (.t 8)))⟩,
    .op ⟨(some 28), none, (.r (.bin .sub (.t 27) (.c (.int .i64 (.ofNat 1)))))⟩,
    .op ⟨(some 10), none, (.r (.mv (.t 28)))⟩])
  (.block 2 (.loop (.seq (.seq (.region [.op ⟨(some 29), none, (.r (.mv (.t 10)))⟩,
      .op ⟨(some 30), none, (.r (.bin .geq (.t 29) (.c (.int .i64 (.ofNat 0)))))⟩])
    (.cond (.t 30)
     .skip
     (.exit 2)))
    (.seq (.block 3 (.seq (.region [.op ⟨(some 33), none, (.r (.mv (.t 0)))⟩,
       .op ⟨(some 34), none, (.r (.mv (.t 6)))⟩,
       .op ⟨(some 35), none, (.r (.mv (.t 0)))⟩,
       .op ⟨(some 36), none, (.r (.mv (.t 6)))⟩,
       .op ⟨(some 37), none, (.r (.mv (.t 10)))⟩,
       .op ⟨(some 38), none, (.r (.bin .add (.t 36) (.t 37)))⟩,
       .op ⟨(some 39), none, (.r (.mv (.t 0)))⟩,
       .op ⟨(some 40), none, (.r (.mv (.t 6)))⟩,
       .op ⟨(some 41), none, (.r (.mv (.t 10)))⟩,
       .op ⟨(some 42), none, (.r (.bin .add (.t 40) (.t 41)))⟩,
       .op ⟨(some 43), none, (.r (.iasl 1 (.t 39) (.t 42)))⟩,
       .op ⟨(some 44), none, (.r (.load false 1 (.t 43)))⟩,
       .op ⟨(some 45), none, (.r (.mv (.t 0)))⟩,
       .op ⟨(some 46), none, (.r (.mv (.t 6)))⟩,
       .op ⟨(some 47), none, (.r (.iasl 1 (.t 45) (.t 46)))⟩,
       .op ⟨(some 48), none, (.r (.load false 1 (.t 47)))⟩,
       .op ⟨(some 49), none, (.r (.iasl 1 (.t 33) (.t 34)))⟩,
       .op ⟨none, none, (.e (.store 1 (.t 49) (.t 44)))⟩,
       .op ⟨(some 50), none, (.r (.iasl 1 (.t 35) (.t 38)))⟩,
       .op ⟨none, none, (.e (.store 1 (.t 50) (.t 48)))⟩])
     (.region [.op ⟨(some 51), none, (.r (.mv (.t 0)))⟩,
       .op ⟨(some 52), none, (.r (.mv (.t 7)))⟩,
       .op ⟨(some 53), none, (.r (.mv (.t 10)))⟩,
       .op ⟨(some 54), none, (.r (.mv (.t 6)))⟩,
       .op ⟨(some 55), none, (.e (.call 94 [(.t 51), (.t 52), (.t 53), (.t 54)]))⟩])))
    (.region [.op ⟨(some 31), none, (.r (.mv (.t 10)))⟩,
      .op ⟨(some 32), none, (.r (.bin .sub (.t 31) (.c (.int .i64 (.ofNat 1)))))⟩,
      .op ⟨(some 10), none, (.r (.mv (.t 32)))⟩])))))))))) }
/-- slices.breakPatternsOrdered[string] -/
def pf85 : PF := { ntmps := 65, results := [], body :=
  (.seq (.region [.op ⟨(some 11), none, (.r (.mv (.t 2)))⟩,
    .op ⟨(some 12), none, (.r (.mv (.t 1)))⟩,
    .op ⟨(some 13), none, (.r (.bin .sub (.t 11) (.t 12)))⟩,
    .op ⟨(some 6), none, (.r (.mv (.t 13)))⟩])
  (.seq (.region [.op ⟨(some 14), none, (.r (.mv (.t 6)))⟩,
    .op ⟨(some 15), none, (.r (.bin .geq (.t 14) (.c (.int .i64 (.ofNat 8)))))⟩])
  (.cond (.t 15)
   (.seq (.region [.op ⟨(some 16), none, (.r (.mv (.t 6)))⟩,
     .op ⟨(some 17), none, (.r (.cint .u64 (.t 16)))⟩,
     .op ⟨(some 7), none, (.n (.new 0 [(.int .u64 (.ofNat 0))]))⟩,
     .op ⟨none, none, (.e (.store 1 (.t 7) (.t 17)))⟩])
   (.seq (.region [.op ⟨(some 18), none, (.r (.mv (.t 6)))⟩,
     .op ⟨(some 19), none, (.e (.call 68 [(.t 18)]))⟩,
     .op ⟨(some 8), none, (.r (.mv (.t 19)))⟩])
   (.seq (.region [.op ⟨(some 20), none, (.r (.mv (.t 1)))⟩,
     .op ⟨(some 21), none, (.r (.mv (.t 6)))⟩,
     .op ⟨(some 22), none, (.r (.bin .quo (.t 21) (.c (.int .i64 (.ofNat 4)))))⟩,
     .op ⟨(some 23), none, (.r (.bin .mul (.t 22) (.c (.int .i64 (.ofNat 2)))))⟩,
     .op ⟨(some 24), none, (.r (.bin .add (.t 20) (.t 23)))⟩,
     .op ⟨(some 25), none, (.r (.bin .sub (.t 24) (.c (.int .i64 (.ofNat 1)))))⟩,
     .op ⟨(some 9), none, (.r (.mv (.t 25)))⟩])
   (.block 0 (.loop (.seq (.seq (.region [.op ⟨(some 26), none, (.r (.mv (.t 9)))⟩,
       .op ⟨(some 27), none, (.r (.mv (.t 1)))⟩,
       .op ⟨(some 28), none, (.r (.mv (.t 6)))⟩,
       .op ⟨(some 29), none, (.r (.bin .quo (.t 28) (.c (.int .i64 (.ofNat 4)))))⟩,
       .op ⟨(some 30), none, (.r (.bin .mul (.t 29) (.c (.int .i64 (.ofNat 2)))))⟩,
       .op ⟨(some 31), none, (.r (.bin .add (.t 27) (.t 30)))⟩,
       .op ⟨(some 32), none, (.r (.bin .add (.t 31) (.c (.int .i64 (.ofNat 1)))))⟩,
       .op ⟨(some 33), none, (.r (.bin .leq (.t 26) (.t 32)))⟩])
     (.cond (.t 33)
      .skip
      (.exit 0)))
     (.seq (.block 1 (.seq (.region [.op ⟨(some 36), none, (.e (.call 69 [(.t 7)]))⟩,
        .op ⟨(some 37), none, (.r (.mv (.t 8)))⟩,
        .op ⟨(some 38), none, (.r (.bin .sub (.t 37) (.c (.int .u64 (.ofNat 1)))))⟩,
        .op ⟨(some 39), none, (.r (.bin .and (.t 36) (.t 38)))⟩,
        .op ⟨(some 40), none, (.r (.cint .i64 (.t 39)))⟩,
        .op ⟨(some 10), none, (.r (.mv (.t 40)))⟩])
      (.seq (.seq (.region [.op ⟨(some 41), none, (.r (.mv (.t 10)))⟩,
        .op ⟨(some 42), none, (.r (.mv (.t 6)))⟩,
        .op ⟨(some 43), none, (.r (.bin .geq (.t 41) (.t 42)))⟩])
      (.cond (.t 43)
       (.region [.op ⟨(some 44), none, (.r (.mv (.t 10)))⟩,
         .op ⟨(some 45), none, (.r (.mv (.t 6)))⟩,
         .op ⟨(some 46), none, (.r (.bin .sub (.t 44) (.t 45)))⟩,
         .op ⟨(some 10), none, (.r (.mv (.t 46)))⟩])
       .skip))
      (.region [.op ⟨(some 47), none, (.r (.mv (.t 0)))⟩,
        .op ⟨(some 48), none, (.r (.mv (.t 9)))⟩,
        .op ⟨(some 49), none, (.r (.mv (.t 0)))⟩,
        .op ⟨(some 50), none, (.r (.mv (.t 1)))⟩,
        .op ⟨(some 51), none, (.r (.mv (.t 10)))⟩,
        .op ⟨(some 52), none, (.r (.bin .add (.t 50) (.t 51)))⟩,
        .op ⟨(some 53), none, (.r (.mv (.t 0)))⟩,
        .op ⟨(some 54), none, (.r (.mv (.t 1)))⟩,
        .op ⟨(some 55), none, (.r (.mv (.t 10)))⟩,
        .op ⟨(some 56), none, (.r (.bin .add (.t 54) (.t 55)))⟩,
        .op ⟨(some 57), none, (.r (.iasl 1 (.t 53) (.t 56)))⟩,
        .op ⟨(some 58), none, (.r (.load false 1 (.t 57)))⟩,
        .op ⟨(some 59), none, (.r (.mv (.t 0)))⟩,
        .op ⟨(some 60), none, (.r (.mv (.t 9)))⟩,
        .op ⟨(some 61), none, (.r (.iasl 1 (.t 59) (.t 60)))⟩,
        .op ⟨(some 62), none, (.r (.load false 1 (.t 61)))⟩,
        .op ⟨(some 63), none, (.r (.iasl 1 (.t 47) (.t 48)))⟩,
        .op ⟨none, none, (.e (.store 1 (.t 63) (.t 58)))⟩,
        .op ⟨(some 64), none, (.r (.iasl 1 (.t 49) (.t 52)))⟩,
        .op ⟨none, none, (.e (.store 1 (.t 64) (.t 62)))⟩]))))
     (.region [.op ⟨(some 34), none, (.r (.mv (.t 9)))⟩,
       .op ⟨(some 35), none, (.r (.bin .add (.t 34) (.c (.int .i64 (.ofNat 1)))))⟩,
       .op ⟨(some 9), none, (.r (.mv (.t 35)))⟩]))))))))
   .skip))) }
/-- slices.choosePivotOrdered[string] -/
def pf86 : PF := { ntmps := 57, results := [.tmp 6, .tmp 7], body :=
  (.seq (.region [.op ⟨(some 6), none, (.r (.mv (.c (.int .i64 (.ofNat 0)))))⟩,
    .op ⟨(some 7), none, (.r (.mv (.c (.int .i64 (.ofNat 0)))))⟩])
  (.seq (.region [.op ⟨(some 13), none, (.r (.mv (.t 2)))⟩,
    .op ⟨(some 14), none, (.r (.mv (.t 1)))⟩,
    .op ⟨(some 15), none, (.r (.bin .sub (.t 13) (.t 14)))⟩,
    .op ⟨(some 8), none, (.r (.mv (.t 15)))⟩])
  (.seq (.region [.op ⟨(some 9), none, (.n (.new 0 [(.int .i64 (.ofNat 0))]))⟩])
  (.seq (.region [.op ⟨(some 16), none, (.r (.mv (.t 1)))⟩,
    .op ⟨(some 17), none, (.r (.mv (.t 8)))⟩,
    .op ⟨(some 18), none, (.r (.bin .quo (.t 17) (.c (.int .i64 (.ofNat 4)))))⟩,
    .op ⟨(some 19), none, (.r (.bin .mul (.t 18) (.c (.int .i64 (.ofNat 1)))))⟩,
    .op ⟨(some 20), none, (.r (.bin .add (.t 16) (.t 19)))⟩,
    .op ⟨(some 10), none, (.r (.mv (.t 20)))⟩])
  (.seq (.region [.op ⟨(some 21), none, (.r (.mv (.t 1)))⟩,
    .op ⟨(some 22), none, (.r (.mv (.t 8)))⟩,
    .op ⟨(some 23), none, (.r (.bin .quo (.t 22) (.c (.int .i64 (.ofNat 4)))))⟩,
    .op ⟨(some 24), none, (.r (.bin .mul (.t 23) (.c (.int .i64 (.ofNat 2)))))⟩,
    .op ⟨(some 25), none, (.r (.bin .add (.t 21) (.t 24)))⟩,
    .op ⟨(some 11), none, (.r (.mv (.t 25)))⟩])
  (.seq (.region [.op ⟨(some 26), none, (.r (.mv (.t 1)))⟩,
    .op ⟨(some 27), none, (.r (.mv (.t 8)))⟩,
    .op ⟨(some 28), none, (.r (.bin .quo (.t 27) (.c (.int .i64 (.ofNat 4)))))⟩,
    .op ⟨(some 29), none, (.r (.bin .mul (.t 28) (.c (.int .i64 (.ofNat 3)))))⟩,
    .op ⟨(some 30), none, (.r (.bin .add (.t 26) (.t 29)))⟩,
    .op ⟨(some 12), none, (.r (.mv (.t 30)))⟩])
  (.seq (.seq (.region [.op ⟨(some 31), none, (.r (.mv (.t 8)))⟩,
    .op ⟨(some 32), none, (.r (.bin .geq (.t 31) (.c (.int .i64 (.ofNat 8)))))⟩])
  (.cond (.t 32)
   (.seq (.seq (.region [.op ⟨(some 33), none, (.r (.mv (.t 8)))⟩,
     .op ⟨(some 34), none, (.r (.bin .geq (.t 33) (.c (.int .i64 (.ofNat 50)))))⟩])
   (.cond (.t 34)
    (.seq (.region [.op ⟨(some 35), none, (.r (.mv (.t 0)))⟩,
      .op ⟨(some 36), none, (.r (.mv (.t 10)))⟩,
      .op ⟨(some 37), none, (.e (.call 95 [(.t 35), (.t 36), (.t 9)]))⟩,
      .op ⟨(some 10), none, (.r (.mv (.t 37)))⟩])
    (.seq (.region [.op ⟨(some 38), none, (.r (.mv (.t 0)))⟩,
      .op ⟨(some 39), none, (.r (.mv (.t 11)))⟩,
      .op ⟨(some 40), none, (.e (.call 95 [(.t 38), (.t 39), (.t 9)]))⟩,
      .op ⟨(some 11), none, (.r (.mv (.t 40)))⟩])
    (.region [.op ⟨(some 41), none, (.r (.mv (.t 0)))⟩,
      .op ⟨(some 42), none, (.r (.mv (.t 12)))⟩,
      .op ⟨(some 43), none, (.e (.call 95 [(.t 41), (.t 42), (.t 9)]))⟩,
      .op ⟨(some 12), none, (.r (.mv (.t 43)))⟩])))
    .skip))
   (.region [.op ⟨(some 44), none, (.r (.mv (.t 0)))⟩,
     .op ⟨(some 45), none, (.r (.mv (.t 10)))⟩,
     .op ⟨(some 46), none, (.r (.mv (.t 11)))⟩,
     .op ⟨(some 47), none, (.r (.mv (.t 12)))⟩,
     .op ⟨(some 48), none, (.e (.call 96 [(.t 44), (.t 45), (.t 46), (.t 47), (.t 9)]))⟩,
     .op ⟨(some 11), none, (.r (.mv (.t 48)))⟩]))
   .skip))
  (.seq (.region [.op ⟨(some 49), none, (.r (.load false 1 (.t 9)))⟩])
  (.block 0 (.seq (.region [.op ⟨(some 52), none, (.r (.bin .eql (.t 49) (.c (.int .i64 (.ofNat 0)))))⟩,
     .op ⟨(some 51), none, (.r (.mv (.t 52)))⟩])
   (.cond (.t 51)
    (.seq (.region [.op ⟨(some 53), none, (.r (.mv (.t 11)))⟩,
      .op ⟨(some 6), none, (.r (.mv (.t 53)))⟩,
      .op ⟨(some 7), none, (.r (.mv (.c (.int .i64 (.ofNat 1)))))⟩])
    .ret)
    (.seq (.region [.op ⟨(some 55), none, (.r (.bin .eql (.t 49) (.c (.int .i64 (.ofNat 12)))))⟩,
      .op ⟨(some 54), none, (.r (.mv (.t 55)))⟩])
    (.cond (.t 54)
     (.seq (.region [.op ⟨(some 56), none, (.r (.mv (.t 11)))⟩,
       .op ⟨(some 6), none, (.r (.mv (.t 56)))⟩,
       .op ⟨(some 7), none, (.r (.mv (.c (.int .i64 (.ofNat 2)))))⟩])
     .ret)
     (.seq (.region [.op ⟨(some 50), none, (.r (.mv (.t 11)))⟩,
       .op ⟨(some 6), none, (.r (.mv (.t 50)))⟩,
       .op ⟨(some 7), none, (.r (.mv (.c (.int .i64 (.ofNat 0)))))⟩])
     .ret)))))))))))))) }
/-- slices.reverseRangeOrdered[string] -/
def pf87 : PF := { ntmps := 32, results := [], body :=
  (.seq (.region [.op ⟨(some 8), none, (.r (.mv (.t 1)))⟩,
    .op ⟨(some 6), none, (.r (.mv (.t 8)))⟩])
  (.seq (.region [.op ⟨(some 9), none, (.r (.mv (.t 2)))⟩,
    .op ⟨(some 10), none, (.r (.bin .sub (.t 9) (.c (.int .i64 (.ofNat 1)))))⟩,
    .op ⟨(some 7), none, (.r (.mv (.t 10)))⟩])
  (.block 0 (.loop (.seq (.seq (.region [.op ⟨(some 11), none, (.r (.mv (.t 6)))⟩,
      .op ⟨(some 12), none, (.r (.mv (.t 7)))⟩,
      .op ⟨(some 13), none, (.r (.bin .lss (.t 11) (.t 12)))⟩])
    (.cond (.t 13)
     .skip
     (.exit 0)))
    (.block 1 (.seq (.region [.op ⟨(some 14), none, (.r (.mv (.t 0)))⟩,
       .op ⟨(some 15), none, (.r (.mv (.t 6)))⟩,
       .op ⟨(some 16), none, (.r (.mv (.t 0)))⟩,
       .op ⟨(some 17), none, (.r (.mv (.t 7)))⟩,
       .op ⟨(some 18), none, (.r (.mv (.t 0)))⟩,
       .op ⟨(some 19), none, (.r (.mv (.t 7)))⟩,
       .op ⟨(some 20), none, (.r (.iasl 1 (.t 18) (.t 19)))⟩,
       .op ⟨(some 21), none, (.r (.load false 1 (.t 20)))⟩,
       .op ⟨(some 22), none, (.r (.mv (.t 0)))⟩,
       .op ⟨(some 23), none, (.r (.mv (.t 6)))⟩,
       .op ⟨(some 24), none, (.r (.iasl 1 (.t 22) (.t 23)))⟩,
       .op ⟨(some 25), none, (.r (.load false 1 (.t 24)))⟩,
       .op ⟨(some 26), none, (.r (.iasl 1 (.t 14) (.t 15)))⟩,
       .op ⟨none, none, (.e (.store 1 (.t 26) (.t 21)))⟩,
       .op ⟨(some 27), none, (.r (.iasl 1 (.t 16) (.t 17)))⟩,
       .op ⟨none, none, (.e (.store 1 (.t 27) (.t 25)))⟩])
     (.seq (.region [.op ⟨(some 28), none, (.r (.mv (.t 6)))⟩,
       .op ⟨(some 29), none, (.r (.bin .add (.t 28) (.c (.int .i64 (.ofNat 1)))))⟩,
       .op ⟨(some 6), none, (.r (.mv (.t 29)))⟩])
     (.region [.op ⟨(some 30), none, (.r (.mv (.t 7)))⟩,
       .op ⟨(some 31), none, (.r (.bin .sub (.t 30) (.c (.int .i64 (.ofNat 1)))))⟩,
       .op ⟨(some 7), none, (.r (.mv (.t 31)))⟩]))))))))) }
/-- slices.partialInsertionSortOrdered[string] -/
def pf88 : PF := { ntmps := 133, results := [.tmp 6], body :=
  (.seq (.region [.op ⟨(some 6), none, (.r (.mv (.c (.bool false))))⟩])
  (.seq (.region [.op ⟨(some 11), none, (.r (.mv (.t 1)))⟩,
    .op ⟨(some 12), none, (.r (.bin .add (.t 11) (.c (.int .i64 (.ofNat 1)))))⟩,
    .op ⟨(some 7), none, (.r (.mv (.t 12)))⟩])
  (.seq (.seq (.region [.op ⟨(some 8), none, (.r (.mv (.c (.int .i64 (.ofNat 0)))))⟩])
  (.block 0 (.loop (.seq (.seq (.region [.op ⟨(some 13), none, (.r (.mv (.t 8)))⟩,
      .op ⟨(some 14), none, (.r (.bin .lss (.t 13) (.c (.int .i64 (.ofNat 5)))))⟩])
    (.cond (.t 14)
     .skip
     (.exit 0)))
    (.seq (.block 1 (.seq (.block 2 (.loop (.seq (.seq (.region [.op ⟨(some 17), none, (.r (.mv (.t 7)))⟩,
         .op ⟨(some 18), none, (.r (.mv (.t 2)))⟩,
         .op ⟨(some 19), none, (.r (.bin .lss (.t 17) (.t 18)))⟩,
         .op ⟨(some 20), none, (.r (.mv (.t 19)))⟩,
         .op ⟨(some 21), (some (20, true)), (.r (.mv (.t 0)))⟩,
         .op ⟨(some 22), (some (20, true)), (.r (.mv (.t 7)))⟩,
         .op ⟨(some 23), (some (20, true)), (.r (.iasl 1 (.t 21) (.t 22)))⟩,
         .op ⟨(some 24), (some (20, true)), (.r (.load false 1 (.t 23)))⟩,
         .op ⟨(some 25), (some (20, true)), (.r (.mv (.t 0)))⟩,
         .op ⟨(some 26), (some (20, true)), (.r (.mv (.t 7)))⟩,
         .op ⟨(some 27), (some (20, true)), (.r (.bin .sub (.t 26) (.c (.int .i64 (.ofNat 1)))))⟩,
         .op ⟨(some 28), (some (20, true)), (.r (.iasl 1 (.t 25) (.t 27)))⟩,
         .op ⟨(some 29), (some (20, true)), (.r (.load false 1 (.t 28)))⟩,
         .op ⟨(some 30), (some (20, true)), (.e (.call 89 [(.t 24), (.t 29)]))⟩,
         .op ⟨(some 31), (some (20, true)), (.r (.un .not (.t 30)))⟩,
         .op ⟨(some 32), none, (.r (.pick (.t 20) (.t 31) (.c (.bool false))))⟩])
       (.cond (.t 32)
        .skip
        (.exit 2)))
       (.block 3 (.region [.op ⟨(some 33), none, (.r (.mv (.t 7)))⟩,
          .op ⟨(some 34), none, (.r (.bin .add (.t 33) (.c (.int .i64 (.ofNat 1)))))⟩,
          .op ⟨(some 7), none, (.r (.mv (.t 34)))⟩])))))
     (.seq (.seq (.region [.op ⟨(some 35), none, (.r (.mv (.t 7)))⟩,
       .op ⟨(some 36), none, (.r (.mv (.t 2)))⟩,
       .op ⟨(some 37), none, (.r (.bin .eql (.t 35) (.t 36)))⟩])
     (.cond (.t 37)
      (.seq (.region [.op ⟨(some 6), none, (.r (.mv (.c (.bool true))))⟩])
      .ret)
      .skip))
     (.seq (.seq (.region [.op ⟨(some 38), none, (.r (.mv (.t 2)))⟩,
       .op ⟨(some 39), none, (.r (.mv (.t 1)))⟩,
       .op ⟨(some 40), none, (.r (.bin .sub (.t 38) (.t 39)))⟩,
       .op ⟨(some 41), none, (.r (.bin .lss (.t 40) (.c (.int .i64 (.ofNat 50)))))⟩])
     (.cond (.t 41)
      (.seq (.region [.op ⟨(some 6), none, (.r (.mv (.c (.bool false))))⟩])
      .ret)
      .skip))
     (.seq (.region [.op ⟨(some 42), none, (.r (.mv (.t 0)))⟩,
       .op ⟨(some 43), none, (.r (.mv (.t 7)))⟩,
       .op ⟨(some 44), none, (.r (.mv (.t 0)))⟩,
       .op ⟨(some 45), none, (.r (.mv (.t 7)))⟩,
       .op ⟨(some 46), none, (.r (.bin .sub (.t 45) (.c (.int .i64 (.ofNat 1)))))⟩,
       .op ⟨(some 47), none, (.r (.mv (.t 0)))⟩,
       .op ⟨(some 48), none, (.r (.mv (.t 7)))⟩,
       .op ⟨(some 49), none, (.r (.bin .sub (.t 48) (.c (.int .i64 (.ofNat 1)))))⟩,
       .op ⟨(some 50), none, (.r (.iasl 1 (.t 47) (.t 49)))⟩,
       .op ⟨(some 51), none, (.r (.load false 1 (.t 50)))⟩,
       .op ⟨(some 52), none, (.r (.mv (.t 0)))⟩,
       .op ⟨(some 53), none, (.r (.mv (.t 7)))⟩,
       .op ⟨(some 54), none, (.r (.iasl 1 (.t 52) (.t 53)))⟩,
       .op ⟨(some 55), none, (.r (.load false 1 (.t 54)))⟩,
       .op ⟨(some 56), none, (.r (.iasl 1 (.t 42) (.t 43)))⟩,
       .op ⟨none, none, (.e (.store 1 (.t 56) (.t 51)))⟩,
       .op ⟨(some 57), none, (.r (.iasl 1 (.t 44) (.t 46)))⟩,
       .op ⟨none, none, (.e (.store 1 (.t 57) (.t 55)))⟩])
     (.seq (.seq (.region [.op ⟨(some 58), none, (.r (.mv (.t 7)))⟩,
       .op ⟨(some 59), none, (.r (.mv (.t 1)))⟩,
       .op ⟨(some 60), none, (.r (.bin .sub (.t 58) (.t 59)))⟩,
       .op ⟨(some 61), none, (.r (.bin .geq (.t 60) (.c (.int .i64 (.ofNat 2)))))⟩])
     (.cond (.t 61)
      (.seq (.region [.op ⟨(some 62), none, (.r (.mv (.t 7)))⟩,
        .op ⟨(some 63), none, (.r (.bin .sub (.t 62) (.c (.int .i64 (.ofNat 1)))))⟩,
        .op ⟨(some 9), none, (.r (.mv (.t 63)))⟩])
      (.block 4 (.loop (.seq (.seq (.region [.op ⟨(some 64), none, (.r (.mv (.t 9)))⟩,
          .op ⟨(some 65), none, (.r (.bin .geq (.t 64) (.c (.int .i64 (.ofNat 1)))))⟩])
        (.cond (.t 65)
         .skip
         (.exit 4)))
        (.seq (.block 5 (.seq (.seq (.region [.op ⟨(some 68), none, (.r (.mv (.t 0)))⟩,
           .op ⟨(some 69), none, (.r (.mv (.t 9)))⟩,
           .op ⟨(some 70), none, (.r (.iasl 1 (.t 68) (.t 69)))⟩,
           .op ⟨(some 71), none, (.r (.load false 1 (.t 70)))⟩,
           .op ⟨(some 72), none, (.r (.mv (.t 0)))⟩,
           .op ⟨(some 73), none, (.r (.mv (.t 9)))⟩,
           .op ⟨(some 74), none, (.r (.bin .sub (.t 73) (.c (.int .i64 (.ofNat 1)))))⟩,
           .op ⟨(some 75), none, (.r (.iasl 1 (.t 72) (.t 74)))⟩,
           .op ⟨(some 76), none, (.r (.load false 1 (.t 75)))⟩,
           .op ⟨(some 77), none, (.e (.call 89 [(.t 71), (.t 76)]))⟩,
           .op ⟨(some 78), none, (.r (.un .not (.t 77)))⟩])
         (.cond (.t 78)
          (.exit 4)
          .skip))
         (.region [.op ⟨(some 79), none, (.r (.mv (.t 0)))⟩,
           .op ⟨(some 80), none, (.r (.mv (.t 9)))⟩,
           .op ⟨(some 81), none, (.r (.mv (.t 0)))⟩,
           .op ⟨(some 82), none, (.r (.mv (.t 9)))⟩,
           .op ⟨(some 83), none, (.r (.bin .sub (.t 82) (.c (.int .i64 (.ofNat 1)))))⟩,
           .op ⟨(some 84), none, (.r (.mv (.t 0)))⟩,
           .op ⟨(some 85), none, (.r (.mv (.t 9)))⟩,
           .op ⟨(some 86), none, (.r (.bin .sub (.t 85) (.c (.int .i64 (.ofNat 1)))))⟩,
           .op ⟨(some 87), none, (.r (.iasl 1 (.t 84) (.t 86)))⟩,
           .op ⟨(some 88), none, (.r (.load false 1 (.t 87)))⟩,
           .op ⟨(some 89), none, (.r (.mv (.t 0)))⟩,
           .op ⟨(some 90), none, (.r (.mv (.t 9)))⟩,
           .op ⟨(some 91), none, (.r (.iasl 1 (.t 89) (.t 90)))⟩,
           .op ⟨(some 92), none, (.r (.load false 1 (.t 91)))⟩,
           .op ⟨(some 93), none, (.r (.iasl 1 (.t 79) (.t 80)))⟩,
           .op ⟨none, none, (.e (.store 1 (.t 93) (.t 88)))⟩,
           .op ⟨(some 94), none, (.r (.iasl 1 (.t 81) (.t 83)))⟩,
           .op ⟨none, none, (.e (.store 1 (.t 94) (.t 92)))⟩])))
        (.region [.op ⟨(some 66), none, (.r (.mv (.t 9)))⟩,
          .op ⟨(some 67), none, (.r (.bin .sub (.t 66) (.c (.int .i64 (.ofNat 1)))))⟩,
          .op ⟨(some 9), none, (.r (.mv (.t 67)))⟩]))))))
      .skip))
     (.seq (.region [.op ⟨(some 95), none, (.r (.mv (.t 2)))⟩,
       .op ⟨(some 96), none, (.r (.mv (.t 7)))⟩,
       .op ⟨(some 97), none, (.r (.bin .sub (.t 95) (.t 96)))⟩,
       .op ⟨(some 98), none, (.r (.bin .geq (.t 97) (.c (.int .i64 (.ofNat 2)))))⟩])
     (.cond (.t 98)
      (.seq (.region [.op ⟨(some 99), none, (.r (.mv (.t 7)))⟩,
        .op ⟨(some 100), none, (.r (.bin .add (.t 99) (.c (.int .i64 (.ofNat 1)))))⟩,
        .op ⟨(some 10), none, (.r (.mv (.t 100)))⟩])
      (.block 6 (.loop (.seq (.seq (.region [.op ⟨(some 101), none, (.r (.mv (.t 10)))⟩,
          .op ⟨(some 102), none, (.r (.mv (.t 2)))⟩,
          .op ⟨(some 103), none, (.r (.bin .lss (.t 101) (.t 102)))⟩])
        (.cond (.t 103)
         .skip
         (.exit 6)))
        (.seq (.block 7 (.seq (.seq (.region [.op ⟨(some 106), none, (.r (.mv (.t 0)))⟩,
           .op ⟨(some 107), none, (.r (.mv (.t 10)))⟩,
           .op ⟨(some 108), none, (.r (.iasl 1 (.t 106) (.t 107)))⟩,
           .op ⟨(some 109), none, (.r (.load false 1 (.t 108)))⟩,
           .op ⟨(some 110), none, (.r (.mv (.t 0)))⟩,
           .op ⟨(some 111), none, (.r (.mv (.t 10)))⟩,
           .op ⟨(some 112), none, (.r (.bin .sub (.t 111) (.c (.int .i64 (.ofNat 1)))))⟩,
           .op ⟨(some 113), none, (.r (.iasl 1 (.t 110) (.t 112)))⟩,
           .op ⟨(some 114), none, (.r (.load false 1 (.t 113)))⟩,
           .op ⟨(some 115), none, (.e (.call 89 [(.t 109), (.t 114)]))⟩,
           .op ⟨(some 116), none, (.r (.un .not (.t 115)))⟩])
         (.cond (.t 116)
          (.exit 6)
          .skip))
         (.region [.op ⟨(some 117), none, (.r (.mv (.t 0)))⟩,
           .op ⟨(some 118), none, (.r (.mv (.t 10)))⟩,
           .op ⟨(some 119), none, (.r (.mv (.t 0)))⟩,
           .op ⟨(some 120), none, (.r (.mv (.t 10)))⟩,
           .op ⟨(some 121), none, (.r (.bin .sub (.t 120) (.c (.int .i64 (.ofNat 1)))))⟩,
           .op ⟨(some 122), none, (.r (.mv (.t 0)))⟩,
           .op ⟨(some 123), none, (.r (.mv (.t 10)))⟩,
           .op ⟨(some 124), none, (.r (.bin .sub (.t 123) (.c (.int .i64 (.ofNat 1)))))⟩,
           .op ⟨(some 125), none, (.r (.iasl 1 (.t 122) (.t 124)))⟩,
           .op ⟨(some 126), none, (.r (.load false 1 (.t 125)))⟩,
           .op ⟨(some 127), none, (.r (.mv (.t 0)))⟩,
           .op ⟨(some 128), none, (.r (.mv (.t 10)))⟩,
           .op ⟨(some 129), none, (.r (.iasl 1 (.t 127) (.t 128)))⟩,
           .op ⟨(some 130), none, (.r (.load false 1 (.t 129)))⟩,
           .op ⟨(some 131), none, (.r (.iasl 1 (.t 117) (.t 118)))⟩,
           .op ⟨none, none, (.e (.store 1 (.t 131) (.t 126)))⟩,
           .op ⟨(some 132), none, (.r (.iasl 1 (.t 119) (.t 121)))⟩,
           .op ⟨none, none, (.e (.store 1 (.t 132) (.t 130)))⟩])))
        (.region [.op ⟨(some 104), none, (.r (.mv (.t 10)))⟩,
          .op ⟨(some 105), none, (.r (.bin .add (.t 104) (.c (.int .i64 (.ofNat 1)))))⟩,
          .op ⟨(some 10), none, (.r (.mv (.t 105)))⟩]))))))
      .skip))))))))
    (.region [.op ⟨(some 15), none, (.r (.mv (.t 8)))⟩,
      .op ⟨(some 16), none, (.r (.bin .add (.t 15) (.c (.int .i64 (.ofNat 1)))))⟩,
      .op ⟨(some 8), none, (.r (.mv (.t 16)))⟩]))))))
  (.seq (.region [.op ⟨(some 6), none, (.r (.mv (.c (.bool false))))⟩])
  .ret)))) }
/-- cmp.Less[string] -/
def pf89 : PF := { ntmps := 17, results := [.tmp 4], body :=
  (.seq (.region [.op ⟨(some 4), none, (.r (.mv (.c (.bool false))))⟩])
  (.seq (.region [.op ⟨(some 5), none, (.r (.mv (.t 0)))⟩,
    .op ⟨(some 6), none, (.e (.call 97 [(.t 5)]))⟩,
    .op ⟨(some 7), none, (.r (.mv (.t 6)))⟩,
    .op ⟨(some 8), (some (7, true)), (.r (.mv (.t 1)))⟩,
    .op ⟨(some 9), (some (7, true)), (.e (.call 97 [(.t 8)]))⟩,
    .op ⟨(some 10), (some (7, true)), (.r (.un .not (.t 9)))⟩,
    .op ⟨(some 11), none, (.r (.pick (.t 7) (.t 10) (.c (.bool false))))⟩,
    .op ⟨(some 12), none, (.r (.mv (.t 11)))⟩,
    .op ⟨(some 13), (some (12, false)), (.r (.mv (.t 0)))⟩,
    .op ⟨(some 14), (some (12, false)), (.r (.mv (.t 1)))⟩,
    .op ⟨(some 15), (some (12, false)), (.r (.bin .lss (.t 13) (.t 14)))⟩,
    .op ⟨(some 16), none, (.r (.pick (.t 12) (.c (.bool true)) (.t 15)))⟩,
    .op ⟨(some 4), none, (.r (.mv (.t 16)))⟩])
  .ret)) }
/-- slices.partitionEqualOrdered[string] -/
def pf90 : PF := { ntmps := 84, results := [.tmp 8], body :=
  (.seq (.region [.op ⟨(some 8), none, (.r (.mv (.c (.int .i64 (.ofNat 0)))))⟩])
  (.seq (.region [.op ⟨(some 11), none, (.r (.mv (.t 0)))⟩,
    .op ⟨(some 12), none, (.r (.mv (.t 1)))⟩,
    .op ⟨(some 13), none, (.r (.mv (.t 0)))⟩,
    .op ⟨(some 14), none, (.r (.mv (.t 3)))⟩,
    .op ⟨(some 15), none, (.r (.mv (.t 0)))⟩,
    .op ⟨(some 16), none, (.r (.mv (.t 3)))⟩,
    .op ⟨(some 17), none, (.r (.iasl 1 (.t 15) (.t 16)))⟩,
    .op ⟨(some 18), none, (.r (.load false 1 (.t 17)))⟩,
    .op ⟨(some 19), none, (.r (.mv (.t 0)))⟩,
    .op ⟨(some 20), none, (.r (.mv (.t 1)))⟩,
    .op ⟨(some 21), none, (.r (.iasl 1 (.t 19) (.t 20)))⟩,
    .op ⟨(some 22), none, (.r (.load false 1 (.t 21)))⟩,
    .op ⟨(some 23), none, (.r (.iasl 1 (.t 11) (.t 12)))⟩,
    .op ⟨none, none, (.e (.store 1 (.t 23) (.t 18)))⟩,
    .op ⟨(some 24), none, (.r (.iasl 1 (.t 13) (.t 14)))⟩,
    .op ⟨none, none, (.e (.store 1 (.t 24) (.t 22)))⟩])
  (.seq (.region [.op ⟨(some 25), none, (.r (.mv (.t 1)))⟩,
    .op ⟨(some 26), none, (.r (.bin .add (.t 25) (.c (.int .i64 (.ofNat 1)))))⟩,
    .op ⟨(some 27), none, (.r (.mv (.t 2)))⟩,
    .op ⟨(some 28), none, (.r (.bin .sub (.t 27) (.c (.int .i64 (.ofNat 1)))))⟩,
    .op ⟨(some 9), none, (.r (.mv (.t 26)))⟩,
    .op ⟨(some 10), none, (.r (.mv (.t 28)))⟩])
  (.seq (.block 0 (.loop (.block 1 (.seq (.block 2 (.loop (.seq (.seq (.region [.op ⟨(some 29), none, (.r (.mv (.t 9)))⟩,
         .op ⟨(some 30), none, (.r (.mv (.t 10)))⟩,
         .op ⟨(some 31), none, (.r (.bin .leq (.t 29) (.t 30)))⟩,
         .op ⟨(some 32), none, (.r (.mv (.t 31)))⟩,
         .op ⟨(some 33), (some (32, true)), (.r (.mv (.t 0)))⟩,
         .op ⟨(some 34), (some (32, true)), (.r (.mv (.t 1)))⟩,
         .op ⟨(some 35), (some (32, true)), (.r (.iasl 1 (.t 33) (.t 34)))⟩,
         .op ⟨(some 36), (some (32, true)), (.r (.load false 1 (.t 35)))⟩,
         .op ⟨(some 37), (some (32, true)), (.r (.mv (.t 0)))⟩,
         .op ⟨(some 38), (some (32, true)), (.r (.mv (.t 9)))⟩,
         .op ⟨(some 39), (some (32, true)), (.r (.iasl 1 (.t 37) (.t 38)))⟩,
         .op ⟨(some 40), (some (32, true)), (.r (.load false 1 (.t 39)))⟩,
         .op ⟨(some 41), (some (32, true)), (.e (.call 89 [(.t 36), (.t 40)]))⟩,
         .op ⟨(some 42), (some (32, true)), (.r (.un .not (.t 41)))⟩,
         .op ⟨(some 43), none, (.r (.pick (.t 32) (.t 42) (.c (.bool false))))⟩])
       (.cond (.t 43)
        .skip
        (.exit 2)))
       (.block 3 (.region [.op ⟨(some 44), none, (.r (.mv (.t 9)))⟩,
          .op ⟨(some 45), none, (.r (.bin .add (.t 44) (.c (.int .i64 (.ofNat 1)))))⟩,
          .op ⟨(some 9), none, (.r (.mv (.t 45)))⟩])))))
     (.seq (.block 4 (.loop (.seq (.seq (.region [.op ⟨(some 46), none, (.r (.mv (.t 9)))⟩,
         .op ⟨(some 47), none, (.r (.mv (.t 10)))⟩,
         .op ⟨(some 48), none, (.r (.bin .leq (.t 46) (.t 47)))⟩,
         .op ⟨(some 49), none, (.r (.mv (.t 48)))⟩,
         .op ⟨(some 50), (some (49, true)), (.r (.mv (.t 0)))⟩,
         .op ⟨(some 51), (some (49, true)), (.r (.mv (.t 1)))⟩,
         .op ⟨(some 52), (some (49, true)), (.r (.iasl 1 (.t 50) (.t 51)))⟩,
         .op ⟨(some 53), (some (49, true)), (.r (.load false 1 (.t 52)))⟩,
         .op ⟨(some 54), (some (49, true)), (.r (.mv (.t 0)))⟩,
         .op ⟨(some 55), (some (49, true)), (.r (.mv (.t 10)))⟩,
         .op ⟨(some 56), (some (49, true)), (.r (.iasl 1 (.t 54) (.t 55)))⟩,
         .op ⟨(some 57), (some (49, true)), (.r (.load false 1 (.t 56)))⟩,
         .op ⟨(some 58), (some (49, true)), (.e (.call 89 [(.t 53), (.t 57)]))⟩,
         .op ⟨(some 59), none, (.r (.pick (.t 49) (.t 58) (.c (.bool false))))⟩])
       (.cond (.t 59)
        .skip
        (.exit 4)))
       (.block 5 (.region [.op ⟨(some 60), none, (.r (.mv (.t 10)))⟩,
          .op ⟨(some 61), none, (.r (.bin .sub (.t 60) (.c (.int .i64 (.ofNat 1)))))⟩,
          .op ⟨(some 10), none, (.r (.mv (.t 61)))⟩])))))
     (.seq (.seq (.region [.op ⟨(some 62), none, (.r (.mv (.t 9)))⟩,
       .op ⟨(some 63), none, (.r (.mv (.t 10)))⟩,
       .op ⟨(some 64), none, (.r (.bin .gtr (.t 62) (.t 63)))⟩])
     (.cond (.t 64)
      (.exit 0)
      .skip))
     (.seq (.region [.op ⟨(some 65), none, (.r (.mv (.t 0)))⟩,
       .op ⟨(some 66), none, (.r (.mv (.t 9)))⟩,
       .op ⟨(some 67), none, (.r (.mv (.t 0)))⟩,
       .op ⟨(some 68), none, (.r (.mv (.t 10)))⟩,
       .op ⟨(some 69), none, (.r (.mv (.t 0)))⟩,
       .op ⟨(some 70), none, (.r (.mv (.t 10)))⟩,
       .op ⟨(some 71), none, (.r (.iasl 1 (.t 69) (.t 70)))⟩,
       .op ⟨(some 72), none, (.r (.load false 1 (.t 71)))⟩,
       .op ⟨(some 73), none, (.r (.mv (.t 0)))⟩,
       .op ⟨(some 74), none, (.r (.mv (.t 9)))⟩,
       .op ⟨(some 75), none, (.r (.iasl 1 (.t 73) (.t 74)))⟩,
       .op ⟨(some 76), none, (.r (.load false 1 (.t 75)))⟩,
       .op ⟨(some 77), none, (.r (.iasl 1 (.t 65) (.t 66)))⟩,
       .op ⟨none, none, (.e (.store 1 (.t 77) (.t 72)))⟩,
       .op ⟨(some 78), none, (.r (.iasl 1 (.t 67) (.t 68)))⟩,
       .op ⟨none, none, (.e (.store 1 (.t 78) (.t 76)))⟩])
     (.seq (.region [.op ⟨(some 79), none, (.r (.mv (.t 9)))⟩,
       .op ⟨(some 80), none, (.r (.bin .add (.t 79) (.c (.int .i64 (.ofNat 1)))))⟩,
       .op ⟨(some 9), none, (.r (.mv (.t 80)))⟩])
     (.region [.op ⟨(some 81), none, (.r (.mv (.t 10)))⟩,
       .op ⟨(some 82), none, (.r (.bin .sub (.t 81) (.c (.int .i64 (.ofNat 1)))))⟩,
       .op ⟨(some 10), none, (.r (.mv (.t 82)))⟩])))))))))
  (.seq (.region [.op ⟨(some 83), none, (.r (.mv (.t 9)))⟩,
    .op ⟨(some 8), none, (.r (.mv (.t 83)))⟩])
  .ret))))) }
/-- slices.partitionOrdered[string] -/
def pf91 : PF := { ntmps := 168, results := [.tmp 8, .tmp 9], body :=
  (.seq (.region [.op ⟨(some 8), none, (.r (.mv (.c (.int .i64 (.ofNat 0)))))⟩,
    .op ⟨(some 9), none, (.r (.mv (.c (.bool false))))⟩])
  (.seq (.region [.op ⟨(some 12), none, (.r (.mv (.t 0)))⟩,
    .op ⟨(some 13), none, (.r (.mv (.t 1)))⟩,
    .op ⟨(some 14), none, (.r (.mv (.t 0)))⟩,
    .op ⟨(some 15), none, (.r (.mv (.t 3)))⟩,
    .op ⟨(some 16), none, (.r (.mv (.t 0)))⟩,
    .op ⟨(some 17), none, (.r (.mv (.t 3)))⟩,
    .op ⟨(some 18), none, (.r (.iasl 1 (.t 16) (.t 17)))⟩,
    .op ⟨(some 19), none, (.r (.load false 1 (.t 18)))⟩,
    .op ⟨(some 20), none, (.r (.mv (.t 0)))⟩,
    .op ⟨(some 21), none, (.r (.mv (.t 1)))⟩,
    .op ⟨(some 22), none, (.r (.iasl 1 (.t 20) (.t 21)))⟩,
    .op ⟨(some 23), none, (.r (.load false 1 (.t 22)))⟩,
    .op ⟨(some 24), none, (.r (.iasl 1 (.t 12) (.t 13)))⟩,
    .op ⟨none, none, (.e (.store 1 (.t 24) (.t 19)))⟩,
    .op ⟨(some 25), none, (.r (.iasl 1 (.t 14) (.t 15)))⟩,
    .op ⟨none, none, (.e (.store 1 (.t 25) (.t 23)))⟩])
  (.seq (.region [.op ⟨(some 26), none, (.r (.mv (.t 1)))⟩,
    .op ⟨(some 27), none, (.r (.bin .add (.t 26) (.c (.int .i64 (.ofNat 1)))))⟩,
    .op ⟨(some 28), none, (.r (.mv (.t 2)))⟩,
    .op ⟨(some 29), none, (.r (.bin .sub (.t 28) (.c (.int .i64 (.ofNat 1)))))⟩,
    .op ⟨(some 10), none, (.r (.mv (.t 27)))⟩,
    .op ⟨(some 11), none, (.r (.mv (.t 29)))⟩])
  (.seq (.block 0 (.loop (.seq (.seq (.region [.op ⟨(some 30), none, (.r (.mv (.t 10)))⟩,
      .op ⟨(some 31), none, (.r (.mv (.t 11)))⟩,
      .op ⟨(some 32), none, (.r (.bin .leq (.t 30) (.t 31)))⟩,
      .op ⟨(some 33), none, (.r (.mv (.t 32)))⟩,
      .op ⟨(some 34), (some (33, true)), (.r (.mv (.t 0)))⟩,
      .op ⟨(some 35), (some (33, true)), (.r (.mv (.t 10)))⟩,
      .op ⟨(some 36), (some (33, true)), (.r (.iasl 1 (.t 34) (.t 35)))⟩,
      .op ⟨(some 37), (some (33, true)), (.r (.load false 1 (.t 36)))⟩,
      .op ⟨(some 38), (some (33, true)), (.r (.mv (.t 0)))⟩,
      .op ⟨(some 39), (some (33, true)), (.r (.mv (.t 1)))⟩,
      .op ⟨(some 40), (some (33, true)), (.r (.iasl 1 (.t 38) (.t 39)))⟩,
      .op ⟨(some 41), (some (33, true)), (.r (.load false 1 (.t 40)))⟩,
      .op ⟨(some 42), (some (33, true)), (.e (.call 89 [(.t 37), (.t 41)]))⟩,
      .op ⟨(some 43), none, (.r (.pick (.t 33) (.t 42) (.c (.bool false))))⟩])
    (.cond (.t 43)
     .skip
     (.exit 0)))
    (.block 1 (.region [.op ⟨(some 44), none, (.r (.mv (.t 10)))⟩,
       .op ⟨(some 45), none, (.r (.bin .add (.t 44) (.c (.int .i64 (.ofNat 1)))))⟩,
       .op ⟨(some 10), none, (.r (.mv (.t 45)))⟩])))))
  (.seq (.block 2 (.loop (.seq (.seq (.region [.op ⟨(some 46), none, (.r (.mv (.t 10)))⟩,
      .op ⟨(some 47), none, (.r (.mv (.t 11)))⟩,
      .op ⟨(some 48), none, (.r (.bin .leq (.t 46) (.t 47)))⟩,
      .op ⟨(some 49), none, (.r (.mv (.t 48)))⟩,
      .op ⟨(some 50), (some (49, true)), (.r (.mv (.t 0)))⟩,
      .op ⟨(some 51), (some (49, true)), (.r (.mv (.t 11)))⟩,
      .op ⟨(some 52), (some (49, true)), (.r (.iasl 1 (.t 50) (.t 51)))⟩,
      .op ⟨(some 53), (some (49, true)), (.r (.load false 1 (.t 52)))⟩,
      .op ⟨(some 54), (some (49, true)), (.r (.mv (.t 0)))⟩,
      .op ⟨(some 55), (some (49, true)), (.r (.mv (.t 1)))⟩,
      .op ⟨(some 56), (some (49, true)), (.r (.iasl 1 (.t 54) (.t 55)))⟩,
      .op ⟨(some 57), (some (49, true)), (.r (.load false 1 (.t 56)))⟩,
      .op ⟨(some 58), (some (49, true)), (.e (.call 89 [(.t 53), (.t 57)]))⟩,
      .op ⟨(some 59), (some (49, true)), (.r (.un .not (.t 58)))⟩,
      .op ⟨(some 60), none, (.r (.pick (.t 49) (.t 59) (.c (.bool false))))⟩])
    (.cond (.t 60)
     .skip
     (.exit 2)))
    (.block 3 (.region [.op ⟨(some 61), none, (.r (.mv (.t 11)))⟩,
       .op ⟨(some 62), none, (.r (.bin .sub (.t 61) (.c (.int .i64 (.ofNat 1)))))⟩,
       .op ⟨(some 11), none, (.r (.mv (.t 62)))⟩])))))
  (.seq (.seq (.region [.op ⟨(some 63), none, (.r (.mv (.t 10)))⟩,
    .op ⟨(some 64), none, (.r (.mv (.t 11)))⟩,
    .op ⟨(some 65), none, (.r (.bin .gtr (.t 63) (.t 64)))⟩])
  (.cond (.t 65)
   (.seq (.region [.op ⟨(some 66), none, (.r (.mv (.t 0)))⟩,
     .op ⟨(some 67), none, (.r (.mv (.t 11)))⟩,
     .op ⟨(some 68), none, (.r (.mv (.t 0)))⟩,
     .op ⟨(some 69), none, (.r (.mv (.t 1)))⟩,
     .op ⟨(some 70), none, (.r (.mv (.t 0)))⟩,
     .op ⟨(some 71), none, (.r (.mv (.t 1)))⟩,
     .op ⟨(some 72), none, (.r (.iasl 1 (.t 70) (.t 71)))⟩,
     .op ⟨(some 73), none, (.r (.load false 1 (.t 72)))⟩,
     .op ⟨(some 74), none, (.r (.mv (.t 0)))⟩,
     .op ⟨(some 75), none, (.r (.mv (.t 11)))⟩,
     .op ⟨(some 76), none, (.r (.iasl 1 (.t 74) (.t 75)))⟩,
     .op ⟨(some 77), none, (.r (.load false 1 (.t 76)))⟩,
     .op ⟨(some 78), none, (.r (.iasl 1 (.t 66) (.t 67)))⟩,
     .op ⟨none, none, (.e (.store 1 (.t 78) (.t 73)))⟩,
     .op ⟨(some 79), none, (.r (.iasl 1 (.t 68) (.t 69)))⟩,
     .op ⟨none, none, (.e (.store 1 (.t 79) (.t 77)))⟩])
   (.seq (.region [.op ⟨(some 80), none, (.r (.mv (.t 11)))⟩,
     .op ⟨(some 8), none, (.r (.mv (.t 80)))⟩,
     .op ⟨(some 9), none, (.r (.mv (.c (.bool true))))⟩])
   .ret))
   .skip))
  (.seq (.region [.op ⟨(some 81), none, (.r (.mv (.t 0)))⟩,
    .op ⟨(some 82), none, (.r (.mv (.t 10)))⟩,
    .op ⟨(some 83), none, (.r (.mv (.t 0)))⟩,
    .op ⟨(some 84), none, (.r (.mv (.t 11)))⟩,
    .op ⟨(some 85), none, (.r (.mv (.t 0)))⟩,
    .op ⟨(some 86), none, (.r (.mv (.t 11)))⟩,
    .op ⟨(some 87), none, (.r (.iasl 1 (.t 85) (.t 86)))⟩,
    .op ⟨(some 88), none, (.r (.load false 1 (.t 87)))⟩,
    .op ⟨(some 89), none, (.r (.mv (.t 0)))⟩,
    .op ⟨(some 90), none, (.r (.mv (.t 10)))⟩,
    .op ⟨(some 91), none, (.r (.iasl 1 (.t 89) (.t 90)))⟩,
    .op ⟨(some 92), none, (.r (.load false 1 (.t 91)))⟩,
    .op ⟨(some 93), none, (.r (.iasl 1 (.t 81) (.t 82)))⟩,
    .op ⟨none, none, (.e (.store 1 (.t 93) (.t 88)))⟩,
    .op ⟨(some 94), none, (.r (.iasl 1 (.t 83) (.t 84)))⟩,
    .op ⟨none, none, (.e (.store 1 (.t 94) (.t 92)))⟩])
  (.seq (.region [.op ⟨(some 95), none, (.r (.mv (.t 10)))⟩,
    .op ⟨(some 96), none, (.r (.bin .add (.t 95) (.c (.int .i64 (.ofNat 1)))))⟩,
    .op ⟨(some 10), none, (.r (.mv (.t 96)))⟩])
  (.seq (.region [.op ⟨(some 97), none, (.r (.mv (.t 11)))⟩,
    .op ⟨(some 98), none, (.r (.bin .sub (.t 97) (.c (.int .i64 (.ofNat 1)))))⟩,
    .op ⟨(some 11), none, (.r (.mv (.t 98)))⟩])
  (.seq (.block 4 (.loop (.block 5 (.seq (.block 6 (.loop (.seq (.seq (.region [.op ⟨(some 99), none, (.r (.mv (.t 10)))⟩,
         .op ⟨(some 100), none, (.r (.mv (.t 11)))⟩,
         .op ⟨(some 101), none, (.r (.bin .leq (.t 99) (.t 100)))⟩,
         .op ⟨(some 102), none, (.r (.mv (.t 101)))⟩,
         .op ⟨(some 103), (some (102, true)), (.r (.mv (.t 0)))⟩,
         .op ⟨(some 104), (some (102, true)), (.r (.mv (.t 10)))⟩,
         .op ⟨(some 105), (some (102, true)), (.r (.iasl 1 (.t 103) (.t 104)))⟩,
         .op ⟨(some 106), (some (102, true)), (.r (.load false 1 (.t 105)))⟩,
         .op ⟨(some 107), (some (102, true)), (.r (.mv (.t 0)))⟩,
         .op ⟨(some 108), (some (102, true)), (.r (.mv (.t 1)))⟩,
         .op ⟨(some 109), (some (102, true)), (.r (.iasl 1 (.t 107) (.t 108)))⟩,
         .op ⟨(some 110), (some (102, true)), (.r (.load false 1 (.t 109)))⟩,
         .op ⟨(some 111), (some (102, true)), (.e (.call 89 [(.t 106), (.t 110)]))⟩,
         .op ⟨(some 112), none, (.r (.pick (.t 102) (.t 111) (.c (.bool false))))⟩])
       (.cond (.t 112)
        .skip
        (.exit 6)))
       (.block 7 (.region [.op ⟨(some 113), none, (.r (.mv (.t 10)))⟩,
          .op ⟨(some 114), none, (.r (.bin .add (.t 113) (.c (.int .i64 (.ofNat 1)))))⟩,
          .op ⟨(some 10), none, (.r (.mv (.t 114)))⟩])))))
     (.seq (.block 8 (.loop (.seq (.seq (.region [.op ⟨(some 115), none, (.r (.mv (.t 10)))⟩,
         .op ⟨(some 116), none, (.r (.mv (.t 11)))⟩,
         .op ⟨(some 117), none, (.r (.bin .leq (.t 115) (.t 116)))⟩,
         .op ⟨(some 118), none, (.r (.mv (.t 117)))⟩,
         .op ⟨(some 119), (some (118, true)), (.r (.mv (.t 0)))⟩,
         .op ⟨(some 120), (some (118, true)), (.r (.mv (.t 11)))⟩,
         .op ⟨(some 121), (some (118, true)), (.r (.iasl 1 (.t 119) (.t 120)))⟩,
         .op ⟨(some 122), (some (118, true)), (.r (.load false 1 (.t 121)))⟩,
         .op ⟨(some 123), (some (118, true)), (.r (.mv (.t 0)))⟩,
         .op ⟨(some 124), (some (118, true)), (.r (.mv (.t 1)))⟩,
         .op ⟨(some 125), (some (118, true)), (.r (.iasl 1 (.t 123) (.t 124)))⟩,
         .op ⟨(some 126), (some (118, true)), (.r (.load false 1 (.t 125)))⟩,
         .op ⟨(some 127), (some (118, true)), (.e (.call 89 [(.t 122), (.t 126)]))⟩,
         .op ⟨(some 128), (some (118, true)), (.r (.un .not (.t 127)))⟩,
         .op ⟨(some 129), none, (.r (.pick (.t 118) (.t 128) (.c (.bool false))))⟩])
       (.cond (.t 129)
        .skip
        (.exit 8)))
       (.block 9 (.region [.op ⟨(some 130), none, (.r (.mv (.t 11)))⟩,
          .op ⟨(some 131), none, (.r (.bin .sub (.t 130) (.c (.int .i64 (.ofNat 1)))))⟩,
          .op ⟨(some 11), none, (.r (.mv (.t 131)))⟩])))))
     (.seq (.seq (.region [.op ⟨(some 132), none, (.r (.mv (.t 10)))⟩,
       .op ⟨(some 133), none, (.r (.mv (.t 11)))⟩,
       .op ⟨(some 134), none, (.r (.bin .gtr (.t 132) (.t 133)))⟩])
     (.cond (.t 134)
      (.exit 4)
      .skip))
     (.seq (.region [.op ⟨(some 135), none, (.r (.mv (.t 0)))⟩,
       .op ⟨(some 136), none, (.r (.mv (.t 10)))⟩,
       .op ⟨(some 137), none, (.r (.mv (.t 0)))⟩,
       .op ⟨(some 138), none, (.r (.mv (.t 11)))⟩,
       .op ⟨(some 139), none, (.r (.mv (.t 0)))⟩,
       .op ⟨(some 140), none, (.r (.mv (.t 11)))⟩,
       .op ⟨(some 141), none, (.r (.iasl 1 (.t 139) (.t 140)))⟩,
       .op ⟨(some 142), none, (.r (.load false 1 (.t 141)))⟩,
       .op ⟨(some 143), none, (.r (.mv (.t 0)))⟩,
       .op ⟨(some 144), none, (.r (.mv (.t 10)))⟩,
       .op ⟨(some 145), none, (.r (.iasl 1 (.t 143) (.t 144)))⟩,
       .op ⟨(some 146), none, (.r (.load false 1 (.t 145)))⟩,
       .op ⟨(some 147), none, (.r (.iasl 1 (.t 135) (.t 136)))⟩,
       .op ⟨none, none, (.e (.store 1 (.t 147) (.t 142)))⟩,
       .op ⟨(some 148), none, (.r (.iasl 1 (.t 137) (.t 138)))⟩,
       .op ⟨none, none, (.e (.store 1 (.t 148) (.t 146)))⟩])
     (.seq (.region [.op ⟨(some 149), none, (.r (.mv (.t 10)))⟩,
       .op ⟨(some 150), none, (.r (.bin .add (.t 149) (.c (.int .i64 (.ofNat 1)))))⟩,
       .op ⟨(some 10), none, (.r (.mv (.t 150)))⟩])
     (.region [.op ⟨(some 151), none, (.r (.mv (.t 11)))⟩,
       .op ⟨(some 152), none, (.r (.bin .sub (.t 151) (.c (.int .i64 (.ofNat 1)))))⟩,
       .op ⟨(some 11), none, (.r (.mv (.t 152)))⟩])))))))))
  (.seq (.region [.op ⟨(some 153), none, (.r (.mv (.t 0)))⟩,
    .op ⟨(some 154), none, (.r (.mv (.t 11)))⟩,
    .op ⟨(some 155), none, (.r (.mv (.t 0)))⟩,
    .op ⟨(some 156), none, (.r (.mv (.t 1)))⟩,
    .op ⟨(some 157), none, (.r (.mv (.t 0)))⟩,
    .op ⟨(some 158), none, (.r (.mv (.t 1)))⟩,
    .op ⟨(some 159), none, (.r (.iasl 1 (.t 157) (.t 158)))⟩,
    .op ⟨(some 160), none, (.r (.load false 1 (.t 159)))⟩,
    .op ⟨(some 161), none, (.r (.mv (.t 0)))⟩,
    .op ⟨(some 162), none, (.r (.mv (.t 11)))⟩,
    .op ⟨(some 163), none, (.r (.iasl 1 (.t 161) (.t 162)))⟩,
    .op ⟨(some 164), none, (.r (.load false 1 (.t 163)))⟩,
    .op ⟨(some 165), none, (.r (.iasl 1 (.t 153) (.t 154)))⟩,
    .op ⟨none, none, (.e (.store 1 (.t 165) (.t 160)))⟩,
    .op ⟨(some 166), none, (.r (.iasl 1 (.t 155) (.t 156)))⟩,
    .op ⟨none, none, (.e (.store 1 (.t 166) (.t 164)))⟩])
  (.seq (.region [.op ⟨(some 167), none, (.r (.mv (.t 11)))⟩,
    .op ⟨(some 8), none, (.r (.mv (.t 167)))⟩,
    .op ⟨(some 9), none, (.r (.mv (.c (.bool false))))⟩])
  .ret)))))))))))) }
/-- (*depot/slab.Slab).Read -/
def pf92 : PF := { ntmps := 39, results := [.tmp 4, .tmp 5], body :=
  (.seq (.region [.op ⟨(some 3), none, (.n (.box (.t 1)))⟩,
    .op ⟨(some 4), none, (.r (.mv (.c (.str []))))⟩,
    .op ⟨(some 5), none, (.r (.mv (.c (.bool false))))⟩])
  (.seq (.seq (.region [.op ⟨(some 8), none, (.r (.faddr 0 (.t 3)))⟩,
    .op ⟨(some 9), none, (.r (.load false 1 (.t 8)))⟩,
    .op ⟨(some 10), none, (.r (.bin .lss (.t 9) (.c (.int .i64 (.ofNat 0)))))⟩,
    .op ⟨(some 11), none, (.r (.mv (.t 10)))⟩,
    .op ⟨(some 12), (some (11, false)), (.r (.faddr 0 (.t 3)))⟩,
    .op ⟨(some 13), (some (11, false)), (.r (.load false 1 (.t 12)))⟩,
    .op ⟨(some 14), (some (11, false)), (.r (.mv (.t 0)))⟩,
    .op ⟨(some 15), (some (11, false)), (.r (.nilck (.t 14)))⟩,
    .op ⟨(some 16), (some (11, false)), (.r (.faddr 3 (.t 15)))⟩,
    .op ⟨(some 17), (some (11, false)), (.r (.load false 1 (.t 16)))⟩,
    .op ⟨(some 18), (some (11, false)), (.r (.lensl (.t 17)))⟩,
    .op ⟨(some 19), (some (11, false)), (.r (.bin .geq (.t 13) (.t 18)))⟩,
    .op ⟨(some 20), none, (.r (.pick (.t 11) (.c (.bool true)) (.t 19)))⟩])
  (.cond (.t 20)
   (.seq (.region [.op ⟨(some 4), none, (.r (.mv (.c (.str []))))⟩,
     .op ⟨(some 5), none, (.r (.mv (.c (.bool false))))⟩])
   .ret)
   .skip))
  (.seq (.region [.op ⟨(some 22), none, (.r (.mv (.t 0)))⟩,
    .op ⟨(some 23), none, (.r (.nilck (.t 22)))⟩,
    .op ⟨(some 24), none, (.r (.faddr 3 (.t 23)))⟩,
    .op ⟨(some 25), none, (.r (.load false 1 (.t 24)))⟩,
    .op ⟨(some 26), none, (.r (.faddr 0 (.t 3)))⟩,
    .op ⟨(some 27), none, (.r (.load false 1 (.t 26)))⟩,
    .op ⟨(some 28), none, (.r (.iasl 4 (.t 25) (.t 27)))⟩,
    .op ⟨(some 29), none, (.r (.faddr 2 (.t 28)))⟩,
    .op ⟨(some 30), none, (.r (.load false 1 (.t 29)))⟩,
    .op ⟨(some 31), none, (.r (.faddr 1 (.t 3)))⟩,
    .op ⟨(some 32), none, (.r (.load false 1 (.t 31)))⟩,
    .op ⟨(some 33), none, (.r (.look false (.str []) true (.t 30) (.t 32)))⟩,
    .op ⟨(some 21), none, (.r (.mv (.t 33)))⟩,
    .op ⟨(some 34), none, (.r (.ext 0 (.t 21)))⟩,
    .op ⟨(some 35), none, (.r (.ext 1 (.t 21)))⟩,
    .op ⟨(some 6), none, (.r (.mv (.t 34)))⟩,
    .op ⟨(some 7), none, (.r (.mv (.t 35)))⟩])
  (.seq (.seq (.region [.op ⟨(some 36), none, (.r (.mv (.t 7)))⟩,
    .op ⟨(some 37), none, (.r (.un .not (.t 36)))⟩])
  (.cond (.t 37)
   (.seq (.region [.op ⟨(some 4), none, (.r (.mv (.c (.str []))))⟩,
     .op ⟨(some 5), none, (.r (.mv (.c (.bool false))))⟩])
   .ret)
   .skip))
  (.seq (.region [.op ⟨(some 38), none, (.r (.mv (.t 6)))⟩,
    .op ⟨(some 4), none, (.r (.mv (.t 38)))⟩,
    .op ⟨(some 5), none, (.r (.mv (.c (.bool true))))⟩])
  .ret))))) }
/-- depot/chain.Hash -/
def pf93 : PF := { ntmps := 20, results := [.tmp 2], body :=
  (.seq (.region [.op ⟨(some 2), none, (.r (.mv (.c (.int .u32 (.ofNat 0)))))⟩])
  (.seq (.region [.op ⟨(some 3), none, (.r (.mv (.c (.int .u32 (.ofNat 2166136261)))))⟩])
  (.seq (.seq (.region [.op ⟨(some 5), none, (.r (.mv (.t 0)))⟩,
    .op ⟨(some 6), none, (.r (.lens (.t 5)))⟩,
    .op ⟨(some 7), none, (.r (.mv (.c (.int .i64 (.ofNat 0)))))⟩])
  (.block 0 (.loop (.seq (.region [.op ⟨(some 8), none, (.r (.bin .lss (.t 7) (.t 6)))⟩])
    (.seq (.cond (.t 8)
     .skip
     (.exit 0))
    (.seq (.block 1 (.seq (.region [.op ⟨(some 9), none, (.r (.mv (.t 7)))⟩,
       .op ⟨(some 4), none, (.r (.mv (.t 9)))⟩])
     (.seq (.region [.op ⟨(some 10), none, (.r (.mv (.t 3)))⟩,
       .op ⟨(some 11), none, (.r (.mv (.t 0)))⟩,
       .op ⟨(some 12), none, (.r (.mv (.t 4)))⟩,
       .op ⟨(some 13), none, (.r (.ixstr (.t 11) (.t 12)))⟩,
       .op ⟨(some 14), none, (.r (.cint .u32 (.t 13)))⟩,
       .op ⟨(some 15), none, (.r (.bin .xor (.t 10) (.t 14)))⟩,
       .op ⟨(some 3), none, (.r (.mv (.t 15)))⟩])
     (.region [.op ⟨(some 16), none, (.r (.mv (.t 3)))⟩,
       .op ⟨(some 17), none, (.r (.bin .mul (.t 16) (.c (.int .u32 (.ofNat 16777619)))))⟩,
       .op ⟨(some 3), none, (.r (.mv (.t 17)))⟩]))))
    (.region [.op ⟨(some 18), none, (.r (.bin .add (.t 7) (.c (.int .i64 (.ofNat 1)))))⟩,
      .op ⟨(some 7), none, (.r (.mv (.t 18)))⟩])))))))
  (.seq (.region [.op ⟨(some 19), none, (.r (.mv (.t 3)))⟩,
    .op ⟨(some 2), none, (.r (.mv (.t 19)))⟩])
  .ret)))) }
/-- slices.siftDownOrdered[string] -/
def pf94 : PF := { ntmps := 76, results := [], body :=
  (.seq (.region [.op ⟨(some 10), none, (.r (.mv (.t 1)))⟩,
    .op ⟨(some 8), none, (.r (.mv (.t 10)))⟩])
  (.block 0 (.loop (.block 1 (.seq (.region [.op ⟨(some 11), none, (.r (.mv (.t 8)))⟩,
       .op ⟨(some 12), none, (.r (.bin .mul (.c (.int .i64 (.ofNat 2))) (.t 11)))⟩,
       .op ⟨(some 13), none, (.r (.bin .add (.t 12) (.c (.int .i64 (.ofNat 1)))))⟩,
       .op ⟨(some 9), none, (.r (.mv (.t 13)))⟩])
     (.seq (.seq (.region [.op ⟨(some 14), none, (.r (.mv (.t 9)))⟩,
       .op ⟨(some 15), none, (.r (.mv (.t 2)))⟩,
       .op ⟨(some 16), none, (.r (.bin .geq (.t 14) (.t 15)))⟩])
     (.cond (.t 16)
      (.exit 0)
      .skip))
     (.seq (.seq (.region [.op ⟨(some 17), none, (.r (.mv (.t 9)))⟩,
       .op ⟨(some 18), none, (.r (.bin .add (.t 17) (.c (.int .i64 (.ofNat 1)))))⟩,
       .op ⟨(some 19), none, (.r (.mv (.t 2)))⟩,
       .op ⟨(some 20), none, (.r (.bin .lss (.t 18) (.t 19)))⟩,
       .op ⟨(some 21), none, (.r (.mv (.t 20)))⟩,
       .op ⟨(some 22), (some (21, true)), (.r (.mv (.t 0)))⟩,
       .op ⟨(some 23), (some (21, true)), (.r (.mv (.t 3)))⟩,
       .op ⟨(some 24), (some (21, true)), (.r (.mv (.t 9)))⟩,
       .op ⟨(some 25), (some (21, true)), (.r (.bin .add (.t 23) (.t 24)))⟩,
       .op ⟨(some 26), (some (21, true)), (.r (.iasl 1 (.t 22) (.t 25)))⟩,
       .op ⟨(some 27), (some (21, true)), (.r (.load false 1 (.t 26)))⟩,
       .op ⟨(some 28), (some (21, true)), (.r (.mv (.t 0)))⟩,
       .op ⟨(some 29), (some (21, true)), (.r (.mv (.t 3)))⟩,
       .op ⟨(some 30), (some (21, true)), (.r (.mv (.t 9)))⟩,
       .op ⟨(some 31), (some (21, true)), (.r (.bin .add (.t 29) (.t 30)))⟩,
       .op ⟨(some 32), (some (21, true)), (.r (.bin .add (.t 31) (.c (.int .i64 (.ofNat 1)))))⟩,
       .op ⟨(some 33), (some (21, true)), (.r (.iasl 1 (.t 28) (.t 32)))⟩,
       .op ⟨(some 34), (some (21, true)), (.r (.load false 1 (.t 33)))⟩,
       .op ⟨(some 35), (some (21, true)), (.e (.call 89 [(.t 27), (.t 34)]))⟩,
       .op ⟨(some 36), none, (.r (.pick (.t 21) (.t 35) (.c (.bool false))))⟩])
     (.cond (.t 36)
      (.region [.op ⟨(some 37), none, (.r (.mv (.t 9)))⟩,
        .op ⟨(some 38), none, (.r (.bin .add (.t 37) (.c (.int .i64 (.ofNat 1)))))⟩,
        .op ⟨(some 9), none, (.r (.mv (.t 38)))⟩])
      .skip))
     (.seq (.seq (.region [.op ⟨(some 39), none, (.r (.mv (.t 0)))⟩,
       .op ⟨(some 40), none, (.r (.mv (.t 3)))⟩,
       .op ⟨(some 41), none, (.r (.mv (.t 8)))⟩,
       .op ⟨(some 42), none, (.r (.bin .add (.t 40) (.t 41)))⟩,
       .op ⟨(some 43), none, (.r (.iasl 1 (.t 39) (.t 42)))⟩,
       .op ⟨(some 44), none, (.r (.load false 1 (.t 43)))⟩,
       .op ⟨(some 45), none, (.r (.mv (.t 0)))⟩,
       .op ⟨(some 46), none, (.r (.mv (.t 3)))⟩,
       .op ⟨(some 47), none, (.r (.mv (.t 9)))⟩,
       .op ⟨(some 48), none, (.r (.bin .add (.t 46) (.t 47)))⟩,
       .op ⟨(some 49), none, (.r (.iasl 1 (.t 45) (.t 48)))⟩,
       .op ⟨(some 50), none, (.r (.load false 1 (.t 49)))⟩,
       .op ⟨(some 51), none, (.e (.call 89 [(.t 44), (.t 50)]))⟩,
       .op ⟨(some 52), none, (.r (.un .not (.t 51)))⟩])
     (.cond (.t 52)
      .ret
      .skip))
     (.seq (.region [.op ⟨(some 53), none, (.r (.mv (.t 0)))⟩,
       .op ⟨(some 54), none, (.r (.mv (.t 3)))⟩,
       .op ⟨(some 55), none, (.r (.mv (.t 8)))⟩,
       .op ⟨(some 56), none, (.r (.bin .add (.t 54) (.t 55)))⟩,
       .op ⟨(some 57), none, (.r (.mv (.t 0)))⟩,
       .op ⟨(some 58), none, (.r (.mv (.t 3)))⟩,
       .op ⟨(some 59), none, (.r (.mv (.t 9)))⟩,
       .op ⟨(some 60), none, (.r (.bin .add (.t 58) (.t 59)))⟩,
       .op ⟨(some 61), none, (.r (.mv (.t 0)))⟩,
       .op ⟨(some 62), none, (.r (.mv (.t 3)))⟩,
       .op ⟨(some 63), none, (.r (.mv (.t 9)))⟩,
       .op ⟨(some 64), none, (.r (.bin .add (.t 62) (.t 63)))⟩,
       .op ⟨(some 65), none, (.r (.iasl 1 (.t 61) (.t 64)))⟩,
       .op ⟨(some 66), none, (.r (.load false 1 (.t 65)))⟩,
       .op ⟨(some 67), none, (.r (.mv (.t 0)))⟩,
       .op ⟨(some 68), none, (.r (.mv (.t 3)))⟩,
       .op ⟨(some 69), none, (.r (.mv (.t 8)))⟩,
       .op ⟨(some 70), none, (.r (.bin .add (.t 68) (.t 69)))⟩,
       .op ⟨(some 71), none, (.r (.iasl 1 (.t 67) (.t 70)))⟩,
       .op ⟨(some 72), none, (.r (.load false 1 (.t 71)))⟩,
       .op ⟨(some 73), none, (.r (.iasl 1 (.t 53) (.t 56)))⟩,
       .op ⟨none, none, (.e (.store 1 (.t 73) (.t 66)))⟩,
       .op ⟨(some 74), none, (.r (.iasl 1 (.t 57) (.t 60)))⟩,
       .op ⟨none, none, (.e (.store 1 (.t 74) (.t 72)))⟩])
     (.region [.op ⟨(some 75), none, (.r (.mv (.t 9)))⟩,
       .op ⟨(some 8), none, (.r (.mv (.t 75)))⟩])))))))))) }
/-- slices.medianAdjacentOrdered[string] -/
def pf95 : PF := { ntmps := 15, results := [.tmp 6], body :=
  (.seq (.region [.op ⟨(some 6), none, (.r (.mv (.c (.int .i64 (.ofNat 0)))))⟩])
  (.seq (.region [.op ⟨(some 7), none, (.r (.mv (.t 0)))⟩,
    .op ⟨(some 8), none, (.r (.mv (.t 1)))⟩,
    .op ⟨(some 9), none, (.r (.bin .sub (.t 8) (.c (.int .i64 (.ofNat 1)))))⟩,
    .op ⟨(some 10), none, (.r (.mv (.t 1)))⟩,
    .op ⟨(some 11), none, (.r (.mv (.t 1)))⟩,
    .op ⟨(some 12), none, (.r (.bin .add (.t 11) (.c (.int .i64 (.ofNat 1)))))⟩,
    .op ⟨(some 13), none, (.r (.mv (.t 2)))⟩,
    .op ⟨(some 14), none, (.e (.call 96 [(.t 7), (.t 9), (.t 10), (.t 12), (.t 13)]))⟩,
    .op ⟨(some 6), none, (.r (.mv (.t 14)))⟩])
  .ret)) }
/-- slices.medianOrdered[string] -/
def pf96 : PF := { ntmps := 36, results := [.tmp 10], body :=
  (.seq (.region [.op ⟨(some 10), none, (.r (.mv (.c (.int .i64 (.ofNat 0)))))⟩])
  (.seq (.region [.op ⟨(some 12), none, (.r (.mv (.t 0)))⟩,
    .op ⟨(some 13), none, (.r (.mv (.t 1)))⟩,
    .op ⟨(some 14), none, (.r (.mv (.t 2)))⟩,
    .op ⟨(some 15), none, (.r (.mv (.t 4)))⟩,
    .op ⟨(some 16), none, (.e (.call 98 [(.t 12), (.t 13), (.t 14), (.t 15)]))⟩,
    .op ⟨(some 11), none, (.r (.mv (.t 16)))⟩,
    .op ⟨(some 17), none, (.r (.ext 0 (.t 11)))⟩,
    .op ⟨(some 18), none, (.r (.ext 1 (.t 11)))⟩,
    .op ⟨(some 1), none, (.r (.mv (.t 17)))⟩,
    .op ⟨(some 2), none, (.r (.mv (.t 18)))⟩])
  (.seq (.region [.op ⟨(some 20), none, (.r (.mv (.t 0)))⟩,
    .op ⟨(some 21), none, (.r (.mv (.t 2)))⟩,
    .op ⟨(some 22), none, (.r (.mv (.t 3)))⟩,
    .op ⟨(some 23), none, (.r (.mv (.t 4)))⟩,
    .op ⟨(some 24), none, (.e (.call 98 [(.t 20), (.t 21), (.t 22), (.t 23)]))⟩,
    .op ⟨(some 19), none, (.r (.mv (.t 24)))⟩,
    .op ⟨(some 25), none, (.r (.ext 0 (.t 19)))⟩,
    .op ⟨(some 26), none, (.r (.ext 1 (.t 19)))⟩,
    .op ⟨(some 2), none, (.r (.mv (.t 25)))⟩,
    .op ⟨(some 3), none, (.r (.mv (.t 26)))⟩])
  (.seq (.region [.op ⟨(some 28), none, (.r (.mv (.t 0)))⟩,
    .op ⟨(some 29), none, (.r (.mv (.t 1)))⟩,
    .op ⟨(some 30), none, (.r (.mv (.t 2)))⟩,
    .op ⟨(some 31), none, (.r (.mv (.t 4)))⟩,
    .op ⟨(some 32), none, (.e (.call 98 [(.t 28), (.t 29), (.t 30), (.t 31)]))⟩,
    .op ⟨(some 27), none, (.r (.mv (.t 32)))⟩,
    .op ⟨(some 33), none, (.r (.ext 0 (.t 27)))⟩,
    .op ⟨(some 34), none, (.r (.ext 1 (.t 27)))⟩,
    .op ⟨(some 1), none, (.r (.mv (.t 33)))⟩,
    .op ⟨(some 2), none, (.r (.mv (.t 34)))⟩])
  (.seq (.region [.op ⟨(some 35), none, (.r (.mv (.t 2)))⟩,
    .op ⟨(some 10), none, (.r (.mv (.t 35)))⟩])
  .ret))))) }
/-- cmp.isNaN[string] -/
def pf97 : PF := { ntmps := 6, results := [.tmp 2], body :=
  (.seq (.region [.op ⟨(some 2), none, (.r (.mv (.c (.bool false))))⟩])
  (.seq (.region [.op ⟨(some 3), none, (.r (.mv (.t 0)))⟩,
    .op ⟨(some 4), none, (.r (.mv (.t 0)))⟩,
    .op ⟨(some 5), none, (.r (.bin .neq (.t 3) (.t 4)))⟩,
    .op ⟨(some 2), none, (.r (.mv (.t 5)))⟩])
  .ret)) }
/-- slices.order2Ordered[string] -/
def pf98 : PF := { ntmps := 28, results := [.tmp 8, .tmp 9], body :=
  (.seq (.region [.op ⟨(some 8), none, (.r (.mv (.c (.int .i64 (.ofNat 0)))))⟩,
    .op ⟨(some 9), none, (.r (.mv (.c (.int .i64 (.ofNat 0)))))⟩])
  (.seq (.seq (.region [.op ⟨(some 10), none, (.r (.mv (.t 0)))⟩,
    .op ⟨(some 11), none, (.r (.mv (.t 2)))⟩,
    .op ⟨(some 12), none, (.r (.iasl 1 (.t 10) (.t 11)))⟩,
    .op ⟨(some 13), none, (.r (.load false 1 (.t 12)))⟩,
    .op ⟨(some 14), none, (.r (.mv (.t 0)))⟩,
    .op ⟨(some 15), none, (.r (.mv (.t 1)))⟩,
    .op ⟨(some 16), none, (.r (.iasl 1 (.t 14) (.t 15)))⟩,
    .op ⟨(some 17), none, (.r (.load false 1 (.t 16)))⟩,
    .op ⟨(some 18), none, (.e (.call 89 [(.t 13), (.t 17)]))⟩])
  (.cond (.t 18)
   (.seq (.region [.op ⟨(some 19), none, (.r (.mv (.t 3)))⟩,
     .op ⟨(some 20), none, (.r (.nilck (.t 19)))⟩,
     .op ⟨(some 21), none, (.r (.load false 1 (.t 20)))⟩,
     .op ⟨(some 22), none, (.r (.bin .add (.t 21) (.c (.int .i64 (.ofNat 1)))))⟩,
     .op ⟨(some 23), none, (.r (.nilck (.t 19)))⟩,
     .op ⟨none, none, (.e (.store 1 (.t 23) (.t 22)))⟩])
   (.seq (.region [.op ⟨(some 24), none, (.r (.mv (.t 2)))⟩,
     .op ⟨(some 25), none, (.r (.mv (.t 1)))⟩,
     .op ⟨(some 8), none, (.r (.mv (.t 24)))⟩,
     .op ⟨(some 9), none, (.r (.mv (.t 25)))⟩])
   .ret))
   .skip))
  (.seq (.region [.op ⟨(some 26), none, (.r (.mv (.t 1)))⟩,
    .op ⟨(some 27), none, (.r (.mv (.t 2)))⟩,
    .op ⟨(some 8), none, (.r (.mv (.t 26)))⟩,
    .op ⟨(some 9), none, (.r (.mv (.t 27)))⟩])
  .ret))) }
def nums : List Nat := [4, 9, 10, 11, 12, 13, 14, 15, 20, 21, 22, 23, 24, 25, 26, 27, 30, 31, 32, 33, 34, 35, 36, 37, 38, 39, 49, 50, 51, 52, 53, 54, 55, 56, 57, 58, 59, 60, 61, 62, 63, 64, 65, 66, 68, 69, 73, 74, 75, 76, 77, 78, 79, 80, 81, 83, 84, 85, 86, 87, 88, 89, 90, 91, 92, 93, 94, 95, 96, 97, 98]
def tree : Tr LF := (.node (.node (.node (.node (.node (.node (.node .leaf (some (.code pf63)) .leaf) (some (.code pf31)) (.node .leaf (some (.code pf95)) .leaf)) (some (.code pf15)) (.node (.node .leaf (some (.code pf79)) .leaf) none .leaf)) none (.node (.node .leaf (some (.code pf39)) .leaf) (some (.code pf23)) (.node (.node .leaf (some (.code pf87)) .leaf) (some (.code pf55)) .leaf))) none (.node (.node (.node .leaf (some (.code pf35)) .leaf) none (.node (.node .leaf (some (.code pf83)) .leaf) (some (.code pf51)) .leaf)) (some (.code pf11)) (.node (.node (.node .leaf (some (.code pf75)) .leaf) none .leaf) (some (.code pf27)) (.node (.node .leaf (some (.code pf91)) .leaf) (some (.code pf59)) .leaf)))) none (.node (.node (.node (.node (.node .leaf (some (.code pf65)) .leaf) (some (.code pf33)) (.node .leaf (some (.code pf97)) .leaf)) none (.node (.node .leaf (some (.code pf81)) .leaf) (some (.code pf49)) .leaf)) (some (.code pf9)) (.node (.node (.node .leaf (some (.code pf73)) .leaf) none .leaf) (some (.code pf25)) (.node (.node .leaf (some (.code pf89)) .leaf) (some (.code pf57)) .leaf))) none (.node (.node (.node (.node .leaf (some (.code pf69)) .leaf) (some (.code pf37)) .leaf) (some (.code pf21)) (.node (.node .leaf (some (.code pf85)) .leaf) (some (.code pf53)) .leaf)) (some (.code pf13)) (.node (.node (.node .leaf (some (.code pf77)) .leaf) none .leaf) none (.node (.node .leaf (some (.code pf93)) .leaf) (some (.code pf61)) .leaf))))) none (.node (.node (.node (.node (.node (.node .leaf (some (.code pf64)) .leaf) (some (.code pf32)) (.node .leaf (some (.code pf96)) .leaf)) none (.node (.node .leaf (some (.code pf80)) .leaf) none .leaf)) none (.node .leaf (some (.code pf24)) (.node (.node .leaf (some (.code pf88)) .leaf) (some (.code pf56)) .leaf))) (some (.code pf4)) (.node (.node (.node (.node .leaf (some (.code pf68)) .leaf) (some (.code pf36)) .leaf) (some (.code pf20)) (.node (.node .leaf (some (.code pf84)) .leaf) (some (.code pf52)) .leaf)) (some (.code pf12)) (.node (.node (.node .leaf (some (.code pf76)) .leaf) none .leaf) none (.node (.node .leaf (some (.code pf92)) .leaf) (some (.code pf60)) .leaf)))) none (.node (.node (.node (.node (.node .leaf (some (.code pf66)) .leaf) (some (.code pf34)) (.node .leaf (some (.code pf98)) .leaf)) none (.node .leaf (some (.code pf50)) .leaf)) (some (.code pf10)) (.node (.node (.node .leaf (some (.code pf74)) .leaf) none .leaf) (some (.code pf26)) (.node (.node .leaf (some (.code pf90)) .leaf) (some (.code pf58)) .leaf))) none (.node (.node (.node .leaf (some (.code pf38)) .leaf) (some (.code pf22)) (.node (.node .leaf (some (.code pf86)) .leaf) (some (.code pf54)) .leaf)) (some (.code pf14)) (.node (.node (.node .leaf (some (.code pf78)) .leaf) none .leaf) (some (.code pf30)) (.node (.node .leaf (some (.code pf94)) .leaf) (some (.code pf62)) .leaf))))))
noncomputable def cx : Cx := { P := Try.prog, fm := fmOf nums, gm := fun _ => none, ext := extOf [], bt := none }
theorem tr4 : trF cx Try.f4 = pf4 := by kernel_rfl
theorem tr9 : trF cx Try.f9 = pf9 := by kernel_rfl
theorem tr10 : trF cx Try.f10 = pf10 := by kernel_rfl
theorem tr11 : trF cx Try.f11 = pf11 := by kernel_rfl
theorem tr12 : trF cx Try.f12 = pf12 := by kernel_rfl
theorem tr13 : trF cx Try.f13 = pf13 := by kernel_rfl
theorem tr14 : trF cx Try.f14 = pf14 := by kernel_rfl
theorem tr15 : trF cx Try.f15 = pf15 := by kernel_rfl
theorem tr20 : trF cx Try.f20 = pf20 := by kernel_rfl
theorem tr21 : trF cx Try.f21 = pf21 := by kernel_rfl
theorem tr22 : trF cx Try.f22 = pf22 := by kernel_rfl
theorem tr23 : trF cx Try.f23 = pf23 := by kernel_rfl
theorem tr24 : trF cx Try.f24 = pf24 := by kernel_rfl
theorem tr25 : trF cx Try.f25 = pf25 := by kernel_rfl
theorem tr26 : trF cx Try.f26 = pf26 := by kernel_rfl
theorem tr27 : trF cx Try.f27 = pf27 := by kernel_rfl
theorem tr30 : trF cx Try.f30 = pf30 := by kernel_rfl
theorem tr31 : trF cx Try.f31 = pf31 := by kernel_rfl
theorem tr32 : trF cx Try.f32 = pf32 := by kernel_rfl
theorem tr33 : trF cx Try.f33 = pf33 := by kernel_rfl
theorem tr34 : trF cx Try.f34 = pf34 := by kernel_rfl
theorem tr35 : trF cx Try.f35 = pf35 := by kernel_rfl
theorem tr36 : trF cx Try.f36 = pf36 := by kernel_rfl
theorem tr37 : trF cx Try.f37 = pf37 := by kernel_rfl
theorem tr38 : trF cx Try.f38 = pf38 := by kernel_rfl
theorem tr39 : trF cx Try.f39 = pf39 := by kernel_rfl
theorem tr49 : trF cx Try.f49 = pf49 := by kernel_rfl
theorem tr50 : trF cx Try.f50 = pf50 := by kernel_rfl
theorem tr51 : trF cx Try.f51 = pf51 := by kernel_rfl
theorem tr52 : trF cx Try.f52 = pf52 := by kernel_rfl
theorem tr53 : trF cx Try.f53 = pf53 := by kernel_rfl
theorem tr54 : trF cx Try.f54 = pf54 := by kernel_rfl
theorem tr55 : trF cx Try.f55 = pf55 := by kernel_rfl
theorem tr56 : trF cx Try.f56 = pf56 := by kernel_rfl
theorem tr57 : trF cx Try.f57 = pf57 := by kernel_rfl
theorem tr58 : trF cx Try.f58 = pf58 := by kernel_rfl
theorem tr59 : trF cx Try.f59 = pf59 := by kernel_rfl
theorem tr60 : trF cx Try.f60 = pf60 := by kernel_rfl
theorem tr61 : trF cx Try.f61 = pf61 := by kernel_rfl
theorem tr62 : trF cx Try.f62 = pf62 := by kernel_rfl
theorem tr63 : trF cx Try.f63 = pf63 := by kernel_rfl
theorem tr64 : trF cx Try.f64 = pf64 := by kernel_rfl
theorem tr65 : trF cx Try.f65 = pf65 := by kernel_rfl
theorem tr66 : trF cx Try.f66 = pf66 := by kernel_rfl
theorem tr68 : trF cx Try.f68 = pf68 := by kernel_rfl
theorem tr69 : trF cx Try.f69 = pf69 := by kernel_rfl
theorem tr73 : trF cx Try.f73 = pf73 := by kernel_rfl
theorem tr74 : trF cx Try.f74 = pf74 := by kernel_rfl
theorem tr75 : trF cx Try.f75 = pf75 := by kernel_rfl
theorem tr76 : trF cx Try.f76 = pf76 := by kernel_rfl
theorem tr77 : trF cx Try.f77 = pf77 := by kernel_rfl
theorem tr78 : trF cx Try.f78 = pf78 := by kernel_rfl
theorem tr79 : trF cx Try.f79 = pf79 := by kernel_rfl
theorem tr80 : trF cx Try.f80 = pf80 := by kernel_rfl
theorem tr81 : trF cx Try.f81 = pf81 := by kernel_rfl
theorem tr83 : trF cx Try.f83 = pf83 := by kernel_rfl
theorem tr84 : trF cx Try.f84 = pf84 := by kernel_rfl
theorem tr85 : trF cx Try.f85 = pf85 := by kernel_rfl
theorem tr86 : trF cx Try.f86 = pf86 := by kernel_rfl
theorem tr87 : trF cx Try.f87 = pf87 := by kernel_rfl
theorem tr88 : trF cx Try.f88 = pf88 := by kernel_rfl
theorem tr89 : trF cx Try.f89 = pf89 := by kernel_rfl
theorem tr90 : trF cx Try.f90 = pf90 := by kernel_rfl
theorem tr91 : trF cx Try.f91 = pf91 := by kernel_rfl
theorem tr92 : trF cx Try.f92 = pf92 := by kernel_rfl
theorem tr93 : trF cx Try.f93 = pf93 := by kernel_rfl
theorem tr94 : trF cx Try.f94 = pf94 := by kernel_rfl
theorem tr95 : trF cx Try.f95 = pf95 := by kernel_rfl
theorem tr96 : trF cx Try.f96 = pf96 := by kernel_rfl
theorem tr97 : trF cx Try.f97 = pf97 := by kernel_rfl
theorem tr98 : trF cx Try.f98 = pf98 := by kernel_rfl
theorem ok4 : FnOk cx tree.get 4 := ⟨Try.f4, Try.func4, by kernel_rfl, by kernel_rfl, by rw [tr4]; kernel_rfl⟩
theorem ok9 : FnOk cx tree.get 9 := ⟨Try.f9, Try.func9, by kernel_rfl, by kernel_rfl, by rw [tr9]; kernel_rfl⟩
theorem ok10 : FnOk cx tree.get 10 := ⟨Try.f10, Try.func10, by kernel_rfl, by kernel_rfl, by rw [tr10]; kernel_rfl⟩
theorem ok11 : FnOk cx tree.get 11 := ⟨Try.f11, Try.func11, by kernel_rfl, by kernel_rfl, by rw [tr11]; kernel_rfl⟩
theorem ok12 : FnOk cx tree.get 12 := ⟨Try.f12, Try.func12, by kernel_rfl, by kernel_rfl, by rw [tr12]; kernel_rfl⟩
theorem ok13 : FnOk cx tree.get 13 := ⟨Try.f13, Try.func13, by kernel_rfl, by kernel_rfl, by rw [tr13]; kernel_rfl⟩
theorem ok14 : FnOk cx tree.get 14 := ⟨Try.f14, Try.func14, by kernel_rfl, by kernel_rfl, by rw [tr14]; kernel_rfl⟩
theorem ok15 : FnOk cx tree.get 15 := ⟨Try.f15, Try.func15, by kernel_rfl, by kernel_rfl, by rw [tr15]; kernel_rfl⟩
theorem ok20 : FnOk cx tree.get 20 := ⟨Try.f20, Try.func20, by kernel_rfl, by kernel_rfl, by rw [tr20]; kernel_rfl⟩
theorem ok21 : FnOk cx tree.get 21 := ⟨Try.f21, Try.func21, by kernel_rfl, by kernel_rfl, by rw [tr21]; kernel_rfl⟩
theorem ok22 : FnOk cx tree.get 22 := ⟨Try.f22, Try.func22, by kernel_rfl, by kernel_rfl, by rw [tr22]; kernel_rfl⟩
theorem ok23 : FnOk cx tree.get 23 := ⟨Try.f23, Try.func23, by kernel_rfl, by kernel_rfl, by rw [tr23]; kernel_rfl⟩
theorem ok24 : FnOk cx tree.get 24 := ⟨Try.f24, Try.func24, by kernel_rfl, by kernel_rfl, by rw [tr24]; kernel_rfl⟩
theorem ok25 : FnOk cx tree.get 25 := ⟨Try.f25, Try.func25, by kernel_rfl, by kernel_rfl, by rw [tr25]; kernel_rfl⟩
theorem ok26 : FnOk cx tree.get 26 := ⟨Try.f26, Try.func26, by kernel_rfl, by kernel_rfl, by rw [tr26]; kernel_rfl⟩
theorem ok27 : FnOk cx tree.get 27 := ⟨Try.f27, Try.func27, by kernel_rfl, by kernel_rfl, by rw [tr27]; kernel_rfl⟩
theorem ok30 : FnOk cx tree.get 30 := ⟨Try.f30, Try.func30, by kernel_rfl, by kernel_rfl, by rw [tr30]; kernel_rfl⟩
theorem ok31 : FnOk cx tree.get 31 := ⟨Try.f31, Try.func31, by kernel_rfl, by kernel_rfl, by rw [tr31]; kernel_rfl⟩
theorem ok32 : FnOk cx tree.get 32 := ⟨Try.f32, Try.func32, by kernel_rfl, by kernel_rfl, by rw [tr32]; kernel_rfl⟩
theorem ok33 : FnOk cx tree.get 33 := ⟨Try.f33, Try.func33, by kernel_rfl, by kernel_rfl, by rw [tr33]; kernel_rfl⟩
theorem ok34 : FnOk cx tree.get 34 := ⟨Try.f34, Try.func34, by kernel_rfl, by kernel_rfl, by rw [tr34]; kernel_rfl⟩
theorem ok35 : FnOk cx tree.get 35 := ⟨Try.f35, Try.func35, by kernel_rfl, by kernel_rfl, by rw [tr35]; kernel_rfl⟩
theorem ok36 : FnOk cx tree.get 36 := ⟨Try.f36, Try.func36, by kernel_rfl, by kernel_rfl, by rw [tr36]; kernel_rfl⟩
theorem ok37 : FnOk cx tree.get 37 := ⟨Try.f37, Try.func37, by kernel_rfl, by kernel_rfl, by rw [tr37]; kernel_rfl⟩
theorem ok38 : FnOk cx tree.get 38 := ⟨Try.f38, Try.func38, by kernel_rfl, by kernel_rfl, by rw [tr38]; kernel_rfl⟩
theorem ok39 : FnOk cx tree.get 39 := ⟨Try.f39, Try.func39, by kernel_rfl, by kernel_rfl, by rw [tr39]; kernel_rfl⟩
theorem ok49 : FnOk cx tree.get 49 := ⟨Try.f49, Try.func49, by kernel_rfl, by kernel_rfl, by rw [tr49]; kernel_rfl⟩
theorem ok50 : FnOk cx tree.get 50 := ⟨Try.f50, Try.func50, by kernel_rfl, by kernel_rfl, by rw [tr50]; kernel_rfl⟩
theorem ok51 : FnOk cx tree.get 51 := ⟨Try.f51, Try.func51, by kernel_rfl, by kernel_rfl, by rw [tr51]; kernel_rfl⟩
theorem ok52 : FnOk cx tree.get 52 := ⟨Try.f52, Try.func52, by kernel_rfl, by kernel_rfl, by rw [tr52]; kernel_rfl⟩
theorem ok53 : FnOk cx tree.get 53 := ⟨Try.f53, Try.func53, by kernel_rfl, by kernel_rfl, by rw [tr53]; kernel_rfl⟩
theorem ok54 : FnOk cx tree.get 54 := ⟨Try.f54, Try.func54, by kernel_rfl, by kernel_rfl, by rw [tr54]; kernel_rfl⟩
theorem ok55 : FnOk cx tree.get 55 := ⟨Try.f55, Try.func55, by kernel_rfl, by kernel_rfl, by rw [tr55]; kernel_rfl⟩
theorem ok56 : FnOk cx tree.get 56 := ⟨Try.f56, Try.func56, by kernel_rfl, by kernel_rfl, by rw [tr56]; kernel_rfl⟩
theorem ok57 : FnOk cx tree.get 57 := ⟨Try.f57, Try.func57, by kernel_rfl, by kernel_rfl, by rw [tr57]; kernel_rfl⟩
theorem ok58 : FnOk cx tree.get 58 := ⟨Try.f58, Try.func58, by kernel_rfl, by kernel_rfl, by rw [tr58]; kernel_rfl⟩
theorem ok59 : FnOk cx tree.get 59 := ⟨Try.f59, Try.func59, by kernel_rfl, by kernel_rfl, by rw [tr59]; kernel_rfl⟩
theorem ok60 : FnOk cx tree.get 60 := ⟨Try.f60, Try.func60, by kernel_rfl, by kernel_rfl, by rw [tr60]; kernel_rfl⟩
theorem ok61 : FnOk cx tree.get 61 := ⟨Try.f61, Try.func61, by kernel_rfl, by kernel_rfl, by rw [tr61]; kernel_rfl⟩
theorem ok62 : FnOk cx tree.get 62 := ⟨Try.f62, Try.func62, by kernel_rfl, by kernel_rfl, by rw [tr62]; kernel_rfl⟩
theorem ok63 : FnOk cx tree.get 63 := ⟨Try.f63, Try.func63, by kernel_rfl, by kernel_rfl, by rw [tr63]; kernel_rfl⟩
theorem ok64 : FnOk cx tree.get 64 := ⟨Try.f64, Try.func64, by kernel_rfl, by kernel_rfl, by rw [tr64]; kernel_rfl⟩
theorem ok65 : FnOk cx tree.get 65 := ⟨Try.f65, Try.func65, by kernel_rfl, by kernel_rfl, by rw [tr65]; kernel_rfl⟩
theorem ok66 : FnOk cx tree.get 66 := ⟨Try.f66, Try.func66, by kernel_rfl, by kernel_rfl, by rw [tr66]; kernel_rfl⟩
theorem ok68 : FnOk cx tree.get 68 := ⟨Try.f68, Try.func68, by kernel_rfl, by kernel_rfl, by rw [tr68]; kernel_rfl⟩
theorem ok69 : FnOk cx tree.get 69 := ⟨Try.f69, Try.func69, by kernel_rfl, by kernel_rfl, by rw [tr69]; kernel_rfl⟩
theorem ok73 : FnOk cx tree.get 73 := ⟨Try.f73, Try.func73, by kernel_rfl, by kernel_rfl, by rw [tr73]; kernel_rfl⟩
theorem ok74 : FnOk cx tree.get 74 := ⟨Try.f74, Try.func74, by kernel_rfl, by kernel_rfl, by rw [tr74]; kernel_rfl⟩
theorem ok75 : FnOk cx tree.get 75 := ⟨Try.f75, Try.func75, by kernel_rfl, by kernel_rfl, by rw [tr75]; kernel_rfl⟩
theorem ok76 : FnOk cx tree.get 76 := ⟨Try.f76, Try.func76, by kernel_rfl, by kernel_rfl, by rw [tr76]; kernel_rfl⟩
theorem ok77 : FnOk cx tree.get 77 := ⟨Try.f77, Try.func77, by kernel_rfl, by kernel_rfl, by rw [tr77]; kernel_rfl⟩
theorem ok78 : FnOk cx tree.get 78 := ⟨Try.f78, Try.func78, by kernel_rfl, by kernel_rfl, by rw [tr78]; kernel_rfl⟩
theorem ok79 : FnOk cx tree.get 79 := ⟨Try.f79, Try.func79, by kernel_rfl, by kernel_rfl, by rw [tr79]; kernel_rfl⟩
theorem ok80 : FnOk cx tree.get 80 := ⟨Try.f80, Try.func80, by kernel_rfl, by kernel_rfl, by rw [tr80]; kernel_rfl⟩
theorem ok81 : FnOk cx tree.get 81 := ⟨Try.f81, Try.func81, by kernel_rfl, by kernel_rfl, by rw [tr81]; kernel_rfl⟩
theorem ok83 : FnOk cx tree.get 83 := ⟨Try.f83, Try.func83, by kernel_rfl, by kernel_rfl, by rw [tr83]; kernel_rfl⟩
theorem ok84 : FnOk cx tree.get 84 := ⟨Try.f84, Try.func84, by kernel_rfl, by kernel_rfl, by rw [tr84]; kernel_rfl⟩
theorem ok85 : FnOk cx tree.get 85 := ⟨Try.f85, Try.func85, by kernel_rfl, by kernel_rfl, by rw [tr85]; kernel_rfl⟩
theorem ok86 : FnOk cx tree.get 86 := ⟨Try.f86, Try.func86, by kernel_rfl, by kernel_rfl, by rw [tr86]; kernel_rfl⟩
theorem ok87 : FnOk cx tree.get 87 := ⟨Try.f87, Try.func87, by kernel_rfl, by kernel_rfl, by rw [tr87]; kernel_rfl⟩
theorem ok88 : FnOk cx tree.get 88 := ⟨Try.f88, Try.func88, by kernel_rfl, by kernel_rfl, by rw [tr88]; kernel_rfl⟩
theorem ok89 : FnOk cx tree.get 89 := ⟨Try.f89, Try.func89, by kernel_rfl, by kernel_rfl, by rw [tr89]; kernel_rfl⟩
theorem ok90 : FnOk cx tree.get 90 := ⟨Try.f90, Try.func90, by kernel_rfl, by kernel_rfl, by rw [tr90]; kernel_rfl⟩
theorem ok91 : FnOk cx tree.get 91 := ⟨Try.f91, Try.func91, by kernel_rfl, by kernel_rfl, by rw [tr91]; kernel_rfl⟩
theorem ok92 : FnOk cx tree.get 92 := ⟨Try.f92, Try.func92, by kernel_rfl, by kernel_rfl, by rw [tr92]; kernel_rfl⟩
theorem ok93 : FnOk cx tree.get 93 := ⟨Try.f93, Try.func93, by kernel_rfl, by kernel_rfl, by rw [tr93]; kernel_rfl⟩
theorem ok94 : FnOk cx tree.get 94 := ⟨Try.f94, Try.func94, by kernel_rfl, by kernel_rfl, by rw [tr94]; kernel_rfl⟩
theorem ok95 : FnOk cx tree.get 95 := ⟨Try.f95, Try.func95, by kernel_rfl, by kernel_rfl, by rw [tr95]; kernel_rfl⟩
theorem ok96 : FnOk cx tree.get 96 := ⟨Try.f96, Try.func96, by kernel_rfl, by kernel_rfl, by rw [tr96]; kernel_rfl⟩
theorem ok97 : FnOk cx tree.get 97 := ⟨Try.f97, Try.func97, by kernel_rfl, by kernel_rfl, by rw [tr97]; kernel_rfl⟩
theorem ok98 : FnOk cx tree.get 98 := ⟨Try.f98, Try.func98, by kernel_rfl, by kernel_rfl, by rw [tr98]; kernel_rfl⟩
theorem oks : AllOf (FnOk cx tree.get) nums := ⟨ok4, ok9, ok10, ok11, ok12, ok13, ok14, ok15, ok20, ok21, ok22, ok23, ok24, ok25, ok26, ok27, ok30, ok31, ok32, ok33, ok34, ok35, ok36, ok37, ok38, ok39, ok49, ok50, ok51, ok52, ok53, ok54, ok55, ok56, ok57, ok58, ok59, ok60, ok61, ok62, ok63, ok64, ok65, ok66, ok68, ok69, ok73, ok74, ok75, ok76, ok77, ok78, ok79, ok80, ok81, ok83, ok84, ok85, ok86, ok87, ok88, ok89, ok90, ok91, ok92, ok93, ok94, ok95, ok96, ok97, ok98, trivial⟩
theorem ext_ok : ExtOk cx := by
  refine ext_table (l := []) rfl fun p hp => ?_
  cases hp
theorem prog_ok : ProgOk cx := ⟨by kernel_rfl, ext_ok, fm_ok rfl oks⟩
theorem lib_ok : LibOk cx tree.get := Dp.lib_ok rfl oks
-- roots [4]
end Go.Proofs.Ytjdkgodpkojdoaa
