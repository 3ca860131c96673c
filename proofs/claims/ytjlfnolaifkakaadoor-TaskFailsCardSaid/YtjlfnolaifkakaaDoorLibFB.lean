/- The functions that this seat's laws reach, for the clean machine; each is what the translation makes of the given text. Conditions: none. Printed by program. -/
import Derived.Test.YtjlfnolaifkakaaDoorLibFA
namespace Go.Proofs.YtjlfnolaifkakaaDoor
open Go.Dp
/-- depot/model.Next -/
def pf_model_Next : PF := { ntmps := 120, results := [.cell 10 true 9, .cell 11 true 5, .tmp 12, .tmp 13], body :=
  (.seq (.region [.op ⟨(some 5), none, (.n (.box (.t 0)))⟩,
    .op ⟨(some 6), none, (.n (.box (.t 1)))⟩,
    .op ⟨(some 10), none, (.n (.new 0 [(.int .i64 (.ofNat 0)), .nils, (.bool false), (.int .u64 (.ofNat 0)), (.str []), (.int .i64 (.ofNat 0)), (.int .i64 (.ofNat 0)), (.int .i64 (.ofNat 0)), (.int .i64 (.ofNat 0))]))⟩,
    .op ⟨(some 11), none, (.n (.new 0 [(.str []), (.int .i64 (.ofNat 0)), (.int .i64 (.ofNat 0)), (.str []), (.int .i64 (.ofNat 0))]))⟩,
    .op ⟨(some 12), none, (.r (.mv (.c (.bool false))))⟩,
    .op ⟨(some 13), none, (.r (.mv (.c (.bool false))))⟩])
  (.seq (.region [.op ⟨(some 16), none, (.r (.faddr 0 (.t 6)))⟩,
    .op ⟨(some 17), none, (.r (.load false 1 (.t 16)))⟩,
    .op ⟨(some 18), none, (.r (.faddr 2 (.t 5)))⟩,
    .op ⟨(some 19), none, (.r (.load false 1 (.t 18)))⟩,
    .op ⟨(some 20), none, (.r (.faddr 3 (.t 5)))⟩,
    .op ⟨(some 21), none, (.r (.load false 1 (.t 20)))⟩,
    .op ⟨(some 22), none, (.r (.mv (.t 3)))⟩,
    .op ⟨(some 24), none, (.r (.faddr 8 (.t 5)))⟩,
    .op ⟨(some 25), none, (.r (.load false 1 (.t 24)))⟩,
    .op ⟨(some 26), none, (.r (.mv (.t 4)))⟩,
    .op ⟨(some 14), none, (.n (.new 0 [(.str []), (.int .i64 (.ofNat 0)), (.int .i64 (.ofNat 0)), (.str []), (.int .i64 (.ofNat 0))]))⟩,
    .op ⟨(some 23), none, (.e (.call n_when_Deadline [(.t 21), (.t 22)]))⟩,
    .again ⟨(some 25), none, (.r (.load false 1 (.t 24)))⟩,
    .again ⟨(some 19), none, (.r (.load false 1 (.t 18)))⟩,
    .again ⟨(some 17), none, (.r (.load false 1 (.t 16)))⟩,
    .op ⟨(some 27), none, (.r (.build [(.str []), (.int .i64 (.ofNat 0)), (.int .i64 (.ofNat 0)), (.str []), (.int .i64 (.ofNat 0))] [(0, 1, (.t 17)), (1, 1, (.t 19)), (2, 1, (.t 23)), (3, 1, (.t 25)), (4, 1, (.t 26))]))⟩,
    .op ⟨none, none, (.e (.store 5 (.t 14) (.t 27)))⟩])
  (.seq (.region [.op ⟨(some 15), none, (.r (.mv (.c (.fn 71 []))))⟩])
  (.seq (.seq (.region [.op ⟨(some 28), none, (.r (.faddr 0 (.t 5)))⟩,
    .op ⟨(some 29), none, (.r (.load false 1 (.t 28)))⟩])
  (.block 0 (.seq (.region [.op ⟨(some 33), none, (.r (.bin .eql (.t 29) (.c (.int .i64 (.ofNat 3)))))⟩,
     .op ⟨(some 32), none, (.r (.mv (.t 33)))⟩])
   (.cond (.t 32)
    (.seq (.region [.op ⟨(some 34), none, (.r (.mv (.t 15)))⟩,
      .op ⟨(some 36), none, (.r (.load true 5 (.t 14)))⟩,
      .op ⟨(some 35), none, (.e (.callv (.t 34) [(.c (.int .i64 (.ofNat 2)))]))⟩,
      .again ⟨(some 36), none, (.r (.load true 5 (.t 14)))⟩,
      .op ⟨none, none, (.e (.store 9 (.t 10) (.t 35)))⟩,
      .again ⟨(some 36), none, (.r (.load true 5 (.t 14)))⟩,
      .op ⟨none, none, (.e (.store 5 (.t 11) (.t 36)))⟩,
      .op ⟨(some 12), none, (.r (.mv (.c (.bool true))))⟩,
      .op ⟨(some 13), none, (.r (.mv (.c (.bool false))))⟩])
    .ret)
    (.seq (.seq (.region [.op ⟨(some 38), none, (.r (.bin .eql (.t 29) (.c (.int .i64 (.ofNat 4)))))⟩,
      .op ⟨(some 37), none, (.r (.mv (.t 38)))⟩])
    (.cond (.t 37)
     .skip
     (.region [.op ⟨(some 39), none, (.r (.bin .eql (.t 29) (.c (.int .i64 (.ofNat 5)))))⟩,
       .op ⟨(some 37), none, (.r (.mv (.t 39)))⟩])))
    (.cond (.t 37)
     (.seq (.seq (.region [.op ⟨(some 40), none, (.r (.mv (.t 2)))⟩,
       .op ⟨(some 41), none, (.r (.faddr 0 (.t 5)))⟩,
       .op ⟨(some 42), none, (.r (.load false 1 (.t 41)))⟩,
       .op ⟨(some 43), none, (.r (.bin .eql (.t 42) (.c (.int .i64 (.ofNat 4)))))⟩,
       .op ⟨(some 44), none, (.r (.eqv false .b (.t 40) (.t 43)))⟩])
     (.cond (.t 44)
      (.seq (.region [.op ⟨(some 45), none, (.r (.mv (.t 15)))⟩,
        .op ⟨(some 47), none, (.r (.load true 5 (.t 6)))⟩,
        .op ⟨(some 46), none, (.e (.callv (.t 45) [(.c (.int .i64 (.ofNat 3)))]))⟩,
        .again ⟨(some 47), none, (.r (.load true 5 (.t 6)))⟩,
        .op ⟨none, none, (.e (.store 9 (.t 10) (.t 46)))⟩,
        .again ⟨(some 47), none, (.r (.load true 5 (.t 6)))⟩,
        .op ⟨none, none, (.e (.store 5 (.t 11) (.t 47)))⟩,
        .op ⟨(some 12), none, (.r (.mv (.c (.bool false))))⟩,
        .op ⟨(some 13), none, (.r (.mv (.c (.bool false))))⟩])
      .ret)
      .skip))
     (.seq (.region [.op ⟨(some 48), none, (.r (.mv (.t 15)))⟩,
       .op ⟨(some 50), none, (.r (.load true 5 (.t 14)))⟩,
       .op ⟨(some 49), none, (.e (.callv (.t 48) [(.c (.int .i64 (.ofNat 2)))]))⟩,
       .again ⟨(some 50), none, (.r (.load true 5 (.t 14)))⟩,
       .op ⟨none, none, (.e (.store 9 (.t 10) (.t 49)))⟩,
       .again ⟨(some 50), none, (.r (.load true 5 (.t 14)))⟩,
       .op ⟨none, none, (.e (.store 5 (.t 11) (.t 50)))⟩,
       .op ⟨(some 12), none, (.r (.mv (.c (.bool true))))⟩,
       .op ⟨(some 13), none, (.r (.mv (.c (.bool false))))⟩])
     .ret))
     (.seq (.seq (.region [.op ⟨(some 52), none, (.r (.bin .eql (.t 29) (.c (.int .i64 (.ofNat 6)))))⟩,
       .op ⟨(some 51), none, (.r (.mv (.t 52)))⟩])
     (.cond (.t 51)
      .skip
      (.region [.op ⟨(some 53), none, (.r (.bin .eql (.t 29) (.c (.int .i64 (.ofNat 7)))))⟩,
        .op ⟨(some 51), none, (.r (.mv (.t 53)))⟩])))
     (.cond (.t 51)
      (.seq (.seq (.region [.op ⟨(some 54), none, (.r (.mv (.t 2)))⟩,
        .op ⟨(some 55), none, (.r (.un .not (.t 54)))⟩])
      (.cond (.t 55)
       (.seq (.region [.op ⟨(some 56), none, (.r (.mv (.t 15)))⟩,
         .op ⟨(some 58), none, (.r (.load true 5 (.t 6)))⟩,
         .op ⟨(some 57), none, (.e (.callv (.t 56) [(.c (.int .i64 (.ofNat 3)))]))⟩,
         .again ⟨(some 58), none, (.r (.load true 5 (.t 6)))⟩,
         .op ⟨none, none, (.e (.store 9 (.t 10) (.t 57)))⟩,
         .again ⟨(some 58), none, (.r (.load true 5 (.t 6)))⟩,
         .op ⟨none, none, (.e (.store 5 (.t 11) (.t 58)))⟩,
         .op ⟨(some 12), none, (.r (.mv (.c (.bool false))))⟩,
         .op ⟨(some 13), none, (.r (.mv (.c (.bool false))))⟩])
       .ret)
       .skip))
      (.seq (.region [.op ⟨(some 60), none, (.r (.load true 9 (.t 5)))⟩,
        .op ⟨(some 61), none, (.r (.load true 5 (.t 6)))⟩,
        .op ⟨(some 62), none, (.r (.mv (.t 4)))⟩,
        .op ⟨(some 63), none, (.e (.call n_model_join [(.t 60), (.t 61), (.t 62)]))⟩,
        .op ⟨(some 59), none, (.r (.mv (.t 63)))⟩,
        .op ⟨(some 64), none, (.r (.ext 0 (.t 59)))⟩,
        .op ⟨(some 65), none, (.r (.ext 1 (.t 59)))⟩,
        .op ⟨(some 66), none, (.r (.ext 2 (.t 59)))⟩,
        .op ⟨none, none, (.e (.store 9 (.t 10) (.t 64)))⟩,
        .op ⟨none, none, (.e (.store 5 (.t 11) (.t 65)))⟩,
        .op ⟨(some 12), none, (.r (.mv (.t 66)))⟩])
      (.seq (.region [.op ⟨(some 67), none, (.r (.load true 9 (.t 10)))⟩,
        .op ⟨(some 68), none, (.r (.load true 5 (.t 11)))⟩,
        .op ⟨(some 69), none, (.r (.mv (.t 12)))⟩,
        .op ⟨none, none, (.e (.store 9 (.t 10) (.t 67)))⟩,
        .again ⟨(some 68), none, (.r (.load true 5 (.t 11)))⟩,
        .op ⟨none, none, (.e (.store 5 (.t 11) (.t 68)))⟩,
        .op ⟨(some 12), none, (.r (.mv (.t 69)))⟩,
        .op ⟨(some 13), none, (.r (.mv (.c (.bool false))))⟩])
      .ret)))
      (.seq (.seq (.region [.op ⟨(some 71), none, (.r (.bin .eql (.t 29) (.c (.int .i64 (.ofNat 8)))))⟩,
        .op ⟨(some 70), none, (.r (.mv (.t 71)))⟩])
      (.cond (.t 70)
       .skip
       (.seq (.region [.op ⟨(some 72), none, (.r (.bin .eql (.t 29) (.c (.int .i64 (.ofNat 9)))))⟩,
         .op ⟨(some 70), none, (.r (.mv (.t 72)))⟩])
       (.cond (.t 70)
        .skip
        (.seq (.region [.op ⟨(some 73), none, (.r (.bin .eql (.t 29) (.c (.int .i64 (.ofNat 12)))))⟩,
          .op ⟨(some 70), none, (.r (.mv (.t 73)))⟩])
        (.cond (.t 70)
         .skip
         (.seq (.region [.op ⟨(some 74), none, (.r (.bin .eql (.t 29) (.c (.int .i64 (.ofNat 10)))))⟩,
           .op ⟨(some 70), none, (.r (.mv (.t 74)))⟩])
         (.cond (.t 70)
          .skip
          (.region [.op ⟨(some 75), none, (.r (.bin .eql (.t 29) (.c (.int .i64 (.ofNat 11)))))⟩,
            .op ⟨(some 70), none, (.r (.mv (.t 75)))⟩])))))))))
      (.cond (.t 70)
       (.seq (.region [.op ⟨(some 76), none, (.r (.mv (.t 2)))⟩,
         .op ⟨(some 77), none, (.r (.un .not (.t 76)))⟩])
       (.cond (.t 77)
        (.seq (.region [.op ⟨(some 78), none, (.r (.mv (.t 15)))⟩,
          .op ⟨(some 80), none, (.r (.load true 5 (.t 6)))⟩,
          .op ⟨(some 79), none, (.e (.callv (.t 78) [(.c (.int .i64 (.ofNat 5)))]))⟩,
          .again ⟨(some 80), none, (.r (.load true 5 (.t 6)))⟩,
          .op ⟨none, none, (.e (.store 9 (.t 10) (.t 79)))⟩,
          .again ⟨(some 80), none, (.r (.load true 5 (.t 6)))⟩,
          .op ⟨none, none, (.e (.store 5 (.t 11) (.t 80)))⟩,
          .op ⟨(some 12), none, (.r (.mv (.c (.bool false))))⟩,
          .op ⟨(some 13), none, (.r (.mv (.c (.bool false))))⟩])
        .ret)
        .skip))
       (.seq (.region [.op ⟨(some 30), none, (.r (.build [(.int .i64 (.ofNat 0)), .nils, (.bool false), (.int .u64 (.ofNat 0)), (.str []), (.int .i64 (.ofNat 0)), (.int .i64 (.ofNat 0)), (.int .i64 (.ofNat 0)), (.int .i64 (.ofNat 0))] []))⟩,
         .op ⟨(some 31), none, (.r (.load true 5 (.t 6)))⟩,
         .op ⟨none, none, (.e (.store 9 (.t 10) (.t 30)))⟩,
         .again ⟨(some 31), none, (.r (.load true 5 (.t 6)))⟩,
         .op ⟨none, none, (.e (.store 5 (.t 11) (.t 31)))⟩,
         .op ⟨(some 12), none, (.r (.mv (.c (.bool false))))⟩,
         .op ⟨(some 13), none, (.r (.mv (.c (.bool false))))⟩])
       .ret)))))))))))
  (.seq (.seq (.region [.op ⟨(some 81), none, (.r (.faddr 0 (.t 5)))⟩,
    .op ⟨(some 82), none, (.r (.load false 1 (.t 81)))⟩])
  (.block 1 (.seq (.region [.op ⟨(some 84), none, (.r (.bin .eql (.t 82) (.c (.int .i64 (.ofNat 8)))))⟩,
     .op ⟨(some 83), none, (.r (.mv (.t 84)))⟩])
   (.cond (.t 83)
    (.seq (.seq (.region [.op ⟨(some 85), none, (.r (.faddr 4 (.t 6)))⟩,
      .op ⟨(some 86), none, (.r (.load false 1 (.t 85)))⟩,
      .op ⟨(some 87), none, (.r (.faddr 5 (.t 5)))⟩,
      .op ⟨(some 88), none, (.r (.load false 1 (.t 87)))⟩,
      .op ⟨(some 89), none, (.r (.bin .neq (.t 86) (.t 88)))⟩])
    (.cond (.t 89)
     (.seq (.region [.op ⟨(some 90), none, (.r (.mv (.t 15)))⟩,
       .op ⟨(some 92), none, (.r (.load true 5 (.t 6)))⟩,
       .op ⟨(some 91), none, (.e (.callv (.t 90) [(.c (.int .i64 (.ofNat 4)))]))⟩,
       .again ⟨(some 92), none, (.r (.load true 5 (.t 6)))⟩,
       .op ⟨none, none, (.e (.store 9 (.t 10) (.t 91)))⟩,
       .again ⟨(some 92), none, (.r (.load true 5 (.t 6)))⟩,
       .op ⟨none, none, (.e (.store 5 (.t 11) (.t 92)))⟩,
       .op ⟨(some 12), none, (.r (.mv (.c (.bool false))))⟩,
       .op ⟨(some 13), none, (.r (.mv (.c (.bool false))))⟩])
     .ret)
     .skip))
    (.seq (.region [.op ⟨(some 93), none, (.r (.mv (.t 15)))⟩,
      .op ⟨(some 95), none, (.r (.load true 5 (.t 14)))⟩,
      .op ⟨(some 94), none, (.e (.callv (.t 93) [(.c (.int .i64 (.ofNat 2)))]))⟩,
      .again ⟨(some 95), none, (.r (.load true 5 (.t 14)))⟩,
      .op ⟨none, none, (.e (.store 9 (.t 10) (.t 94)))⟩,
      .again ⟨(some 95), none, (.r (.load true 5 (.t 14)))⟩,
      .op ⟨none, none, (.e (.store 5 (.t 11) (.t 95)))⟩,
      .op ⟨(some 12), none, (.r (.mv (.c (.bool true))))⟩,
      .op ⟨(some 13), none, (.r (.mv (.c (.bool false))))⟩])
    .ret))
    (.seq (.region [.op ⟨(some 97), none, (.r (.bin .eql (.t 82) (.c (.int .i64 (.ofNat 9)))))⟩,
      .op ⟨(some 96), none, (.r (.mv (.t 97)))⟩])
    (.cond (.t 96)
     (.seq (.region [.op ⟨(some 98), none, (.r (.mv (.t 15)))⟩,
       .op ⟨(some 100), none, (.r (.load true 5 (.t 6)))⟩,
       .op ⟨(some 99), none, (.e (.callv (.t 98) [(.c (.int .i64 (.ofNat 6)))]))⟩,
       .again ⟨(some 100), none, (.r (.load true 5 (.t 6)))⟩,
       .op ⟨none, none, (.e (.store 9 (.t 10) (.t 99)))⟩,
       .again ⟨(some 100), none, (.r (.load true 5 (.t 6)))⟩,
       .op ⟨none, none, (.e (.store 5 (.t 11) (.t 100)))⟩,
       .op ⟨(some 12), none, (.r (.mv (.c (.bool false))))⟩,
       .op ⟨(some 13), none, (.r (.mv (.c (.bool true))))⟩])
     .ret)
     (.seq (.region [.op ⟨(some 102), none, (.r (.bin .eql (.t 82) (.c (.int .i64 (.ofNat 12)))))⟩,
       .op ⟨(some 101), none, (.r (.mv (.t 102)))⟩])
     (.cond (.t 101)
      (.seq (.region [.op ⟨(some 103), none, (.r (.faddr 2 (.t 14)))⟩,
        .op ⟨(some 104), none, (.r (.load false 1 (.t 103)))⟩,
        .op ⟨(some 105), none, (.r (.faddr 2 (.t 6)))⟩,
        .op ⟨none, none, (.e (.store 1 (.t 105) (.t 104)))⟩])
      (.seq (.region [.op ⟨(some 106), none, (.r (.mv (.t 15)))⟩,
        .op ⟨(some 108), none, (.r (.load true 5 (.t 6)))⟩,
        .op ⟨(some 107), none, (.e (.callv (.t 106) [(.c (.int .i64 (.ofNat 7)))]))⟩,
        .again ⟨(some 108), none, (.r (.load true 5 (.t 6)))⟩,
        .op ⟨none, none, (.e (.store 9 (.t 10) (.t 107)))⟩,
        .again ⟨(some 108), none, (.r (.load true 5 (.t 6)))⟩,
        .op ⟨none, none, (.e (.store 5 (.t 11) (.t 108)))⟩,
        .op ⟨(some 12), none, (.r (.mv (.c (.bool true))))⟩,
        .op ⟨(some 13), none, (.r (.mv (.c (.bool false))))⟩])
      .ret))
      .skip))))))))
  (.seq (.region [.op ⟨(some 110), none, (.r (.load true 9 (.t 5)))⟩,
    .op ⟨(some 111), none, (.r (.load true 5 (.t 6)))⟩,
    .op ⟨(some 112), none, (.r (.mv (.t 4)))⟩,
    .op ⟨(some 113), none, (.e (.call n_model_count [(.t 110), (.t 111), (.t 112)]))⟩,
    .op ⟨(some 109), none, (.r (.mv (.t 113)))⟩,
    .op ⟨(some 114), none, (.r (.ext 0 (.t 109)))⟩,
    .op ⟨(some 115), none, (.r (.ext 1 (.t 109)))⟩,
    .op ⟨(some 116), none, (.r (.ext 2 (.t 109)))⟩,
    .op ⟨none, none, (.e (.store 9 (.t 10) (.t 114)))⟩,
    .op ⟨none, none, (.e (.store 5 (.t 11) (.t 115)))⟩,
    .op ⟨(some 12), none, (.r (.mv (.t 116)))⟩])
  (.seq (.region [.op ⟨(some 117), none, (.r (.load true 9 (.t 10)))⟩,
    .op ⟨(some 118), none, (.r (.load true 5 (.t 11)))⟩,
    .op ⟨(some 119), none, (.r (.mv (.t 12)))⟩,
    .op ⟨none, none, (.e (.store 9 (.t 10) (.t 117)))⟩,
    .again ⟨(some 118), none, (.r (.load true 5 (.t 11)))⟩,
    .op ⟨none, none, (.e (.store 5 (.t 11) (.t 118)))⟩,
    .op ⟨(some 12), none, (.r (.mv (.t 119)))⟩,
    .op ⟨(some 13), none, (.r (.mv (.c (.bool false))))⟩])
  .ret))))))) }
theorem tr_model_Next : trF cx Tryd.f59 = pf_model_Next := by kernel_rfl
def l0_task_Task_scatter : PC :=
  (.seq (.region [.op ⟨(some 23), none, (.r (.bin .lss (.t 22) (.t 21)))⟩])
  (.seq (.cond (.t 23)
   .skip
   (.exit 0))
  (.seq (.block 1 (.seq (.region [.op ⟨(some 24), none, (.r (.mv (.t 22)))⟩,
     .op ⟨(some 25), none, (.r (.iasl 1 (.t 20) (.t 22)))⟩,
     .op ⟨(some 26), none, (.r (.load false 1 (.t 25)))⟩,
     .op ⟨(some 7), none, (.r (.mv (.t 24)))⟩,
     .op ⟨(some 8), none, (.r (.mv (.t 26)))⟩])
   (.seq (.seq (.region [.op ⟨(some 27), none, (.r (.mv (.t 8)))⟩,
     .op ⟨(some 28), none, (.r (.faddr 0 (.t 4)))⟩,
     .op ⟨(some 29), none, (.r (.iaarr 12 1 (.t 28) (.t 27)))⟩,
     .op ⟨(some 30), none, (.r (.load false 1 (.t 29)))⟩,
     .op ⟨(some 31), none, (.r (.bin .eql (.t 30) (.c (.int .i64 (.ofNat 0)))))⟩])
   (.cond (.t 31)
    (.exit 1)
    .skip))
   (.region [.op ⟨(some 32), none, (.r (.mv (.t 0)))⟩,
     .op ⟨(some 33), none, (.r (.mv (.t 8)))⟩,
     .op ⟨(some 34), none, (.r (.mv (.t 0)))⟩,
     .op ⟨(some 35), none, (.r (.nilck (.t 34)))⟩,
     .op ⟨(some 36), none, (.r (.faddr 18 (.t 35)))⟩,
     .op ⟨(some 37), none, (.r (.load false 1 (.t 36)))⟩,
     .op ⟨(some 38), none, (.r (.mv (.t 6)))⟩,
     .op ⟨(some 39), none, (.r (.mv (.t 7)))⟩,
     .op ⟨(some 40), none, (.r (.iasl 1 (.t 38) (.t 39)))⟩,
     .op ⟨(some 41), none, (.r (.load false 1 (.t 40)))⟩,
     .op ⟨(some 42), none, (.r (.build [(.int .i64 (.ofNat 0)), (.int .i64 (.ofNat 0)), (.int .i64 (.ofNat 0)), (.int .i64 (.ofNat 0)), (.int .i64 (.ofNat 0)), (.int .i64 (.ofNat 0)), (.str []), (.int .i64 (.ofNat 0)), (.str [])] [(0, 1, (.c (.int .i64 (.ofNat 1)))), (5, 1, (.c (.int .i64 (.ofNat 2)))), (7, 1, (.t 37)), (8, 1, (.t 41))]))⟩,
     .op ⟨(some 43), none, (.e (.call n_task_Task_ask [(.t 32), (.t 33), (.t 42)]))⟩]))))
  (.region [.op ⟨(some 44), none, (.r (.bin .add (.t 22) (.c (.int .i64 (.ofNat 1)))))⟩,
    .op ⟨(some 22), none, (.r (.mv (.t 44)))⟩]))))
/-- (*depot/task.Task).scatter -/
def pf_task_Task_scatter : PF := { ntmps := 48, results := [], body :=
  (.seq (.region [.op ⟨(some 4), none, (.n (.box (.t 1)))⟩])
  (.scope (.seq (.region [.op ⟨(some 9), none, (.r (.mv (.t 0)))⟩,
     .op ⟨(some 10), none, (.e (.call n_task_Task_enter [(.t 9), (.c (.int .i64 (.ofNat 3)))]))⟩])
   (.seq (.region [.op ⟨(some 11), none, (.r (.mv (.t 0)))⟩,
     .op ⟨(some 12), none, (.r (.nilck (.t 11)))⟩,
     .op ⟨(some 13), none, (.r (.faddr 6 (.t 12)))⟩,
     .op ⟨(some 14), none, (.r (.load false 1 (.t 13)))⟩,
     .op ⟨(some 15), none, (.r (.mv (.t 2)))⟩,
     .op ⟨(some 16), none, (.e (.call n_rs_Code_Encode [(.t 14), (.t 15)]))⟩,
     .op ⟨(some 6), none, (.r (.mv (.t 16)))⟩])
   (.seq .skip
   (.seq (.seq (.region [.op ⟨(some 17), none, (.r (.mv (.t 0)))⟩,
     .op ⟨(some 18), none, (.r (.nilck (.t 17)))⟩,
     .op ⟨(some 19), none, (.r (.faddr 19 (.t 18)))⟩,
     .op ⟨(some 20), none, (.r (.load false 1 (.t 19)))⟩,
     .op ⟨(some 21), none, (.r (.lensl (.t 20)))⟩,
     .op ⟨(some 22), none, (.r (.mv (.c (.int .i64 (.ofNat 0)))))⟩])
   (.block 0 (.loop l0_task_Task_scatter)))
   (.region [.op ⟨(some 45), none, (.r (.mv (.t 0)))⟩,
     .op ⟨(some 46), none, (.r (.load true 14 (.t 4)))⟩,
     .op ⟨(some 47), none, (.e (.call n_task_Task_on [(.t 45), (.t 46)]))⟩]))))))) }
theorem tr_task_Task_scatter : trF cx Tryd.f60 = pf_task_Task_scatter := by kernel_rfl
/-- depot/pack.grown -/
def pf_pack_grown : PF := { ntmps := 12, results := [.tmp 4], body :=
  (.seq (.region [.op ⟨(some 4), none, (.r (.mv (.c .nils)))⟩])
  (.seq (.region [.op ⟨(some 5), none, (.r (.mv (.t 0)))⟩,
    .op ⟨(some 6), none, (.r (.lensl (.t 5)))⟩,
    .op ⟨(some 7), none, (.r (.mv (.t 1)))⟩,
    .op ⟨(some 8), none, (.r (.bin .add (.t 6) (.t 7)))⟩,
    .op ⟨(some 9), none, (.n (.mksl 2 1 1 [(.int .u8 (.ofNat 0))] (.c (.int .i64 (.ofNat 0))) (.t 8)))⟩,
    .op ⟨(some 10), none, (.r (.mv (.t 0)))⟩,
    .op ⟨(some 11), none, (.e (.app 2 1 1 (.t 9) (.t 10)))⟩,
    .op ⟨(some 4), none, (.r (.mv (.t 11)))⟩])
  .ret)) }
theorem tr_pack_grown : trF cx Tryd.f61 = pf_pack_grown := by kernel_rfl
/-- (*depot/pack.Reader).fail -/
def pf_pack_Reader_fail : PF := { ntmps := 14, results := [], body :=
  (.region [.op ⟨(some 6), none, (.r (.mv (.t 0)))⟩,
    .op ⟨(some 7), none, (.r (.mv (.t 0)))⟩,
    .op ⟨(some 8), none, (.r (.mv (.t 1)))⟩,
    .op ⟨(some 9), none, (.r (.mv (.t 2)))⟩,
    .op ⟨(some 10), none, (.r (.nilck (.t 6)))⟩,
    .op ⟨(some 11), none, (.r (.faddr 1 (.t 10)))⟩,
    .op ⟨none, none, (.e (.store 1 (.t 11) (.t 8)))⟩,
    .op ⟨(some 12), none, (.r (.nilck (.t 7)))⟩,
    .op ⟨(some 13), none, (.r (.faddr 2 (.t 12)))⟩,
    .op ⟨none, none, (.e (.store 1 (.t 13) (.t 9)))⟩]) }
theorem tr_pack_Reader_fail : trF cx Tryd.f62 = pf_pack_Reader_fail := by kernel_rfl
def l0_slices_Index_int_int : PC :=
  (.seq (.region [.op ⟨(some 9), none, (.r (.bin .lss (.t 8) (.t 7)))⟩])
  (.seq (.cond (.t 9)
   .skip
   (.exit 0))
  (.seq (.block 1 (.seq (.region [.op ⟨(some 10), none, (.r (.mv (.t 8)))⟩,
     .op ⟨(some 5), none, (.r (.mv (.t 10)))⟩])
   (.seq (.region [.op ⟨(some 11), none, (.r (.mv (.t 1)))⟩,
     .op ⟨(some 12), none, (.r (.mv (.t 0)))⟩,
     .op ⟨(some 13), none, (.r (.mv (.t 5)))⟩,
     .op ⟨(some 14), none, (.r (.iasl 1 (.t 12) (.t 13)))⟩,
     .op ⟨(some 15), none, (.r (.load false 1 (.t 14)))⟩,
     .op ⟨(some 16), none, (.r (.bin .eql (.t 11) (.t 15)))⟩])
   (.cond (.t 16)
    (.seq (.region [.op ⟨(some 17), none, (.r (.mv (.t 5)))⟩,
      .op ⟨(some 4), none, (.r (.mv (.t 17)))⟩])
    .ret)
    .skip))))
  (.region [.op ⟨(some 18), none, (.r (.bin .add (.t 8) (.c (.int .i64 (.ofNat 1)))))⟩,
    .op ⟨(some 8), none, (.r (.mv (.t 18)))⟩]))))
/-- slices.Index[[]int,int] -/
def pf_slices_Index_int_int : PF := { ntmps := 19, results := [.tmp 4], body :=
  (.seq (.region [.op ⟨(some 4), none, (.r (.mv (.c (.int .i64 (.ofNat 0)))))⟩])
  (.seq (.seq (.region [.op ⟨(some 6), none, (.r (.mv (.t 0)))⟩,
    .op ⟨(some 7), none, (.r (.lensl (.t 6)))⟩,
    .op ⟨(some 8), none, (.r (.mv (.c (.int .i64 (.ofNat 0)))))⟩])
  (.block 0 (.loop l0_slices_Index_int_int)))
  (.seq (.region [.op ⟨(some 4), none, (.r (.mv (.c (.int .i64 (.negSucc 0)))))⟩])
  .ret))) }
theorem tr_slices_Index_int_int : trF cx Tryd.f63 = pf_slices_Index_int_int := by kernel_rfl
def l0_rs_Code_chosen : PC :=
  (.seq (.region [.op ⟨(some 12), none, (.r (.bin .lss (.t 11) (.t 10)))⟩])
  (.seq (.cond (.t 12)
   .skip
   (.exit 0))
  (.seq (.block 1 (.seq (.region [.op ⟨(some 13), none, (.r (.iasl 2 (.t 9) (.t 11)))⟩,
     .op ⟨(some 14), none, (.r (.load true 2 (.t 13)))⟩,
     .op ⟨(some 8), none, (.n (.new 0 [(.int .i64 (.ofNat 0)), (.str [])]))⟩,
     .op ⟨none, none, (.e (.store 2 (.t 8) (.t 14)))⟩])
   (.seq (.seq (.region [.op ⟨(some 15), none, (.r (.faddr 0 (.t 8)))⟩,
     .op ⟨(some 16), none, (.r (.load false 1 (.t 15)))⟩,
     .op ⟨(some 17), none, (.r (.iaarr 12 1 (.t 6) (.t 16)))⟩,
     .op ⟨(some 18), none, (.r (.load false 1 (.t 17)))⟩,
     .op ⟨(some 19), none, (.r (.bin .gtr (.t 18) (.c (.int .i64 (.ofNat 0)))))⟩])
   (.cond (.t 19)
    (.exit 1)
    .skip))
   (.seq (.region [.op ⟨(some 20), none, (.r (.faddr 0 (.t 8)))⟩,
     .op ⟨(some 21), none, (.r (.load false 1 (.t 20)))⟩,
     .op ⟨(some 22), none, (.r (.iaarr 12 1 (.t 6) (.t 21)))⟩,
     .op ⟨none, none, (.e (.store 1 (.t 22) (.c (.int .i64 (.ofNat 1)))))⟩])
   (.seq (.region [.op ⟨(some 23), none, (.r (.mv (.t 4)))⟩,
     .op ⟨(some 24), none, (.r (.mv (.t 0)))⟩,
     .op ⟨(some 25), none, (.r (.nilck (.t 24)))⟩,
     .op ⟨(some 26), none, (.r (.faddr 768 (.t 25)))⟩,
     .op ⟨(some 27), none, (.r (.load false 1 (.t 26)))⟩,
     .op ⟨(some 28), none, (.r (.faddr 0 (.t 8)))⟩,
     .op ⟨(some 29), none, (.r (.load false 1 (.t 28)))⟩,
     .op ⟨(some 30), none, (.r (.iasl 1 (.t 27) (.t 29)))⟩,
     .op ⟨(some 31), none, (.r (.load false 1 (.t 30)))⟩,
     .op ⟨(some 32), none, (.n (.bslice 0 1 1 [.nils] [(0, 1, (.t 31))]))⟩,
     .op ⟨(some 34), none, (.r (.mv (.t 5)))⟩,
     .op ⟨(some 35), none, (.r (.faddr 1 (.t 8)))⟩,
     .op ⟨(some 36), none, (.r (.load false 1 (.t 35)))⟩,
     .op ⟨(some 37), none, (.n (.s2b (.t 36)))⟩,
     .op ⟨(some 38), none, (.n (.bslice 0 1 1 [.nils] [(0, 1, (.t 37))]))⟩,
     .op ⟨(some 33), none, (.e (.app 0 1 24 (.t 23) (.t 32)))⟩,
     .again ⟨(some 36), none, (.r (.load false 1 (.t 35)))⟩,
     .op ⟨(some 39), none, (.e (.app 0 1 24 (.t 34) (.t 38)))⟩,
     .op ⟨(some 4), none, (.r (.mv (.t 33)))⟩,
     .op ⟨(some 5), none, (.r (.mv (.t 39)))⟩])
   (.seq (.region [.op ⟨(some 40), none, (.r (.mv (.t 4)))⟩,
     .op ⟨(some 41), none, (.r (.lensl (.t 40)))⟩,
     .op ⟨(some 42), none, (.r (.mv (.t 0)))⟩,
     .op ⟨(some 43), none, (.r (.nilck (.t 42)))⟩,
     .op ⟨(some 44), none, (.r (.faddr 0 (.t 43)))⟩,
     .op ⟨(some 45), none, (.r (.load false 1 (.t 44)))⟩,
     .op ⟨(some 46), none, (.r (.bin .eql (.t 41) (.t 45)))⟩])
   (.cond (.t 46)
    (.exit 0)
    .skip)))))))
  (.region [.op ⟨(some 47), none, (.r (.bin .add (.t 11) (.c (.int .i64 (.ofNat 1)))))⟩,
    .op ⟨(some 11), none, (.r (.mv (.t 47)))⟩]))))
/-- (*depot/rs.Code).chosen -/
def pf_rs_Code_chosen : PF := { ntmps := 50, results := [.tmp 4, .tmp 5], body :=
  (.seq (.region [.op ⟨(some 4), none, (.r (.mv (.c .nils)))⟩,
    .op ⟨(some 5), none, (.r (.mv (.c .nils)))⟩])
  (.scope (.seq (.region [.op ⟨(some 6), none, (.n (.new 0 (rep 12 [(.int .i64 (.ofNat 0))])))⟩])
   (.seq .skip
   (.seq (.seq (.region [.op ⟨(some 9), none, (.r (.mv (.t 1)))⟩,
     .op ⟨(some 10), none, (.r (.lensl (.t 9)))⟩,
     .op ⟨(some 11), none, (.r (.mv (.c (.int .i64 (.ofNat 0)))))⟩])
   (.block 0 (.loop l0_rs_Code_chosen)))
   (.seq (.region [.op ⟨(some 48), none, (.r (.mv (.t 4)))⟩,
     .op ⟨(some 49), none, (.r (.mv (.t 5)))⟩,
     .op ⟨(some 4), none, (.r (.mv (.t 48)))⟩,
     .op ⟨(some 5), none, (.r (.mv (.t 49)))⟩])
   .ret)))))) }
theorem tr_rs_Code_chosen : trF cx Tryd.f64 = pf_rs_Code_chosen := by kernel_rfl
def l0_matrix_Invert : PC :=
  (.seq (.region [.op ⟨(some 31), none, (.r (.bin .lss (.t 30) (.t 29)))⟩])
  (.seq (.cond (.t 31)
   .skip
   (.exit 0))
  (.seq (.block 1 (.seq (.region [.op ⟨(some 32), none, (.r (.mv (.t 30)))⟩,
     .op ⟨(some 33), none, (.r (.iasl 1 (.t 28) (.t 30)))⟩,
     .op ⟨(some 34), none, (.r (.load false 1 (.t 33)))⟩,
     .op ⟨(some 8), none, (.r (.mv (.t 32)))⟩,
     .op ⟨(some 9), none, (.r (.mv (.t 34)))⟩])
   (.region [.op ⟨(some 35), none, (.r (.mv (.t 7)))⟩,
     .op ⟨(some 36), none, (.r (.mv (.t 8)))⟩,
     .op ⟨(some 37), none, (.r (.mv (.t 7)))⟩,
     .op ⟨(some 38), none, (.r (.mv (.t 8)))⟩,
     .op ⟨(some 39), none, (.r (.iasl 1 (.t 37) (.t 38)))⟩,
     .op ⟨(some 40), none, (.r (.load false 1 (.t 39)))⟩,
     .op ⟨(some 41), none, (.r (.mv (.t 9)))⟩,
     .op ⟨(some 42), none, (.e (.app 2 1 1 (.t 40) (.t 41)))⟩,
     .op ⟨(some 43), none, (.r (.iasl 1 (.t 35) (.t 36)))⟩,
     .op ⟨none, none, (.e (.store 1 (.t 43) (.t 42)))⟩])))
  (.region [.op ⟨(some 44), none, (.r (.bin .add (.t 30) (.c (.int .i64 (.ofNat 1)))))⟩,
    .op ⟨(some 30), none, (.r (.mv (.t 44)))⟩]))))
def l1_matrix_Invert : PC :=
  (.seq (.region [.op ⟨(some 54), none, (.r (.bin .lss (.t 53) (.t 52)))⟩])
  (.seq (.cond (.t 54)
   .skip
   (.exit 2))
  (.seq (.block 3 (.seq (.region [.op ⟨(some 55), none, (.r (.mv (.t 53)))⟩,
     .op ⟨(some 10), none, (.r (.mv (.t 55)))⟩])
   (.region [.op ⟨(some 56), none, (.r (.mv (.t 7)))⟩,
     .op ⟨(some 57), none, (.r (.mv (.t 10)))⟩,
     .op ⟨(some 58), none, (.r (.mv (.t 7)))⟩,
     .op ⟨(some 59), none, (.r (.mv (.t 10)))⟩,
     .op ⟨(some 60), none, (.r (.iasl 1 (.t 58) (.t 59)))⟩,
     .op ⟨(some 61), none, (.r (.load false 1 (.t 60)))⟩,
     .op ⟨(some 62), none, (.r (.mv (.t 6)))⟩,
     .op ⟨(some 63), none, (.r (.slsl 1 (.t 61) (some (.t 62)) none none))⟩,
     .op ⟨(some 64), none, (.e (.call n_slices_Clone_byte_byte [(.t 63)]))⟩,
     .op ⟨(some 65), none, (.r (.iasl 1 (.t 56) (.t 57)))⟩,
     .op ⟨none, none, (.e (.store 1 (.t 65) (.t 64)))⟩])))
  (.region [.op ⟨(some 66), none, (.r (.bin .add (.t 53) (.c (.int .i64 (.ofNat 1)))))⟩,
    .op ⟨(some 53), none, (.r (.mv (.t 66)))⟩]))))
/-- depot/matrix.Invert -/
def pf_matrix_Invert : PF := { ntmps := 68, results := [.tmp 4, .tmp 5], body :=
  (.seq (.region [.op ⟨(some 4), none, (.r (.mv (.c .nils)))⟩,
    .op ⟨(some 5), none, (.r (.mv (.c (.bool false))))⟩])
  (.seq (.seq (.region [.op ⟨(some 11), none, (.r (.mv (.t 1)))⟩,
    .op ⟨(some 12), none, (.e (.call n_matrix_Right [(.t 11)]))⟩,
    .op ⟨(some 13), none, (.r (.un .not (.t 12)))⟩,
    .op ⟨(some 14), none, (.r (.mv (.t 13)))⟩,
    .op ⟨(some 15), (some (14, false)), (.r (.mv (.t 1)))⟩,
    .op ⟨(some 16), (some (14, false)), (.r (.lensl (.t 15)))⟩,
    .op ⟨(some 17), (some (14, false)), (.r (.mv (.t 1)))⟩,
    .op ⟨(some 18), (some (14, false)), (.r (.iasl 1 (.t 17) (.c (.int .i64 (.ofNat 0)))))⟩,
    .op ⟨(some 19), (some (14, false)), (.r (.load false 1 (.t 18)))⟩,
    .op ⟨(some 20), (some (14, false)), (.r (.lensl (.t 19)))⟩,
    .op ⟨(some 21), (some (14, false)), (.r (.bin .neq (.t 16) (.t 20)))⟩,
    .op ⟨(some 22), none, (.r (.pick (.t 14) (.c (.bool true)) (.t 21)))⟩])
  (.cond (.t 22)
   (.seq (.region [.op ⟨(some 4), none, (.r (.mv (.c .nils)))⟩,
     .op ⟨(some 5), none, (.r (.mv (.c (.bool false))))⟩])
   .ret)
   .skip))
  (.seq (.region [.op ⟨(some 23), none, (.r (.mv (.t 1)))⟩,
    .op ⟨(some 24), none, (.r (.lensl (.t 23)))⟩,
    .op ⟨(some 6), none, (.r (.mv (.t 24)))⟩])
  (.seq (.region [.op ⟨(some 25), none, (.r (.mv (.t 1)))⟩,
    .op ⟨(some 26), none, (.e (.call n_matrix_copied [(.t 25)]))⟩,
    .op ⟨(some 7), none, (.r (.mv (.t 26)))⟩])
  (.seq (.seq (.region [.op ⟨(some 27), none, (.r (.mv (.t 6)))⟩,
    .op ⟨(some 28), none, (.e (.call n_matrix_Identity [(.t 27)]))⟩,
    .op ⟨(some 29), none, (.r (.lensl (.t 28)))⟩,
    .op ⟨(some 30), none, (.r (.mv (.c (.int .i64 (.ofNat 0)))))⟩])
  (.block 0 (.loop l0_matrix_Invert)))
  (.seq (.seq (.region [.op ⟨(some 45), none, (.r (.mv (.t 0)))⟩,
    .op ⟨(some 46), none, (.r (.mv (.t 7)))⟩,
    .op ⟨(some 47), none, (.r (.mv (.t 6)))⟩,
    .op ⟨(some 48), none, (.e (.call n_matrix_reduce [(.t 45), (.t 46), (.t 47)]))⟩,
    .op ⟨(some 49), none, (.r (.mv (.t 6)))⟩,
    .op ⟨(some 50), none, (.r (.bin .lss (.t 48) (.t 49)))⟩])
  (.cond (.t 50)
   (.seq (.region [.op ⟨(some 4), none, (.r (.mv (.c .nils)))⟩,
     .op ⟨(some 5), none, (.r (.mv (.c (.bool false))))⟩])
   .ret)
   .skip))
  (.seq (.seq (.region [.op ⟨(some 51), none, (.r (.mv (.t 7)))⟩,
    .op ⟨(some 52), none, (.r (.lensl (.t 51)))⟩,
    .op ⟨(some 53), none, (.r (.mv (.c (.int .i64 (.ofNat 0)))))⟩])
  (.block 2 (.loop l1_matrix_Invert)))
  (.seq (.region [.op ⟨(some 67), none, (.r (.mv (.t 7)))⟩,
    .op ⟨(some 4), none, (.r (.mv (.t 67)))⟩,
    .op ⟨(some 5), none, (.r (.mv (.c (.bool true))))⟩])
  .ret)))))))) }
theorem tr_matrix_Invert : trF cx Tryd.f65 = pf_matrix_Invert := by kernel_rfl
def l0_rs_Code_mix : PC :=
  (.seq (.region [.op ⟨(some 31), none, (.r (.bin .lss (.t 30) (.t 29)))⟩])
  (.seq (.cond (.t 31)
   .skip
   (.exit 2))
  (.seq (.block 3 (.seq (.region [.op ⟨(some 32), none, (.r (.mv (.t 30)))⟩,
     .op ⟨(some 33), none, (.r (.iasl 1 (.t 28) (.t 30)))⟩,
     .op ⟨(some 34), none, (.r (.load false 1 (.t 33)))⟩,
     .op ⟨(some 12), none, (.r (.mv (.t 32)))⟩,
     .op ⟨(some 13), none, (.r (.mv (.t 34)))⟩])
   (.region [.op ⟨(some 35), none, (.r (.mv (.t 9)))⟩,
     .op ⟨(some 36), none, (.r (.mv (.t 12)))⟩,
     .op ⟨(some 37), none, (.r (.iasl 1 (.t 35) (.t 36)))⟩,
     .op ⟨(some 38), none, (.r (.load false 1 (.t 37)))⟩,
     .op ⟨(some 39), none, (.r (.mv (.t 0)))⟩,
     .op ⟨(some 40), none, (.r (.nilck (.t 39)))⟩,
     .op ⟨(some 41), none, (.r (.faddr 2 (.t 40)))⟩,
     .op ⟨(some 42), none, (.r (.mv (.t 11)))⟩,
     .op ⟨(some 43), none, (.r (.mv (.t 13)))⟩,
     .op ⟨(some 44), none, (.e (.call n_gf_Mul [(.t 41), (.t 42), (.t 43)]))⟩,
     .again ⟨(some 38), none, (.r (.load false 1 (.t 37)))⟩,
     .op ⟨(some 45), none, (.r (.bin .xor (.t 38) (.t 44)))⟩,
     .op ⟨(some 46), none, (.r (.iasl 1 (.t 35) (.t 36)))⟩,
     .op ⟨none, none, (.e (.store 1 (.t 46) (.t 45)))⟩])))
  (.region [.op ⟨(some 47), none, (.r (.bin .add (.t 30) (.c (.int .i64 (.ofNat 1)))))⟩,
    .op ⟨(some 30), none, (.r (.mv (.t 47)))⟩]))))
def l1_rs_Code_mix : PC :=
  (.seq (.region [.op ⟨(some 19), none, (.r (.bin .lss (.t 18) (.t 17)))⟩])
  (.seq (.cond (.t 19)
   .skip
   (.exit 0))
  (.seq (.block 1 (.seq (.region [.op ⟨(some 20), none, (.r (.mv (.t 18)))⟩,
     .op ⟨(some 21), none, (.r (.iasl 1 (.t 16) (.t 18)))⟩,
     .op ⟨(some 22), none, (.r (.load false 1 (.t 21)))⟩,
     .op ⟨(some 10), none, (.r (.mv (.t 20)))⟩,
     .op ⟨(some 11), none, (.r (.mv (.t 22)))⟩])
   (.seq (.seq (.region [.op ⟨(some 23), none, (.r (.mv (.t 11)))⟩,
     .op ⟨(some 24), none, (.r (.bin .eql (.t 23) (.c (.int .u8 (.ofNat 0)))))⟩])
   (.cond (.t 24)
    (.exit 1)
    .skip))
   (.seq (.region [.op ⟨(some 25), none, (.r (.mv (.t 2)))⟩,
     .op ⟨(some 26), none, (.r (.mv (.t 10)))⟩,
     .op ⟨(some 27), none, (.r (.iasl 1 (.t 25) (.t 26)))⟩,
     .op ⟨(some 28), none, (.r (.load false 1 (.t 27)))⟩,
     .op ⟨(some 29), none, (.r (.lensl (.t 28)))⟩,
     .op ⟨(some 30), none, (.r (.mv (.c (.int .i64 (.ofNat 0)))))⟩])
   (.block 2 (.loop l0_rs_Code_mix))))))
  (.region [.op ⟨(some 48), none, (.r (.bin .add (.t 18) (.c (.int .i64 (.ofNat 1)))))⟩,
    .op ⟨(some 18), none, (.r (.mv (.t 48)))⟩]))))
/-- (*depot/rs.Code).mix -/
def pf_rs_Code_mix : PF := { ntmps := 50, results := [.tmp 8], body :=
  (.seq (.region [.op ⟨(some 8), none, (.r (.mv (.c .nils)))⟩])
  (.seq (.region [.op ⟨(some 14), none, (.r (.mv (.t 3)))⟩,
    .op ⟨(some 15), none, (.n (.mksl 2 1 1 [(.int .u8 (.ofNat 0))] (.t 14) (.t 14)))⟩,
    .op ⟨(some 9), none, (.r (.mv (.t 15)))⟩])
  (.seq (.seq (.region [.op ⟨(some 16), none, (.r (.mv (.t 1)))⟩,
    .op ⟨(some 17), none, (.r (.lensl (.t 16)))⟩,
    .op ⟨(some 18), none, (.r (.mv (.c (.int .i64 (.ofNat 0)))))⟩])
  (.block 0 (.loop l1_rs_Code_mix)))
  (.seq (.region [.op ⟨(some 49), none, (.r (.mv (.t 9)))⟩,
    .op ⟨(some 8), none, (.r (.mv (.t 49)))⟩])
  .ret)))) }
theorem tr_rs_Code_mix : trF cx Tryd.f66 = pf_rs_Code_mix := by kernel_rfl
/-- slices.Clone[[]depot/api.Part,depot/api.Part] -/
def pf_slices_Clone_api_Part_api_Part : PF := { ntmps := 8, results := [.tmp 2], body :=
  (.seq (.region [.op ⟨(some 2), none, (.r (.mv (.c .nils)))⟩])
  (.seq (.seq (.region [.op ⟨(some 3), none, (.r (.mv (.t 0)))⟩,
    .op ⟨(some 4), none, (.r (.eqv false .s (.t 3) (.c .nils)))⟩])
  (.cond (.t 4)
   (.seq (.region [.op ⟨(some 2), none, (.r (.mv (.c .nils)))⟩])
   .ret)
   .skip))
  (.seq (.region [.op ⟨(some 5), none, (.n (.bslice 0 2 0 [] []))⟩,
    .op ⟨(some 6), none, (.r (.mv (.t 0)))⟩,
    .op ⟨(some 7), none, (.e (.app 0 2 24 (.t 5) (.t 6)))⟩,
    .op ⟨(some 2), none, (.r (.mv (.t 7)))⟩])
  .ret))) }
theorem tr_slices_Clone_api_Part_api_Part : trF cx Tryd.f67 = pf_slices_Clone_api_Part_api_Part := by kernel_rfl
def l0_task_PutRecord : PC :=
  (.seq (.region [.op ⟨(some 19), none, (.r (.bin .lss (.t 18) (.t 17)))⟩])
  (.seq (.cond (.t 19)
   .skip
   (.exit 0))
  (.seq (.block 1 (.seq (.region [.op ⟨(some 20), none, (.r (.iasl 1 (.t 16) (.t 18)))⟩,
     .op ⟨(some 21), none, (.r (.load false 1 (.t 20)))⟩,
     .op ⟨(some 5), none, (.r (.mv (.t 21)))⟩])
   (.region [.op ⟨(some 22), none, (.r (.mv (.t 3)))⟩,
     .op ⟨(some 23), none, (.r (.mv (.t 5)))⟩,
     .op ⟨(some 24), none, (.e (.call n_pack_Num [(.t 22), (.t 23)]))⟩,
     .op ⟨(some 3), none, (.r (.mv (.t 24)))⟩])))
  (.region [.op ⟨(some 25), none, (.r (.bin .add (.t 18) (.c (.int .i64 (.ofNat 1)))))⟩,
    .op ⟨(some 18), none, (.r (.mv (.t 25)))⟩]))))
/-- depot/task.PutRecord -/
def pf_task_PutRecord : PF := { ntmps := 28, results := [.tmp 2], body :=
  (.seq (.region [.op ⟨(some 1), none, (.n (.box (.t 0)))⟩,
    .op ⟨(some 2), none, (.r (.mv (.c (.str []))))⟩])
  (.seq (.region [.op ⟨(some 3), none, (.r (.mv (.c .nils)))⟩])
  (.seq (.seq (.region [.op ⟨(some 6), none, (.r (.faddr 0 (.t 1)))⟩,
    .op ⟨(some 7), none, (.r (.load false 1 (.t 6)))⟩,
    .op ⟨(some 8), none, (.r (.faddr 1 (.t 1)))⟩,
    .op ⟨(some 9), none, (.r (.load false 1 (.t 8)))⟩,
    .op ⟨(some 10), none, (.r (.faddr 2 (.t 1)))⟩,
    .op ⟨(some 11), none, (.r (.load false 1 (.t 10)))⟩,
    .op ⟨(some 12), none, (.r (.faddr 3 (.t 1)))⟩,
    .op ⟨(some 13), none, (.r (.load false 1 (.t 12)))⟩,
    .op ⟨(some 14), none, (.r (.faddr 4 (.t 1)))⟩,
    .op ⟨(some 15), none, (.r (.load false 1 (.t 14)))⟩,
    .op ⟨(some 16), none, (.n (.bslice 0 1 5 [(.int .i64 (.ofNat 0)), (.int .i64 (.ofNat 0)), (.int .i64 (.ofNat 0)), (.int .i64 (.ofNat 0)), (.int .i64 (.ofNat 0))] [(0, 1, (.t 7)), (1, 1, (.t 9)), (2, 1, (.t 11)), (3, 1, (.t 13)), (4, 1, (.t 15))]))⟩,
    .op ⟨(some 17), none, (.r (.lensl (.t 16)))⟩,
    .op ⟨(some 18), none, (.r (.mv (.c (.int .i64 (.ofNat 0)))))⟩])
  (.block 0 (.loop l0_task_PutRecord)))
  (.seq (.region [.op ⟨(some 26), none, (.r (.mv (.t 3)))⟩,
    .op ⟨(some 27), none, (.r (.b2s (.t 26)))⟩,
    .op ⟨(some 2), none, (.r (.mv (.t 27)))⟩])
  .ret)))) }
theorem tr_task_PutRecord : trF cx Tryd.f68 = pf_task_PutRecord := by kernel_rfl
def l0_gather_New : PC :=
  (.seq (.region [.op ⟨(some 32), none, (.r (.bin .lss (.t 31) (.t 30)))⟩])
  (.seq (.cond (.t 32)
   .skip
   (.exit 0))
  (.seq (.block 1 (.seq (.region [.op ⟨(some 33), none, (.r (.mv (.t 31)))⟩,
     .op ⟨(some 34), none, (.r (.iasl 1 (.t 29) (.t 31)))⟩,
     .op ⟨(some 35), none, (.r (.load false 1 (.t 34)))⟩,
     .op ⟨(some 8), none, (.r (.mv (.t 33)))⟩,
     .op ⟨(some 9), none, (.r (.mv (.t 35)))⟩])
   (.seq (.region [.op ⟨(some 36), none, (.r (.mv (.t 9)))⟩,
     .op ⟨(some 37), none, (.r (.bin .lss (.t 36) (.c (.int .i64 (.ofNat 0)))))⟩,
     .op ⟨(some 38), none, (.r (.mv (.t 37)))⟩,
     .op ⟨(some 39), (some (38, false)), (.r (.mv (.t 9)))⟩,
     .op ⟨(some 40), (some (38, false)), (.r (.bin .geq (.t 39) (.c (.int .i64 (.ofNat 12)))))⟩,
     .op ⟨(some 41), none, (.r (.pick (.t 38) (.c (.bool true)) (.t 40)))⟩,
     .op ⟨(some 42), none, (.r (.mv (.t 41)))⟩,
     .op ⟨(some 43), (some (42, false)), (.r (.mv (.t 2)))⟩,
     .op ⟨(some 44), (some (42, false)), (.r (.mv (.t 8)))⟩,
     .op ⟨(some 45), (some (42, false)), (.r (.slsl 1 (.t 43) none (some (.t 44)) none))⟩,
     .op ⟨(some 46), (some (42, false)), (.r (.mv (.t 9)))⟩,
     .op ⟨(some 47), (some (42, false)), (.e (.call n_slices_Contains_int_int [(.t 45), (.t 46)]))⟩,
     .op ⟨(some 48), none, (.r (.pick (.t 42) (.c (.bool true)) (.t 47)))⟩])
   (.cond (.t 48)
    (.seq (.region [.op ⟨(some 6), none, (.r (.mv (.c .nilp)))⟩,
      .op ⟨(some 7), none, (.r (.mv (.c (.int .i64 (.ofNat 1)))))⟩])
    .ret)
    .skip))))
  (.region [.op ⟨(some 49), none, (.r (.bin .add (.t 31) (.c (.int .i64 (.ofNat 1)))))⟩,
    .op ⟨(some 31), none, (.r (.mv (.t 49)))⟩]))))
/-- depot/gather.New -/
def pf_gather_New : PF := { ntmps := 56, results := [.tmp 6, .tmp 7], body :=
  (.seq (.region [.op ⟨(some 6), none, (.r (.mv (.c .nilp)))⟩,
    .op ⟨(some 7), none, (.r (.mv (.c (.int .i64 (.ofNat 0)))))⟩])
  (.seq (.seq (.region [.op ⟨(some 10), none, (.r (.mv (.t 0)))⟩,
    .op ⟨(some 11), none, (.r (.bin .lss (.t 10) (.c (.int .i64 (.ofNat 1)))))⟩,
    .op ⟨(some 12), none, (.r (.mv (.t 11)))⟩,
    .op ⟨(some 13), (some (12, false)), (.r (.mv (.t 0)))⟩,
    .op ⟨(some 14), (some (12, false)), (.r (.bin .gtr (.t 13) (.c (.int .i64 (.ofNat 8)))))⟩,
    .op ⟨(some 15), none, (.r (.pick (.t 12) (.c (.bool true)) (.t 14)))⟩,
    .op ⟨(some 16), none, (.r (.mv (.t 15)))⟩,
    .op ⟨(some 17), (some (16, false)), (.r (.mv (.t 1)))⟩,
    .op ⟨(some 18), (some (16, false)), (.r (.bin .lss (.t 17) (.c (.int .i64 (.ofNat 0)))))⟩,
    .op ⟨(some 19), none, (.r (.pick (.t 16) (.c (.bool true)) (.t 18)))⟩,
    .op ⟨(some 20), none, (.r (.mv (.t 19)))⟩,
    .op ⟨(some 21), (some (20, false)), (.r (.mv (.t 1)))⟩,
    .op ⟨(some 22), (some (20, false)), (.r (.bin .gtr (.t 21) (.c (.int .i64 (.ofNat 12)))))⟩,
    .op ⟨(some 23), none, (.r (.pick (.t 20) (.c (.bool true)) (.t 22)))⟩,
    .op ⟨(some 24), none, (.r (.mv (.t 23)))⟩,
    .op ⟨(some 25), (some (24, false)), (.r (.mv (.t 2)))⟩,
    .op ⟨(some 26), (some (24, false)), (.r (.lensl (.t 25)))⟩,
    .op ⟨(some 27), (some (24, false)), (.r (.bin .gtr (.t 26) (.c (.int .i64 (.ofNat 12)))))⟩,
    .op ⟨(some 28), none, (.r (.pick (.t 24) (.c (.bool true)) (.t 27)))⟩])
  (.cond (.t 28)
   (.seq (.region [.op ⟨(some 6), none, (.r (.mv (.c .nilp)))⟩,
     .op ⟨(some 7), none, (.r (.mv (.c (.int .i64 (.ofNat 1)))))⟩])
   .ret)
   .skip))
  (.seq (.seq (.region [.op ⟨(some 29), none, (.r (.mv (.t 2)))⟩,
    .op ⟨(some 30), none, (.r (.lensl (.t 29)))⟩,
    .op ⟨(some 31), none, (.r (.mv (.c (.int .i64 (.ofNat 0)))))⟩])
  (.block 0 (.loop l0_gather_New)))
  (.seq (.region [.op ⟨(some 50), none, (.r (.mv (.t 0)))⟩,
    .op ⟨(some 51), none, (.r (.mv (.t 1)))⟩,
    .op ⟨(some 52), none, (.r (.mv (.t 2)))⟩,
    .op ⟨(some 53), none, (.e (.call n_slices_Clone_int_int [(.t 52)]))⟩,
    .op ⟨(some 54), none, (.r (.build [(.int .i64 (.ofNat 0)), (.int .i64 (.ofNat 0)), .nils, (.int .i64 (.ofNat 0)), (.int .i64 (.ofNat 0)), .nils] [(0, 1, (.t 50)), (1, 1, (.t 51)), (2, 1, (.t 53))]))⟩,
    .op ⟨(some 55), none, (.n (.box (.t 54)))⟩,
    .op ⟨(some 6), none, (.r (.mv (.t 55)))⟩,
    .op ⟨(some 7), none, (.r (.mv (.c (.int .i64 (.ofNat 0)))))⟩])
  .ret)))) }
theorem tr_gather_New : trF cx Tryd.f69 = pf_gather_New := by kernel_rfl
/-- depot/when.Deadline -/
def pf_when_Deadline : PF := { ntmps := 20, results := [.tmp 4], body :=
  (.seq (.region [.op ⟨(some 4), none, (.r (.mv (.c (.int .i64 (.ofNat 0)))))⟩])
  (.seq (.block 0 (.seq (.region [.op ⟨(some 6), none, (.r (.mv (.t 0)))⟩,
     .op ⟨(some 7), none, (.r (.bin .eql (.t 6) (.c (.int .i64 (.ofNat 0)))))⟩,
     .op ⟨(some 5), none, (.r (.mv (.t 7)))⟩])
   (.cond (.t 5)
    (.seq (.region [.op ⟨(some 4), none, (.r (.mv (.c (.int .i64 (.ofNat 0)))))⟩])
    .ret)
    (.seq (.region [.op ⟨(some 9), none, (.r (.mv (.t 0)))⟩,
      .op ⟨(some 10), none, (.r (.bin .lss (.t 9) (.c (.int .i64 (.ofNat 0)))))⟩,
      .op ⟨(some 8), none, (.r (.mv (.t 10)))⟩])
    (.cond (.t 8)
     (.seq (.region [.op ⟨(some 4), none, (.r (.mv (.c (.int .i64 (.negSucc 0)))))⟩])
     .ret)
     (.seq (.region [.op ⟨(some 12), none, (.r (.mv (.t 0)))⟩,
       .op ⟨(some 13), none, (.r (.bin .leq (.t 12) (.c (.int .i64 (.ofNat 2592000)))))⟩,
       .op ⟨(some 11), none, (.r (.mv (.t 13)))⟩])
     (.cond (.t 11)
      (.seq (.region [.op ⟨(some 14), none, (.r (.mv (.t 0)))⟩,
        .op ⟨(some 15), none, (.r (.mv (.t 1)))⟩,
        .op ⟨(some 16), none, (.e (.call n_when_time [(.t 15)]))⟩,
        .op ⟨(some 17), none, (.r (.bin .add (.t 14) (.t 16)))⟩,
        .op ⟨(some 4), none, (.r (.mv (.t 17)))⟩])
      .ret)
      .skip)))))))
  (.seq (.region [.op ⟨(some 18), none, (.r (.mv (.t 0)))⟩,
    .op ⟨(some 19), none, (.e (.call n_when_time [(.t 18)]))⟩,
    .op ⟨(some 4), none, (.r (.mv (.t 19)))⟩])
  .ret))) }
theorem tr_when_Deadline : trF cx Tryd.f70 = pf_when_Deadline := by kernel_rfl
/-- depot/model.Next$1 -/
def pf_model_Next_1 : PF := { ntmps := 5, results := [.cell 2 true 9], body :=
  (.seq (.region [.op ⟨(some 2), none, (.n (.new 0 [(.int .i64 (.ofNat 0)), .nils, (.bool false), (.int .u64 (.ofNat 0)), (.str []), (.int .i64 (.ofNat 0)), (.int .i64 (.ofNat 0)), (.int .i64 (.ofNat 0)), (.int .i64 (.ofNat 0))]))⟩])
  (.seq (.region [.op ⟨(some 3), none, (.r (.mv (.t 0)))⟩,
    .op ⟨(some 4), none, (.r (.build [(.int .i64 (.ofNat 0)), .nils, (.bool false), (.int .u64 (.ofNat 0)), (.str []), (.int .i64 (.ofNat 0)), (.int .i64 (.ofNat 0)), (.int .i64 (.ofNat 0)), (.int .i64 (.ofNat 0))] [(0, 1, (.t 3))]))⟩,
    .op ⟨none, none, (.e (.store 9 (.t 2) (.t 4)))⟩])
  .ret)) }
theorem tr_model_Next_1 : trF cx Tryd.f71 = pf_model_Next_1 := by kernel_rfl
/-- depot/model.join -/
def pf_model_join : PF := { ntmps := 38, results := [.cell 6 true 9, .cell 7 true 5, .tmp 8], body :=
  (.seq (.region [.op ⟨(some 3), none, (.n (.box (.t 0)))⟩,
    .op ⟨(some 4), none, (.n (.box (.t 1)))⟩,
    .op ⟨(some 6), none, (.n (.new 0 [(.int .i64 (.ofNat 0)), .nils, (.bool false), (.int .u64 (.ofNat 0)), (.str []), (.int .i64 (.ofNat 0)), (.int .i64 (.ofNat 0)), (.int .i64 (.ofNat 0)), (.int .i64 (.ofNat 0))]))⟩,
    .op ⟨(some 7), none, (.n (.new 0 [(.str []), (.int .i64 (.ofNat 0)), (.int .i64 (.ofNat 0)), (.str []), (.int .i64 (.ofNat 0))]))⟩,
    .op ⟨(some 8), none, (.r (.mv (.c (.bool false))))⟩])
  (.seq (.seq (.region [.op ⟨(some 9), none, (.r (.faddr 3 (.t 4)))⟩,
    .op ⟨(some 10), none, (.r (.load false 1 (.t 9)))⟩,
    .op ⟨(some 11), none, (.r (.lens (.t 10)))⟩,
    .op ⟨(some 12), none, (.r (.faddr 8 (.t 3)))⟩,
    .op ⟨(some 13), none, (.r (.load false 1 (.t 12)))⟩,
    .op ⟨(some 14), none, (.r (.lens (.t 13)))⟩,
    .op ⟨(some 15), none, (.r (.bin .add (.t 11) (.t 14)))⟩,
    .op ⟨(some 16), none, (.r (.bin .gtr (.t 15) (.c (.int .i64 (.ofNat 1048576)))))⟩])
  (.cond (.t 16)
   (.seq (.region [.op ⟨(some 17), none, (.r (.build [(.int .i64 (.ofNat 0)), .nils, (.bool false), (.int .u64 (.ofNat 0)), (.str []), (.int .i64 (.ofNat 0)), (.int .i64 (.ofNat 0)), (.int .i64 (.ofNat 0)), (.int .i64 (.ofNat 0))] [(0, 1, (.c (.int .i64 (.ofNat 14)))), (4, 1, (.c (.str [111, 98, 106, 101, 99, 116, 32, 116, 111, 111, 32, 108, 97, 114, 103, 101, 32, 102, 111, 114, 32, 99, 97, 99, 104, 101])))]))⟩,
     .op ⟨(some 18), none, (.r (.load true 5 (.t 4)))⟩,
     .op ⟨none, none, (.e (.store 9 (.t 6) (.t 17)))⟩,
     .again ⟨(some 18), none, (.r (.load true 5 (.t 4)))⟩,
     .op ⟨none, none, (.e (.store 5 (.t 7) (.t 18)))⟩,
     .op ⟨(some 8), none, (.r (.mv (.c (.bool false))))⟩])
   .ret)
   .skip))
  (.seq (.seq (.region [.op ⟨(some 19), none, (.r (.faddr 0 (.t 3)))⟩,
    .op ⟨(some 20), none, (.r (.load false 1 (.t 19)))⟩,
    .op ⟨(some 21), none, (.r (.bin .eql (.t 20) (.c (.int .i64 (.ofNat 6)))))⟩])
  (.cond (.t 21)
   (.region [.op ⟨(some 22), none, (.r (.faddr 3 (.t 4)))⟩,
     .op ⟨(some 23), none, (.r (.load false 1 (.t 22)))⟩,
     .op ⟨(some 24), none, (.r (.faddr 8 (.t 3)))⟩,
     .op ⟨(some 25), none, (.r (.load false 1 (.t 24)))⟩,
     .op ⟨(some 26), none, (.r (.bin .add (.t 23) (.t 25)))⟩,
     .op ⟨(some 27), none, (.r (.faddr 3 (.t 4)))⟩,
     .op ⟨none, none, (.e (.store 1 (.t 27) (.t 26)))⟩])
   (.region [.op ⟨(some 28), none, (.r (.faddr 8 (.t 3)))⟩,
     .op ⟨(some 29), none, (.r (.load false 1 (.t 28)))⟩,
     .op ⟨(some 30), none, (.r (.faddr 3 (.t 4)))⟩,
     .op ⟨(some 31), none, (.r (.load false 1 (.t 30)))⟩,
     .op ⟨(some 32), none, (.r (.bin .add (.t 29) (.t 31)))⟩,
     .op ⟨(some 33), none, (.r (.faddr 3 (.t 4)))⟩,
     .op ⟨none, none, (.e (.store 1 (.t 33) (.t 32)))⟩])))
  (.seq (.region [.op ⟨(some 34), none, (.r (.mv (.t 2)))⟩,
    .op ⟨(some 35), none, (.r (.faddr 4 (.t 4)))⟩,
    .op ⟨none, none, (.e (.store 1 (.t 35) (.t 34)))⟩])
  (.seq (.region [.op ⟨(some 36), none, (.r (.build [(.int .i64 (.ofNat 0)), .nils, (.bool false), (.int .u64 (.ofNat 0)), (.str []), (.int .i64 (.ofNat 0)), (.int .i64 (.ofNat 0)), (.int .i64 (.ofNat 0)), (.int .i64 (.ofNat 0))] [(0, 1, (.c (.int .i64 (.ofNat 2))))]))⟩,
    .op ⟨(some 37), none, (.r (.load true 5 (.t 4)))⟩,
    .op ⟨none, none, (.e (.store 9 (.t 6) (.t 36)))⟩,
    .again ⟨(some 37), none, (.r (.load true 5 (.t 4)))⟩,
    .op ⟨none, none, (.e (.store 5 (.t 7) (.t 37)))⟩,
    .op ⟨(some 8), none, (.r (.mv (.c (.bool true))))⟩])
  .ret))))) }
theorem tr_model_join : trF cx Tryd.f72 = pf_model_join := by kernel_rfl
/-- depot/model.count -/
def pf_model_count : PF := { ntmps := 42, results := [.cell 6 true 9, .cell 7 true 5, .tmp 8], body :=
  (.seq (.region [.op ⟨(some 3), none, (.n (.box (.t 0)))⟩,
    .op ⟨(some 4), none, (.n (.box (.t 1)))⟩,
    .op ⟨(some 6), none, (.n (.new 0 [(.int .i64 (.ofNat 0)), .nils, (.bool false), (.int .u64 (.ofNat 0)), (.str []), (.int .i64 (.ofNat 0)), (.int .i64 (.ofNat 0)), (.int .i64 (.ofNat 0)), (.int .i64 (.ofNat 0))]))⟩,
    .op ⟨(some 7), none, (.n (.new 0 [(.str []), (.int .i64 (.ofNat 0)), (.int .i64 (.ofNat 0)), (.str []), (.int .i64 (.ofNat 0))]))⟩,
    .op ⟨(some 8), none, (.r (.mv (.c (.bool false))))⟩])
  (.seq (.region [.op ⟨(some 12), none, (.r (.faddr 3 (.t 4)))⟩,
    .op ⟨(some 13), none, (.r (.load false 1 (.t 12)))⟩,
    .op ⟨(some 14), none, (.e (.call n_words_Number [(.t 13), (.c (.int .u64 (.ofNat 18446744073709551615)))]))⟩,
    .op ⟨(some 11), none, (.r (.mv (.t 14)))⟩,
    .op ⟨(some 15), none, (.r (.ext 0 (.t 11)))⟩,
    .op ⟨(some 16), none, (.r (.ext 1 (.t 11)))⟩,
    .op ⟨(some 9), none, (.r (.mv (.t 15)))⟩,
    .op ⟨(some 10), none, (.r (.mv (.t 16)))⟩])
  (.seq (.seq (.region [.op ⟨(some 17), none, (.r (.mv (.t 10)))⟩,
    .op ⟨(some 18), none, (.r (.un .not (.t 17)))⟩])
  (.cond (.t 18)
   (.seq (.region [.op ⟨(some 19), none, (.r (.build [(.int .i64 (.ofNat 0)), .nils, (.bool false), (.int .u64 (.ofNat 0)), (.str []), (.int .i64 (.ofNat 0)), (.int .i64 (.ofNat 0)), (.int .i64 (.ofNat 0)), (.int .i64 (.ofNat 0))] [(0, 1, (.c (.int .i64 (.ofNat 13)))), (4, 1, (.c (.str [99, 97, 110, 110, 111, 116, 32, 105, 110, 99, 114, 101, 109, 101, 110, 116, 32, 111, 114, 32, 100, 101, 99, 114, 101, 109, 101, 110, 116, 32, 110, 111, 110, 45, 110, 117, 109, 101, 114, 105, 99, 32, 118, 97, 108, 117, 101])))]))⟩,
     .op ⟨(some 20), none, (.r (.load true 5 (.t 4)))⟩,
     .op ⟨none, none, (.e (.store 9 (.t 6) (.t 19)))⟩,
     .again ⟨(some 20), none, (.r (.load true 5 (.t 4)))⟩,
     .op ⟨none, none, (.e (.store 5 (.t 7) (.t 20)))⟩,
     .op ⟨(some 8), none, (.r (.mv (.c (.bool false))))⟩])
   .ret)
   .skip))
  (.seq (.seq (.region [.op ⟨(some 21), none, (.r (.faddr 0 (.t 3)))⟩,
    .op ⟨(some 22), none, (.r (.load false 1 (.t 21)))⟩,
    .op ⟨(some 23), none, (.r (.bin .eql (.t 22) (.c (.int .i64 (.ofNat 10)))))⟩])
  (.cond (.t 23)
   (.region [.op ⟨(some 24), none, (.r (.mv (.t 9)))⟩,
     .op ⟨(some 25), none, (.r (.faddr 6 (.t 3)))⟩,
     .op ⟨(some 26), none, (.r (.load false 1 (.t 25)))⟩,
     .op ⟨(some 27), none, (.r (.bin .add (.t 24) (.t 26)))⟩,
     .op ⟨(some 9), none, (.r (.mv (.t 27)))⟩])
   (.region [.op ⟨(some 28), none, (.r (.mv (.t 9)))⟩,
     .op ⟨(some 29), none, (.r (.mv (.t 9)))⟩,
     .op ⟨(some 30), none, (.r (.faddr 6 (.t 3)))⟩,
     .op ⟨(some 31), none, (.r (.load false 1 (.t 30)))⟩,
     .op ⟨(some 32), none, (.r (.minmax false [(.t 29), (.t 31)]))⟩,
     .op ⟨(some 33), none, (.r (.bin .sub (.t 28) (.t 32)))⟩,
     .op ⟨(some 9), none, (.r (.mv (.t 33)))⟩])))
  (.seq (.region [.op ⟨(some 34), none, (.r (.mv (.t 9)))⟩,
    .op ⟨(some 35), none, (.e (.call n_strconv_FormatUint [(.t 34), (.c (.int .i64 (.ofNat 10)))]))⟩,
    .op ⟨(some 36), none, (.r (.mv (.t 2)))⟩,
    .op ⟨(some 37), none, (.r (.faddr 3 (.t 4)))⟩,
    .op ⟨none, none, (.e (.store 1 (.t 37) (.t 35)))⟩,
    .op ⟨(some 38), none, (.r (.faddr 4 (.t 4)))⟩,
    .op ⟨none, none, (.e (.store 1 (.t 38) (.t 36)))⟩])
  (.seq (.region [.op ⟨(some 39), none, (.r (.mv (.t 9)))⟩,
    .op ⟨(some 40), none, (.r (.build [(.int .i64 (.ofNat 0)), .nils, (.bool false), (.int .u64 (.ofNat 0)), (.str []), (.int .i64 (.ofNat 0)), (.int .i64 (.ofNat 0)), (.int .i64 (.ofNat 0)), (.int .i64 (.ofNat 0))] [(0, 1, (.c (.int .i64 (.ofNat 8)))), (3, 1, (.t 39))]))⟩,
    .op ⟨(some 41), none, (.r (.load true 5 (.t 4)))⟩,
    .op ⟨none, none, (.e (.store 9 (.t 6) (.t 40)))⟩,
    .again ⟨(some 41), none, (.r (.load true 5 (.t 4)))⟩,
    .op ⟨none, none, (.e (.store 5 (.t 7) (.t 41)))⟩,
    .op ⟨(some 8), none, (.r (.mv (.c (.bool true))))⟩])
  .ret)))))) }
theorem tr_model_count : trF cx Tryd.f73 = pf_model_count := by kernel_rfl
def l0_matrix_Right : PC :=
  (.seq (.region [.op ⟨(some 30), none, (.r (.bin .lss (.t 29) (.t 28)))⟩])
  (.seq (.cond (.t 30)
   .skip
   (.exit 0))
  (.seq (.block 1 (.seq (.region [.op ⟨(some 31), none, (.r (.iasl 1 (.t 27) (.t 29)))⟩,
     .op ⟨(some 32), none, (.r (.load false 1 (.t 31)))⟩,
     .op ⟨(some 4), none, (.r (.mv (.t 32)))⟩])
   (.seq (.region [.op ⟨(some 33), none, (.r (.mv (.t 4)))⟩,
     .op ⟨(some 34), none, (.r (.lensl (.t 33)))⟩,
     .op ⟨(some 35), none, (.r (.mv (.t 0)))⟩,
     .op ⟨(some 36), none, (.r (.iasl 1 (.t 35) (.c (.int .i64 (.ofNat 0)))))⟩,
     .op ⟨(some 37), none, (.r (.load false 1 (.t 36)))⟩,
     .op ⟨(some 38), none, (.r (.lensl (.t 37)))⟩,
     .op ⟨(some 39), none, (.r (.bin .neq (.t 34) (.t 38)))⟩])
   (.cond (.t 39)
    (.seq (.region [.op ⟨(some 2), none, (.r (.mv (.c (.bool false))))⟩])
    .ret)
    .skip))))
  (.region [.op ⟨(some 40), none, (.r (.bin .add (.t 29) (.c (.int .i64 (.ofNat 1)))))⟩,
    .op ⟨(some 29), none, (.r (.mv (.t 40)))⟩]))))
/-- depot/matrix.Right -/
def pf_matrix_Right : PF := { ntmps := 41, results := [.tmp 2], body :=
  (.seq (.region [.op ⟨(some 2), none, (.r (.mv (.c (.bool false))))⟩])
  (.seq (.seq (.region [.op ⟨(some 5), none, (.r (.mv (.t 0)))⟩,
    .op ⟨(some 6), none, (.r (.lensl (.t 5)))⟩,
    .op ⟨(some 7), none, (.r (.bin .lss (.t 6) (.c (.int .i64 (.ofNat 1)))))⟩,
    .op ⟨(some 8), none, (.r (.mv (.t 7)))⟩,
    .op ⟨(some 9), (some (8, false)), (.r (.mv (.t 0)))⟩,
    .op ⟨(some 10), (some (8, false)), (.r (.lensl (.t 9)))⟩,
    .op ⟨(some 11), (some (8, false)), (.r (.bin .gtr (.t 10) (.c (.int .i64 (.ofNat 12)))))⟩,
    .op ⟨(some 12), none, (.r (.pick (.t 8) (.c (.bool true)) (.t 11)))⟩,
    .op ⟨(some 13), none, (.r (.mv (.t 12)))⟩,
    .op ⟨(some 14), (some (13, false)), (.r (.mv (.t 0)))⟩,
    .op ⟨(some 15), (some (13, false)), (.r (.iasl 1 (.t 14) (.c (.int .i64 (.ofNat 0)))))⟩,
    .op ⟨(some 16), (some (13, false)), (.r (.load false 1 (.t 15)))⟩,
    .op ⟨(some 17), (some (13, false)), (.r (.lensl (.t 16)))⟩,
    .op ⟨(some 18), (some (13, false)), (.r (.bin .lss (.t 17) (.c (.int .i64 (.ofNat 1)))))⟩,
    .op ⟨(some 19), none, (.r (.pick (.t 13) (.c (.bool true)) (.t 18)))⟩,
    .op ⟨(some 20), none, (.r (.mv (.t 19)))⟩,
    .op ⟨(some 21), (some (20, false)), (.r (.mv (.t 0)))⟩,
    .op ⟨(some 22), (some (20, false)), (.r (.iasl 1 (.t 21) (.c (.int .i64 (.ofNat 0)))))⟩,
    .op ⟨(some 23), (some (20, false)), (.r (.load false 1 (.t 22)))⟩,
    .op ⟨(some 24), (some (20, false)), (.r (.lensl (.t 23)))⟩,
    .op ⟨(some 25), (some (20, false)), (.r (.bin .gtr (.t 24) (.c (.int .i64 (.ofNat 12)))))⟩,
    .op ⟨(some 26), none, (.r (.pick (.t 20) (.c (.bool true)) (.t 25)))⟩])
  (.cond (.t 26)
   (.seq (.region [.op ⟨(some 2), none, (.r (.mv (.c (.bool false))))⟩])
   .ret)
   .skip))
  (.seq (.seq (.region [.op ⟨(some 27), none, (.r (.mv (.t 0)))⟩,
    .op ⟨(some 28), none, (.r (.lensl (.t 27)))⟩,
    .op ⟨(some 29), none, (.r (.mv (.c (.int .i64 (.ofNat 0)))))⟩])
  (.block 0 (.loop l0_matrix_Right)))
  (.seq (.region [.op ⟨(some 2), none, (.r (.mv (.c (.bool true))))⟩])
  .ret)))) }
theorem tr_matrix_Right : trF cx Tryd.f74 = pf_matrix_Right := by kernel_rfl
def l0_matrix_copied : PC :=
  (.seq (.region [.op ⟨(some 11), none, (.r (.bin .lss (.t 10) (.t 9)))⟩])
  (.seq (.cond (.t 11)
   .skip
   (.exit 0))
  (.seq (.block 1 (.seq (.region [.op ⟨(some 12), none, (.r (.mv (.t 10)))⟩,
     .op ⟨(some 4), none, (.r (.mv (.t 12)))⟩])
   (.region [.op ⟨(some 13), none, (.r (.mv (.t 3)))⟩,
     .op ⟨(some 14), none, (.r (.mv (.t 4)))⟩,
     .op ⟨(some 15), none, (.r (.mv (.t 0)))⟩,
     .op ⟨(some 16), none, (.r (.mv (.t 4)))⟩,
     .op ⟨(some 17), none, (.r (.iasl 1 (.t 15) (.t 16)))⟩,
     .op ⟨(some 18), none, (.r (.load false 1 (.t 17)))⟩,
     .op ⟨(some 19), none, (.e (.call n_slices_Clone_byte_byte [(.t 18)]))⟩,
     .op ⟨(some 20), none, (.r (.iasl 1 (.t 13) (.t 14)))⟩,
     .op ⟨none, none, (.e (.store 1 (.t 20) (.t 19)))⟩])))
  (.region [.op ⟨(some 21), none, (.r (.bin .add (.t 10) (.c (.int .i64 (.ofNat 1)))))⟩,
    .op ⟨(some 10), none, (.r (.mv (.t 21)))⟩]))))
/-- depot/matrix.copied -/
def pf_matrix_copied : PF := { ntmps := 23, results := [.tmp 2], body :=
  (.seq (.region [.op ⟨(some 2), none, (.r (.mv (.c .nils)))⟩])
  (.seq (.region [.op ⟨(some 5), none, (.r (.mv (.t 0)))⟩,
    .op ⟨(some 6), none, (.r (.lensl (.t 5)))⟩,
    .op ⟨(some 7), none, (.n (.mksl 0 1 24 [.nils] (.t 6) (.t 6)))⟩,
    .op ⟨(some 3), none, (.r (.mv (.t 7)))⟩])
  (.seq (.seq (.region [.op ⟨(some 8), none, (.r (.mv (.t 0)))⟩,
    .op ⟨(some 9), none, (.r (.lensl (.t 8)))⟩,
    .op ⟨(some 10), none, (.r (.mv (.c (.int .i64 (.ofNat 0)))))⟩])
  (.block 0 (.loop l0_matrix_copied)))
  (.seq (.region [.op ⟨(some 22), none, (.r (.mv (.t 3)))⟩,
    .op ⟨(some 2), none, (.r (.mv (.t 22)))⟩])
  .ret)))) }
theorem tr_matrix_copied : trF cx Tryd.f75 = pf_matrix_copied := by kernel_rfl
def l0_matrix_reduce : PC :=
  (.seq (.region [.op ⟨(some 61), none, (.r (.bin .lss (.t 60) (.t 59)))⟩])
  (.seq (.cond (.t 61)
   .skip
   (.exit 4))
  (.seq (.block 5 (.seq (.region [.op ⟨(some 62), none, (.r (.mv (.t 60)))⟩,
     .op ⟨(some 11), none, (.r (.mv (.t 62)))⟩])
   (.region [.op ⟨(some 63), none, (.r (.mv (.t 1)))⟩,
     .op ⟨(some 64), none, (.r (.mv (.t 7)))⟩,
     .op ⟨(some 65), none, (.r (.iasl 1 (.t 63) (.t 64)))⟩,
     .op ⟨(some 66), none, (.r (.load false 1 (.t 65)))⟩,
     .op ⟨(some 67), none, (.r (.mv (.t 11)))⟩,
     .op ⟨(some 68), none, (.r (.mv (.t 0)))⟩,
     .op ⟨(some 69), none, (.r (.mv (.t 1)))⟩,
     .op ⟨(some 70), none, (.r (.mv (.t 7)))⟩,
     .op ⟨(some 71), none, (.r (.iasl 1 (.t 69) (.t 70)))⟩,
     .op ⟨(some 72), none, (.r (.load false 1 (.t 71)))⟩,
     .op ⟨(some 73), none, (.r (.mv (.t 11)))⟩,
     .op ⟨(some 74), none, (.r (.iasl 1 (.t 72) (.t 73)))⟩,
     .op ⟨(some 75), none, (.r (.load false 1 (.t 74)))⟩,
     .op ⟨(some 76), none, (.r (.mv (.t 10)))⟩,
     .op ⟨(some 77), none, (.e (.call n_gf_Mul [(.t 68), (.t 75), (.t 76)]))⟩,
     .again ⟨(some 66), none, (.r (.load false 1 (.t 65)))⟩,
     .op ⟨(some 78), none, (.r (.iasl 1 (.t 66) (.t 67)))⟩,
     .op ⟨none, none, (.e (.store 1 (.t 78) (.t 77)))⟩])))
  (.region [.op ⟨(some 79), none, (.r (.bin .add (.t 60) (.c (.int .i64 (.ofNat 1)))))⟩,
    .op ⟨(some 60), none, (.r (.mv (.t 79)))⟩]))))
def l1_matrix_reduce : PC :=
  (.seq (.region [.op ⟨(some 83), none, (.r (.bin .lss (.t 82) (.t 81)))⟩])
  (.seq (.cond (.t 83)
   .skip
   (.exit 6))
  (.seq (.block 7 (.seq (.region [.op ⟨(some 84), none, (.r (.mv (.t 82)))⟩,
     .op ⟨(some 12), none, (.r (.mv (.t 84)))⟩])
   (.seq (.region [.op ⟨(some 85), none, (.r (.mv (.t 12)))⟩,
     .op ⟨(some 86), none, (.r (.mv (.t 7)))⟩,
     .op ⟨(some 87), none, (.r (.bin .neq (.t 85) (.t 86)))⟩])
   (.cond (.t 87)
    (.region [.op ⟨(some 88), none, (.r (.mv (.t 0)))⟩,
      .op ⟨(some 89), none, (.r (.mv (.t 1)))⟩,
      .op ⟨(some 90), none, (.r (.mv (.t 12)))⟩,
      .op ⟨(some 91), none, (.r (.iasl 1 (.t 89) (.t 90)))⟩,
      .op ⟨(some 92), none, (.r (.load false 1 (.t 91)))⟩,
      .op ⟨(some 93), none, (.r (.mv (.t 1)))⟩,
      .op ⟨(some 94), none, (.r (.mv (.t 7)))⟩,
      .op ⟨(some 95), none, (.r (.iasl 1 (.t 93) (.t 94)))⟩,
      .op ⟨(some 96), none, (.r (.load false 1 (.t 95)))⟩,
      .op ⟨(some 97), none, (.r (.mv (.t 1)))⟩,
      .op ⟨(some 98), none, (.r (.mv (.t 12)))⟩,
      .op ⟨(some 99), none, (.r (.iasl 1 (.t 97) (.t 98)))⟩,
      .op ⟨(some 100), none, (.r (.load false 1 (.t 99)))⟩,
      .op ⟨(some 101), none, (.r (.mv (.t 8)))⟩,
      .op ⟨(some 102), none, (.r (.iasl 1 (.t 100) (.t 101)))⟩,
      .op ⟨(some 103), none, (.r (.load false 1 (.t 102)))⟩,
      .op ⟨(some 104), none, (.e (.call n_matrix_add [(.t 88), (.t 92), (.t 96), (.t 103)]))⟩])
    .skip))))
  (.region [.op ⟨(some 105), none, (.r (.bin .add (.t 82) (.c (.int .i64 (.ofNat 1)))))⟩,
    .op ⟨(some 82), none, (.r (.mv (.t 105)))⟩]))))
def l2_matrix_reduce : PC :=
  (.seq (.seq (.region [.op ⟨(some 18), none, (.r (.mv (.t 9)))⟩,
    .op ⟨(some 19), none, (.r (.mv (.t 1)))⟩,
    .op ⟨(some 20), none, (.r (.lensl (.t 19)))⟩,
    .op ⟨(some 21), none, (.r (.bin .lss (.t 18) (.t 20)))⟩])
  (.cond (.t 21)
   .skip
   (.exit 2)))
  (.seq (.block 3 (.seq (.seq (.region [.op ⟨(some 24), none, (.r (.mv (.t 1)))⟩,
     .op ⟨(some 25), none, (.r (.mv (.t 9)))⟩,
     .op ⟨(some 26), none, (.r (.iasl 1 (.t 24) (.t 25)))⟩,
     .op ⟨(some 27), none, (.r (.load false 1 (.t 26)))⟩,
     .op ⟨(some 28), none, (.r (.mv (.t 8)))⟩,
     .op ⟨(some 29), none, (.r (.iasl 1 (.t 27) (.t 28)))⟩,
     .op ⟨(some 30), none, (.r (.load false 1 (.t 29)))⟩,
     .op ⟨(some 31), none, (.r (.bin .eql (.t 30) (.c (.int .u8 (.ofNat 0)))))⟩])
   (.cond (.t 31)
    (.exit 3)
    .skip))
   (.seq (.region [.op ⟨(some 32), none, (.r (.mv (.t 1)))⟩,
     .op ⟨(some 33), none, (.r (.mv (.t 7)))⟩,
     .op ⟨(some 34), none, (.r (.mv (.t 1)))⟩,
     .op ⟨(some 35), none, (.r (.mv (.t 9)))⟩,
     .op ⟨(some 36), none, (.r (.mv (.t 1)))⟩,
     .op ⟨(some 37), none, (.r (.mv (.t 9)))⟩,
     .op ⟨(some 38), none, (.r (.iasl 1 (.t 36) (.t 37)))⟩,
     .op ⟨(some 39), none, (.r (.load false 1 (.t 38)))⟩,
     .op ⟨(some 40), none, (.r (.mv (.t 1)))⟩,
     .op ⟨(some 41), none, (.r (.mv (.t 7)))⟩,
     .op ⟨(some 42), none, (.r (.iasl 1 (.t 40) (.t 41)))⟩,
     .op ⟨(some 43), none, (.r (.load false 1 (.t 42)))⟩,
     .op ⟨(some 44), none, (.r (.iasl 1 (.t 32) (.t 33)))⟩,
     .op ⟨none, none, (.e (.store 1 (.t 44) (.t 39)))⟩,
     .op ⟨(some 45), none, (.r (.iasl 1 (.t 34) (.t 35)))⟩,
     .op ⟨none, none, (.e (.store 1 (.t 45) (.t 43)))⟩])
   (.seq (.region [.op ⟨(some 46), none, (.r (.mv (.t 0)))⟩,
     .op ⟨(some 47), none, (.r (.mv (.t 1)))⟩,
     .op ⟨(some 48), none, (.r (.mv (.t 7)))⟩,
     .op ⟨(some 49), none, (.r (.iasl 1 (.t 47) (.t 48)))⟩,
     .op ⟨(some 50), none, (.r (.load false 1 (.t 49)))⟩,
     .op ⟨(some 51), none, (.r (.mv (.t 8)))⟩,
     .op ⟨(some 52), none, (.r (.iasl 1 (.t 50) (.t 51)))⟩,
     .op ⟨(some 53), none, (.r (.load false 1 (.t 52)))⟩,
     .op ⟨(some 54), none, (.e (.call n_gf_Inv [(.t 46), (.t 53)]))⟩,
     .op ⟨(some 10), none, (.r (.mv (.t 54)))⟩])
   (.seq (.seq (.region [.op ⟨(some 55), none, (.r (.mv (.t 1)))⟩,
     .op ⟨(some 56), none, (.r (.mv (.t 7)))⟩,
     .op ⟨(some 57), none, (.r (.iasl 1 (.t 55) (.t 56)))⟩,
     .op ⟨(some 58), none, (.r (.load false 1 (.t 57)))⟩,
     .op ⟨(some 59), none, (.r (.lensl (.t 58)))⟩,
     .op ⟨(some 60), none, (.r (.mv (.c (.int .i64 (.ofNat 0)))))⟩])
   (.block 4 (.loop l0_matrix_reduce)))
   (.seq (.seq (.region [.op ⟨(some 80), none, (.r (.mv (.t 1)))⟩,
     .op ⟨(some 81), none, (.r (.lensl (.t 80)))⟩,
     .op ⟨(some 82), none, (.r (.mv (.c (.int .i64 (.ofNat 0)))))⟩])
   (.block 6 (.loop l1_matrix_reduce)))
   (.seq (.region [.op ⟨(some 106), none, (.r (.mv (.t 7)))⟩,
     .op ⟨(some 107), none, (.r (.bin .add (.t 106) (.c (.int .i64 (.ofNat 1)))))⟩,
     .op ⟨(some 7), none, (.r (.mv (.t 107)))⟩])
   (.exit 1))))))))
  (.region [.op ⟨(some 22), none, (.r (.mv (.t 9)))⟩,
    .op ⟨(some 23), none, (.r (.bin .add (.t 22) (.c (.int .i64 (.ofNat 1)))))⟩,
    .op ⟨(some 9), none, (.r (.mv (.t 23)))⟩])))
def l3_matrix_reduce : PC :=
  (.seq (.region [.op ⟨(some 15), none, (.r (.bin .lss (.t 14) (.t 13)))⟩])
  (.seq (.cond (.t 15)
   .skip
   (.exit 0))
  (.seq (.block 1 (.seq (.region [.op ⟨(some 16), none, (.r (.mv (.t 14)))⟩,
     .op ⟨(some 8), none, (.r (.mv (.t 16)))⟩])
   (.seq (.region [.op ⟨(some 17), none, (.r (.mv (.t 7)))⟩,
     .op ⟨(some 9), none, (.r (.mv (.t 17)))⟩])
   (.block 2 (.loop l2_matrix_reduce)))))
  (.region [.op ⟨(some 108), none, (.r (.bin .add (.t 14) (.c (.int .i64 (.ofNat 1)))))⟩,
    .op ⟨(some 14), none, (.r (.mv (.t 108)))⟩]))))
/-- depot/matrix.reduce -/
def pf_matrix_reduce : PF := { ntmps := 110, results := [.tmp 6], body :=
  (.seq (.region [.op ⟨(some 6), none, (.r (.mv (.c (.int .i64 (.ofNat 0)))))⟩])
  (.scope (.seq (.region [.op ⟨(some 7), none, (.r (.mv (.c (.int .i64 (.ofNat 0)))))⟩])
   (.seq .skip
   (.seq (.seq (.region [.op ⟨(some 13), none, (.r (.mv (.t 2)))⟩,
     .op ⟨(some 14), none, (.r (.mv (.c (.int .i64 (.ofNat 0)))))⟩])
   (.block 0 (.loop l3_matrix_reduce)))
   (.seq (.region [.op ⟨(some 109), none, (.r (.mv (.t 7)))⟩,
     .op ⟨(some 6), none, (.r (.mv (.t 109)))⟩])
   .ret)))))) }
theorem tr_matrix_reduce : trF cx Tryd.f76 = pf_matrix_reduce := by kernel_rfl
/-- slices.Clone[[]byte,byte] -/
def pf_slices_Clone_byte_byte : PF := { ntmps := 8, results := [.tmp 2], body :=
  (.seq (.region [.op ⟨(some 2), none, (.r (.mv (.c .nils)))⟩])
  (.seq (.seq (.region [.op ⟨(some 3), none, (.r (.mv (.t 0)))⟩,
    .op ⟨(some 4), none, (.r (.eqv false .s (.t 3) (.c .nils)))⟩])
  (.cond (.t 4)
   (.seq (.region [.op ⟨(some 2), none, (.r (.mv (.c .nils)))⟩])
   .ret)
   .skip))
  (.seq (.region [.op ⟨(some 5), none, (.n (.bslice 2 1 0 [] []))⟩,
    .op ⟨(some 6), none, (.r (.mv (.t 0)))⟩,
    .op ⟨(some 7), none, (.e (.app 2 1 1 (.t 5) (.t 6)))⟩,
    .op ⟨(some 2), none, (.r (.mv (.t 7)))⟩])
  .ret))) }
theorem tr_slices_Clone_byte_byte : trF cx Tryd.f77 = pf_slices_Clone_byte_byte := by kernel_rfl
/-- depot/gf.Mul -/
def pf_gf_Mul : PF := { ntmps := 33, results := [.tmp 6], body :=
  (.seq (.region [.op ⟨(some 6), none, (.r (.mv (.c (.int .u8 (.ofNat 0)))))⟩])
  (.seq (.seq (.region [.op ⟨(some 7), none, (.r (.mv (.t 1)))⟩,
    .op ⟨(some 8), none, (.r (.bin .eql (.t 7) (.c (.int .u8 (.ofNat 0)))))⟩,
    .op ⟨(some 9), none, (.r (.mv (.t 8)))⟩,
    .op ⟨(some 10), (some (9, false)), (.r (.mv (.t 2)))⟩,
    .op ⟨(some 11), (some (9, false)), (.r (.bin .eql (.t 10) (.c (.int .u8 (.ofNat 0)))))⟩,
    .op ⟨(some 12), none, (.r (.pick (.t 9) (.c (.bool true)) (.t 11)))⟩])
  (.cond (.t 12)
   (.seq (.region [.op ⟨(some 6), none, (.r (.mv (.c (.int .u8 (.ofNat 0)))))⟩])
   .ret)
   .skip))
  (.seq (.region [.op ⟨(some 13), none, (.r (.mv (.t 0)))⟩,
    .op ⟨(some 14), none, (.r (.mv (.t 0)))⟩,
    .op ⟨(some 15), none, (.r (.mv (.t 1)))⟩,
    .op ⟨(some 16), none, (.r (.nilck (.t 14)))⟩,
    .op ⟨(some 17), none, (.r (.faddr 510 (.t 16)))⟩,
    .op ⟨(some 18), none, (.r (.iaarr 256 1 (.t 17) (.t 15)))⟩,
    .op ⟨(some 19), none, (.r (.load false 1 (.t 18)))⟩,
    .op ⟨(some 20), none, (.r (.cint .i64 (.t 19)))⟩,
    .op ⟨(some 21), none, (.r (.mv (.t 0)))⟩,
    .op ⟨(some 22), none, (.r (.mv (.t 2)))⟩,
    .op ⟨(some 23), none, (.r (.nilck (.t 21)))⟩,
    .op ⟨(some 24), none, (.r (.faddr 510 (.t 23)))⟩,
    .op ⟨(some 25), none, (.r (.iaarr 256 1 (.t 24) (.t 22)))⟩,
    .op ⟨(some 26), none, (.r (.load false 1 (.t 25)))⟩,
    .op ⟨(some 27), none, (.r (.cint .i64 (.t 26)))⟩,
    .op ⟨(some 28), none, (.r (.bin .add (.t 20) (.t 27)))⟩,
    .op ⟨(some 29), none, (.r (.nilck (.t 13)))⟩,
    .op ⟨(some 30), none, (.r (.faddr 0 (.t 29)))⟩,
    .op ⟨(some 31), none, (.r (.iaarr 510 1 (.t 30) (.t 28)))⟩,
    .op ⟨(some 32), none, (.r (.load false 1 (.t 31)))⟩,
    .op ⟨(some 6), none, (.r (.mv (.t 32)))⟩])
  .ret))) }
theorem tr_gf_Mul : trF cx Tryd.f78 = pf_gf_Mul := by kernel_rfl
/-- depot/pack.Num -/
def pf_pack_Num : PF := { ntmps := 9, results := [.tmp 4], body :=
  (.seq (.region [.op ⟨(some 4), none, (.r (.mv (.c .nils)))⟩])
  (.seq (.region [.op ⟨(some 5), none, (.r (.mv (.t 0)))⟩,
    .op ⟨(some 6), none, (.e (.call n_pack_grown [(.t 5), (.c (.int .i64 (.ofNat 10)))]))⟩,
    .op ⟨(some 7), none, (.r (.mv (.t 1)))⟩,
    .op ⟨(some 8), none, (.e (.call n_pack_num [(.t 6), (.t 7)]))⟩,
    .op ⟨(some 4), none, (.r (.mv (.t 8)))⟩])
  .ret)) }
theorem tr_pack_Num : trF cx Tryd.f79 = pf_pack_Num := by kernel_rfl
/-- slices.Clone[[]int,int] -/
def pf_slices_Clone_int_int : PF := { ntmps := 8, results := [.tmp 2], body :=
  (.seq (.region [.op ⟨(some 2), none, (.r (.mv (.c .nils)))⟩])
  (.seq (.seq (.region [.op ⟨(some 3), none, (.r (.mv (.t 0)))⟩,
    .op ⟨(some 4), none, (.r (.eqv false .s (.t 3) (.c .nils)))⟩])
  (.cond (.t 4)
   (.seq (.region [.op ⟨(some 2), none, (.r (.mv (.c .nils)))⟩])
   .ret)
   .skip))
  (.seq (.region [.op ⟨(some 5), none, (.n (.bslice 0 1 0 [] []))⟩,
    .op ⟨(some 6), none, (.r (.mv (.t 0)))⟩,
    .op ⟨(some 7), none, (.e (.app 0 1 8 (.t 5) (.t 6)))⟩,
    .op ⟨(some 2), none, (.r (.mv (.t 7)))⟩])
  .ret))) }
theorem tr_slices_Clone_int_int : trF cx Tryd.f80 = pf_slices_Clone_int_int := by kernel_rfl
/-- depot/when.time -/
def pf_when_time : PF := { ntmps := 6, results := [.tmp 2], body :=
  (.seq (.region [.op ⟨(some 2), none, (.r (.mv (.c (.int .i64 (.ofNat 0)))))⟩])
  (.seq (.region [.op ⟨(some 3), none, (.r (.mv (.t 0)))⟩,
    .op ⟨(some 4), none, (.r (.minmax false [(.t 3), (.c (.int .i64 (.ofNat 1099511627776)))]))⟩,
    .op ⟨(some 5), none, (.r (.minmax true [(.c (.int .i64 (.ofNat 0))), (.t 4)]))⟩,
    .op ⟨(some 2), none, (.r (.mv (.t 5)))⟩])
  .ret)) }
theorem tr_when_time : trF cx Tryd.f81 = pf_when_time := by kernel_rfl
def l0_words_Number : PC :=
  (.seq (.region [.op ⟨(some 21), none, (.r (.bin .lss (.t 20) (.t 19)))⟩])
  (.seq (.cond (.t 21)
   .skip
   (.exit 0))
  (.seq (.block 1 (.seq (.region [.op ⟨(some 22), none, (.r (.mv (.t 20)))⟩,
     .op ⟨(some 7), none, (.r (.mv (.t 22)))⟩])
   (.seq (.region [.op ⟨(some 23), none, (.r (.mv (.t 0)))⟩,
     .op ⟨(some 24), none, (.r (.mv (.t 7)))⟩,
     .op ⟨(some 25), none, (.r (.ixstr (.t 23) (.t 24)))⟩,
     .op ⟨(some 8), none, (.r (.mv (.t 25)))⟩])
   (.seq (.seq (.region [.op ⟨(some 26), none, (.r (.mv (.t 8)))⟩,
     .op ⟨(some 27), none, (.r (.bin .lss (.t 26) (.c (.int .u8 (.ofNat 48)))))⟩,
     .op ⟨(some 28), none, (.r (.mv (.t 27)))⟩,
     .op ⟨(some 29), (some (28, false)), (.r (.mv (.t 8)))⟩,
     .op ⟨(some 30), (some (28, false)), (.r (.bin .gtr (.t 29) (.c (.int .u8 (.ofNat 57)))))⟩,
     .op ⟨(some 31), none, (.r (.pick (.t 28) (.c (.bool true)) (.t 30)))⟩])
   (.cond (.t 31)
    (.seq (.region [.op ⟨(some 4), none, (.r (.mv (.c (.int .u64 (.ofNat 0)))))⟩,
      .op ⟨(some 5), none, (.r (.mv (.c (.bool false))))⟩])
    .ret)
    .skip))
   (.seq (.region [.op ⟨(some 32), none, (.r (.mv (.t 8)))⟩,
     .op ⟨(some 33), none, (.r (.bin .sub (.t 32) (.c (.int .u8 (.ofNat 48)))))⟩,
     .op ⟨(some 34), none, (.r (.cint .u64 (.t 33)))⟩,
     .op ⟨(some 9), none, (.r (.mv (.t 34)))⟩])
   (.seq (.seq (.region [.op ⟨(some 35), none, (.r (.mv (.t 6)))⟩,
     .op ⟨(some 36), none, (.r (.mv (.t 9)))⟩,
     .op ⟨(some 37), none, (.r (.bin .sub (.c (.int .u64 (.ofNat 18446744073709551615))) (.t 36)))⟩,
     .op ⟨(some 38), none, (.r (.bin .quo (.t 37) (.c (.int .u64 (.ofNat 10)))))⟩,
     .op ⟨(some 39), none, (.r (.bin .gtr (.t 35) (.t 38)))⟩])
   (.cond (.t 39)
    (.seq (.region [.op ⟨(some 4), none, (.r (.mv (.c (.int .u64 (.ofNat 0)))))⟩,
      .op ⟨(some 5), none, (.r (.mv (.c (.bool false))))⟩])
    .ret)
    .skip))
   (.region [.op ⟨(some 40), none, (.r (.mv (.t 6)))⟩,
     .op ⟨(some 41), none, (.r (.bin .mul (.c (.int .u64 (.ofNat 10))) (.t 40)))⟩,
     .op ⟨(some 42), none, (.r (.mv (.t 9)))⟩,
     .op ⟨(some 43), none, (.r (.bin .add (.t 41) (.t 42)))⟩,
     .op ⟨(some 6), none, (.r (.mv (.t 43)))⟩])))))))
  (.region [.op ⟨(some 44), none, (.r (.bin .add (.t 20) (.c (.int .i64 (.ofNat 1)))))⟩,
    .op ⟨(some 20), none, (.r (.mv (.t 44)))⟩]))))
/-- depot/words.Number -/
def pf_words_Number : PF := { ntmps := 49, results := [.tmp 4, .tmp 5], body :=
  (.seq (.region [.op ⟨(some 4), none, (.r (.mv (.c (.int .u64 (.ofNat 0)))))⟩,
    .op ⟨(some 5), none, (.r (.mv (.c (.bool false))))⟩])
  (.seq (.seq (.region [.op ⟨(some 10), none, (.r (.mv (.t 0)))⟩,
    .op ⟨(some 11), none, (.r (.lens (.t 10)))⟩,
    .op ⟨(some 12), none, (.r (.bin .lss (.t 11) (.c (.int .i64 (.ofNat 1)))))⟩,
    .op ⟨(some 13), none, (.r (.mv (.t 12)))⟩,
    .op ⟨(some 14), (some (13, false)), (.r (.mv (.t 0)))⟩,
    .op ⟨(some 15), (some (13, false)), (.r (.lens (.t 14)))⟩,
    .op ⟨(some 16), (some (13, false)), (.r (.bin .gtr (.t 15) (.c (.int .i64 (.ofNat 20)))))⟩,
    .op ⟨(some 17), none, (.r (.pick (.t 13) (.c (.bool true)) (.t 16)))⟩])
  (.cond (.t 17)
   (.seq (.region [.op ⟨(some 4), none, (.r (.mv (.c (.int .u64 (.ofNat 0)))))⟩,
     .op ⟨(some 5), none, (.r (.mv (.c (.bool false))))⟩])
   .ret)
   .skip))
  (.seq (.region [.op ⟨(some 6), none, (.r (.mv (.c (.int .u64 (.ofNat 0)))))⟩])
  (.seq (.seq (.region [.op ⟨(some 18), none, (.r (.mv (.t 0)))⟩,
    .op ⟨(some 19), none, (.r (.lens (.t 18)))⟩,
    .op ⟨(some 20), none, (.r (.mv (.c (.int .i64 (.ofNat 0)))))⟩])
  (.block 0 (.loop l0_words_Number)))
  (.seq (.seq (.region [.op ⟨(some 45), none, (.r (.mv (.t 6)))⟩,
    .op ⟨(some 46), none, (.r (.mv (.t 1)))⟩,
    .op ⟨(some 47), none, (.r (.bin .gtr (.t 45) (.t 46)))⟩])
  (.cond (.t 47)
   (.seq (.region [.op ⟨(some 4), none, (.r (.mv (.c (.int .u64 (.ofNat 0)))))⟩,
     .op ⟨(some 5), none, (.r (.mv (.c (.bool false))))⟩])
   .ret)
   .skip))
  (.seq (.region [.op ⟨(some 48), none, (.r (.mv (.t 6)))⟩,
    .op ⟨(some 4), none, (.r (.mv (.t 48)))⟩,
    .op ⟨(some 5), none, (.r (.mv (.c (.bool true))))⟩])
  .ret)))))) }
theorem tr_words_Number : trF cx Tryd.f82 = pf_words_Number := by kernel_rfl
/-- strconv.FormatUint -/
def pf_strconv_FormatUint : PF := { ntmps := 8, results := [.tmp 4], body :=
  (.seq (.region [.op ⟨(some 4), none, (.r (.mv (.c (.str []))))⟩])
  (.seq (.region [.op ⟨(some 5), none, (.r (.mv (.t 0)))⟩,
    .op ⟨(some 6), none, (.r (.mv (.t 1)))⟩,
    .op ⟨(some 7), none, (.e (.call n_internal_strconv_FormatUint [(.t 5), (.t 6)]))⟩,
    .op ⟨(some 4), none, (.r (.mv (.t 7)))⟩])
  .ret)) }
theorem tr_strconv_FormatUint : trF cx Tryd.f83 = pf_strconv_FormatUint := by kernel_rfl
def l0_matrix_add : PC :=
  (.seq (.region [.op ⟨(some 12), none, (.r (.bin .lss (.t 11) (.t 10)))⟩])
  (.seq (.cond (.t 12)
   .skip
   (.exit 0))
  (.seq (.block 1 (.seq (.region [.op ⟨(some 13), none, (.r (.mv (.t 11)))⟩,
     .op ⟨(some 8), none, (.r (.mv (.t 13)))⟩])
   (.region [.op ⟨(some 14), none, (.r (.mv (.t 1)))⟩,
     .op ⟨(some 15), none, (.r (.mv (.t 8)))⟩,
     .op ⟨(some 16), none, (.r (.iasl 1 (.t 14) (.t 15)))⟩,
     .op ⟨(some 17), none, (.r (.load false 1 (.t 16)))⟩,
     .op ⟨(some 18), none, (.r (.mv (.t 0)))⟩,
     .op ⟨(some 19), none, (.r (.mv (.t 3)))⟩,
     .op ⟨(some 20), none, (.r (.mv (.t 2)))⟩,
     .op ⟨(some 21), none, (.r (.mv (.t 8)))⟩,
     .op ⟨(some 22), none, (.r (.iasl 1 (.t 20) (.t 21)))⟩,
     .op ⟨(some 23), none, (.r (.load false 1 (.t 22)))⟩,
     .op ⟨(some 24), none, (.e (.call n_gf_Mul [(.t 18), (.t 19), (.t 23)]))⟩,
     .again ⟨(some 17), none, (.r (.load false 1 (.t 16)))⟩,
     .op ⟨(some 25), none, (.r (.bin .xor (.t 17) (.t 24)))⟩,
     .op ⟨(some 26), none, (.r (.iasl 1 (.t 14) (.t 15)))⟩,
     .op ⟨none, none, (.e (.store 1 (.t 26) (.t 25)))⟩])))
  (.region [.op ⟨(some 27), none, (.r (.bin .add (.t 11) (.c (.int .i64 (.ofNat 1)))))⟩,
    .op ⟨(some 11), none, (.r (.mv (.t 27)))⟩]))))
/-- depot/matrix.add -/
def pf_matrix_add : PF := { ntmps := 28, results := [], body :=
  (.seq (.region [.op ⟨(some 9), none, (.r (.mv (.t 1)))⟩,
    .op ⟨(some 10), none, (.r (.lensl (.t 9)))⟩,
    .op ⟨(some 11), none, (.r (.mv (.c (.int .i64 (.ofNat 0)))))⟩])
  (.block 0 (.loop l0_matrix_add))) }
theorem tr_matrix_add : trF cx Tryd.f84 = pf_matrix_add := by kernel_rfl
def l0_pack_num : PC :=
  (.seq (.seq (.region [.op ⟨(some 13), none, (.r (.mv (.t 5)))⟩,
    .op ⟨(some 14), none, (.r (.bin .geq (.t 13) (.c (.int .u64 (.ofNat 128)))))⟩])
  (.cond (.t 14)
   .skip
   (.exit 0)))
  (.block 1 (.seq (.region [.op ⟨(some 15), none, (.r (.mv (.t 0)))⟩,
     .op ⟨(some 16), none, (.r (.mv (.t 5)))⟩,
     .op ⟨(some 17), none, (.r (.cint .u8 (.t 16)))⟩,
     .op ⟨(some 18), none, (.r (.bin .or (.t 17) (.c (.int .u8 (.ofNat 128)))))⟩,
     .op ⟨(some 19), none, (.n (.bslice 2 1 1 [(.int .u8 (.ofNat 0))] [(0, 1, (.t 18))]))⟩,
     .op ⟨(some 20), none, (.e (.app 2 1 1 (.t 15) (.t 19)))⟩,
     .op ⟨(some 0), none, (.r (.mv (.t 20)))⟩])
   (.region [.op ⟨(some 21), none, (.r (.mv (.t 5)))⟩,
     .op ⟨(some 22), none, (.r (.bin .shr (.t 21) (.c (.int .u64 (.ofNat 7)))))⟩,
     .op ⟨(some 5), none, (.r (.mv (.t 22)))⟩]))))
/-- depot/pack.num -/
def pf_pack_num : PF := { ntmps := 28, results := [.tmp 4], body :=
  (.seq (.region [.op ⟨(some 4), none, (.r (.mv (.c .nils)))⟩])
  (.seq (.region [.op ⟨(some 6), none, (.r (.mv (.t 1)))⟩,
    .op ⟨(some 7), none, (.r (.cint .u64 (.t 6)))⟩,
    .op ⟨(some 8), none, (.r (.bin .shl (.t 7) (.c (.int .u64 (.ofNat 1)))))⟩,
    .op ⟨(some 9), none, (.r (.mv (.t 1)))⟩,
    .op ⟨(some 10), none, (.r (.bin .shr (.t 9) (.c (.int .u64 (.ofNat 63)))))⟩,
    .op ⟨(some 11), none, (.r (.cint .u64 (.t 10)))⟩,
    .op ⟨(some 12), none, (.r (.bin .xor (.t 8) (.t 11)))⟩,
    .op ⟨(some 5), none, (.r (.mv (.t 12)))⟩])
  (.seq (.block 0 (.loop l0_pack_num))
  (.seq (.region [.op ⟨(some 23), none, (.r (.mv (.t 0)))⟩,
    .op ⟨(some 24), none, (.r (.mv (.t 5)))⟩,
    .op ⟨(some 25), none, (.r (.cint .u8 (.t 24)))⟩,
    .op ⟨(some 26), none, (.n (.bslice 2 1 1 [(.int .u8 (.ofNat 0))] [(0, 1, (.t 25))]))⟩,
    .op ⟨(some 27), none, (.e (.app 2 1 1 (.t 23) (.t 26)))⟩,
    .op ⟨(some 4), none, (.r (.mv (.t 27)))⟩])
  .ret)))) }
theorem tr_pack_num : trF cx Tryd.f85 = pf_pack_num := by kernel_rfl
/-- internal/strconv.FormatUint -/
def pf_internal_strconv_FormatUint : PF := { ntmps := 32, results := [.tmp 4], body :=
  (.seq (.region [.op ⟨(some 4), none, (.r (.mv (.c (.str []))))⟩])
  (.seq (.seq (.region [.op ⟨(some 9), none, (.r (.mv (.t 1)))⟩,
    .op ⟨(some 10), none, (.r (.bin .eql (.t 9) (.c (.int .i64 (.ofNat 10)))))⟩])
  (.cond (.t 10)
   (.seq (.seq (.region [.op ⟨(some 11), none, (.r (.mv (.t 0)))⟩,
     .op ⟨(some 12), none, (.r (.bin .lss (.t 11) (.c (.int .u64 (.ofNat 100)))))⟩])
   (.cond (.t 12)
    (.seq (.region [.op ⟨(some 13), none, (.r (.mv (.t 0)))⟩,
      .op ⟨(some 14), none, (.r (.cint .i64 (.t 13)))⟩,
      .op ⟨(some 15), none, (.e (.call n_internal_strconv_small [(.t 14)]))⟩,
      .op ⟨(some 4), none, (.r (.mv (.t 15)))⟩])
    .ret)
    .skip))
   (.seq (.region [.op ⟨(some 5), none, (.n (.new 0 (rep 24 [(.int .u8 (.ofNat 0))])))⟩])
   (.seq (.region [.op ⟨(some 16), none, (.r (.mv (.t 0)))⟩,
     .op ⟨(some 17), none, (.e (.call n_internal_strconv_numDigits [(.t 16)]))⟩,
     .op ⟨(some 6), none, (.r (.mv (.t 17)))⟩])
   (.seq (.region [.op ⟨(some 18), none, (.r (.mv (.t 6)))⟩,
     .op ⟨(some 19), none, (.r (.slarr 24 1 (.t 5) none (some (.t 18))))⟩,
     .op ⟨(some 20), none, (.r (.mv (.t 0)))⟩,
     .op ⟨(some 21), none, (.e (.call n_internal_strconv_formatBase10 [(.t 19), (.t 20)]))⟩])
   (.seq (.region [.op ⟨(some 22), none, (.r (.mv (.t 6)))⟩,
     .op ⟨(some 23), none, (.r (.slarr 24 1 (.t 5) none (some (.t 22))))⟩,
     .op ⟨(some 24), none, (.r (.b2s (.t 23)))⟩,
     .op ⟨(some 4), none, (.r (.mv (.t 24)))⟩])
   .ret)))))
   .skip))
  (.seq (.region [.op ⟨(some 26), none, (.r (.mv (.t 0)))⟩,
    .op ⟨(some 27), none, (.r (.mv (.t 1)))⟩,
    .op ⟨(some 28), none, (.e (.call n_internal_strconv_formatBits [(.c .nils), (.t 26), (.t 27), (.c (.bool false)), (.c (.bool false))]))⟩,
    .op ⟨(some 25), none, (.r (.mv (.t 28)))⟩,
    .op ⟨(some 29), none, (.r (.ext 0 (.t 25)))⟩,
    .op ⟨(some 30), none, (.r (.ext 1 (.t 25)))⟩,
    .op ⟨(some 7), none, (.r (.mv (.t 29)))⟩,
    .op ⟨(some 8), none, (.r (.mv (.t 30)))⟩])
  (.seq (.region [.op ⟨(some 31), none, (.r (.mv (.t 8)))⟩,
    .op ⟨(some 4), none, (.r (.mv (.t 31)))⟩])
  .ret)))) }
theorem tr_internal_strconv_FormatUint : trF cx Tryd.f86 = pf_internal_strconv_FormatUint := by kernel_rfl
/-- internal/strconv.small -/
def pf_internal_strconv_small : PF := { ntmps := 15, results := [.tmp 2], body :=
  (.seq (.region [.op ⟨(some 2), none, (.r (.mv (.c (.str []))))⟩])
  (.seq (.seq (.region [.op ⟨(some 3), none, (.r (.mv (.t 0)))⟩,
    .op ⟨(some 4), none, (.r (.bin .lss (.t 3) (.c (.int .i64 (.ofNat 10)))))⟩])
  (.cond (.t 4)
   (.seq (.region [.op ⟨(some 5), none, (.r (.mv (.t 0)))⟩,
     .op ⟨(some 6), none, (.r (.mv (.t 0)))⟩,
     .op ⟨(some 7), none, (.r (.bin .add (.t 6) (.c (.int .i64 (.ofNat 1)))))⟩,
     .op ⟨(some 8), none, (.r (.slstr (.c (.str [48, 49, 50, 51, 52, 53, 54, 55, 56, 57, 97, 98, 99, 100, 101, 102, 103, 104, 105, 106, 107, 108, 109, 110, 111, 112, 113, 114, 115, 116, 117, 118, 119, 120, 121, 122])) (some (.t 5)) (some (.t 7))))⟩,
     .op ⟨(some 2), none, (.r (.mv (.t 8)))⟩])
   .ret)
   .skip))
  (.seq (.region [.op ⟨(some 9), none, (.r (.mv (.t 0)))⟩,
    .op ⟨(some 10), none, (.r (.bin .mul (.t 9) (.c (.int .i64 (.ofNat 2)))))⟩,
    .op ⟨(some 11), none, (.r (.mv (.t 0)))⟩,
    .op ⟨(some 12), none, (.r (.bin .mul (.t 11) (.c (.int .i64 (.ofNat 2)))))⟩,
    .op ⟨(some 13), none, (.r (.bin .add (.t 12) (.c (.int .i64 (.ofNat 2)))))⟩,
    .op ⟨(some 14), none, (.r (.slstr (.c (.str [48, 48, 48, 49, 48, 50, 48, 51, 48, 52, 48, 53, 48, 54, 48, 55, 48, 56, 48, 57, 49, 48, 49, 49, 49, 50, 49, 51, 49, 52, 49, 53, 49, 54, 49, 55, 49, 56, 49, 57, 50, 48, 50, 49, 50, 50, 50, 51, 50, 52, 50, 53, 50, 54, 50, 55, 50, 56, 50, 57, 51, 48, 51, 49, 51, 50, 51, 51, 51, 52, 51, 53, 51, 54, 51, 55, 51, 56, 51, 57, 52, 48, 52, 49, 52, 50, 52, 51, 52, 52, 52, 53, 52, 54, 52, 55, 52, 56, 52, 57, 53, 48, 53, 49, 53, 50, 53, 51, 53, 52, 53, 53, 53, 54, 53, 55, 53, 56, 53, 57, 54, 48, 54, 49, 54, 50, 54, 51, 54, 52, 54, 53, 54, 54, 54, 55, 54, 56, 54, 57, 55, 48, 55, 49, 55, 50, 55, 51, 55, 52, 55, 53, 55, 54, 55, 55, 55, 56, 55, 57, 56, 48, 56, 49, 56, 50, 56, 51, 56, 52, 56, 53, 56, 54, 56, 55, 56, 56, 56, 57, 57, 48, 57, 49, 57, 50, 57, 51, 57, 52, 57, 53, 57, 54, 57, 55, 57, 56, 57, 57])) (some (.t 10)) (some (.t 13))))⟩,
    .op ⟨(some 2), none, (.r (.mv (.t 14)))⟩])
  .ret))) }
theorem tr_internal_strconv_small : trF cx Tryd.f87 = pf_internal_strconv_small := by kernel_rfl
/-- internal/strconv.numDigits -/
def pf_internal_strconv_numDigits : PF := { ntmps := 15, results := [.tmp 2], body :=
  (.seq (.region [.op ⟨(some 2), none, (.r (.mv (.c (.int .i64 (.ofNat 0)))))⟩])
  (.seq (.region [.op ⟨(some 4), none, (.r (.mv (.t 0)))⟩,
    .op ⟨(some 5), none, (.e (.call n_math_bits_Len64 [(.t 4)]))⟩,
    .op ⟨(some 6), none, (.e (.call n_internal_strconv_log10Pow2 [(.t 5)]))⟩,
    .op ⟨(some 3), none, (.r (.mv (.t 6)))⟩])
  (.seq (.region [.op ⟨(some 7), none, (.r (.mv (.t 3)))⟩,
    .op ⟨(some 8), none, (.r (.mv (.t 0)))⟩,
    .op ⟨(some 9), none, (.r (.mv (.t 3)))⟩,
    .op ⟨(some 10), none, (.r (.bad))⟩,
    .op ⟨(some 11), none, (.r (.load false 1 (.t 10)))⟩,
    .op ⟨(some 12), none, (.r (.bin .geq (.t 8) (.t 11)))⟩,
    .op ⟨(some 13), none, (.e (.call n_internal_strconv_bool2_int [(.t 12)]))⟩,
    .op ⟨(some 14), none, (.r (.bin .add (.t 7) (.t 13)))⟩,
    .op ⟨(some 2), none, (.r (.mv (.t 14)))⟩])
  .ret))) }
theorem tr_internal_strconv_numDigits : trF cx Tryd.f88 = pf_internal_strconv_numDigits := by kernel_rfl
def l0_internal_strconv_formatBase10 : PC :=
  (.seq (.seq (.region [.op ⟨(some 19), none, (.r (.mv (.t 4)))⟩,
    .op ⟨(some 20), none, (.r (.bin .geq (.t 19) (.c (.int .i64 (.ofNat 8)))))⟩])
  (.cond (.t 20)
   .skip
   (.exit 0)))
  (.block 1 (.seq (.region [.op ⟨(some 21), none, (.r (.mv (.t 1)))⟩,
     .op ⟨(some 22), none, (.r (.bin .rem (.t 21) (.c (.int .u64 (.ofNat 100000000)))))⟩,
     .op ⟨(some 23), none, (.r (.cint .u32 (.t 22)))⟩,
     .op ⟨(some 5), none, (.r (.mv (.t 23)))⟩])
   (.seq (.region [.op ⟨(some 24), none, (.r (.mv (.t 1)))⟩,
     .op ⟨(some 25), none, (.r (.bin .quo (.t 24) (.c (.int .u64 (.ofNat 100000000)))))⟩,
     .op ⟨(some 1), none, (.r (.mv (.t 25)))⟩])
   (.seq (.region [.op ⟨(some 26), none, (.r (.mv (.t 5)))⟩,
     .op ⟨(some 27), none, (.r (.bin .quo (.t 26) (.c (.int .u32 (.ofNat 10000)))))⟩,
     .op ⟨(some 28), none, (.r (.mv (.t 5)))⟩,
     .op ⟨(some 29), none, (.r (.bin .rem (.t 28) (.c (.int .u32 (.ofNat 10000)))))⟩,
     .op ⟨(some 6), none, (.r (.mv (.t 27)))⟩,
     .op ⟨(some 7), none, (.r (.mv (.t 29)))⟩])
   (.seq (.region [.op ⟨(some 30), none, (.r (.mv (.t 7)))⟩,
     .op ⟨(some 31), none, (.r (.bin .quo (.t 30) (.c (.int .u32 (.ofNat 100)))))⟩,
     .op ⟨(some 32), none, (.r (.bin .mul (.t 31) (.c (.int .u32 (.ofNat 2)))))⟩,
     .op ⟨(some 33), none, (.r (.mv (.t 7)))⟩,
     .op ⟨(some 34), none, (.r (.bin .rem (.t 33) (.c (.int .u32 (.ofNat 100)))))⟩,
     .op ⟨(some 35), none, (.r (.bin .mul (.t 34) (.c (.int .u32 (.ofNat 2)))))⟩,
     .op ⟨(some 8), none, (.r (.mv (.t 32)))⟩,
     .op ⟨(some 9), none, (.r (.mv (.t 35)))⟩])
   (.seq (.region [.op ⟨(some 36), none, (.r (.mv (.t 6)))⟩,
     .op ⟨(some 37), none, (.r (.bin .quo (.t 36) (.c (.int .u32 (.ofNat 100)))))⟩,
     .op ⟨(some 38), none, (.r (.bin .mul (.t 37) (.c (.int .u32 (.ofNat 2)))))⟩,
     .op ⟨(some 39), none, (.r (.mv (.t 6)))⟩,
     .op ⟨(some 40), none, (.r (.bin .rem (.t 39) (.c (.int .u32 (.ofNat 100)))))⟩,
     .op ⟨(some 41), none, (.r (.bin .mul (.t 40) (.c (.int .u32 (.ofNat 2)))))⟩,
     .op ⟨(some 10), none, (.r (.mv (.t 38)))⟩,
     .op ⟨(some 11), none, (.r (.mv (.t 41)))⟩])
   (.seq (.region [.op ⟨(some 42), none, (.r (.mv (.t 0)))⟩,
     .op ⟨(some 43), none, (.r (.mv (.t 4)))⟩,
     .op ⟨(some 44), none, (.r (.bin .sub (.t 43) (.c (.int .i64 (.ofNat 1)))))⟩,
     .op ⟨(some 45), none, (.r (.mv (.t 0)))⟩,
     .op ⟨(some 46), none, (.r (.mv (.t 4)))⟩,
     .op ⟨(some 47), none, (.r (.bin .sub (.t 46) (.c (.int .i64 (.ofNat 2)))))⟩,
     .op ⟨(some 48), none, (.r (.mv (.t 9)))⟩,
     .op ⟨(some 49), none, (.r (.bin .add (.t 48) (.c (.int .u32 (.ofNat 1)))))⟩,
     .op ⟨(some 50), none, (.r (.ixstr (.c (.str [48, 48, 48, 49, 48, 50, 48, 51, 48, 52, 48, 53, 48, 54, 48, 55, 48, 56, 48, 57, 49, 48, 49, 49, 49, 50, 49, 51, 49, 52, 49, 53, 49, 54, 49, 55, 49, 56, 49, 57, 50, 48, 50, 49, 50, 50, 50, 51, 50, 52, 50, 53, 50, 54, 50, 55, 50, 56, 50, 57, 51, 48, 51, 49, 51, 50, 51, 51, 51, 52, 51, 53, 51, 54, 51, 55, 51, 56, 51, 57, 52, 48, 52, 49, 52, 50, 52, 51, 52, 52, 52, 53, 52, 54, 52, 55, 52, 56, 52, 57, 53, 48, 53, 49, 53, 50, 53, 51, 53, 52, 53, 53, 53, 54, 53, 55, 53, 56, 53, 57, 54, 48, 54, 49, 54, 50, 54, 51, 54, 52, 54, 53, 54, 54, 54, 55, 54, 56, 54, 57, 55, 48, 55, 49, 55, 50, 55, 51, 55, 52, 55, 53, 55, 54, 55, 55, 55, 56, 55, 57, 56, 48, 56, 49, 56, 50, 56, 51, 56, 52, 56, 53, 56, 54, 56, 55, 56, 56, 56, 57, 57, 48, 57, 49, 57, 50, 57, 51, 57, 52, 57, 53, 57, 54, 57, 55, 57, 56, 57, 57])) (.t 49)))⟩,
     .op ⟨(some 51), none, (.r (.mv (.t 9)))⟩,
     .op ⟨(some 52), none, (.r (.ixstr (.c (.str [48, 48, 48, 49, 48, 50, 48, 51, 48, 52, 48, 53, 48, 54, 48, 55, 48, 56, 48, 57, 49, 48, 49, 49, 49, 50, 49, 51, 49, 52, 49, 53, 49, 54, 49, 55, 49, 56, 49, 57, 50, 48, 50, 49, 50, 50, 50, 51, 50, 52, 50, 53, 50, 54, 50, 55, 50, 56, 50, 57, 51, 48, 51, 49, 51, 50, 51, 51, 51, 52, 51, 53, 51, 54, 51, 55, 51, 56, 51, 57, 52, 48, 52, 49, 52, 50, 52, 51, 52, 52, 52, 53, 52, 54, 52, 55, 52, 56, 52, 57, 53, 48, 53, 49, 53, 50, 53, 51, 53, 52, 53, 53, 53, 54, 53, 55, 53, 56, 53, 57, 54, 48, 54, 49, 54, 50, 54, 51, 54, 52, 54, 53, 54, 54, 54, 55, 54, 56, 54, 57, 55, 48, 55, 49, 55, 50, 55, 51, 55, 52, 55, 53, 55, 54, 55, 55, 55, 56, 55, 57, 56, 48, 56, 49, 56, 50, 56, 51, 56, 52, 56, 53, 56, 54, 56, 55, 56, 56, 56, 57, 57, 48, 57, 49, 57, 50, 57, 51, 57, 52, 57, 53, 57, 54, 57, 55, 57, 56, 57, 57])) (.t 51)))⟩,
     .op ⟨(some 53), none, (.r (.iasl 1 (.t 42) (.t 44)))⟩,
     .op ⟨none, none, (.e (.store 1 (.t 53) (.t 50)))⟩,
     .op ⟨(some 54), none, (.r (.iasl 1 (.t 45) (.t 47)))⟩,
     .op ⟨none, none, (.e (.store 1 (.t 54) (.t 52)))⟩])
   (.seq (.region [.op ⟨(some 55), none, (.r (.mv (.t 0)))⟩,
     .op ⟨(some 56), none, (.r (.mv (.t 4)))⟩,
     .op ⟨(some 57), none, (.r (.bin .sub (.t 56) (.c (.int .i64 (.ofNat 3)))))⟩,
     .op ⟨(some 58), none, (.r (.mv (.t 0)))⟩,
     .op ⟨(some 59), none, (.r (.mv (.t 4)))⟩,
     .op ⟨(some 60), none, (.r (.bin .sub (.t 59) (.c (.int .i64 (.ofNat 4)))))⟩,
     .op ⟨(some 61), none, (.r (.mv (.t 8)))⟩,
     .op ⟨(some 62), none, (.r (.bin .add (.t 61) (.c (.int .u32 (.ofNat 1)))))⟩,
     .op ⟨(some 63), none, (.r (.ixstr (.c (.str [48, 48, 48, 49, 48, 50, 48, 51, 48, 52, 48, 53, 48, 54, 48, 55, 48, 56, 48, 57, 49, 48, 49, 49, 49, 50, 49, 51, 49, 52, 49, 53, 49, 54, 49, 55, 49, 56, 49, 57, 50, 48, 50, 49, 50, 50, 50, 51, 50, 52, 50, 53, 50, 54, 50, 55, 50, 56, 50, 57, 51, 48, 51, 49, 51, 50, 51, 51, 51, 52, 51, 53, 51, 54, 51, 55, 51, 56, 51, 57, 52, 48, 52, 49, 52, 50, 52, 51, 52, 52, 52, 53, 52, 54, 52, 55, 52, 56, 52, 57, 53, 48, 53, 49, 53, 50, 53, 51, 53, 52, 53, 53, 53, 54, 53, 55, 53, 56, 53, 57, 54, 48, 54, 49, 54, 50, 54, 51, 54, 52, 54, 53, 54, 54, 54, 55, 54, 56, 54, 57, 55, 48, 55, 49, 55, 50, 55, 51, 55, 52, 55, 53, 55, 54, 55, 55, 55, 56, 55, 57, 56, 48, 56, 49, 56, 50, 56, 51, 56, 52, 56, 53, 56, 54, 56, 55, 56, 56, 56, 57, 57, 48, 57, 49, 57, 50, 57, 51, 57, 52, 57, 53, 57, 54, 57, 55, 57, 56, 57, 57])) (.t 62)))⟩,
     .op ⟨(some 64), none, (.r (.mv (.t 8)))⟩,
     .op ⟨(some 65), none, (.r (.ixstr (.c (.str [48, 48, 48, 49, 48, 50, 48, 51, 48, 52, 48, 53, 48, 54, 48, 55, 48, 56, 48, 57, 49, 48, 49, 49, 49, 50, 49, 51, 49, 52, 49, 53, 49, 54, 49, 55, 49, 56, 49, 57, 50, 48, 50, 49, 50, 50, 50, 51, 50, 52, 50, 53, 50, 54, 50, 55, 50, 56, 50, 57, 51, 48, 51, 49, 51, 50, 51, 51, 51, 52, 51, 53, 51, 54, 51, 55, 51, 56, 51, 57, 52, 48, 52, 49, 52, 50, 52, 51, 52, 52, 52, 53, 52, 54, 52, 55, 52, 56, 52, 57, 53, 48, 53, 49, 53, 50, 53, 51, 53, 52, 53, 53, 53, 54, 53, 55, 53, 56, 53, 57, 54, 48, 54, 49, 54, 50, 54, 51, 54, 52, 54, 53, 54, 54, 54, 55, 54, 56, 54, 57, 55, 48, 55, 49, 55, 50, 55, 51, 55, 52, 55, 53, 55, 54, 55, 55, 55, 56, 55, 57, 56, 48, 56, 49, 56, 50, 56, 51, 56, 52, 56, 53, 56, 54, 56, 55, 56, 56, 56, 57, 57, 48, 57, 49, 57, 50, 57, 51, 57, 52, 57, 53, 57, 54, 57, 55, 57, 56, 57, 57])) (.t 64)))⟩,
     .op ⟨(some 66), none, (.r (.iasl 1 (.t 55) (.t 57)))⟩,
     .op ⟨none, none, (.e (.store 1 (.t 66) (.t 63)))⟩,
     .op ⟨(some 67), none, (.r (.iasl 1 (.t 58) (.t 60)))⟩,
     .op ⟨none, none, (.e (.store 1 (.t 67) (.t 65)))⟩])
   (.seq (.region [.op ⟨(some 68), none, (.r (.mv (.t 0)))⟩,
     .op ⟨(some 69), none, (.r (.mv (.t 4)))⟩,
     .op ⟨(some 70), none, (.r (.bin .sub (.t 69) (.c (.int .i64 (.ofNat 5)))))⟩,
     .op ⟨(some 71), none, (.r (.mv (.t 0)))⟩,
     .op ⟨(some 72), none, (.r (.mv (.t 4)))⟩,
     .op ⟨(some 73), none, (.r (.bin .sub (.t 72) (.c (.int .i64 (.ofNat 6)))))⟩,
     .op ⟨(some 74), none, (.r (.mv (.t 11)))⟩,
     .op ⟨(some 75), none, (.r (.bin .add (.t 74) (.c (.int .u32 (.ofNat 1)))))⟩,
     .op ⟨(some 76), none, (.r (.ixstr (.c (.str [48, 48, 48, 49, 48, 50, 48, 51, 48, 52, 48, 53, 48, 54, 48, 55, 48, 56, 48, 57, 49, 48, 49, 49, 49, 50, 49, 51, 49, 52, 49, 53, 49, 54, 49, 55, 49, 56, 49, 57, 50, 48, 50, 49, 50, 50, 50, 51, 50, 52, 50, 53, 50, 54, 50, 55, 50, 56, 50, 57, 51, 48, 51, 49, 51, 50, 51, 51, 51, 52, 51, 53, 51, 54, 51, 55, 51, 56, 51, 57, 52, 48, 52, 49, 52, 50, 52, 51, 52, 52, 52, 53, 52, 54, 52, 55, 52, 56, 52, 57, 53, 48, 53, 49, 53, 50, 53, 51, 53, 52, 53, 53, 53, 54, 53, 55, 53, 56, 53, 57, 54, 48, 54, 49, 54, 50, 54, 51, 54, 52, 54, 53, 54, 54, 54, 55, 54, 56, 54, 57, 55, 48, 55, 49, 55, 50, 55, 51, 55, 52, 55, 53, 55, 54, 55, 55, 55, 56, 55, 57, 56, 48, 56, 49, 56, 50, 56, 51, 56, 52, 56, 53, 56, 54, 56, 55, 56, 56, 56, 57, 57, 48, 57, 49, 57, 50, 57, 51, 57, 52, 57, 53, 57, 54, 57, 55, 57, 56, 57, 57])) (.t 75)))⟩,
     .op ⟨(some 77), none, (.r (.mv (.t 11)))⟩,
     .op ⟨(some 78), none, (.r (.ixstr (.c (.str [48, 48, 48, 49, 48, 50, 48, 51, 48, 52, 48, 53, 48, 54, 48, 55, 48, 56, 48, 57, 49, 48, 49, 49, 49, 50, 49, 51, 49, 52, 49, 53, 49, 54, 49, 55, 49, 56, 49, 57, 50, 48, 50, 49, 50, 50, 50, 51, 50, 52, 50, 53, 50, 54, 50, 55, 50, 56, 50, 57, 51, 48, 51, 49, 51, 50, 51, 51, 51, 52, 51, 53, 51, 54, 51, 55, 51, 56, 51, 57, 52, 48, 52, 49, 52, 50, 52, 51, 52, 52, 52, 53, 52, 54, 52, 55, 52, 56, 52, 57, 53, 48, 53, 49, 53, 50, 53, 51, 53, 52, 53, 53, 53, 54, 53, 55, 53, 56, 53, 57, 54, 48, 54, 49, 54, 50, 54, 51, 54, 52, 54, 53, 54, 54, 54, 55, 54, 56, 54, 57, 55, 48, 55, 49, 55, 50, 55, 51, 55, 52, 55, 53, 55, 54, 55, 55, 55, 56, 55, 57, 56, 48, 56, 49, 56, 50, 56, 51, 56, 52, 56, 53, 56, 54, 56, 55, 56, 56, 56, 57, 57, 48, 57, 49, 57, 50, 57, 51, 57, 52, 57, 53, 57, 54, 57, 55, 57, 56, 57, 57])) (.t 77)))⟩,
     .op ⟨(some 79), none, (.r (.iasl 1 (.t 68) (.t 70)))⟩,
     .op ⟨none, none, (.e (.store 1 (.t 79) (.t 76)))⟩,
     .op ⟨(some 80), none, (.r (.iasl 1 (.t 71) (.t 73)))⟩,
     .op ⟨none, none, (.e (.store 1 (.t 80) (.t 78)))⟩])
   (.seq (.region [.op ⟨(some 81), none, (.r (.mv (.t 0)))⟩,
     .op ⟨(some 82), none, (.r (.mv (.t 4)))⟩,
     .op ⟨(some 83), none, (.r (.bin .sub (.t 82) (.c (.int .i64 (.ofNat 7)))))⟩,
     .op ⟨(some 84), none, (.r (.mv (.t 0)))⟩,
     .op ⟨(some 85), none, (.r (.mv (.t 4)))⟩,
     .op ⟨(some 86), none, (.r (.bin .sub (.t 85) (.c (.int .i64 (.ofNat 8)))))⟩,
     .op ⟨(some 87), none, (.r (.mv (.t 10)))⟩,
     .op ⟨(some 88), none, (.r (.bin .add (.t 87) (.c (.int .u32 (.ofNat 1)))))⟩,
     .op ⟨(some 89), none, (.r (.ixstr (.c (.str [48, 48, 48, 49, 48, 50, 48, 51, 48, 52, 48, 53, 48, 54, 48, 55, 48, 56, 48, 57, 49, 48, 49, 49, 49, 50, 49, 51, 49, 52, 49, 53, 49, 54, 49, 55, 49, 56, 49, 57, 50, 48, 50, 49, 50, 50, 50, 51, 50, 52, 50, 53, 50, 54, 50, 55, 50, 56, 50, 57, 51, 48, 51, 49, 51, 50, 51, 51, 51, 52, 51, 53, 51, 54, 51, 55, 51, 56, 51, 57, 52, 48, 52, 49, 52, 50, 52, 51, 52, 52, 52, 53, 52, 54, 52, 55, 52, 56, 52, 57, 53, 48, 53, 49, 53, 50, 53, 51, 53, 52, 53, 53, 53, 54, 53, 55, 53, 56, 53, 57, 54, 48, 54, 49, 54, 50, 54, 51, 54, 52, 54, 53, 54, 54, 54, 55, 54, 56, 54, 57, 55, 48, 55, 49, 55, 50, 55, 51, 55, 52, 55, 53, 55, 54, 55, 55, 55, 56, 55, 57, 56, 48, 56, 49, 56, 50, 56, 51, 56, 52, 56, 53, 56, 54, 56, 55, 56, 56, 56, 57, 57, 48, 57, 49, 57, 50, 57, 51, 57, 52, 57, 53, 57, 54, 57, 55, 57, 56, 57, 57])) (.t 88)))⟩,
     .op ⟨(some 90), none, (.r (.mv (.t 10)))⟩,
     .op ⟨(some 91), none, (.r (.ixstr (.c (.str [48, 48, 48, 49, 48, 50, 48, 51, 48, 52, 48, 53, 48, 54, 48, 55, 48, 56, 48, 57, 49, 48, 49, 49, 49, 50, 49, 51, 49, 52, 49, 53, 49, 54, 49, 55, 49, 56, 49, 57, 50, 48, 50, 49, 50, 50, 50, 51, 50, 52, 50, 53, 50, 54, 50, 55, 50, 56, 50, 57, 51, 48, 51, 49, 51, 50, 51, 51, 51, 52, 51, 53, 51, 54, 51, 55, 51, 56, 51, 57, 52, 48, 52, 49, 52, 50, 52, 51, 52, 52, 52, 53, 52, 54, 52, 55, 52, 56, 52, 57, 53, 48, 53, 49, 53, 50, 53, 51, 53, 52, 53, 53, 53, 54, 53, 55, 53, 56, 53, 57, 54, 48, 54, 49, 54, 50, 54, 51, 54, 52, 54, 53, 54, 54, 54, 55, 54, 56, 54, 57, 55, 48, 55, 49, 55, 50, 55, 51, 55, 52, 55, 53, 55, 54, 55, 55, 55, 56, 55, 57, 56, 48, 56, 49, 56, 50, 56, 51, 56, 52, 56, 53, 56, 54, 56, 55, 56, 56, 56, 57, 57, 48, 57, 49, 57, 50, 57, 51, 57, 52, 57, 53, 57, 54, 57, 55, 57, 56, 57, 57])) (.t 90)))⟩,
     .op ⟨(some 92), none, (.r (.iasl 1 (.t 81) (.t 83)))⟩,
     .op ⟨none, none, (.e (.store 1 (.t 92) (.t 89)))⟩,
     .op ⟨(some 93), none, (.r (.iasl 1 (.t 84) (.t 86)))⟩,
     .op ⟨none, none, (.e (.store 1 (.t 93) (.t 91)))⟩])
   (.region [.op ⟨(some 94), none, (.r (.mv (.t 4)))⟩,
     .op ⟨(some 95), none, (.r (.bin .sub (.t 94) (.c (.int .i64 (.ofNat 8)))))⟩,
     .op ⟨(some 4), none, (.r (.mv (.t 95)))⟩]))))))))))))
/-- internal/strconv.formatBase10 -/
def pf_internal_strconv_formatBase10 : PF := { ntmps := 167, results := [], body :=
  (.seq (.region [.op ⟨(some 17), none, (.r (.mv (.t 0)))⟩,
    .op ⟨(some 18), none, (.r (.lensl (.t 17)))⟩,
    .op ⟨(some 4), none, (.r (.mv (.t 18)))⟩])
  (.seq (.block 0 (.loop l0_internal_strconv_formatBase10))
  (.seq (.region [.op ⟨(some 96), none, (.r (.mv (.t 1)))⟩,
    .op ⟨(some 97), none, (.r (.cint .u32 (.t 96)))⟩,
    .op ⟨(some 12), none, (.r (.mv (.t 97)))⟩])
  (.seq (.seq (.region [.op ⟨(some 98), none, (.r (.mv (.t 4)))⟩,
    .op ⟨(some 99), none, (.r (.bin .geq (.t 98) (.c (.int .i64 (.ofNat 4)))))⟩])
  (.cond (.t 99)
   (.seq (.region [.op ⟨(some 100), none, (.r (.mv (.t 12)))⟩,
     .op ⟨(some 101), none, (.r (.bin .rem (.t 100) (.c (.int .u32 (.ofNat 10000)))))⟩,
     .op ⟨(some 13), none, (.r (.mv (.t 101)))⟩])
   (.seq (.region [.op ⟨(some 102), none, (.r (.mv (.t 12)))⟩,
     .op ⟨(some 103), none, (.r (.bin .quo (.t 102) (.c (.int .u32 (.ofNat 10000)))))⟩,
     .op ⟨(some 12), none, (.r (.mv (.t 103)))⟩])
   (.seq (.region [.op ⟨(some 104), none, (.r (.mv (.t 13)))⟩,
     .op ⟨(some 105), none, (.r (.bin .quo (.t 104) (.c (.int .u32 (.ofNat 100)))))⟩,
     .op ⟨(some 106), none, (.r (.bin .mul (.t 105) (.c (.int .u32 (.ofNat 2)))))⟩,
     .op ⟨(some 107), none, (.r (.mv (.t 13)))⟩,
     .op ⟨(some 108), none, (.r (.bin .rem (.t 107) (.c (.int .u32 (.ofNat 100)))))⟩,
     .op ⟨(some 109), none, (.r (.bin .mul (.t 108) (.c (.int .u32 (.ofNat 2)))))⟩,
     .op ⟨(some 14), none, (.r (.mv (.t 106)))⟩,
     .op ⟨(some 15), none, (.r (.mv (.t 109)))⟩])
   (.seq (.region [.op ⟨(some 110), none, (.r (.mv (.t 0)))⟩,
     .op ⟨(some 111), none, (.r (.mv (.t 4)))⟩,
     .op ⟨(some 112), none, (.r (.bin .sub (.t 111) (.c (.int .i64 (.ofNat 1)))))⟩,
     .op ⟨(some 113), none, (.r (.mv (.t 0)))⟩,
     .op ⟨(some 114), none, (.r (.mv (.t 4)))⟩,
     .op ⟨(some 115), none, (.r (.bin .sub (.t 114) (.c (.int .i64 (.ofNat 2)))))⟩,
     .op ⟨(some 116), none, (.r (.mv (.t 15)))⟩,
     .op ⟨(some 117), none, (.r (.bin .add (.t 116) (.c (.int .u32 (.ofNat 1)))))⟩,
     .op ⟨(some 118), none, (.r (.ixstr (.c (.str [48, 48, 48, 49, 48, 50, 48, 51, 48, 52, 48, 53, 48, 54, 48, 55, 48, 56, 48, 57, 49, 48, 49, 49, 49, 50, 49, 51, 49, 52, 49, 53, 49, 54, 49, 55, 49, 56, 49, 57, 50, 48, 50, 49, 50, 50, 50, 51, 50, 52, 50, 53, 50, 54, 50, 55, 50, 56, 50, 57, 51, 48, 51, 49, 51, 50, 51, 51, 51, 52, 51, 53, 51, 54, 51, 55, 51, 56, 51, 57, 52, 48, 52, 49, 52, 50, 52, 51, 52, 52, 52, 53, 52, 54, 52, 55, 52, 56, 52, 57, 53, 48, 53, 49, 53, 50, 53, 51, 53, 52, 53, 53, 53, 54, 53, 55, 53, 56, 53, 57, 54, 48, 54, 49, 54, 50, 54, 51, 54, 52, 54, 53, 54, 54, 54, 55, 54, 56, 54, 57, 55, 48, 55, 49, 55, 50, 55, 51, 55, 52, 55, 53, 55, 54, 55, 55, 55, 56, 55, 57, 56, 48, 56, 49, 56, 50, 56, 51, 56, 52, 56, 53, 56, 54, 56, 55, 56, 56, 56, 57, 57, 48, 57, 49, 57, 50, 57, 51, 57, 52, 57, 53, 57, 54, 57, 55, 57, 56, 57, 57])) (.t 117)))⟩,
     .op ⟨(some 119), none, (.r (.mv (.t 15)))⟩,
     .op ⟨(some 120), none, (.r (.ixstr (.c (.str [48, 48, 48, 49, 48, 50, 48, 51, 48, 52, 48, 53, 48, 54, 48, 55, 48, 56, 48, 57, 49, 48, 49, 49, 49, 50, 49, 51, 49, 52, 49, 53, 49, 54, 49, 55, 49, 56, 49, 57, 50, 48, 50, 49, 50, 50, 50, 51, 50, 52, 50, 53, 50, 54, 50, 55, 50, 56, 50, 57, 51, 48, 51, 49, 51, 50, 51, 51, 51, 52, 51, 53, 51, 54, 51, 55, 51, 56, 51, 57, 52, 48, 52, 49, 52, 50, 52, 51, 52, 52, 52, 53, 52, 54, 52, 55, 52, 56, 52, 57, 53, 48, 53, 49, 53, 50, 53, 51, 53, 52, 53, 53, 53, 54, 53, 55, 53, 56, 53, 57, 54, 48, 54, 49, 54, 50, 54, 51, 54, 52, 54, 53, 54, 54, 54, 55, 54, 56, 54, 57, 55, 48, 55, 49, 55, 50, 55, 51, 55, 52, 55, 53, 55, 54, 55, 55, 55, 56, 55, 57, 56, 48, 56, 49, 56, 50, 56, 51, 56, 52, 56, 53, 56, 54, 56, 55, 56, 56, 56, 57, 57, 48, 57, 49, 57, 50, 57, 51, 57, 52, 57, 53, 57, 54, 57, 55, 57, 56, 57, 57])) (.t 119)))⟩,
     .op ⟨(some 121), none, (.r (.iasl 1 (.t 110) (.t 112)))⟩,
     .op ⟨none, none, (.e (.store 1 (.t 121) (.t 118)))⟩,
     .op ⟨(some 122), none, (.r (.iasl 1 (.t 113) (.t 115)))⟩,
     .op ⟨none, none, (.e (.store 1 (.t 122) (.t 120)))⟩])
   (.seq (.region [.op ⟨(some 123), none, (.r (.mv (.t 0)))⟩,
     .op ⟨(some 124), none, (.r (.mv (.t 4)))⟩,
     .op ⟨(some 125), none, (.r (.bin .sub (.t 124) (.c (.int .i64 (.ofNat 3)))))⟩,
     .op ⟨(some 126), none, (.r (.mv (.t 0)))⟩,
     .op ⟨(some 127), none, (.r (.mv (.t 4)))⟩,
     .op ⟨(some 128), none, (.r (.bin .sub (.t 127) (.c (.int .i64 (.ofNat 4)))))⟩,
     .op ⟨(some 129), none, (.r (.mv (.t 14)))⟩,
     .op ⟨(some 130), none, (.r (.bin .add (.t 129) (.c (.int .u32 (.ofNat 1)))))⟩,
     .op ⟨(some 131), none, (.r (.ixstr (.c (.str [48, 48, 48, 49, 48, 50, 48, 51, 48, 52, 48, 53, 48, 54, 48, 55, 48, 56, 48, 57, 49, 48, 49, 49, 49, 50, 49, 51, 49, 52, 49, 53, 49, 54, 49, 55, 49, 56, 49, 57, 50, 48, 50, 49, 50, 50, 50, 51, 50, 52, 50, 53, 50, 54, 50, 55, 50, 56, 50, 57, 51, 48, 51, 49, 51, 50, 51, 51, 51, 52, 51, 53, 51, 54, 51, 55, 51, 56, 51, 57, 52, 48, 52, 49, 52, 50, 52, 51, 52, 52, 52, 53, 52, 54, 52, 55, 52, 56, 52, 57, 53, 48, 53, 49, 53, 50, 53, 51, 53, 52, 53, 53, 53, 54, 53, 55, 53, 56, 53, 57, 54, 48, 54, 49, 54, 50, 54, 51, 54, 52, 54, 53, 54, 54, 54, 55, 54, 56, 54, 57, 55, 48, 55, 49, 55, 50, 55, 51, 55, 52, 55, 53, 55, 54, 55, 55, 55, 56, 55, 57, 56, 48, 56, 49, 56, 50, 56, 51, 56, 52, 56, 53, 56, 54, 56, 55, 56, 56, 56, 57, 57, 48, 57, 49, 57, 50, 57, 51, 57, 52, 57, 53, 57, 54, 57, 55, 57, 56, 57, 57])) (.t 130)))⟩,
     .op ⟨(some 132), none, (.r (.mv (.t 14)))⟩,
     .op ⟨(some 133), none, (.r (.ixstr (.c (.str [48, 48, 48, 49, 48, 50, 48, 51, 48, 52, 48, 53, 48, 54, 48, 55, 48, 56, 48, 57, 49, 48, 49, 49, 49, 50, 49, 51, 49, 52, 49, 53, 49, 54, 49, 55, 49, 56, 49, 57, 50, 48, 50, 49, 50, 50, 50, 51, 50, 52, 50, 53, 50, 54, 50, 55, 50, 56, 50, 57, 51, 48, 51, 49, 51, 50, 51, 51, 51, 52, 51, 53, 51, 54, 51, 55, 51, 56, 51, 57, 52, 48, 52, 49, 52, 50, 52, 51, 52, 52, 52, 53, 52, 54, 52, 55, 52, 56, 52, 57, 53, 48, 53, 49, 53, 50, 53, 51, 53, 52, 53, 53, 53, 54, 53, 55, 53, 56, 53, 57, 54, 48, 54, 49, 54, 50, 54, 51, 54, 52, 54, 53, 54, 54, 54, 55, 54, 56, 54, 57, 55, 48, 55, 49, 55, 50, 55, 51, 55, 52, 55, 53, 55, 54, 55, 55, 55, 56, 55, 57, 56, 48, 56, 49, 56, 50, 56, 51, 56, 52, 56, 53, 56, 54, 56, 55, 56, 56, 56, 57, 57, 48, 57, 49, 57, 50, 57, 51, 57, 52, 57, 53, 57, 54, 57, 55, 57, 56, 57, 57])) (.t 132)))⟩,
     .op ⟨(some 134), none, (.r (.iasl 1 (.t 123) (.t 125)))⟩,
     .op ⟨none, none, (.e (.store 1 (.t 134) (.t 131)))⟩,
     .op ⟨(some 135), none, (.r (.iasl 1 (.t 126) (.t 128)))⟩,
     .op ⟨none, none, (.e (.store 1 (.t 135) (.t 133)))⟩])
   (.region [.op ⟨(some 136), none, (.r (.mv (.t 4)))⟩,
     .op ⟨(some 137), none, (.r (.bin .sub (.t 136) (.c (.int .i64 (.ofNat 4)))))⟩,
     .op ⟨(some 4), none, (.r (.mv (.t 137)))⟩]))))))
   .skip))
  (.seq (.seq (.region [.op ⟨(some 138), none, (.r (.mv (.t 4)))⟩,
    .op ⟨(some 139), none, (.r (.bin .geq (.t 138) (.c (.int .i64 (.ofNat 2)))))⟩])
  (.cond (.t 139)
   (.seq (.region [.op ⟨(some 140), none, (.r (.mv (.t 12)))⟩,
     .op ⟨(some 141), none, (.r (.bin .rem (.t 140) (.c (.int .u32 (.ofNat 100)))))⟩,
     .op ⟨(some 142), none, (.r (.bin .mul (.t 141) (.c (.int .u32 (.ofNat 2)))))⟩,
     .op ⟨(some 16), none, (.r (.mv (.t 142)))⟩])
   (.seq (.region [.op ⟨(some 143), none, (.r (.mv (.t 12)))⟩,
     .op ⟨(some 144), none, (.r (.bin .quo (.t 143) (.c (.int .u32 (.ofNat 100)))))⟩,
     .op ⟨(some 12), none, (.r (.mv (.t 144)))⟩])
   (.seq (.region [.op ⟨(some 145), none, (.r (.mv (.t 0)))⟩,
     .op ⟨(some 146), none, (.r (.mv (.t 4)))⟩,
     .op ⟨(some 147), none, (.r (.bin .sub (.t 146) (.c (.int .i64 (.ofNat 1)))))⟩,
     .op ⟨(some 148), none, (.r (.mv (.t 0)))⟩,
     .op ⟨(some 149), none, (.r (.mv (.t 4)))⟩,
     .op ⟨(some 150), none, (.r (.bin .sub (.t 149) (.c (.int .i64 (.ofNat 2)))))⟩,
     .op ⟨(some 151), none, (.r (.mv (.t 16)))⟩,
     .op ⟨(some 152), none, (.r (.bin .add (.t 151) (.c (.int .u32 (.ofNat 1)))))⟩,
     .op ⟨(some 153), none, (.r (.ixstr (.c (.str [48, 48, 48, 49, 48, 50, 48, 51, 48, 52, 48, 53, 48, 54, 48, 55, 48, 56, 48, 57, 49, 48, 49, 49, 49, 50, 49, 51, 49, 52, 49, 53, 49, 54, 49, 55, 49, 56, 49, 57, 50, 48, 50, 49, 50, 50, 50, 51, 50, 52, 50, 53, 50, 54, 50, 55, 50, 56, 50, 57, 51, 48, 51, 49, 51, 50, 51, 51, 51, 52, 51, 53, 51, 54, 51, 55, 51, 56, 51, 57, 52, 48, 52, 49, 52, 50, 52, 51, 52, 52, 52, 53, 52, 54, 52, 55, 52, 56, 52, 57, 53, 48, 53, 49, 53, 50, 53, 51, 53, 52, 53, 53, 53, 54, 53, 55, 53, 56, 53, 57, 54, 48, 54, 49, 54, 50, 54, 51, 54, 52, 54, 53, 54, 54, 54, 55, 54, 56, 54, 57, 55, 48, 55, 49, 55, 50, 55, 51, 55, 52, 55, 53, 55, 54, 55, 55, 55, 56, 55, 57, 56, 48, 56, 49, 56, 50, 56, 51, 56, 52, 56, 53, 56, 54, 56, 55, 56, 56, 56, 57, 57, 48, 57, 49, 57, 50, 57, 51, 57, 52, 57, 53, 57, 54, 57, 55, 57, 56, 57, 57])) (.t 152)))⟩,
     .op ⟨(some 154), none, (.r (.mv (.t 16)))⟩,
     .op ⟨(some 155), none, (.r (.ixstr (.c (.str [48, 48, 48, 49, 48, 50, 48, 51, 48, 52, 48, 53, 48, 54, 48, 55, 48, 56, 48, 57, 49, 48, 49, 49, 49, 50, 49, 51, 49, 52, 49, 53, 49, 54, 49, 55, 49, 56, 49, 57, 50, 48, 50, 49, 50, 50, 50, 51, 50, 52, 50, 53, 50, 54, 50, 55, 50, 56, 50, 57, 51, 48, 51, 49, 51, 50, 51, 51, 51, 52, 51, 53, 51, 54, 51, 55, 51, 56, 51, 57, 52, 48, 52, 49, 52, 50, 52, 51, 52, 52, 52, 53, 52, 54, 52, 55, 52, 56, 52, 57, 53, 48, 53, 49, 53, 50, 53, 51, 53, 52, 53, 53, 53, 54, 53, 55, 53, 56, 53, 57, 54, 48, 54, 49, 54, 50, 54, 51, 54, 52, 54, 53, 54, 54, 54, 55, 54, 56, 54, 57, 55, 48, 55, 49, 55, 50, 55, 51, 55, 52, 55, 53, 55, 54, 55, 55, 55, 56, 55, 57, 56, 48, 56, 49, 56, 50, 56, 51, 56, 52, 56, 53, 56, 54, 56, 55, 56, 56, 56, 57, 57, 48, 57, 49, 57, 50, 57, 51, 57, 52, 57, 53, 57, 54, 57, 55, 57, 56, 57, 57])) (.t 154)))⟩,
     .op ⟨(some 156), none, (.r (.iasl 1 (.t 145) (.t 147)))⟩,
     .op ⟨none, none, (.e (.store 1 (.t 156) (.t 153)))⟩,
     .op ⟨(some 157), none, (.r (.iasl 1 (.t 148) (.t 150)))⟩,
     .op ⟨none, none, (.e (.store 1 (.t 157) (.t 155)))⟩])
   (.region [.op ⟨(some 158), none, (.r (.mv (.t 4)))⟩,
     .op ⟨(some 159), none, (.r (.bin .sub (.t 158) (.c (.int .i64 (.ofNat 2)))))⟩,
     .op ⟨(some 4), none, (.r (.mv (.t 159)))⟩]))))
   .skip))
  (.seq (.region [.op ⟨(some 160), none, (.r (.mv (.t 4)))⟩,
    .op ⟨(some 161), none, (.r (.bin .gtr (.t 160) (.c (.int .i64 (.ofNat 0)))))⟩])
  (.cond (.t 161)
   (.region [.op ⟨(some 162), none, (.r (.mv (.t 0)))⟩,
     .op ⟨(some 163), none, (.r (.mv (.t 12)))⟩,
     .op ⟨(some 164), none, (.r (.bin .add (.c (.int .u32 (.ofNat 48))) (.t 163)))⟩,
     .op ⟨(some 165), none, (.r (.cint .u8 (.t 164)))⟩,
     .op ⟨(some 166), none, (.r (.iasl 1 (.t 162) (.c (.int .i64 (.ofNat 0)))))⟩,
     .op ⟨none, none, (.e (.store 1 (.t 166) (.t 165)))⟩])
   .skip))))))) }
theorem tr_internal_strconv_formatBase10 : trF cx Tryd.f89 = pf_internal_strconv_formatBase10 := by kernel_rfl
def l0_internal_strconv_formatBits : PC :=
  (.seq (.seq (.region [.op ⟨(some 44), none, (.r (.mv (.t 1)))⟩,
    .op ⟨(some 45), none, (.r (.mv (.t 15)))⟩,
    .op ⟨(some 46), none, (.r (.bin .geq (.t 44) (.t 45)))⟩])
  (.cond (.t 46)
   .skip
   (.exit 0)))
  (.block 1 (.seq (.region [.op ⟨(some 47), none, (.r (.mv (.t 13)))⟩,
     .op ⟨(some 48), none, (.r (.bin .sub (.t 47) (.c (.int .i64 (.ofNat 1)))))⟩,
     .op ⟨(some 13), none, (.r (.mv (.t 48)))⟩])
   (.seq (.region [.op ⟨(some 49), none, (.r (.mv (.t 13)))⟩,
     .op ⟨(some 50), none, (.r (.mv (.t 1)))⟩,
     .op ⟨(some 51), none, (.r (.mv (.t 16)))⟩,
     .op ⟨(some 52), none, (.r (.bin .and (.t 50) (.t 51)))⟩,
     .op ⟨(some 53), none, (.r (.ixstr (.c (.str [48, 49, 50, 51, 52, 53, 54, 55, 56, 57, 97, 98, 99, 100, 101, 102, 103, 104, 105, 106, 107, 108, 109, 110, 111, 112, 113, 114, 115, 116, 117, 118, 119, 120, 121, 122])) (.t 52)))⟩,
     .op ⟨(some 54), none, (.r (.iaarr 65 1 (.t 12) (.t 49)))⟩,
     .op ⟨none, none, (.e (.store 1 (.t 54) (.t 53)))⟩])
   (.region [.op ⟨(some 55), none, (.r (.mv (.t 1)))⟩,
     .op ⟨(some 56), none, (.r (.mv (.t 14)))⟩,
     .op ⟨(some 57), none, (.r (.bin .shr (.t 55) (.t 56)))⟩,
     .op ⟨(some 1), none, (.r (.mv (.t 57)))⟩])))))
def l1_internal_strconv_formatBits : PC :=
  (.seq (.seq (.region [.op ⟨(some 66), none, (.r (.mv (.t 1)))⟩,
    .op ⟨(some 67), none, (.r (.mv (.t 17)))⟩,
    .op ⟨(some 68), none, (.r (.bin .geq (.t 66) (.t 67)))⟩])
  (.cond (.t 68)
   .skip
   (.exit 2)))
  (.block 3 (.seq (.region [.op ⟨(some 69), none, (.r (.mv (.t 13)))⟩,
     .op ⟨(some 70), none, (.r (.bin .sub (.t 69) (.c (.int .i64 (.ofNat 1)))))⟩,
     .op ⟨(some 13), none, (.r (.mv (.t 70)))⟩])
   (.seq (.region [.op ⟨(some 71), none, (.r (.mv (.t 1)))⟩,
     .op ⟨(some 72), none, (.r (.mv (.t 17)))⟩,
     .op ⟨(some 73), none, (.r (.bin .quo (.t 71) (.t 72)))⟩,
     .op ⟨(some 18), none, (.r (.mv (.t 73)))⟩])
   (.seq (.region [.op ⟨(some 74), none, (.r (.mv (.t 13)))⟩,
     .op ⟨(some 75), none, (.r (.mv (.t 1)))⟩,
     .op ⟨(some 76), none, (.r (.mv (.t 18)))⟩,
     .op ⟨(some 77), none, (.r (.mv (.t 17)))⟩,
     .op ⟨(some 78), none, (.r (.bin .mul (.t 76) (.t 77)))⟩,
     .op ⟨(some 79), none, (.r (.bin .sub (.t 75) (.t 78)))⟩,
     .op ⟨(some 80), none, (.r (.ixstr (.c (.str [48, 49, 50, 51, 52, 53, 54, 55, 56, 57, 97, 98, 99, 100, 101, 102, 103, 104, 105, 106, 107, 108, 109, 110, 111, 112, 113, 114, 115, 116, 117, 118, 119, 120, 121, 122])) (.t 79)))⟩,
     .op ⟨(some 81), none, (.r (.iaarr 65 1 (.t 12) (.t 74)))⟩,
     .op ⟨none, none, (.e (.store 1 (.t 81) (.t 80)))⟩])
   (.region [.op ⟨(some 82), none, (.r (.mv (.t 18)))⟩,
     .op ⟨(some 1), none, (.r (.mv (.t 82)))⟩]))))))
/-- internal/strconv.formatBits -/
def pf_internal_strconv_formatBits : PF := { ntmps := 102, results := [.tmp 10, .tmp 11], body :=
  (.seq (.region [.op ⟨(some 10), none, (.r (.mv (.c .nils)))⟩,
    .op ⟨(some 11), none, (.r (.mv (.c (.str []))))⟩])
  (.seq (.seq (.region [.op ⟨(some 19), none, (.r (.mv (.t 2)))⟩,
    .op ⟨(some 20), none, (.r (.bin .lss (.t 19) (.c (.int .i64 (.ofNat 2)))))⟩,
    .op ⟨(some 21), none, (.r (.mv (.t 20)))⟩,
    .op ⟨(some 22), (some (21, false)), (.r (.mv (.t 2)))⟩,
    .op ⟨(some 23), (some (21, false)), (.r (.bin .eql (.t 22) (.c (.int .i64 (.ofNat 10)))))⟩,
    .op ⟨(some 24), none, (.r (.pick (.t 21) (.c (.bool true)) (.t 23)))⟩,
    .op ⟨(some 25), none, (.r (.mv (.t 24)))⟩,
    .op ⟨(some 26), (some (25, false)), (.r (.mv (.t 2)))⟩,
    .op ⟨(some 27), (some (25, false)), (.r (.bin .gtr (.t 26) (.c (.int .i64 (.ofNat 36)))))⟩,
    .op ⟨(some 28), none, (.r (.pick (.t 25) (.c (.bool true)) (.t 27)))⟩])
  (.cond (.t 28)
   (.region [.op ⟨(some 29), none, (.r (.bad))⟩,
     .op ⟨none, none, (.r (.bad))⟩])
   .skip))
  (.seq (.region [.op ⟨(some 12), none, (.n (.new 0 (rep 65 [(.int .u8 (.ofNat 0))])))⟩])
  (.seq (.region [.op ⟨(some 13), none, (.r (.mv (.c (.int .i64 (.ofNat 65)))))⟩])
  (.seq (.seq (.region [.op ⟨(some 30), none, (.r (.mv (.t 3)))⟩])
  (.cond (.t 30)
   (.region [.op ⟨(some 31), none, (.r (.mv (.t 1)))⟩,
     .op ⟨(some 32), none, (.r (.un .neg (.t 31)))⟩,
     .op ⟨(some 1), none, (.r (.mv (.t 32)))⟩])
   .skip))
  (.seq (.seq (.region [.op ⟨(some 33), none, (.r (.mv (.t 2)))⟩,
    .op ⟨(some 34), none, (.e (.call n_internal_strconv_isPowerOfTwo [(.t 33)]))⟩])
  (.cond (.t 34)
   (.seq (.region [.op ⟨(some 35), none, (.r (.mv (.t 2)))⟩,
     .op ⟨(some 36), none, (.r (.cint .u64 (.t 35)))⟩,
     .op ⟨(some 37), none, (.e (.call n_math_bits_TrailingZeros [(.t 36)]))⟩,
     .op ⟨(some 38), none, (.r (.cint .u64 (.t 37)))⟩,
     .op ⟨(some 14), none, (.r (.mv (.t 38)))⟩])
   (.seq (.region [.op ⟨(some 39), none, (.r (.mv (.t 2)))⟩,
     .op ⟨(some 40), none, (.r (.cint .u64 (.t 39)))⟩,
     .op ⟨(some 15), none, (.r (.mv (.t 40)))⟩])
   (.seq (.region [.op ⟨(some 41), none, (.r (.mv (.t 2)))⟩,
     .op ⟨(some 42), none, (.r (.cint .u64 (.t 41)))⟩,
     .op ⟨(some 43), none, (.r (.bin .sub (.t 42) (.c (.int .u64 (.ofNat 1)))))⟩,
     .op ⟨(some 16), none, (.r (.mv (.t 43)))⟩])
   (.seq (.block 0 (.loop l0_internal_strconv_formatBits))
   (.seq (.region [.op ⟨(some 58), none, (.r (.mv (.t 13)))⟩,
     .op ⟨(some 59), none, (.r (.bin .sub (.t 58) (.c (.int .i64 (.ofNat 1)))))⟩,
     .op ⟨(some 13), none, (.r (.mv (.t 59)))⟩])
   (.region [.op ⟨(some 60), none, (.r (.mv (.t 13)))⟩,
     .op ⟨(some 61), none, (.r (.mv (.t 1)))⟩,
     .op ⟨(some 62), none, (.r (.ixstr (.c (.str [48, 49, 50, 51, 52, 53, 54, 55, 56, 57, 97, 98, 99, 100, 101, 102, 103, 104, 105, 106, 107, 108, 109, 110, 111, 112, 113, 114, 115, 116, 117, 118, 119, 120, 121, 122])) (.t 61)))⟩,
     .op ⟨(some 63), none, (.r (.iaarr 65 1 (.t 12) (.t 60)))⟩,
     .op ⟨none, none, (.e (.store 1 (.t 63) (.t 62)))⟩]))))))
   (.seq (.region [.op ⟨(some 64), none, (.r (.mv (.t 2)))⟩,
     .op ⟨(some 65), none, (.r (.cint .u64 (.t 64)))⟩,
     .op ⟨(some 17), none, (.r (.mv (.t 65)))⟩])
   (.seq (.block 2 (.loop l1_internal_strconv_formatBits))
   (.seq (.region [.op ⟨(some 83), none, (.r (.mv (.t 13)))⟩,
     .op ⟨(some 84), none, (.r (.bin .sub (.t 83) (.c (.int .i64 (.ofNat 1)))))⟩,
     .op ⟨(some 13), none, (.r (.mv (.t 84)))⟩])
   (.region [.op ⟨(some 85), none, (.r (.mv (.t 13)))⟩,
     .op ⟨(some 86), none, (.r (.mv (.t 1)))⟩,
     .op ⟨(some 87), none, (.r (.ixstr (.c (.str [48, 49, 50, 51, 52, 53, 54, 55, 56, 57, 97, 98, 99, 100, 101, 102, 103, 104, 105, 106, 107, 108, 109, 110, 111, 112, 113, 114, 115, 116, 117, 118, 119, 120, 121, 122])) (.t 86)))⟩,
     .op ⟨(some 88), none, (.r (.iaarr 65 1 (.t 12) (.t 85)))⟩,
     .op ⟨none, none, (.e (.store 1 (.t 88) (.t 87)))⟩]))))))
  (.seq (.seq (.region [.op ⟨(some 89), none, (.r (.mv (.t 3)))⟩])
  (.cond (.t 89)
   (.seq (.region [.op ⟨(some 90), none, (.r (.mv (.t 13)))⟩,
     .op ⟨(some 91), none, (.r (.bin .sub (.t 90) (.c (.int .i64 (.ofNat 1)))))⟩,
     .op ⟨(some 13), none, (.r (.mv (.t 91)))⟩])
   (.region [.op ⟨(some 92), none, (.r (.mv (.t 13)))⟩,
     .op ⟨(some 93), none, (.r (.iaarr 65 1 (.t 12) (.t 92)))⟩,
     .op ⟨none, none, (.e (.store 1 (.t 93) (.c (.int .u8 (.ofNat 45)))))⟩]))
   .skip))
  (.seq (.seq (.region [.op ⟨(some 94), none, (.r (.mv (.t 4)))⟩])
  (.cond (.t 94)
   (.seq (.region [.op ⟨(some 95), none, (.r (.mv (.t 0)))⟩,
     .op ⟨(some 96), none, (.r (.mv (.t 13)))⟩,
     .op ⟨(some 97), none, (.r (.slarr 65 1 (.t 12) (some (.t 96)) none))⟩,
     .op ⟨(some 98), none, (.e (.app 2 1 1 (.t 95) (.t 97)))⟩,
     .op ⟨(some 10), none, (.r (.mv (.t 98)))⟩])
   .ret)
   .skip))
  (.seq (.region [.op ⟨(some 99), none, (.r (.mv (.t 13)))⟩,
    .op ⟨(some 100), none, (.r (.slarr 65 1 (.t 12) (some (.t 99)) none))⟩,
    .op ⟨(some 101), none, (.r (.b2s (.t 100)))⟩,
    .op ⟨(some 11), none, (.r (.mv (.t 101)))⟩])
  .ret))))))))) }
theorem tr_internal_strconv_formatBits : trF cx Tryd.f90 = pf_internal_strconv_formatBits := by kernel_rfl
/-- internal/strconv.log10Pow2 -/
def pf_internal_strconv_log10Pow2 : PF := { ntmps := 6, results := [.tmp 2], body :=
  (.seq (.region [.op ⟨(some 2), none, (.r (.mv (.c (.int .i64 (.ofNat 0)))))⟩])
  (.seq (.region [.op ⟨(some 3), none, (.r (.mv (.t 0)))⟩,
    .op ⟨(some 4), none, (.r (.bin .mul (.t 3) (.c (.int .i64 (.ofNat 78913)))))⟩,
    .op ⟨(some 5), none, (.r (.bin .shr (.t 4) (.c (.int .u64 (.ofNat 18)))))⟩,
    .op ⟨(some 2), none, (.r (.mv (.t 5)))⟩])
  .ret)) }
theorem tr_internal_strconv_log10Pow2 : trF cx Tryd.f91 = pf_internal_strconv_log10Pow2 := by kernel_rfl
/-- math/bits.Len64 -/
def pf_math_bits_Len64 : PF := { ntmps := 25, results := [.tmp 2], body :=
  (.seq (.region [.op ⟨(some 2), none, (.r (.mv (.c (.int .i64 (.ofNat 0)))))⟩])
  (.seq (.seq (.region [.op ⟨(some 3), none, (.r (.mv (.t 0)))⟩,
    .op ⟨(some 4), none, (.r (.bin .geq (.t 3) (.c (.int .u64 (.ofNat 4294967296)))))⟩])
  (.cond (.t 4)
   (.seq (.region [.op ⟨(some 5), none, (.r (.mv (.t 0)))⟩,
     .op ⟨(some 6), none, (.r (.bin .shr (.t 5) (.c (.int .u64 (.ofNat 32)))))⟩,
     .op ⟨(some 0), none, (.r (.mv (.t 6)))⟩])
   (.region [.op ⟨(some 2), none, (.r (.mv (.c (.int .i64 (.ofNat 32)))))⟩]))
   .skip))
  (.seq (.seq (.region [.op ⟨(some 7), none, (.r (.mv (.t 0)))⟩,
    .op ⟨(some 8), none, (.r (.bin .geq (.t 7) (.c (.int .u64 (.ofNat 65536)))))⟩])
  (.cond (.t 8)
   (.seq (.region [.op ⟨(some 9), none, (.r (.mv (.t 0)))⟩,
     .op ⟨(some 10), none, (.r (.bin .shr (.t 9) (.c (.int .u64 (.ofNat 16)))))⟩,
     .op ⟨(some 0), none, (.r (.mv (.t 10)))⟩])
   (.region [.op ⟨(some 11), none, (.r (.mv (.t 2)))⟩,
     .op ⟨(some 12), none, (.r (.bin .add (.t 11) (.c (.int .i64 (.ofNat 16)))))⟩,
     .op ⟨(some 2), none, (.r (.mv (.t 12)))⟩]))
   .skip))
  (.seq (.seq (.region [.op ⟨(some 13), none, (.r (.mv (.t 0)))⟩,
    .op ⟨(some 14), none, (.r (.bin .geq (.t 13) (.c (.int .u64 (.ofNat 256)))))⟩])
  (.cond (.t 14)
   (.seq (.region [.op ⟨(some 15), none, (.r (.mv (.t 0)))⟩,
     .op ⟨(some 16), none, (.r (.bin .shr (.t 15) (.c (.int .u64 (.ofNat 8)))))⟩,
     .op ⟨(some 0), none, (.r (.mv (.t 16)))⟩])
   (.region [.op ⟨(some 17), none, (.r (.mv (.t 2)))⟩,
     .op ⟨(some 18), none, (.r (.bin .add (.t 17) (.c (.int .i64 (.ofNat 8)))))⟩,
     .op ⟨(some 2), none, (.r (.mv (.t 18)))⟩]))
   .skip))
  (.seq (.region [.op ⟨(some 19), none, (.r (.mv (.t 2)))⟩,
    .op ⟨(some 20), none, (.r (.mv (.t 0)))⟩,
    .op ⟨(some 21), none, (.r (.cint .u8 (.t 20)))⟩,
    .op ⟨(some 22), none, (.r (.ixstr (.c (.str [0, 1, 2, 2, 3, 3, 3, 3, 4, 4, 4, 4, 4, 4, 4, 4, 5, 5, 5, 5, 5, 5, 5, 5, 5, 5, 5, 5, 5, 5, 5, 5, 6, 6, 6, 6, 6, 6, 6, 6, 6, 6, 6, 6, 6, 6, 6, 6, 6, 6, 6, 6, 6, 6, 6, 6, 6, 6, 6, 6, 6, 6, 6, 6, 7, 7, 7, 7, 7, 7, 7, 7, 7, 7, 7, 7, 7, 7, 7, 7, 7, 7, 7, 7, 7, 7, 7, 7, 7, 7, 7, 7, 7, 7, 7, 7, 7, 7, 7, 7, 7, 7, 7, 7, 7, 7, 7, 7, 7, 7, 7, 7, 7, 7, 7, 7, 7, 7, 7, 7, 7, 7, 7, 7, 7, 7, 7, 7, 8, 8, 8, 8, 8, 8, 8, 8, 8, 8, 8, 8, 8, 8, 8, 8, 8, 8, 8, 8, 8, 8, 8, 8, 8, 8, 8, 8, 8, 8, 8, 8, 8, 8, 8, 8, 8, 8, 8, 8, 8, 8, 8, 8, 8, 8, 8, 8, 8, 8, 8, 8, 8, 8, 8, 8, 8, 8, 8, 8, 8, 8, 8, 8, 8, 8, 8, 8, 8, 8, 8, 8, 8, 8, 8, 8, 8, 8, 8, 8, 8, 8, 8, 8, 8, 8, 8, 8, 8, 8, 8, 8, 8, 8, 8, 8, 8, 8, 8, 8, 8, 8, 8, 8, 8, 8, 8, 8, 8, 8, 8, 8, 8, 8, 8, 8, 8, 8, 8, 8, 8, 8, 8, 8, 8, 8, 8, 8])) (.t 21)))⟩,
    .op ⟨(some 23), none, (.r (.cint .i64 (.t 22)))⟩,
    .op ⟨(some 24), none, (.r (.bin .add (.t 19) (.t 23)))⟩,
    .op ⟨(some 2), none, (.r (.mv (.t 24)))⟩])
  .ret))))) }
theorem tr_math_bits_Len64 : trF cx Tryd.f92 = pf_math_bits_Len64 := by kernel_rfl
/-- internal/strconv.bool2[int] -/
def pf_internal_strconv_bool2_int : PF := { ntmps := 4, results := [.tmp 2], body :=
  (.seq (.region [.op ⟨(some 2), none, (.r (.mv (.c (.int .i64 (.ofNat 0)))))⟩])
  (.seq (.seq (.region [.op ⟨(some 3), none, (.r (.mv (.t 0)))⟩])
  (.cond (.t 3)
   (.seq (.region [.op ⟨(some 2), none, (.r (.mv (.c (.int .i64 (.ofNat 1)))))⟩])
   .ret)
   .skip))
  (.seq (.region [.op ⟨(some 2), none, (.r (.mv (.c (.int .i64 (.ofNat 0)))))⟩])
  .ret))) }
theorem tr_internal_strconv_bool2_int : trF cx Tryd.f93 = pf_internal_strconv_bool2_int := by kernel_rfl
/-- internal/strconv.isPowerOfTwo -/
def pf_internal_strconv_isPowerOfTwo : PF := { ntmps := 8, results := [.tmp 2], body :=
  (.seq (.region [.op ⟨(some 2), none, (.r (.mv (.c (.bool false))))⟩])
  (.seq (.region [.op ⟨(some 3), none, (.r (.mv (.t 0)))⟩,
    .op ⟨(some 4), none, (.r (.mv (.t 0)))⟩,
    .op ⟨(some 5), none, (.r (.bin .sub (.t 4) (.c (.int .i64 (.ofNat 1)))))⟩,
    .op ⟨(some 6), none, (.r (.bin .and (.t 3) (.t 5)))⟩,
    .op ⟨(some 7), none, (.r (.bin .eql (.t 6) (.c (.int .i64 (.ofNat 0)))))⟩,
    .op ⟨(some 2), none, (.r (.mv (.t 7)))⟩])
  .ret)) }
theorem tr_internal_strconv_isPowerOfTwo : trF cx Tryd.f94 = pf_internal_strconv_isPowerOfTwo := by kernel_rfl
/-- math/bits.TrailingZeros -/
def pf_math_bits_TrailingZeros : PF := { ntmps := 8, results := [.tmp 2], body :=
  (.seq (.region [.op ⟨(some 2), none, (.r (.mv (.c (.int .i64 (.ofNat 0)))))⟩])
  (.seq (.cond (.c (.bool false))
   (.seq (.region [.op ⟨(some 3), none, (.r (.mv (.t 0)))⟩,
     .op ⟨(some 4), none, (.r (.cint .u32 (.t 3)))⟩,
     .op ⟨(some 5), none, (.e (.call n_math_bits_TrailingZeros32 [(.t 4)]))⟩,
     .op ⟨(some 2), none, (.r (.mv (.t 5)))⟩])
   .ret)
   .skip)
  (.seq (.region [.op ⟨(some 6), none, (.r (.mv (.t 0)))⟩,
    .op ⟨(some 7), none, (.e (.call n_math_bits_TrailingZeros64 [(.t 6)]))⟩,
    .op ⟨(some 2), none, (.r (.mv (.t 7)))⟩])
  .ret))) }
theorem tr_math_bits_TrailingZeros : trF cx Tryd.f95 = pf_math_bits_TrailingZeros := by kernel_rfl
/-- math/bits.TrailingZeros32 -/
def pf_math_bits_TrailingZeros32 : PF := { ntmps := 14, results := [.tmp 2], body :=
  (.seq (.region [.op ⟨(some 2), none, (.r (.mv (.c (.int .i64 (.ofNat 0)))))⟩])
  (.seq (.seq (.region [.op ⟨(some 3), none, (.r (.mv (.t 0)))⟩,
    .op ⟨(some 4), none, (.r (.bin .eql (.t 3) (.c (.int .u32 (.ofNat 0)))))⟩])
  (.cond (.t 4)
   (.seq (.region [.op ⟨(some 2), none, (.r (.mv (.c (.int .i64 (.ofNat 32)))))⟩])
   .ret)
   .skip))
  (.seq (.region [.op ⟨(some 5), none, (.r (.mv (.t 0)))⟩,
    .op ⟨(some 6), none, (.r (.mv (.t 0)))⟩,
    .op ⟨(some 7), none, (.r (.un .neg (.t 6)))⟩,
    .op ⟨(some 8), none, (.r (.bin .and (.t 5) (.t 7)))⟩,
    .op ⟨(some 9), none, (.r (.bin .mul (.t 8) (.c (.int .u32 (.ofNat 125613361)))))⟩,
    .op ⟨(some 10), none, (.r (.bin .shr (.t 9) (.c (.int .u64 (.ofNat 27)))))⟩,
    .op ⟨(some 11), none, (.r (.bad))⟩,
    .op ⟨(some 12), none, (.r (.load false 1 (.t 11)))⟩,
    .op ⟨(some 13), none, (.r (.cint .i64 (.t 12)))⟩,
    .op ⟨(some 2), none, (.r (.mv (.t 13)))⟩])
  .ret))) }
theorem tr_math_bits_TrailingZeros32 : trF cx Tryd.f96 = pf_math_bits_TrailingZeros32 := by kernel_rfl
/-- math/bits.TrailingZeros64 -/
def pf_math_bits_TrailingZeros64 : PF := { ntmps := 14, results := [.tmp 2], body :=
  (.seq (.region [.op ⟨(some 2), none, (.r (.mv (.c (.int .i64 (.ofNat 0)))))⟩])
  (.seq (.seq (.region [.op ⟨(some 3), none, (.r (.mv (.t 0)))⟩,
    .op ⟨(some 4), none, (.r (.bin .eql (.t 3) (.c (.int .u64 (.ofNat 0)))))⟩])
  (.cond (.t 4)
   (.seq (.region [.op ⟨(some 2), none, (.r (.mv (.c (.int .i64 (.ofNat 64)))))⟩])
   .ret)
   .skip))
  (.seq (.region [.op ⟨(some 5), none, (.r (.mv (.t 0)))⟩,
    .op ⟨(some 6), none, (.r (.mv (.t 0)))⟩,
    .op ⟨(some 7), none, (.r (.un .neg (.t 6)))⟩,
    .op ⟨(some 8), none, (.r (.bin .and (.t 5) (.t 7)))⟩,
    .op ⟨(some 9), none, (.r (.bin .mul (.t 8) (.c (.int .u64 (.ofNat 285870213051353865)))))⟩,
    .op ⟨(some 10), none, (.r (.bin .shr (.t 9) (.c (.int .u64 (.ofNat 58)))))⟩,
    .op ⟨(some 11), none, (.r (.bad))⟩,
    .op ⟨(some 12), none, (.r (.load false 1 (.t 11)))⟩,
    .op ⟨(some 13), none, (.r (.cint .i64 (.t 12)))⟩,
    .op ⟨(some 2), none, (.r (.mv (.t 13)))⟩])
  .ret))) }
theorem tr_math_bits_TrailingZeros64 : trF cx Tryd.f97 = pf_math_bits_TrailingZeros64 := by kernel_rfl
end Go.Proofs.YtjlfnolaifkakaaDoor
