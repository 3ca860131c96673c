/- The functions that this seat's laws reach, for the clean machine; each is what the translation makes of the given text. Conditions: none. Printed by program. -/
import Derived.Test.YtihoblfmhighpaaLibTA
namespace Go.Proofs.Ytihoblfmhighpaa
open Go.Dp
def pf_cmp_Less_string : PF := { ntmps := 17, results := [.tmp 4], body :=
  (.seq (.region [.op ⟨some 4, none, .r (.mv (.c (.bool false)))⟩])
  (.seq (.region [.op ⟨some 5, none, .r (.mv (.t 0))⟩, .op ⟨some 6, none, .e (.call n_cmp_isNaN_string [(.t 5)])⟩, .op ⟨some 7, none, .r (.mv (.t 6))⟩, .op ⟨some 8, some (7, true), .r (.mv (.t 1))⟩, .op ⟨some 9, some (7, true), .e (.call n_cmp_isNaN_string [(.t 8)])⟩, .op ⟨some 10, some (7, true), .r (.un .not (.t 9))⟩, .op ⟨some 11, none, .r (.pick (.t 7) (.t 10) (.c (.bool false)))⟩, .op ⟨some 12, none, .r (.mv (.t 11))⟩,
    .op ⟨some 13, some (12, false), .r (.mv (.t 0))⟩, .op ⟨some 14, some (12, false), .r (.mv (.t 1))⟩, .op ⟨some 15, some (12, false), .r (.bin .lss (.t 13) (.t 14))⟩, .op ⟨some 16, none, .r (.pick (.t 12) (.c (.bool true)) (.t 15))⟩, .op ⟨some 4, none, .r (.mv (.t 16))⟩])
  .ret)) }
theorem tr_cmp_Less_string : trF cx Try.f72 = pf_cmp_Less_string := by kernel_rfl
def l0_slices_partitionOrdered_string : PC :=
  (.seq (.seq (.region [.op ⟨some 30, none, .r (.mv (.t 10))⟩, .op ⟨some 31, none, .r (.mv (.t 11))⟩, .op ⟨some 32, none, .r (.bin .leq (.t 30) (.t 31))⟩, .op ⟨some 33, none, .r (.mv (.t 32))⟩, .op ⟨some 34, some (33, true), .r (.mv (.t 0))⟩, .op ⟨some 35, some (33, true), .r (.mv (.t 10))⟩, .op ⟨some 36, some (33, true), .r (.iasl 1 (.t 34) (.t 35))⟩, .op ⟨some 37, some (33, true), .r (.load false 1 (.t 36))⟩,
    .op ⟨some 38, some (33, true), .r (.mv (.t 0))⟩, .op ⟨some 39, some (33, true), .r (.mv (.t 1))⟩, .op ⟨some 40, some (33, true), .r (.iasl 1 (.t 38) (.t 39))⟩, .op ⟨some 41, some (33, true), .r (.load false 1 (.t 40))⟩, .op ⟨some 42, some (33, true), .e (.call n_cmp_Less_string [(.t 37), (.t 41)])⟩, .op ⟨some 43, none, .r (.pick (.t 33) (.t 42) (.c (.bool false)))⟩])
  (.cond (.t 43)
   .skip
   (.exit 0)))
  (.block 1 (.region [.op ⟨some 44, none, .r (.mv (.t 10))⟩, .op ⟨some 45, none, .r (.bin .add (.t 44) (.c (.int .i64 (.ofNat 1))))⟩, .op ⟨some 10, none, .r (.mv (.t 45))⟩])))
def l1_slices_partitionOrdered_string : PC :=
  (.seq (.seq (.region [.op ⟨some 46, none, .r (.mv (.t 10))⟩, .op ⟨some 47, none, .r (.mv (.t 11))⟩, .op ⟨some 48, none, .r (.bin .leq (.t 46) (.t 47))⟩, .op ⟨some 49, none, .r (.mv (.t 48))⟩, .op ⟨some 50, some (49, true), .r (.mv (.t 0))⟩, .op ⟨some 51, some (49, true), .r (.mv (.t 11))⟩, .op ⟨some 52, some (49, true), .r (.iasl 1 (.t 50) (.t 51))⟩, .op ⟨some 53, some (49, true), .r (.load false 1 (.t 52))⟩,
    .op ⟨some 54, some (49, true), .r (.mv (.t 0))⟩, .op ⟨some 55, some (49, true), .r (.mv (.t 1))⟩, .op ⟨some 56, some (49, true), .r (.iasl 1 (.t 54) (.t 55))⟩, .op ⟨some 57, some (49, true), .r (.load false 1 (.t 56))⟩, .op ⟨some 58, some (49, true), .e (.call n_cmp_Less_string [(.t 53), (.t 57)])⟩, .op ⟨some 59, some (49, true), .r (.un .not (.t 58))⟩, .op ⟨some 60, none, .r (.pick (.t 49) (.t 59) (.c (.bool false)))⟩])
  (.cond (.t 60)
   .skip
   (.exit 2)))
  (.block 3 (.region [.op ⟨some 61, none, .r (.mv (.t 11))⟩, .op ⟨some 62, none, .r (.bin .sub (.t 61) (.c (.int .i64 (.ofNat 1))))⟩, .op ⟨some 11, none, .r (.mv (.t 62))⟩])))
def l2_slices_partitionOrdered_string : PC :=
  (.seq (.seq (.region [.op ⟨some 99, none, .r (.mv (.t 10))⟩, .op ⟨some 100, none, .r (.mv (.t 11))⟩, .op ⟨some 101, none, .r (.bin .leq (.t 99) (.t 100))⟩, .op ⟨some 102, none, .r (.mv (.t 101))⟩, .op ⟨some 103, some (102, true), .r (.mv (.t 0))⟩, .op ⟨some 104, some (102, true), .r (.mv (.t 10))⟩, .op ⟨some 105, some (102, true), .r (.iasl 1 (.t 103) (.t 104))⟩, .op ⟨some 106, some (102, true), .r (.load false 1 (.t 105))⟩,
    .op ⟨some 107, some (102, true), .r (.mv (.t 0))⟩, .op ⟨some 108, some (102, true), .r (.mv (.t 1))⟩, .op ⟨some 109, some (102, true), .r (.iasl 1 (.t 107) (.t 108))⟩, .op ⟨some 110, some (102, true), .r (.load false 1 (.t 109))⟩, .op ⟨some 111, some (102, true), .e (.call n_cmp_Less_string [(.t 106), (.t 110)])⟩, .op ⟨some 112, none, .r (.pick (.t 102) (.t 111) (.c (.bool false)))⟩])
  (.cond (.t 112)
   .skip
   (.exit 6)))
  (.block 7 (.region [.op ⟨some 113, none, .r (.mv (.t 10))⟩, .op ⟨some 114, none, .r (.bin .add (.t 113) (.c (.int .i64 (.ofNat 1))))⟩, .op ⟨some 10, none, .r (.mv (.t 114))⟩])))
def l3_slices_partitionOrdered_string : PC :=
  (.seq (.seq (.region [.op ⟨some 115, none, .r (.mv (.t 10))⟩, .op ⟨some 116, none, .r (.mv (.t 11))⟩, .op ⟨some 117, none, .r (.bin .leq (.t 115) (.t 116))⟩, .op ⟨some 118, none, .r (.mv (.t 117))⟩, .op ⟨some 119, some (118, true), .r (.mv (.t 0))⟩, .op ⟨some 120, some (118, true), .r (.mv (.t 11))⟩, .op ⟨some 121, some (118, true), .r (.iasl 1 (.t 119) (.t 120))⟩, .op ⟨some 122, some (118, true), .r (.load false 1 (.t 121))⟩,
    .op ⟨some 123, some (118, true), .r (.mv (.t 0))⟩, .op ⟨some 124, some (118, true), .r (.mv (.t 1))⟩, .op ⟨some 125, some (118, true), .r (.iasl 1 (.t 123) (.t 124))⟩, .op ⟨some 126, some (118, true), .r (.load false 1 (.t 125))⟩, .op ⟨some 127, some (118, true), .e (.call n_cmp_Less_string [(.t 122), (.t 126)])⟩, .op ⟨some 128, some (118, true), .r (.un .not (.t 127))⟩, .op ⟨some 129, none, .r (.pick (.t 118) (.t 128) (.c (.bool false)))⟩])
  (.cond (.t 129)
   .skip
   (.exit 8)))
  (.block 9 (.region [.op ⟨some 130, none, .r (.mv (.t 11))⟩, .op ⟨some 131, none, .r (.bin .sub (.t 130) (.c (.int .i64 (.ofNat 1))))⟩, .op ⟨some 11, none, .r (.mv (.t 131))⟩])))
def l4_slices_partitionOrdered_string : PC :=
  (.block 5 (.seq (.block 6 (.loop l2_slices_partitionOrdered_string))
   (.seq (.block 8 (.loop l3_slices_partitionOrdered_string))
   (.seq (.seq (.region [.op ⟨some 132, none, .r (.mv (.t 10))⟩, .op ⟨some 133, none, .r (.mv (.t 11))⟩, .op ⟨some 134, none, .r (.bin .gtr (.t 132) (.t 133))⟩])
   (.cond (.t 134)
    (.exit 4)
    .skip))
   (.seq (.region [.op ⟨some 135, none, .r (.mv (.t 0))⟩, .op ⟨some 136, none, .r (.mv (.t 10))⟩, .op ⟨some 137, none, .r (.mv (.t 0))⟩, .op ⟨some 138, none, .r (.mv (.t 11))⟩, .op ⟨some 139, none, .r (.mv (.t 0))⟩, .op ⟨some 140, none, .r (.mv (.t 11))⟩, .op ⟨some 141, none, .r (.iasl 1 (.t 139) (.t 140))⟩, .op ⟨some 142, none, .r (.load false 1 (.t 141))⟩, .op ⟨some 143, none, .r (.mv (.t 0))⟩, .op ⟨some 144, none, .r (.mv (.t 10))⟩,
     .op ⟨some 145, none, .r (.iasl 1 (.t 143) (.t 144))⟩, .op ⟨some 146, none, .r (.load false 1 (.t 145))⟩, .op ⟨some 147, none, .r (.iasl 1 (.t 135) (.t 136))⟩, .op ⟨none, none, .e (.store 1 (.t 147) (.t 142))⟩, .op ⟨some 148, none, .r (.iasl 1 (.t 137) (.t 138))⟩, .op ⟨none, none, .e (.store 1 (.t 148) (.t 146))⟩])
   (.seq (.region [.op ⟨some 149, none, .r (.mv (.t 10))⟩, .op ⟨some 150, none, .r (.bin .add (.t 149) (.c (.int .i64 (.ofNat 1))))⟩, .op ⟨some 10, none, .r (.mv (.t 150))⟩])
   (.region [.op ⟨some 151, none, .r (.mv (.t 11))⟩, .op ⟨some 152, none, .r (.bin .sub (.t 151) (.c (.int .i64 (.ofNat 1))))⟩, .op ⟨some 11, none, .r (.mv (.t 152))⟩])))))))
def pf_slices_partitionOrdered_string : PF := { ntmps := 168, results := [.tmp 8, .tmp 9], body :=
  (.seq (.region [.op ⟨some 8, none, .r (.mv (.c (.int .i64 (.ofNat 0))))⟩, .op ⟨some 9, none, .r (.mv (.c (.bool false)))⟩])
  (.seq (.region [.op ⟨some 12, none, .r (.mv (.t 0))⟩, .op ⟨some 13, none, .r (.mv (.t 1))⟩, .op ⟨some 14, none, .r (.mv (.t 0))⟩, .op ⟨some 15, none, .r (.mv (.t 3))⟩, .op ⟨some 16, none, .r (.mv (.t 0))⟩, .op ⟨some 17, none, .r (.mv (.t 3))⟩, .op ⟨some 18, none, .r (.iasl 1 (.t 16) (.t 17))⟩, .op ⟨some 19, none, .r (.load false 1 (.t 18))⟩, .op ⟨some 20, none, .r (.mv (.t 0))⟩, .op ⟨some 21, none, .r (.mv (.t 1))⟩,
    .op ⟨some 22, none, .r (.iasl 1 (.t 20) (.t 21))⟩, .op ⟨some 23, none, .r (.load false 1 (.t 22))⟩, .op ⟨some 24, none, .r (.iasl 1 (.t 12) (.t 13))⟩, .op ⟨none, none, .e (.store 1 (.t 24) (.t 19))⟩, .op ⟨some 25, none, .r (.iasl 1 (.t 14) (.t 15))⟩, .op ⟨none, none, .e (.store 1 (.t 25) (.t 23))⟩])
  (.seq (.region [.op ⟨some 26, none, .r (.mv (.t 1))⟩, .op ⟨some 27, none, .r (.bin .add (.t 26) (.c (.int .i64 (.ofNat 1))))⟩, .op ⟨some 28, none, .r (.mv (.t 2))⟩, .op ⟨some 29, none, .r (.bin .sub (.t 28) (.c (.int .i64 (.ofNat 1))))⟩, .op ⟨some 10, none, .r (.mv (.t 27))⟩, .op ⟨some 11, none, .r (.mv (.t 29))⟩])
  (.seq (.block 0 (.loop l0_slices_partitionOrdered_string))
  (.seq (.block 2 (.loop l1_slices_partitionOrdered_string))
  (.seq (.seq (.region [.op ⟨some 63, none, .r (.mv (.t 10))⟩, .op ⟨some 64, none, .r (.mv (.t 11))⟩, .op ⟨some 65, none, .r (.bin .gtr (.t 63) (.t 64))⟩])
  (.cond (.t 65)
   (.seq (.region [.op ⟨some 66, none, .r (.mv (.t 0))⟩, .op ⟨some 67, none, .r (.mv (.t 11))⟩, .op ⟨some 68, none, .r (.mv (.t 0))⟩, .op ⟨some 69, none, .r (.mv (.t 1))⟩, .op ⟨some 70, none, .r (.mv (.t 0))⟩, .op ⟨some 71, none, .r (.mv (.t 1))⟩, .op ⟨some 72, none, .r (.iasl 1 (.t 70) (.t 71))⟩, .op ⟨some 73, none, .r (.load false 1 (.t 72))⟩, .op ⟨some 74, none, .r (.mv (.t 0))⟩, .op ⟨some 75, none, .r (.mv (.t 11))⟩,
     .op ⟨some 76, none, .r (.iasl 1 (.t 74) (.t 75))⟩, .op ⟨some 77, none, .r (.load false 1 (.t 76))⟩, .op ⟨some 78, none, .r (.iasl 1 (.t 66) (.t 67))⟩, .op ⟨none, none, .e (.store 1 (.t 78) (.t 73))⟩, .op ⟨some 79, none, .r (.iasl 1 (.t 68) (.t 69))⟩, .op ⟨none, none, .e (.store 1 (.t 79) (.t 77))⟩])
   (.seq (.region [.op ⟨some 80, none, .r (.mv (.t 11))⟩, .op ⟨some 8, none, .r (.mv (.t 80))⟩, .op ⟨some 9, none, .r (.mv (.c (.bool true)))⟩])
   .ret))
   .skip))
  (.seq (.region [.op ⟨some 81, none, .r (.mv (.t 0))⟩, .op ⟨some 82, none, .r (.mv (.t 10))⟩, .op ⟨some 83, none, .r (.mv (.t 0))⟩, .op ⟨some 84, none, .r (.mv (.t 11))⟩, .op ⟨some 85, none, .r (.mv (.t 0))⟩, .op ⟨some 86, none, .r (.mv (.t 11))⟩, .op ⟨some 87, none, .r (.iasl 1 (.t 85) (.t 86))⟩, .op ⟨some 88, none, .r (.load false 1 (.t 87))⟩, .op ⟨some 89, none, .r (.mv (.t 0))⟩, .op ⟨some 90, none, .r (.mv (.t 10))⟩,
    .op ⟨some 91, none, .r (.iasl 1 (.t 89) (.t 90))⟩, .op ⟨some 92, none, .r (.load false 1 (.t 91))⟩, .op ⟨some 93, none, .r (.iasl 1 (.t 81) (.t 82))⟩, .op ⟨none, none, .e (.store 1 (.t 93) (.t 88))⟩, .op ⟨some 94, none, .r (.iasl 1 (.t 83) (.t 84))⟩, .op ⟨none, none, .e (.store 1 (.t 94) (.t 92))⟩])
  (.seq (.region [.op ⟨some 95, none, .r (.mv (.t 10))⟩, .op ⟨some 96, none, .r (.bin .add (.t 95) (.c (.int .i64 (.ofNat 1))))⟩, .op ⟨some 10, none, .r (.mv (.t 96))⟩])
  (.seq (.region [.op ⟨some 97, none, .r (.mv (.t 11))⟩, .op ⟨some 98, none, .r (.bin .sub (.t 97) (.c (.int .i64 (.ofNat 1))))⟩, .op ⟨some 11, none, .r (.mv (.t 98))⟩])
  (.seq (.block 4 (.loop l4_slices_partitionOrdered_string))
  (.seq (.region [.op ⟨some 153, none, .r (.mv (.t 0))⟩, .op ⟨some 154, none, .r (.mv (.t 11))⟩, .op ⟨some 155, none, .r (.mv (.t 0))⟩, .op ⟨some 156, none, .r (.mv (.t 1))⟩, .op ⟨some 157, none, .r (.mv (.t 0))⟩, .op ⟨some 158, none, .r (.mv (.t 1))⟩, .op ⟨some 159, none, .r (.iasl 1 (.t 157) (.t 158))⟩, .op ⟨some 160, none, .r (.load false 1 (.t 159))⟩, .op ⟨some 161, none, .r (.mv (.t 0))⟩, .op ⟨some 162, none, .r (.mv (.t 11))⟩,
    .op ⟨some 163, none, .r (.iasl 1 (.t 161) (.t 162))⟩, .op ⟨some 164, none, .r (.load false 1 (.t 163))⟩, .op ⟨some 165, none, .r (.iasl 1 (.t 153) (.t 154))⟩, .op ⟨none, none, .e (.store 1 (.t 165) (.t 160))⟩, .op ⟨some 166, none, .r (.iasl 1 (.t 155) (.t 156))⟩, .op ⟨none, none, .e (.store 1 (.t 166) (.t 164))⟩])
  (.seq (.region [.op ⟨some 167, none, .r (.mv (.t 11))⟩, .op ⟨some 8, none, .r (.mv (.t 167))⟩, .op ⟨some 9, none, .r (.mv (.c (.bool false)))⟩])
  .ret)))))))))))) }
theorem tr_slices_partitionOrdered_string : trF cx Try.f74 = pf_slices_partitionOrdered_string := by kernel_rfl
def pf_math_bits_Len32 : PF := { ntmps := 19, results := [.tmp 2], body :=
  (.seq (.region [.op ⟨some 2, none, .r (.mv (.c (.int .i64 (.ofNat 0))))⟩])
  (.seq (.seq (.region [.op ⟨some 3, none, .r (.mv (.t 0))⟩, .op ⟨some 4, none, .r (.bin .geq (.t 3) (.c (.int .u32 (.ofNat 65536))))⟩])
  (.cond (.t 4)
   (.seq (.region [.op ⟨some 5, none, .r (.mv (.t 0))⟩, .op ⟨some 6, none, .r (.bin .shr (.t 5) (.c (.int .u64 (.ofNat 16))))⟩, .op ⟨some 0, none, .r (.mv (.t 6))⟩])
   (.region [.op ⟨some 2, none, .r (.mv (.c (.int .i64 (.ofNat 16))))⟩]))
   .skip))
  (.seq (.seq (.region [.op ⟨some 7, none, .r (.mv (.t 0))⟩, .op ⟨some 8, none, .r (.bin .geq (.t 7) (.c (.int .u32 (.ofNat 256))))⟩])
  (.cond (.t 8)
   (.seq (.region [.op ⟨some 9, none, .r (.mv (.t 0))⟩, .op ⟨some 10, none, .r (.bin .shr (.t 9) (.c (.int .u64 (.ofNat 8))))⟩, .op ⟨some 0, none, .r (.mv (.t 10))⟩])
   (.region [.op ⟨some 11, none, .r (.mv (.t 2))⟩, .op ⟨some 12, none, .r (.bin .add (.t 11) (.c (.int .i64 (.ofNat 8))))⟩, .op ⟨some 2, none, .r (.mv (.t 12))⟩]))
   .skip))
  (.seq (.region [.op ⟨some 13, none, .r (.mv (.t 2))⟩, .op ⟨some 14, none, .r (.mv (.t 0))⟩, .op ⟨some 15, none, .r (.cint .u8 (.t 14))⟩, .op ⟨some 16, none, .r (.ixstr (.c (.str [0, 1, 2, 2, 3, 3, 3, 3, 4, 4, 4, 4, 4, 4, 4, 4, 5, 5, 5, 5, 5, 5, 5, 5, 5, 5, 5, 5, 5, 5, 5, 5, 6, 6, 6, 6, 6, 6, 6, 6, 6, 6, 6, 6, 6, 6, 6, 6, 6, 6, 6, 6, 6, 6, 6, 6, 6, 6, 6, 6, 6, 6, 6, 6, 7, 7, 7, 7, 7, 7, 7, 7, 7, 7, 7, 7, 7, 7, 7, 7, 7, 7, 7, 7, 7, 7, 7, 7, 7, 7, 7, 7, 7, 7, 7, 7, 7, 7, 7, 7, 7, 7, 7, 7, 7, 7, 7, 7, 7, 7, 7, 7, 7, 7, 7, 7, 7, 7, 7, 7, 7, 7, 7, 7, 7, 7, 7, 7, 8, 8, 8, 8, 8, 8, 8, 8, 8, 8, 8, 8, 8, 8, 8, 8, 8, 8, 8, 8, 8, 8, 8, 8, 8, 8, 8, 8, 8, 8, 8, 8, 8, 8, 8, 8, 8, 8, 8, 8, 8, 8, 8, 8, 8, 8, 8, 8, 8, 8, 8, 8, 8, 8, 8, 8, 8, 8, 8, 8, 8, 8, 8, 8, 8, 8, 8, 8, 8, 8, 8, 8, 8, 8, 8, 8, 8, 8, 8, 8, 8, 8, 8, 8, 8, 8, 8, 8, 8, 8, 8, 8, 8, 8, 8, 8, 8, 8, 8, 8, 8, 8, 8, 8, 8, 8, 8, 8, 8, 8, 8, 8, 8, 8, 8, 8, 8, 8, 8, 8, 8, 8, 8, 8, 8, 8, 8, 8])) (.t 15))⟩,
    .op ⟨some 17, none, .r (.cint .i64 (.t 16))⟩, .op ⟨some 18, none, .r (.bin .add (.t 13) (.t 17))⟩, .op ⟨some 2, none, .r (.mv (.t 18))⟩])
  .ret)))) }
theorem tr_math_bits_Len32 : trF cx Try.f75 = pf_math_bits_Len32 := by kernel_rfl
def pf_math_bits_Len64 : PF := { ntmps := 25, results := [.tmp 2], body :=
  (.seq (.region [.op ⟨some 2, none, .r (.mv (.c (.int .i64 (.ofNat 0))))⟩])
  (.seq (.seq (.region [.op ⟨some 3, none, .r (.mv (.t 0))⟩, .op ⟨some 4, none, .r (.bin .geq (.t 3) (.c (.int .u64 (.ofNat 4294967296))))⟩])
  (.cond (.t 4)
   (.seq (.region [.op ⟨some 5, none, .r (.mv (.t 0))⟩, .op ⟨some 6, none, .r (.bin .shr (.t 5) (.c (.int .u64 (.ofNat 32))))⟩, .op ⟨some 0, none, .r (.mv (.t 6))⟩])
   (.region [.op ⟨some 2, none, .r (.mv (.c (.int .i64 (.ofNat 32))))⟩]))
   .skip))
  (.seq (.seq (.region [.op ⟨some 7, none, .r (.mv (.t 0))⟩, .op ⟨some 8, none, .r (.bin .geq (.t 7) (.c (.int .u64 (.ofNat 65536))))⟩])
  (.cond (.t 8)
   (.seq (.region [.op ⟨some 9, none, .r (.mv (.t 0))⟩, .op ⟨some 10, none, .r (.bin .shr (.t 9) (.c (.int .u64 (.ofNat 16))))⟩, .op ⟨some 0, none, .r (.mv (.t 10))⟩])
   (.region [.op ⟨some 11, none, .r (.mv (.t 2))⟩, .op ⟨some 12, none, .r (.bin .add (.t 11) (.c (.int .i64 (.ofNat 16))))⟩, .op ⟨some 2, none, .r (.mv (.t 12))⟩]))
   .skip))
  (.seq (.seq (.region [.op ⟨some 13, none, .r (.mv (.t 0))⟩, .op ⟨some 14, none, .r (.bin .geq (.t 13) (.c (.int .u64 (.ofNat 256))))⟩])
  (.cond (.t 14)
   (.seq (.region [.op ⟨some 15, none, .r (.mv (.t 0))⟩, .op ⟨some 16, none, .r (.bin .shr (.t 15) (.c (.int .u64 (.ofNat 8))))⟩, .op ⟨some 0, none, .r (.mv (.t 16))⟩])
   (.region [.op ⟨some 17, none, .r (.mv (.t 2))⟩, .op ⟨some 18, none, .r (.bin .add (.t 17) (.c (.int .i64 (.ofNat 8))))⟩, .op ⟨some 2, none, .r (.mv (.t 18))⟩]))
   .skip))
  (.seq (.region [.op ⟨some 19, none, .r (.mv (.t 2))⟩, .op ⟨some 20, none, .r (.mv (.t 0))⟩, .op ⟨some 21, none, .r (.cint .u8 (.t 20))⟩, .op ⟨some 22, none, .r (.ixstr (.c (.str [0, 1, 2, 2, 3, 3, 3, 3, 4, 4, 4, 4, 4, 4, 4, 4, 5, 5, 5, 5, 5, 5, 5, 5, 5, 5, 5, 5, 5, 5, 5, 5, 6, 6, 6, 6, 6, 6, 6, 6, 6, 6, 6, 6, 6, 6, 6, 6, 6, 6, 6, 6, 6, 6, 6, 6, 6, 6, 6, 6, 6, 6, 6, 6, 7, 7, 7, 7, 7, 7, 7, 7, 7, 7, 7, 7, 7, 7, 7, 7, 7, 7, 7, 7, 7, 7, 7, 7, 7, 7, 7, 7, 7, 7, 7, 7, 7, 7, 7, 7, 7, 7, 7, 7, 7, 7, 7, 7, 7, 7, 7, 7, 7, 7, 7, 7, 7, 7, 7, 7, 7, 7, 7, 7, 7, 7, 7, 7, 8, 8, 8, 8, 8, 8, 8, 8, 8, 8, 8, 8, 8, 8, 8, 8, 8, 8, 8, 8, 8, 8, 8, 8, 8, 8, 8, 8, 8, 8, 8, 8, 8, 8, 8, 8, 8, 8, 8, 8, 8, 8, 8, 8, 8, 8, 8, 8, 8, 8, 8, 8, 8, 8, 8, 8, 8, 8, 8, 8, 8, 8, 8, 8, 8, 8, 8, 8, 8, 8, 8, 8, 8, 8, 8, 8, 8, 8, 8, 8, 8, 8, 8, 8, 8, 8, 8, 8, 8, 8, 8, 8, 8, 8, 8, 8, 8, 8, 8, 8, 8, 8, 8, 8, 8, 8, 8, 8, 8, 8, 8, 8, 8, 8, 8, 8, 8, 8, 8, 8, 8, 8, 8, 8, 8, 8, 8, 8])) (.t 21))⟩,
    .op ⟨some 23, none, .r (.cint .i64 (.t 22))⟩, .op ⟨some 24, none, .r (.bin .add (.t 19) (.t 23))⟩, .op ⟨some 2, none, .r (.mv (.t 24))⟩])
  .ret))))) }
theorem tr_math_bits_Len64 : trF cx Try.f76 = pf_math_bits_Len64 := by kernel_rfl
def pf_slab_Slab_Read : PF := { ntmps := 39, results := [.tmp 4, .tmp 5], body :=
  (.seq (.region [.op ⟨some 3, none, .n (.box (.t 1))⟩, .op ⟨some 4, none, .r (.mv (.c (.str [])))⟩, .op ⟨some 5, none, .r (.mv (.c (.bool false)))⟩])
  (.seq (.seq (.region [.op ⟨some 8, none, .r (.faddr 0 (.t 3))⟩, .op ⟨some 9, none, .r (.load false 1 (.t 8))⟩, .op ⟨some 10, none, .r (.bin .lss (.t 9) (.c (.int .i64 (.ofNat 0))))⟩, .op ⟨some 11, none, .r (.mv (.t 10))⟩, .op ⟨some 12, some (11, false), .r (.faddr 0 (.t 3))⟩, .op ⟨some 13, some (11, false), .r (.load false 1 (.t 12))⟩, .op ⟨some 14, some (11, false), .r (.mv (.t 0))⟩, .op ⟨some 15, some (11, false), .r (.nilck (.t 14))⟩,
    .op ⟨some 16, some (11, false), .r (.faddr 3 (.t 15))⟩, .op ⟨some 17, some (11, false), .r (.load false 1 (.t 16))⟩, .op ⟨some 18, some (11, false), .r (.lensl (.t 17))⟩, .op ⟨some 19, some (11, false), .r (.bin .geq (.t 13) (.t 18))⟩, .op ⟨some 20, none, .r (.pick (.t 11) (.c (.bool true)) (.t 19))⟩])
  (.cond (.t 20)
   (.seq (.region [.op ⟨some 4, none, .r (.mv (.c (.str [])))⟩, .op ⟨some 5, none, .r (.mv (.c (.bool false)))⟩])
   .ret)
   .skip))
  (.seq (.region [.op ⟨some 22, none, .r (.mv (.t 0))⟩, .op ⟨some 23, none, .r (.nilck (.t 22))⟩, .op ⟨some 24, none, .r (.faddr 3 (.t 23))⟩, .op ⟨some 25, none, .r (.load false 1 (.t 24))⟩, .op ⟨some 26, none, .r (.faddr 0 (.t 3))⟩, .op ⟨some 27, none, .r (.load false 1 (.t 26))⟩, .op ⟨some 28, none, .r (.iasl 4 (.t 25) (.t 27))⟩, .op ⟨some 29, none, .r (.faddr 2 (.t 28))⟩, .op ⟨some 30, none, .r (.load false 1 (.t 29))⟩,
    .op ⟨some 31, none, .r (.faddr 1 (.t 3))⟩, .op ⟨some 32, none, .r (.load false 1 (.t 31))⟩, .op ⟨some 33, none, .r (.look false (.str []) true (.t 30) (.t 32))⟩, .op ⟨some 21, none, .r (.mv (.t 33))⟩, .op ⟨some 34, none, .r (.ext 0 (.t 21))⟩, .op ⟨some 35, none, .r (.ext 1 (.t 21))⟩, .op ⟨some 6, none, .r (.mv (.t 34))⟩, .op ⟨some 7, none, .r (.mv (.t 35))⟩])
  (.seq (.seq (.region [.op ⟨some 36, none, .r (.mv (.t 7))⟩, .op ⟨some 37, none, .r (.un .not (.t 36))⟩])
  (.cond (.t 37)
   (.seq (.region [.op ⟨some 4, none, .r (.mv (.c (.str [])))⟩, .op ⟨some 5, none, .r (.mv (.c (.bool false)))⟩])
   .ret)
   .skip))
  (.seq (.region [.op ⟨some 38, none, .r (.mv (.t 6))⟩, .op ⟨some 4, none, .r (.mv (.t 38))⟩, .op ⟨some 5, none, .r (.mv (.c (.bool true)))⟩])
  .ret))))) }
theorem tr_slab_Slab_Read : trF cx Try.f77 = pf_slab_Slab_Read := by kernel_rfl
def l0_chain_Hash : PC :=
  (.seq (.region [.op ⟨some 8, none, .r (.bin .lss (.t 7) (.t 6))⟩])
  (.seq (.cond (.t 8)
   .skip
   (.exit 0))
  (.seq (.block 1 (.seq (.region [.op ⟨some 9, none, .r (.mv (.t 7))⟩, .op ⟨some 4, none, .r (.mv (.t 9))⟩])
   (.seq (.region [.op ⟨some 10, none, .r (.mv (.t 3))⟩, .op ⟨some 11, none, .r (.mv (.t 0))⟩, .op ⟨some 12, none, .r (.mv (.t 4))⟩, .op ⟨some 13, none, .r (.ixstr (.t 11) (.t 12))⟩, .op ⟨some 14, none, .r (.cint .u32 (.t 13))⟩, .op ⟨some 15, none, .r (.bin .xor (.t 10) (.t 14))⟩, .op ⟨some 3, none, .r (.mv (.t 15))⟩])
   (.region [.op ⟨some 16, none, .r (.mv (.t 3))⟩, .op ⟨some 17, none, .r (.bin .mul (.t 16) (.c (.int .u32 (.ofNat 16777619))))⟩, .op ⟨some 3, none, .r (.mv (.t 17))⟩]))))
  (.region [.op ⟨some 18, none, .r (.bin .add (.t 7) (.c (.int .i64 (.ofNat 1))))⟩, .op ⟨some 7, none, .r (.mv (.t 18))⟩]))))
def pf_chain_Hash : PF := { ntmps := 20, results := [.tmp 2], body :=
  (.seq (.region [.op ⟨some 2, none, .r (.mv (.c (.int .u32 (.ofNat 0))))⟩])
  (.seq (.region [.op ⟨some 3, none, .r (.mv (.c (.int .u32 (.ofNat 2166136261))))⟩])
  (.seq (.seq (.region [.op ⟨some 5, none, .r (.mv (.t 0))⟩, .op ⟨some 6, none, .r (.lens (.t 5))⟩, .op ⟨some 7, none, .r (.mv (.c (.int .i64 (.ofNat 0))))⟩])
  (.block 0 (.loop l0_chain_Hash)))
  (.seq (.region [.op ⟨some 19, none, .r (.mv (.t 3))⟩, .op ⟨some 2, none, .r (.mv (.t 19))⟩])
  .ret)))) }
theorem tr_chain_Hash : trF cx Try.f78 = pf_chain_Hash := by kernel_rfl
def l0_slices_siftDownOrdered_string : PC :=
  (.block 1 (.seq (.region [.op ⟨some 11, none, .r (.mv (.t 8))⟩, .op ⟨some 12, none, .r (.bin .mul (.c (.int .i64 (.ofNat 2))) (.t 11))⟩, .op ⟨some 13, none, .r (.bin .add (.t 12) (.c (.int .i64 (.ofNat 1))))⟩, .op ⟨some 9, none, .r (.mv (.t 13))⟩])
   (.seq (.seq (.region [.op ⟨some 14, none, .r (.mv (.t 9))⟩, .op ⟨some 15, none, .r (.mv (.t 2))⟩, .op ⟨some 16, none, .r (.bin .geq (.t 14) (.t 15))⟩])
   (.cond (.t 16)
    (.exit 0)
    .skip))
   (.seq (.seq (.region [.op ⟨some 17, none, .r (.mv (.t 9))⟩, .op ⟨some 18, none, .r (.bin .add (.t 17) (.c (.int .i64 (.ofNat 1))))⟩, .op ⟨some 19, none, .r (.mv (.t 2))⟩, .op ⟨some 20, none, .r (.bin .lss (.t 18) (.t 19))⟩, .op ⟨some 21, none, .r (.mv (.t 20))⟩, .op ⟨some 22, some (21, true), .r (.mv (.t 0))⟩, .op ⟨some 23, some (21, true), .r (.mv (.t 3))⟩, .op ⟨some 24, some (21, true), .r (.mv (.t 9))⟩,
     .op ⟨some 25, some (21, true), .r (.bin .add (.t 23) (.t 24))⟩, .op ⟨some 26, some (21, true), .r (.iasl 1 (.t 22) (.t 25))⟩, .op ⟨some 27, some (21, true), .r (.load false 1 (.t 26))⟩, .op ⟨some 28, some (21, true), .r (.mv (.t 0))⟩, .op ⟨some 29, some (21, true), .r (.mv (.t 3))⟩, .op ⟨some 30, some (21, true), .r (.mv (.t 9))⟩, .op ⟨some 31, some (21, true), .r (.bin .add (.t 29) (.t 30))⟩,
     .op ⟨some 32, some (21, true), .r (.bin .add (.t 31) (.c (.int .i64 (.ofNat 1))))⟩, .op ⟨some 33, some (21, true), .r (.iasl 1 (.t 28) (.t 32))⟩, .op ⟨some 34, some (21, true), .r (.load false 1 (.t 33))⟩, .op ⟨some 35, some (21, true), .e (.call n_cmp_Less_string [(.t 27), (.t 34)])⟩, .op ⟨some 36, none, .r (.pick (.t 21) (.t 35) (.c (.bool false)))⟩])
   (.cond (.t 36)
    (.region [.op ⟨some 37, none, .r (.mv (.t 9))⟩, .op ⟨some 38, none, .r (.bin .add (.t 37) (.c (.int .i64 (.ofNat 1))))⟩, .op ⟨some 9, none, .r (.mv (.t 38))⟩])
    .skip))
   (.seq (.seq (.region [.op ⟨some 39, none, .r (.mv (.t 0))⟩, .op ⟨some 40, none, .r (.mv (.t 3))⟩, .op ⟨some 41, none, .r (.mv (.t 8))⟩, .op ⟨some 42, none, .r (.bin .add (.t 40) (.t 41))⟩, .op ⟨some 43, none, .r (.iasl 1 (.t 39) (.t 42))⟩, .op ⟨some 44, none, .r (.load false 1 (.t 43))⟩, .op ⟨some 45, none, .r (.mv (.t 0))⟩, .op ⟨some 46, none, .r (.mv (.t 3))⟩, .op ⟨some 47, none, .r (.mv (.t 9))⟩,
     .op ⟨some 48, none, .r (.bin .add (.t 46) (.t 47))⟩, .op ⟨some 49, none, .r (.iasl 1 (.t 45) (.t 48))⟩, .op ⟨some 50, none, .r (.load false 1 (.t 49))⟩, .op ⟨some 51, none, .e (.call n_cmp_Less_string [(.t 44), (.t 50)])⟩, .op ⟨some 52, none, .r (.un .not (.t 51))⟩])
   (.cond (.t 52)
    .ret
    .skip))
   (.seq (.region [.op ⟨some 53, none, .r (.mv (.t 0))⟩, .op ⟨some 54, none, .r (.mv (.t 3))⟩, .op ⟨some 55, none, .r (.mv (.t 8))⟩, .op ⟨some 56, none, .r (.bin .add (.t 54) (.t 55))⟩, .op ⟨some 57, none, .r (.mv (.t 0))⟩, .op ⟨some 58, none, .r (.mv (.t 3))⟩, .op ⟨some 59, none, .r (.mv (.t 9))⟩, .op ⟨some 60, none, .r (.bin .add (.t 58) (.t 59))⟩, .op ⟨some 61, none, .r (.mv (.t 0))⟩, .op ⟨some 62, none, .r (.mv (.t 3))⟩,
     .op ⟨some 63, none, .r (.mv (.t 9))⟩, .op ⟨some 64, none, .r (.bin .add (.t 62) (.t 63))⟩, .op ⟨some 65, none, .r (.iasl 1 (.t 61) (.t 64))⟩, .op ⟨some 66, none, .r (.load false 1 (.t 65))⟩, .op ⟨some 67, none, .r (.mv (.t 0))⟩, .op ⟨some 68, none, .r (.mv (.t 3))⟩, .op ⟨some 69, none, .r (.mv (.t 8))⟩, .op ⟨some 70, none, .r (.bin .add (.t 68) (.t 69))⟩, .op ⟨some 71, none, .r (.iasl 1 (.t 67) (.t 70))⟩,
     .op ⟨some 72, none, .r (.load false 1 (.t 71))⟩, .op ⟨some 73, none, .r (.iasl 1 (.t 53) (.t 56))⟩, .op ⟨none, none, .e (.store 1 (.t 73) (.t 66))⟩, .op ⟨some 74, none, .r (.iasl 1 (.t 57) (.t 60))⟩, .op ⟨none, none, .e (.store 1 (.t 74) (.t 72))⟩])
   (.region [.op ⟨some 75, none, .r (.mv (.t 9))⟩, .op ⟨some 8, none, .r (.mv (.t 75))⟩])))))))
def pf_slices_siftDownOrdered_string : PF := { ntmps := 76, results := [], body :=
  (.seq (.region [.op ⟨some 10, none, .r (.mv (.t 1))⟩, .op ⟨some 8, none, .r (.mv (.t 10))⟩])
  (.block 0 (.loop l0_slices_siftDownOrdered_string))) }
theorem tr_slices_siftDownOrdered_string : trF cx Try.f79 = pf_slices_siftDownOrdered_string := by kernel_rfl
def pf_slices_nextPowerOfTwo : PF := { ntmps := 7, results := [.tmp 2], body :=
  (.seq (.region [.op ⟨some 2, none, .r (.mv (.c (.int .u64 (.ofNat 0))))⟩])
  (.seq (.region [.op ⟨some 3, none, .r (.mv (.t 0))⟩, .op ⟨some 4, none, .r (.cint .u64 (.t 3))⟩, .op ⟨some 5, none, .e (.call n_math_bits_Len [(.t 4)])⟩, .op ⟨some 6, none, .r (.bin .shl (.c (.int .u64 (.ofNat 1))) (.t 5))⟩, .op ⟨some 2, none, .r (.mv (.t 6))⟩])
  .ret)) }
theorem tr_slices_nextPowerOfTwo : trF cx Try.f80 = pf_slices_nextPowerOfTwo := by kernel_rfl
def pf_slices_xorshift_Next : PF := { ntmps := 33, results := [.tmp 2], body :=
  (.seq (.region [.op ⟨some 2, none, .r (.mv (.c (.int .u64 (.ofNat 0))))⟩])
  (.seq (.region [.op ⟨some 3, none, .r (.mv (.t 0))⟩, .op ⟨some 4, none, .r (.nilck (.t 3))⟩, .op ⟨some 5, none, .r (.load false 1 (.t 4))⟩, .op ⟨some 6, none, .r (.mv (.t 0))⟩, .op ⟨some 7, none, .r (.nilck (.t 6))⟩, .op ⟨some 8, none, .r (.load false 1 (.t 7))⟩, .op ⟨some 9, none, .r (.bin .shl (.t 8) (.c (.int .u64 (.ofNat 13))))⟩, .op ⟨some 10, none, .r (.bin .xor (.t 5) (.t 9))⟩, .op ⟨some 11, none, .r (.nilck (.t 3))⟩,
    .op ⟨none, none, .e (.store 1 (.t 11) (.t 10))⟩])
  (.seq (.region [.op ⟨some 12, none, .r (.mv (.t 0))⟩, .op ⟨some 13, none, .r (.nilck (.t 12))⟩, .op ⟨some 14, none, .r (.load false 1 (.t 13))⟩, .op ⟨some 15, none, .r (.mv (.t 0))⟩, .op ⟨some 16, none, .r (.nilck (.t 15))⟩, .op ⟨some 17, none, .r (.load false 1 (.t 16))⟩, .op ⟨some 18, none, .r (.bin .shr (.t 17) (.c (.int .u64 (.ofNat 7))))⟩, .op ⟨some 19, none, .r (.bin .xor (.t 14) (.t 18))⟩,
    .op ⟨some 20, none, .r (.nilck (.t 12))⟩, .op ⟨none, none, .e (.store 1 (.t 20) (.t 19))⟩])
  (.seq (.region [.op ⟨some 21, none, .r (.mv (.t 0))⟩, .op ⟨some 22, none, .r (.nilck (.t 21))⟩, .op ⟨some 23, none, .r (.load false 1 (.t 22))⟩, .op ⟨some 24, none, .r (.mv (.t 0))⟩, .op ⟨some 25, none, .r (.nilck (.t 24))⟩, .op ⟨some 26, none, .r (.load false 1 (.t 25))⟩, .op ⟨some 27, none, .r (.bin .shl (.t 26) (.c (.int .u64 (.ofNat 17))))⟩, .op ⟨some 28, none, .r (.bin .xor (.t 23) (.t 27))⟩,
    .op ⟨some 29, none, .r (.nilck (.t 21))⟩, .op ⟨none, none, .e (.store 1 (.t 29) (.t 28))⟩])
  (.seq (.region [.op ⟨some 30, none, .r (.mv (.t 0))⟩, .op ⟨some 31, none, .r (.nilck (.t 30))⟩, .op ⟨some 32, none, .r (.load false 1 (.t 31))⟩, .op ⟨some 2, none, .r (.mv (.t 32))⟩])
  .ret))))) }
theorem tr_slices_xorshift_Next : trF cx Try.f81 = pf_slices_xorshift_Next := by kernel_rfl
def pf_slices_medianAdjacentOrdered_string : PF := { ntmps := 15, results := [.tmp 6], body :=
  (.seq (.region [.op ⟨some 6, none, .r (.mv (.c (.int .i64 (.ofNat 0))))⟩])
  (.seq (.region [.op ⟨some 7, none, .r (.mv (.t 0))⟩, .op ⟨some 8, none, .r (.mv (.t 1))⟩, .op ⟨some 9, none, .r (.bin .sub (.t 8) (.c (.int .i64 (.ofNat 1))))⟩, .op ⟨some 10, none, .r (.mv (.t 1))⟩, .op ⟨some 11, none, .r (.mv (.t 1))⟩, .op ⟨some 12, none, .r (.bin .add (.t 11) (.c (.int .i64 (.ofNat 1))))⟩, .op ⟨some 13, none, .r (.mv (.t 2))⟩, .op ⟨some 14, none, .e (.call n_slices_medianOrdered_string [(.t 7), (.t 9), (.t 10), (.t 12), (.t 13)])⟩,
    .op ⟨some 6, none, .r (.mv (.t 14))⟩])
  .ret)) }
theorem tr_slices_medianAdjacentOrdered_string : trF cx Try.f82 = pf_slices_medianAdjacentOrdered_string := by kernel_rfl
def pf_slices_medianOrdered_string : PF := { ntmps := 36, results := [.tmp 10], body :=
  (.seq (.region [.op ⟨some 10, none, .r (.mv (.c (.int .i64 (.ofNat 0))))⟩])
  (.seq (.region [.op ⟨some 12, none, .r (.mv (.t 0))⟩, .op ⟨some 13, none, .r (.mv (.t 1))⟩, .op ⟨some 14, none, .r (.mv (.t 2))⟩, .op ⟨some 15, none, .r (.mv (.t 4))⟩, .op ⟨some 16, none, .e (.call n_slices_order2Ordered_string [(.t 12), (.t 13), (.t 14), (.t 15)])⟩, .op ⟨some 11, none, .r (.mv (.t 16))⟩, .op ⟨some 17, none, .r (.ext 0 (.t 11))⟩, .op ⟨some 18, none, .r (.ext 1 (.t 11))⟩, .op ⟨some 1, none, .r (.mv (.t 17))⟩,
    .op ⟨some 2, none, .r (.mv (.t 18))⟩])
  (.seq (.region [.op ⟨some 20, none, .r (.mv (.t 0))⟩, .op ⟨some 21, none, .r (.mv (.t 2))⟩, .op ⟨some 22, none, .r (.mv (.t 3))⟩, .op ⟨some 23, none, .r (.mv (.t 4))⟩, .op ⟨some 24, none, .e (.call n_slices_order2Ordered_string [(.t 20), (.t 21), (.t 22), (.t 23)])⟩, .op ⟨some 19, none, .r (.mv (.t 24))⟩, .op ⟨some 25, none, .r (.ext 0 (.t 19))⟩, .op ⟨some 26, none, .r (.ext 1 (.t 19))⟩, .op ⟨some 2, none, .r (.mv (.t 25))⟩,
    .op ⟨some 3, none, .r (.mv (.t 26))⟩])
  (.seq (.region [.op ⟨some 28, none, .r (.mv (.t 0))⟩, .op ⟨some 29, none, .r (.mv (.t 1))⟩, .op ⟨some 30, none, .r (.mv (.t 2))⟩, .op ⟨some 31, none, .r (.mv (.t 4))⟩, .op ⟨some 32, none, .e (.call n_slices_order2Ordered_string [(.t 28), (.t 29), (.t 30), (.t 31)])⟩, .op ⟨some 27, none, .r (.mv (.t 32))⟩, .op ⟨some 33, none, .r (.ext 0 (.t 27))⟩, .op ⟨some 34, none, .r (.ext 1 (.t 27))⟩, .op ⟨some 1, none, .r (.mv (.t 33))⟩,
    .op ⟨some 2, none, .r (.mv (.t 34))⟩])
  (.seq (.region [.op ⟨some 35, none, .r (.mv (.t 2))⟩, .op ⟨some 10, none, .r (.mv (.t 35))⟩])
  .ret))))) }
theorem tr_slices_medianOrdered_string : trF cx Try.f83 = pf_slices_medianOrdered_string := by kernel_rfl
def pf_cmp_isNaN_string : PF := { ntmps := 6, results := [.tmp 2], body :=
  (.seq (.region [.op ⟨some 2, none, .r (.mv (.c (.bool false)))⟩])
  (.seq (.region [.op ⟨some 3, none, .r (.mv (.t 0))⟩, .op ⟨some 4, none, .r (.mv (.t 0))⟩, .op ⟨some 5, none, .r (.bin .neq (.t 3) (.t 4))⟩, .op ⟨some 2, none, .r (.mv (.t 5))⟩])
  .ret)) }
theorem tr_cmp_isNaN_string : trF cx Try.f84 = pf_cmp_isNaN_string := by kernel_rfl
def pf_slices_order2Ordered_string : PF := { ntmps := 28, results := [.tmp 8, .tmp 9], body :=
  (.seq (.region [.op ⟨some 8, none, .r (.mv (.c (.int .i64 (.ofNat 0))))⟩, .op ⟨some 9, none, .r (.mv (.c (.int .i64 (.ofNat 0))))⟩])
  (.seq (.seq (.region [.op ⟨some 10, none, .r (.mv (.t 0))⟩, .op ⟨some 11, none, .r (.mv (.t 2))⟩, .op ⟨some 12, none, .r (.iasl 1 (.t 10) (.t 11))⟩, .op ⟨some 13, none, .r (.load false 1 (.t 12))⟩, .op ⟨some 14, none, .r (.mv (.t 0))⟩, .op ⟨some 15, none, .r (.mv (.t 1))⟩, .op ⟨some 16, none, .r (.iasl 1 (.t 14) (.t 15))⟩, .op ⟨some 17, none, .r (.load false 1 (.t 16))⟩, .op ⟨some 18, none, .e (.call n_cmp_Less_string [(.t 13), (.t 17)])⟩])
  (.cond (.t 18)
   (.seq (.region [.op ⟨some 19, none, .r (.mv (.t 3))⟩, .op ⟨some 20, none, .r (.nilck (.t 19))⟩, .op ⟨some 21, none, .r (.load false 1 (.t 20))⟩, .op ⟨some 22, none, .r (.bin .add (.t 21) (.c (.int .i64 (.ofNat 1))))⟩, .op ⟨some 23, none, .r (.nilck (.t 19))⟩, .op ⟨none, none, .e (.store 1 (.t 23) (.t 22))⟩])
   (.seq (.region [.op ⟨some 24, none, .r (.mv (.t 2))⟩, .op ⟨some 25, none, .r (.mv (.t 1))⟩, .op ⟨some 8, none, .r (.mv (.t 24))⟩, .op ⟨some 9, none, .r (.mv (.t 25))⟩])
   .ret))
   .skip))
  (.seq (.region [.op ⟨some 26, none, .r (.mv (.t 1))⟩, .op ⟨some 27, none, .r (.mv (.t 2))⟩, .op ⟨some 8, none, .r (.mv (.t 26))⟩, .op ⟨some 9, none, .r (.mv (.t 27))⟩])
  .ret))) }
theorem tr_slices_order2Ordered_string : trF cx Try.f85 = pf_slices_order2Ordered_string := by kernel_rfl
end Go.Proofs.Ytihoblfmhighpaa
