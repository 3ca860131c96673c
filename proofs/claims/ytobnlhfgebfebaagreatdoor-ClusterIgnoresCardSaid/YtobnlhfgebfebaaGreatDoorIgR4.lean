/- ClusterIgnores, the runs for K = 4: computed. Printed by genIg.py. Conditions: none. -/
import Derived.Test.YtobnlhfgebfebaaGreatDoorIgA
namespace Go.Proofs.YtobnlhfgebfebaaGreatDoor
open Go.Dp
theorem ig_4_0_0 (k m d s p z : Int) (av : AV) (n : Nat) (t : Tr AV) (dl pg : Nat) : IgCs 4 0 0 k m d s p z av n t dl pg := IgCs.of (by kernel_rfl)
theorem ig_4_0_1 (k m d s p z : Int) (av : AV) (n : Nat) (t : Tr AV) (dl pg : Nat) : IgCs 4 0 1 k m d s p z av n t dl pg := IgCs.of (by kernel_rfl)
theorem ig_4_0_2 (k m d s p z : Int) (av : AV) (n : Nat) (t : Tr AV) (dl pg : Nat) : IgCs 4 0 2 k m d s p z av n t dl pg := IgCs.of (by kernel_rfl)
theorem ig_4_0_3 (k m d s p z : Int) (av : AV) (n : Nat) (t : Tr AV) (dl pg : Nat) : IgCs 4 0 3 k m d s p z av n t dl pg := IgCs.of (by kernel_rfl)
theorem ig_4_1_0 (k m d s p z : Int) (av : AV) (n : Nat) (t : Tr AV) (dl pg : Nat) : IgCs 4 1 0 k m d s p z av n t dl pg := IgCs.of (by kernel_rfl)
theorem ig_4_1_1 (k m d s p z : Int) (av : AV) (n : Nat) (t : Tr AV) (dl pg : Nat) : IgCs 4 1 1 k m d s p z av n t dl pg := IgCs.of (by kernel_rfl)
theorem ig_4_1_2 (k m d s p z : Int) (av : AV) (n : Nat) (t : Tr AV) (dl pg : Nat) : IgCs 4 1 2 k m d s p z av n t dl pg := IgCs.of (by kernel_rfl)
theorem ig_4_1_3 (k m d s p z : Int) (av : AV) (n : Nat) (t : Tr AV) (dl pg : Nat) : IgCs 4 1 3 k m d s p z av n t dl pg := IgCs.of (by kernel_rfl)
theorem ig_4_2_0 (k m d s p z : Int) (av : AV) (n : Nat) (t : Tr AV) (dl pg : Nat) : IgCs 4 2 0 k m d s p z av n t dl pg := IgCs.of (by kernel_rfl)
theorem ig_4_2_1 (k m d s p z : Int) (av : AV) (n : Nat) (t : Tr AV) (dl pg : Nat) : IgCs 4 2 1 k m d s p z av n t dl pg := IgCs.of (by kernel_rfl)
theorem ig_4_2_2 (k m d s p z : Int) (av : AV) (n : Nat) (t : Tr AV) (dl pg : Nat) : IgCs 4 2 2 k m d s p z av n t dl pg := IgCs.of (by kernel_rfl)
theorem ig_4_2_3 (k m d s p z : Int) (av : AV) (n : Nat) (t : Tr AV) (dl pg : Nat) : IgCs 4 2 3 k m d s p z av n t dl pg := IgCs.of (by kernel_rfl)
theorem ig_4_3_0 (k m d s p z : Int) (av : AV) (n : Nat) (t : Tr AV) (dl pg : Nat) : IgCs 4 3 0 k m d s p z av n t dl pg := IgCs.of (by kernel_rfl)
theorem ig_4_3_1 (k m d s p z : Int) (av : AV) (n : Nat) (t : Tr AV) (dl pg : Nat) : IgCs 4 3 1 k m d s p z av n t dl pg := IgCs.of (by kernel_rfl)
theorem ig_4_3_2 (k m d s p z : Int) (av : AV) (n : Nat) (t : Tr AV) (dl pg : Nat) : IgCs 4 3 2 k m d s p z av n t dl pg := IgCs.of (by kernel_rfl)
theorem ig_4_3_3 (k m d s p z : Int) (av : AV) (n : Nat) (t : Tr AV) (dl pg : Nat) : IgCs 4 3 3 k m d s p z av n t dl pg := IgCs.of (by kernel_rfl)
end Go.Proofs.YtobnlhfgebfebaaGreatDoor
