/- ClusterIgnores, the runs for K = 2: computed. Printed by genIg.py. Conditions: none. -/
import Derived.Test.YtobnlhfgebfebaaGreatDoorIgA
namespace Go.Proofs.YtobnlhfgebfebaaGreatDoor
open Go.Dp
theorem ig_2_0_0 (k m d s p z : Int) (av : AV) (n : Nat) (t : Tr AV) (dl pg : Nat) : IgCs 2 0 0 k m d s p z av n t dl pg := IgCs.of (by kernel_rfl)
theorem ig_2_0_1 (k m d s p z : Int) (av : AV) (n : Nat) (t : Tr AV) (dl pg : Nat) : IgCs 2 0 1 k m d s p z av n t dl pg := IgCs.of (by kernel_rfl)
theorem ig_2_0_2 (k m d s p z : Int) (av : AV) (n : Nat) (t : Tr AV) (dl pg : Nat) : IgCs 2 0 2 k m d s p z av n t dl pg := IgCs.of (by kernel_rfl)
theorem ig_2_0_3 (k m d s p z : Int) (av : AV) (n : Nat) (t : Tr AV) (dl pg : Nat) : IgCs 2 0 3 k m d s p z av n t dl pg := IgCs.of (by kernel_rfl)
theorem ig_2_1_0 (k m d s p z : Int) (av : AV) (n : Nat) (t : Tr AV) (dl pg : Nat) : IgCs 2 1 0 k m d s p z av n t dl pg := IgCs.of (by kernel_rfl)
theorem ig_2_1_1 (k m d s p z : Int) (av : AV) (n : Nat) (t : Tr AV) (dl pg : Nat) : IgCs 2 1 1 k m d s p z av n t dl pg := IgCs.of (by kernel_rfl)
theorem ig_2_1_2 (k m d s p z : Int) (av : AV) (n : Nat) (t : Tr AV) (dl pg : Nat) : IgCs 2 1 2 k m d s p z av n t dl pg := IgCs.of (by kernel_rfl)
theorem ig_2_1_3 (k m d s p z : Int) (av : AV) (n : Nat) (t : Tr AV) (dl pg : Nat) : IgCs 2 1 3 k m d s p z av n t dl pg := IgCs.of (by kernel_rfl)
theorem ig_2_2_0 (k m d s p z : Int) (av : AV) (n : Nat) (t : Tr AV) (dl pg : Nat) : IgCs 2 2 0 k m d s p z av n t dl pg := IgCs.of (by kernel_rfl)
theorem ig_2_2_1 (k m d s p z : Int) (av : AV) (n : Nat) (t : Tr AV) (dl pg : Nat) : IgCs 2 2 1 k m d s p z av n t dl pg := IgCs.of (by kernel_rfl)
theorem ig_2_2_2 (k m d s p z : Int) (av : AV) (n : Nat) (t : Tr AV) (dl pg : Nat) : IgCs 2 2 2 k m d s p z av n t dl pg := IgCs.of (by kernel_rfl)
theorem ig_2_2_3 (k m d s p z : Int) (av : AV) (n : Nat) (t : Tr AV) (dl pg : Nat) : IgCs 2 2 3 k m d s p z av n t dl pg := IgCs.of (by kernel_rfl)
theorem ig_2_3_0 (k m d s p z : Int) (av : AV) (n : Nat) (t : Tr AV) (dl pg : Nat) : IgCs 2 3 0 k m d s p z av n t dl pg := IgCs.of (by kernel_rfl)
theorem ig_2_3_1 (k m d s p z : Int) (av : AV) (n : Nat) (t : Tr AV) (dl pg : Nat) : IgCs 2 3 1 k m d s p z av n t dl pg := IgCs.of (by kernel_rfl)
theorem ig_2_3_2 (k m d s p z : Int) (av : AV) (n : Nat) (t : Tr AV) (dl pg : Nat) : IgCs 2 3 2 k m d s p z av n t dl pg := IgCs.of (by kernel_rfl)
theorem ig_2_3_3 (k m d s p z : Int) (av : AV) (n : Nat) (t : Tr AV) (dl pg : Nat) : IgCs 2 3 3 k m d s p z av n t dl pg := IgCs.of (by kernel_rfl)
end Go.Proofs.YtobnlhfgebfebaaGreatDoor
