/- TaskFails, the runs for K = 4, M of [0, 1, 2, 3]: computed. Printed by genTf.py. Conditions: none. -/
import Derived.Test.YtjlfnolaifkakaaDoorTfA
namespace Go.Proofs.YtjlfnolaifkakaaDoor
open Go.Dp
def rows_4_0 : List (List Nat) := [[1,0,0,0],[0,1,0,0],[0,0,1,0],[0,0,0,1]]
theorem t_4_0_0 (k m : Int) (key value : List UInt8) (kept : Int) : Cs rows_4_0 4 0 0 0 false k m key value kept ∧
    Cs rows_4_0 4 0 0 1 false k m key value kept ∧
    Cs rows_4_0 4 0 0 2 false k m key value kept ∧
    Cs rows_4_0 4 0 0 3 false k m key value kept ∧
    Cs rows_4_0 4 0 0 4 false k m key value kept ∧
    Cs rows_4_0 4 0 0 4 true k m key value kept :=
  ⟨Cs.of (by kernel_rfl), Cs.of (by kernel_rfl), Cs.of (by kernel_rfl), Cs.of (by kernel_rfl), Cs.of (by kernel_rfl), Cs.of (by kernel_rfl)⟩
theorem t_4_0_1 (k m : Int) (key value : List UInt8) (kept : Int) : Cs rows_4_0 4 0 1 0 false k m key value kept ∧
    Cs rows_4_0 4 0 1 1 false k m key value kept ∧
    Cs rows_4_0 4 0 1 2 false k m key value kept ∧
    Cs rows_4_0 4 0 1 3 false k m key value kept ∧
    Cs rows_4_0 4 0 1 4 false k m key value kept ∧
    Cs rows_4_0 4 0 1 4 true k m key value kept :=
  ⟨Cs.of (by kernel_rfl), Cs.of (by kernel_rfl), Cs.of (by kernel_rfl), Cs.of (by kernel_rfl), Cs.of (by kernel_rfl), Cs.of (by kernel_rfl)⟩
theorem t_4_0_2 (k m : Int) (key value : List UInt8) (kept : Int) : Cs rows_4_0 4 0 2 0 false k m key value kept ∧
    Cs rows_4_0 4 0 2 1 false k m key value kept ∧
    Cs rows_4_0 4 0 2 2 false k m key value kept ∧
    Cs rows_4_0 4 0 2 3 false k m key value kept ∧
    Cs rows_4_0 4 0 2 4 false k m key value kept ∧
    Cs rows_4_0 4 0 2 4 true k m key value kept :=
  ⟨Cs.of (by kernel_rfl), Cs.of (by kernel_rfl), Cs.of (by kernel_rfl), Cs.of (by kernel_rfl), Cs.of (by kernel_rfl), Cs.of (by kernel_rfl)⟩
theorem t_4_0_3 (k m : Int) (key value : List UInt8) (kept : Int) : Cs rows_4_0 4 0 3 0 false k m key value kept ∧
    Cs rows_4_0 4 0 3 1 false k m key value kept ∧
    Cs rows_4_0 4 0 3 2 false k m key value kept ∧
    Cs rows_4_0 4 0 3 3 false k m key value kept ∧
    Cs rows_4_0 4 0 3 4 false k m key value kept ∧
    Cs rows_4_0 4 0 3 4 true k m key value kept :=
  ⟨Cs.of (by kernel_rfl), Cs.of (by kernel_rfl), Cs.of (by kernel_rfl), Cs.of (by kernel_rfl), Cs.of (by kernel_rfl), Cs.of (by kernel_rfl)⟩
def rows_4_1 : List (List Nat) := [[1,0,0,0],[0,1,0,0],[0,0,1,0],[0,0,0,1],[71,167,122,186]]
theorem t_4_1_0 (k m : Int) (key value : List UInt8) (kept : Int) : Cs rows_4_1 4 1 0 0 false k m key value kept ∧
    Cs rows_4_1 4 1 0 1 false k m key value kept ∧
    Cs rows_4_1 4 1 0 2 false k m key value kept ∧
    Cs rows_4_1 4 1 0 3 false k m key value kept ∧
    Cs rows_4_1 4 1 0 4 false k m key value kept ∧
    Cs rows_4_1 4 1 0 4 true k m key value kept ∧
    Cs rows_4_1 4 1 0 5 false k m key value kept ∧
    Cs rows_4_1 4 1 0 5 true k m key value kept :=
  ⟨Cs.of (by kernel_rfl), Cs.of (by kernel_rfl), Cs.of (by kernel_rfl), Cs.of (by kernel_rfl), Cs.of (by kernel_rfl), Cs.of (by kernel_rfl), Cs.of (by kernel_rfl), Cs.of (by kernel_rfl)⟩
theorem t_4_1_1 (k m : Int) (key value : List UInt8) (kept : Int) : Cs rows_4_1 4 1 1 0 false k m key value kept ∧
    Cs rows_4_1 4 1 1 1 false k m key value kept ∧
    Cs rows_4_1 4 1 1 2 false k m key value kept ∧
    Cs rows_4_1 4 1 1 3 false k m key value kept ∧
    Cs rows_4_1 4 1 1 4 false k m key value kept ∧
    Cs rows_4_1 4 1 1 4 true k m key value kept ∧
    Cs rows_4_1 4 1 1 5 false k m key value kept ∧
    Cs rows_4_1 4 1 1 5 true k m key value kept :=
  ⟨Cs.of (by kernel_rfl), Cs.of (by kernel_rfl), Cs.of (by kernel_rfl), Cs.of (by kernel_rfl), Cs.of (by kernel_rfl), Cs.of (by kernel_rfl), Cs.of (by kernel_rfl), Cs.of (by kernel_rfl)⟩
theorem t_4_1_2 (k m : Int) (key value : List UInt8) (kept : Int) : Cs rows_4_1 4 1 2 0 false k m key value kept ∧
    Cs rows_4_1 4 1 2 1 false k m key value kept ∧
    Cs rows_4_1 4 1 2 2 false k m key value kept ∧
    Cs rows_4_1 4 1 2 3 false k m key value kept ∧
    Cs rows_4_1 4 1 2 4 false k m key value kept ∧
    Cs rows_4_1 4 1 2 4 true k m key value kept ∧
    Cs rows_4_1 4 1 2 5 false k m key value kept ∧
    Cs rows_4_1 4 1 2 5 true k m key value kept :=
  ⟨Cs.of (by kernel_rfl), Cs.of (by kernel_rfl), Cs.of (by kernel_rfl), Cs.of (by kernel_rfl), Cs.of (by kernel_rfl), Cs.of (by kernel_rfl), Cs.of (by kernel_rfl), Cs.of (by kernel_rfl)⟩
theorem t_4_1_3 (k m : Int) (key value : List UInt8) (kept : Int) : Cs rows_4_1 4 1 3 0 false k m key value kept ∧
    Cs rows_4_1 4 1 3 1 false k m key value kept ∧
    Cs rows_4_1 4 1 3 2 false k m key value kept ∧
    Cs rows_4_1 4 1 3 3 false k m key value kept ∧
    Cs rows_4_1 4 1 3 4 false k m key value kept ∧
    Cs rows_4_1 4 1 3 4 true k m key value kept ∧
    Cs rows_4_1 4 1 3 5 false k m key value kept ∧
    Cs rows_4_1 4 1 3 5 true k m key value kept :=
  ⟨Cs.of (by kernel_rfl), Cs.of (by kernel_rfl), Cs.of (by kernel_rfl), Cs.of (by kernel_rfl), Cs.of (by kernel_rfl), Cs.of (by kernel_rfl), Cs.of (by kernel_rfl), Cs.of (by kernel_rfl)⟩
theorem t_4_1_4 (k m : Int) (key value : List UInt8) (kept : Int) : Cs rows_4_1 4 1 4 0 false k m key value kept ∧
    Cs rows_4_1 4 1 4 1 false k m key value kept ∧
    Cs rows_4_1 4 1 4 2 false k m key value kept ∧
    Cs rows_4_1 4 1 4 3 false k m key value kept ∧
    Cs rows_4_1 4 1 4 4 false k m key value kept ∧
    Cs rows_4_1 4 1 4 4 true k m key value kept ∧
    Cs rows_4_1 4 1 4 5 false k m key value kept ∧
    Cs rows_4_1 4 1 4 5 true k m key value kept :=
  ⟨Cs.of (by kernel_rfl), Cs.of (by kernel_rfl), Cs.of (by kernel_rfl), Cs.of (by kernel_rfl), Cs.of (by kernel_rfl), Cs.of (by kernel_rfl), Cs.of (by kernel_rfl), Cs.of (by kernel_rfl)⟩
def rows_4_2 : List (List Nat) := [[1,0,0,0],[0,1,0,0],[0,0,1,0],[0,0,0,1],[71,167,122,186],[167,71,186,122]]
theorem t_4_2_0 (k m : Int) (key value : List UInt8) (kept : Int) : Cs rows_4_2 4 2 0 0 false k m key value kept ∧
    Cs rows_4_2 4 2 0 1 false k m key value kept ∧
    Cs rows_4_2 4 2 0 2 false k m key value kept ∧
    Cs rows_4_2 4 2 0 3 false k m key value kept ∧
    Cs rows_4_2 4 2 0 4 false k m key value kept ∧
    Cs rows_4_2 4 2 0 4 true k m key value kept ∧
    Cs rows_4_2 4 2 0 5 false k m key value kept ∧
    Cs rows_4_2 4 2 0 5 true k m key value kept ∧
    Cs rows_4_2 4 2 0 6 false k m key value kept ∧
    Cs rows_4_2 4 2 0 6 true k m key value kept :=
  ⟨Cs.of (by kernel_rfl), Cs.of (by kernel_rfl), Cs.of (by kernel_rfl), Cs.of (by kernel_rfl), Cs.of (by kernel_rfl), Cs.of (by kernel_rfl), Cs.of (by kernel_rfl), Cs.of (by kernel_rfl), Cs.of (by kernel_rfl), Cs.of (by kernel_rfl)⟩
theorem t_4_2_1 (k m : Int) (key value : List UInt8) (kept : Int) : Cs rows_4_2 4 2 1 0 false k m key value kept ∧
    Cs rows_4_2 4 2 1 1 false k m key value kept ∧
    Cs rows_4_2 4 2 1 2 false k m key value kept ∧
    Cs rows_4_2 4 2 1 3 false k m key value kept ∧
    Cs rows_4_2 4 2 1 4 false k m key value kept ∧
    Cs rows_4_2 4 2 1 4 true k m key value kept ∧
    Cs rows_4_2 4 2 1 5 false k m key value kept ∧
    Cs rows_4_2 4 2 1 5 true k m key value kept ∧
    Cs rows_4_2 4 2 1 6 false k m key value kept ∧
    Cs rows_4_2 4 2 1 6 true k m key value kept :=
  ⟨Cs.of (by kernel_rfl), Cs.of (by kernel_rfl), Cs.of (by kernel_rfl), Cs.of (by kernel_rfl), Cs.of (by kernel_rfl), Cs.of (by kernel_rfl), Cs.of (by kernel_rfl), Cs.of (by kernel_rfl), Cs.of (by kernel_rfl), Cs.of (by kernel_rfl)⟩
theorem t_4_2_2 (k m : Int) (key value : List UInt8) (kept : Int) : Cs rows_4_2 4 2 2 0 false k m key value kept ∧
    Cs rows_4_2 4 2 2 1 false k m key value kept ∧
    Cs rows_4_2 4 2 2 2 false k m key value kept ∧
    Cs rows_4_2 4 2 2 3 false k m key value kept ∧
    Cs rows_4_2 4 2 2 4 false k m key value kept ∧
    Cs rows_4_2 4 2 2 4 true k m key value kept ∧
    Cs rows_4_2 4 2 2 5 false k m key value kept ∧
    Cs rows_4_2 4 2 2 5 true k m key value kept ∧
    Cs rows_4_2 4 2 2 6 false k m key value kept ∧
    Cs rows_4_2 4 2 2 6 true k m key value kept :=
  ⟨Cs.of (by kernel_rfl), Cs.of (by kernel_rfl), Cs.of (by kernel_rfl), Cs.of (by kernel_rfl), Cs.of (by kernel_rfl), Cs.of (by kernel_rfl), Cs.of (by kernel_rfl), Cs.of (by kernel_rfl), Cs.of (by kernel_rfl), Cs.of (by kernel_rfl)⟩
theorem t_4_2_3 (k m : Int) (key value : List UInt8) (kept : Int) : Cs rows_4_2 4 2 3 0 false k m key value kept ∧
    Cs rows_4_2 4 2 3 1 false k m key value kept ∧
    Cs rows_4_2 4 2 3 2 false k m key value kept ∧
    Cs rows_4_2 4 2 3 3 false k m key value kept ∧
    Cs rows_4_2 4 2 3 4 false k m key value kept ∧
    Cs rows_4_2 4 2 3 4 true k m key value kept ∧
    Cs rows_4_2 4 2 3 5 false k m key value kept ∧
    Cs rows_4_2 4 2 3 5 true k m key value kept ∧
    Cs rows_4_2 4 2 3 6 false k m key value kept ∧
    Cs rows_4_2 4 2 3 6 true k m key value kept :=
  ⟨Cs.of (by kernel_rfl), Cs.of (by kernel_rfl), Cs.of (by kernel_rfl), Cs.of (by kernel_rfl), Cs.of (by kernel_rfl), Cs.of (by kernel_rfl), Cs.of (by kernel_rfl), Cs.of (by kernel_rfl), Cs.of (by kernel_rfl), Cs.of (by kernel_rfl)⟩
theorem t_4_2_4 (k m : Int) (key value : List UInt8) (kept : Int) : Cs rows_4_2 4 2 4 0 false k m key value kept ∧
    Cs rows_4_2 4 2 4 1 false k m key value kept ∧
    Cs rows_4_2 4 2 4 2 false k m key value kept ∧
    Cs rows_4_2 4 2 4 3 false k m key value kept ∧
    Cs rows_4_2 4 2 4 4 false k m key value kept ∧
    Cs rows_4_2 4 2 4 4 true k m key value kept ∧
    Cs rows_4_2 4 2 4 5 false k m key value kept ∧
    Cs rows_4_2 4 2 4 5 true k m key value kept ∧
    Cs rows_4_2 4 2 4 6 false k m key value kept ∧
    Cs rows_4_2 4 2 4 6 true k m key value kept :=
  ⟨Cs.of (by kernel_rfl), Cs.of (by kernel_rfl), Cs.of (by kernel_rfl), Cs.of (by kernel_rfl), Cs.of (by kernel_rfl), Cs.of (by kernel_rfl), Cs.of (by kernel_rfl), Cs.of (by kernel_rfl), Cs.of (by kernel_rfl), Cs.of (by kernel_rfl)⟩
theorem t_4_2_5 (k m : Int) (key value : List UInt8) (kept : Int) : Cs rows_4_2 4 2 5 0 false k m key value kept ∧
    Cs rows_4_2 4 2 5 1 false k m key value kept ∧
    Cs rows_4_2 4 2 5 2 false k m key value kept ∧
    Cs rows_4_2 4 2 5 3 false k m key value kept ∧
    Cs rows_4_2 4 2 5 4 false k m key value kept ∧
    Cs rows_4_2 4 2 5 4 true k m key value kept ∧
    Cs rows_4_2 4 2 5 5 false k m key value kept ∧
    Cs rows_4_2 4 2 5 5 true k m key value kept ∧
    Cs rows_4_2 4 2 5 6 false k m key value kept ∧
    Cs rows_4_2 4 2 5 6 true k m key value kept :=
  ⟨Cs.of (by kernel_rfl), Cs.of (by kernel_rfl), Cs.of (by kernel_rfl), Cs.of (by kernel_rfl), Cs.of (by kernel_rfl), Cs.of (by kernel_rfl), Cs.of (by kernel_rfl), Cs.of (by kernel_rfl), Cs.of (by kernel_rfl), Cs.of (by kernel_rfl)⟩
def rows_4_3 : List (List Nat) := [[1,0,0,0],[0,1,0,0],[0,0,1,0],[0,0,0,1],[71,167,122,186],[167,71,186,122],[122,186,71,167]]
theorem t_4_3_0 (k m : Int) (key value : List UInt8) (kept : Int) : Cs rows_4_3 4 3 0 0 false k m key value kept ∧
    Cs rows_4_3 4 3 0 1 false k m key value kept ∧
    Cs rows_4_3 4 3 0 2 false k m key value kept ∧
    Cs rows_4_3 4 3 0 3 false k m key value kept ∧
    Cs rows_4_3 4 3 0 4 false k m key value kept ∧
    Cs rows_4_3 4 3 0 4 true k m key value kept ∧
    Cs rows_4_3 4 3 0 5 false k m key value kept ∧
    Cs rows_4_3 4 3 0 5 true k m key value kept ∧
    Cs rows_4_3 4 3 0 6 false k m key value kept ∧
    Cs rows_4_3 4 3 0 6 true k m key value kept ∧
    Cs rows_4_3 4 3 0 7 false k m key value kept ∧
    Cs rows_4_3 4 3 0 7 true k m key value kept :=
  ⟨Cs.of (by kernel_rfl), Cs.of (by kernel_rfl), Cs.of (by kernel_rfl), Cs.of (by kernel_rfl), Cs.of (by kernel_rfl), Cs.of (by kernel_rfl), Cs.of (by kernel_rfl), Cs.of (by kernel_rfl), Cs.of (by kernel_rfl), Cs.of (by kernel_rfl), Cs.of (by kernel_rfl), Cs.of (by kernel_rfl)⟩
theorem t_4_3_1 (k m : Int) (key value : List UInt8) (kept : Int) : Cs rows_4_3 4 3 1 0 false k m key value kept ∧
    Cs rows_4_3 4 3 1 1 false k m key value kept ∧
    Cs rows_4_3 4 3 1 2 false k m key value kept ∧
    Cs rows_4_3 4 3 1 3 false k m key value kept ∧
    Cs rows_4_3 4 3 1 4 false k m key value kept ∧
    Cs rows_4_3 4 3 1 4 true k m key value kept ∧
    Cs rows_4_3 4 3 1 5 false k m key value kept ∧
    Cs rows_4_3 4 3 1 5 true k m key value kept ∧
    Cs rows_4_3 4 3 1 6 false k m key value kept ∧
    Cs rows_4_3 4 3 1 6 true k m key value kept ∧
    Cs rows_4_3 4 3 1 7 false k m key value kept ∧
    Cs rows_4_3 4 3 1 7 true k m key value kept :=
  ⟨Cs.of (by kernel_rfl), Cs.of (by kernel_rfl), Cs.of (by kernel_rfl), Cs.of (by kernel_rfl), Cs.of (by kernel_rfl), Cs.of (by kernel_rfl), Cs.of (by kernel_rfl), Cs.of (by kernel_rfl), Cs.of (by kernel_rfl), Cs.of (by kernel_rfl), Cs.of (by kernel_rfl), Cs.of (by kernel_rfl)⟩
theorem t_4_3_2 (k m : Int) (key value : List UInt8) (kept : Int) : Cs rows_4_3 4 3 2 0 false k m key value kept ∧
    Cs rows_4_3 4 3 2 1 false k m key value kept ∧
    Cs rows_4_3 4 3 2 2 false k m key value kept ∧
    Cs rows_4_3 4 3 2 3 false k m key value kept ∧
    Cs rows_4_3 4 3 2 4 false k m key value kept ∧
    Cs rows_4_3 4 3 2 4 true k m key value kept ∧
    Cs rows_4_3 4 3 2 5 false k m key value kept ∧
    Cs rows_4_3 4 3 2 5 true k m key value kept ∧
    Cs rows_4_3 4 3 2 6 false k m key value kept ∧
    Cs rows_4_3 4 3 2 6 true k m key value kept ∧
    Cs rows_4_3 4 3 2 7 false k m key value kept ∧
    Cs rows_4_3 4 3 2 7 true k m key value kept :=
  ⟨Cs.of (by kernel_rfl), Cs.of (by kernel_rfl), Cs.of (by kernel_rfl), Cs.of (by kernel_rfl), Cs.of (by kernel_rfl), Cs.of (by kernel_rfl), Cs.of (by kernel_rfl), Cs.of (by kernel_rfl), Cs.of (by kernel_rfl), Cs.of (by kernel_rfl), Cs.of (by kernel_rfl), Cs.of (by kernel_rfl)⟩
theorem t_4_3_3 (k m : Int) (key value : List UInt8) (kept : Int) : Cs rows_4_3 4 3 3 0 false k m key value kept ∧
    Cs rows_4_3 4 3 3 1 false k m key value kept ∧
    Cs rows_4_3 4 3 3 2 false k m key value kept ∧
    Cs rows_4_3 4 3 3 3 false k m key value kept ∧
    Cs rows_4_3 4 3 3 4 false k m key value kept ∧
    Cs rows_4_3 4 3 3 4 true k m key value kept ∧
    Cs rows_4_3 4 3 3 5 false k m key value kept ∧
    Cs rows_4_3 4 3 3 5 true k m key value kept ∧
    Cs rows_4_3 4 3 3 6 false k m key value kept ∧
    Cs rows_4_3 4 3 3 6 true k m key value kept ∧
    Cs rows_4_3 4 3 3 7 false k m key value kept ∧
    Cs rows_4_3 4 3 3 7 true k m key value kept :=
  ⟨Cs.of (by kernel_rfl), Cs.of (by kernel_rfl), Cs.of (by kernel_rfl), Cs.of (by kernel_rfl), Cs.of (by kernel_rfl), Cs.of (by kernel_rfl), Cs.of (by kernel_rfl), Cs.of (by kernel_rfl), Cs.of (by kernel_rfl), Cs.of (by kernel_rfl), Cs.of (by kernel_rfl), Cs.of (by kernel_rfl)⟩
theorem t_4_3_4 (k m : Int) (key value : List UInt8) (kept : Int) : Cs rows_4_3 4 3 4 0 false k m key value kept ∧
    Cs rows_4_3 4 3 4 1 false k m key value kept ∧
    Cs rows_4_3 4 3 4 2 false k m key value kept ∧
    Cs rows_4_3 4 3 4 3 false k m key value kept ∧
    Cs rows_4_3 4 3 4 4 false k m key value kept ∧
    Cs rows_4_3 4 3 4 4 true k m key value kept ∧
    Cs rows_4_3 4 3 4 5 false k m key value kept ∧
    Cs rows_4_3 4 3 4 5 true k m key value kept ∧
    Cs rows_4_3 4 3 4 6 false k m key value kept ∧
    Cs rows_4_3 4 3 4 6 true k m key value kept ∧
    Cs rows_4_3 4 3 4 7 false k m key value kept ∧
    Cs rows_4_3 4 3 4 7 true k m key value kept :=
  ⟨Cs.of (by kernel_rfl), Cs.of (by kernel_rfl), Cs.of (by kernel_rfl), Cs.of (by kernel_rfl), Cs.of (by kernel_rfl), Cs.of (by kernel_rfl), Cs.of (by kernel_rfl), Cs.of (by kernel_rfl), Cs.of (by kernel_rfl), Cs.of (by kernel_rfl), Cs.of (by kernel_rfl), Cs.of (by kernel_rfl)⟩
theorem t_4_3_5 (k m : Int) (key value : List UInt8) (kept : Int) : Cs rows_4_3 4 3 5 0 false k m key value kept ∧
    Cs rows_4_3 4 3 5 1 false k m key value kept ∧
    Cs rows_4_3 4 3 5 2 false k m key value kept ∧
    Cs rows_4_3 4 3 5 3 false k m key value kept ∧
    Cs rows_4_3 4 3 5 4 false k m key value kept ∧
    Cs rows_4_3 4 3 5 4 true k m key value kept ∧
    Cs rows_4_3 4 3 5 5 false k m key value kept ∧
    Cs rows_4_3 4 3 5 5 true k m key value kept ∧
    Cs rows_4_3 4 3 5 6 false k m key value kept ∧
    Cs rows_4_3 4 3 5 6 true k m key value kept ∧
    Cs rows_4_3 4 3 5 7 false k m key value kept ∧
    Cs rows_4_3 4 3 5 7 true k m key value kept :=
  ⟨Cs.of (by kernel_rfl), Cs.of (by kernel_rfl), Cs.of (by kernel_rfl), Cs.of (by kernel_rfl), Cs.of (by kernel_rfl), Cs.of (by kernel_rfl), Cs.of (by kernel_rfl), Cs.of (by kernel_rfl), Cs.of (by kernel_rfl), Cs.of (by kernel_rfl), Cs.of (by kernel_rfl), Cs.of (by kernel_rfl)⟩
theorem t_4_3_6 (k m : Int) (key value : List UInt8) (kept : Int) : Cs rows_4_3 4 3 6 0 false k m key value kept ∧
    Cs rows_4_3 4 3 6 1 false k m key value kept ∧
    Cs rows_4_3 4 3 6 2 false k m key value kept ∧
    Cs rows_4_3 4 3 6 3 false k m key value kept ∧
    Cs rows_4_3 4 3 6 4 false k m key value kept ∧
    Cs rows_4_3 4 3 6 4 true k m key value kept ∧
    Cs rows_4_3 4 3 6 5 false k m key value kept ∧
    Cs rows_4_3 4 3 6 5 true k m key value kept ∧
    Cs rows_4_3 4 3 6 6 false k m key value kept ∧
    Cs rows_4_3 4 3 6 6 true k m key value kept ∧
    Cs rows_4_3 4 3 6 7 false k m key value kept ∧
    Cs rows_4_3 4 3 6 7 true k m key value kept :=
  ⟨Cs.of (by kernel_rfl), Cs.of (by kernel_rfl), Cs.of (by kernel_rfl), Cs.of (by kernel_rfl), Cs.of (by kernel_rfl), Cs.of (by kernel_rfl), Cs.of (by kernel_rfl), Cs.of (by kernel_rfl), Cs.of (by kernel_rfl), Cs.of (by kernel_rfl), Cs.of (by kernel_rfl), Cs.of (by kernel_rfl)⟩
end Go.Proofs.YtjlfnolaifkakaaDoor
