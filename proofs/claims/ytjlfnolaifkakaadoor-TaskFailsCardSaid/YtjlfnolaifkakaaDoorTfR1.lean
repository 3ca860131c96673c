/- TaskFails, the runs for K = 1, M of [0, 1, 2, 3]: computed. Printed by genTf.py. Conditions: none. -/
import Derived.Test.YtjlfnolaifkakaaDoorTfA
namespace Go.Proofs.YtjlfnolaifkakaaDoor
open Go.Dp
def rows_1_0 : List (List Nat) := [[1]]
theorem t_1_0_0 (k m : Int) (key value : List UInt8) (kept : Int) : Cs rows_1_0 1 0 0 0 false k m key value kept ∧
    Cs rows_1_0 1 0 0 1 false k m key value kept ∧
    Cs rows_1_0 1 0 0 1 true k m key value kept :=
  ⟨Cs.of (by kernel_rfl), Cs.of (by kernel_rfl), Cs.of (by kernel_rfl)⟩
def rows_1_1 : List (List Nat) := [[1],[1]]
theorem t_1_1_0 (k m : Int) (key value : List UInt8) (kept : Int) : Cs rows_1_1 1 1 0 0 false k m key value kept ∧
    Cs rows_1_1 1 1 0 1 false k m key value kept ∧
    Cs rows_1_1 1 1 0 1 true k m key value kept ∧
    Cs rows_1_1 1 1 0 2 false k m key value kept ∧
    Cs rows_1_1 1 1 0 2 true k m key value kept :=
  ⟨Cs.of (by kernel_rfl), Cs.of (by kernel_rfl), Cs.of (by kernel_rfl), Cs.of (by kernel_rfl), Cs.of (by kernel_rfl)⟩
theorem t_1_1_1 (k m : Int) (key value : List UInt8) (kept : Int) : Cs rows_1_1 1 1 1 0 false k m key value kept ∧
    Cs rows_1_1 1 1 1 1 false k m key value kept ∧
    Cs rows_1_1 1 1 1 1 true k m key value kept ∧
    Cs rows_1_1 1 1 1 2 false k m key value kept ∧
    Cs rows_1_1 1 1 1 2 true k m key value kept :=
  ⟨Cs.of (by kernel_rfl), Cs.of (by kernel_rfl), Cs.of (by kernel_rfl), Cs.of (by kernel_rfl), Cs.of (by kernel_rfl)⟩
def rows_1_2 : List (List Nat) := [[1],[1],[142]]
theorem t_1_2_0 (k m : Int) (key value : List UInt8) (kept : Int) : Cs rows_1_2 1 2 0 0 false k m key value kept ∧
    Cs rows_1_2 1 2 0 1 false k m key value kept ∧
    Cs rows_1_2 1 2 0 1 true k m key value kept ∧
    Cs rows_1_2 1 2 0 2 false k m key value kept ∧
    Cs rows_1_2 1 2 0 2 true k m key value kept ∧
    Cs rows_1_2 1 2 0 3 false k m key value kept ∧
    Cs rows_1_2 1 2 0 3 true k m key value kept :=
  ⟨Cs.of (by kernel_rfl), Cs.of (by kernel_rfl), Cs.of (by kernel_rfl), Cs.of (by kernel_rfl), Cs.of (by kernel_rfl), Cs.of (by kernel_rfl), Cs.of (by kernel_rfl)⟩
theorem t_1_2_1 (k m : Int) (key value : List UInt8) (kept : Int) : Cs rows_1_2 1 2 1 0 false k m key value kept ∧
    Cs rows_1_2 1 2 1 1 false k m key value kept ∧
    Cs rows_1_2 1 2 1 1 true k m key value kept ∧
    Cs rows_1_2 1 2 1 2 false k m key value kept ∧
    Cs rows_1_2 1 2 1 2 true k m key value kept ∧
    Cs rows_1_2 1 2 1 3 false k m key value kept ∧
    Cs rows_1_2 1 2 1 3 true k m key value kept :=
  ⟨Cs.of (by kernel_rfl), Cs.of (by kernel_rfl), Cs.of (by kernel_rfl), Cs.of (by kernel_rfl), Cs.of (by kernel_rfl), Cs.of (by kernel_rfl), Cs.of (by kernel_rfl)⟩
theorem t_1_2_2 (k m : Int) (key value : List UInt8) (kept : Int) : Cs rows_1_2 1 2 2 0 false k m key value kept ∧
    Cs rows_1_2 1 2 2 1 false k m key value kept ∧
    Cs rows_1_2 1 2 2 1 true k m key value kept ∧
    Cs rows_1_2 1 2 2 2 false k m key value kept ∧
    Cs rows_1_2 1 2 2 2 true k m key value kept ∧
    Cs rows_1_2 1 2 2 3 false k m key value kept ∧
    Cs rows_1_2 1 2 2 3 true k m key value kept :=
  ⟨Cs.of (by kernel_rfl), Cs.of (by kernel_rfl), Cs.of (by kernel_rfl), Cs.of (by kernel_rfl), Cs.of (by kernel_rfl), Cs.of (by kernel_rfl), Cs.of (by kernel_rfl)⟩
def rows_1_3 : List (List Nat) := [[1],[1],[142],[244]]
theorem t_1_3_0 (k m : Int) (key value : List UInt8) (kept : Int) : Cs rows_1_3 1 3 0 0 false k m key value kept ∧
    Cs rows_1_3 1 3 0 1 false k m key value kept ∧
    Cs rows_1_3 1 3 0 1 true k m key value kept ∧
    Cs rows_1_3 1 3 0 2 false k m key value kept ∧
    Cs rows_1_3 1 3 0 2 true k m key value kept ∧
    Cs rows_1_3 1 3 0 3 false k m key value kept ∧
    Cs rows_1_3 1 3 0 3 true k m key value kept ∧
    Cs rows_1_3 1 3 0 4 false k m key value kept ∧
    Cs rows_1_3 1 3 0 4 true k m key value kept :=
  ⟨Cs.of (by kernel_rfl), Cs.of (by kernel_rfl), Cs.of (by kernel_rfl), Cs.of (by kernel_rfl), Cs.of (by kernel_rfl), Cs.of (by kernel_rfl), Cs.of (by kernel_rfl), Cs.of (by kernel_rfl), Cs.of (by kernel_rfl)⟩
theorem t_1_3_1 (k m : Int) (key value : List UInt8) (kept : Int) : Cs rows_1_3 1 3 1 0 false k m key value kept ∧
    Cs rows_1_3 1 3 1 1 false k m key value kept ∧
    Cs rows_1_3 1 3 1 1 true k m key value kept ∧
    Cs rows_1_3 1 3 1 2 false k m key value kept ∧
    Cs rows_1_3 1 3 1 2 true k m key value kept ∧
    Cs rows_1_3 1 3 1 3 false k m key value kept ∧
    Cs rows_1_3 1 3 1 3 true k m key value kept ∧
    Cs rows_1_3 1 3 1 4 false k m key value kept ∧
    Cs rows_1_3 1 3 1 4 true k m key value kept :=
  ⟨Cs.of (by kernel_rfl), Cs.of (by kernel_rfl), Cs.of (by kernel_rfl), Cs.of (by kernel_rfl), Cs.of (by kernel_rfl), Cs.of (by kernel_rfl), Cs.of (by kernel_rfl), Cs.of (by kernel_rfl), Cs.of (by kernel_rfl)⟩
theorem t_1_3_2 (k m : Int) (key value : List UInt8) (kept : Int) : Cs rows_1_3 1 3 2 0 false k m key value kept ∧
    Cs rows_1_3 1 3 2 1 false k m key value kept ∧
    Cs rows_1_3 1 3 2 1 true k m key value kept ∧
    Cs rows_1_3 1 3 2 2 false k m key value kept ∧
    Cs rows_1_3 1 3 2 2 true k m key value kept ∧
    Cs rows_1_3 1 3 2 3 false k m key value kept ∧
    Cs rows_1_3 1 3 2 3 true k m key value kept ∧
    Cs rows_1_3 1 3 2 4 false k m key value kept ∧
    Cs rows_1_3 1 3 2 4 true k m key value kept :=
  ⟨Cs.of (by kernel_rfl), Cs.of (by kernel_rfl), Cs.of (by kernel_rfl), Cs.of (by kernel_rfl), Cs.of (by kernel_rfl), Cs.of (by kernel_rfl), Cs.of (by kernel_rfl), Cs.of (by kernel_rfl), Cs.of (by kernel_rfl)⟩
theorem t_1_3_3 (k m : Int) (key value : List UInt8) (kept : Int) : Cs rows_1_3 1 3 3 0 false k m key value kept ∧
    Cs rows_1_3 1 3 3 1 false k m key value kept ∧
    Cs rows_1_3 1 3 3 1 true k m key value kept ∧
    Cs rows_1_3 1 3 3 2 false k m key value kept ∧
    Cs rows_1_3 1 3 3 2 true k m key value kept ∧
    Cs rows_1_3 1 3 3 3 false k m key value kept ∧
    Cs rows_1_3 1 3 3 3 true k m key value kept ∧
    Cs rows_1_3 1 3 3 4 false k m key value kept ∧
    Cs rows_1_3 1 3 3 4 true k m key value kept :=
  ⟨Cs.of (by kernel_rfl), Cs.of (by kernel_rfl), Cs.of (by kernel_rfl), Cs.of (by kernel_rfl), Cs.of (by kernel_rfl), Cs.of (by kernel_rfl), Cs.of (by kernel_rfl), Cs.of (by kernel_rfl), Cs.of (by kernel_rfl)⟩
end Go.Proofs.YtjlfnolaifkakaaDoor
