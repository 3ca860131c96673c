/- TaskFails, the runs for K = 2, M of [0, 1, 2, 3]: computed. Printed by genTf.py. Conditions: none. -/
import Derived.Test.YtjlfnolaifkakaaDoorTfA
namespace Go.Proofs.YtjlfnolaifkakaaDoor
open Go.Dp
def rows_2_0 : List (List Nat) := [[1,0],[0,1]]
theorem t_2_0_0 (k m : Int) (key value : List UInt8) (kept : Int) : Cs rows_2_0 2 0 0 0 false k m key value kept ∧
    Cs rows_2_0 2 0 0 1 false k m key value kept ∧
    Cs rows_2_0 2 0 0 2 false k m key value kept ∧
    Cs rows_2_0 2 0 0 2 true k m key value kept :=
  ⟨Cs.of (by kernel_rfl), Cs.of (by kernel_rfl), Cs.of (by kernel_rfl), Cs.of (by kernel_rfl)⟩
theorem t_2_0_1 (k m : Int) (key value : List UInt8) (kept : Int) : Cs rows_2_0 2 0 1 0 false k m key value kept ∧
    Cs rows_2_0 2 0 1 1 false k m key value kept ∧
    Cs rows_2_0 2 0 1 2 false k m key value kept ∧
    Cs rows_2_0 2 0 1 2 true k m key value kept :=
  ⟨Cs.of (by kernel_rfl), Cs.of (by kernel_rfl), Cs.of (by kernel_rfl), Cs.of (by kernel_rfl)⟩
def rows_2_1 : List (List Nat) := [[1,0],[0,1],[142,244]]
theorem t_2_1_0 (k m : Int) (key value : List UInt8) (kept : Int) : Cs rows_2_1 2 1 0 0 false k m key value kept ∧
    Cs rows_2_1 2 1 0 1 false k m key value kept ∧
    Cs rows_2_1 2 1 0 2 false k m key value kept ∧
    Cs rows_2_1 2 1 0 2 true k m key value kept ∧
    Cs rows_2_1 2 1 0 3 false k m key value kept ∧
    Cs rows_2_1 2 1 0 3 true k m key value kept :=
  ⟨Cs.of (by kernel_rfl), Cs.of (by kernel_rfl), Cs.of (by kernel_rfl), Cs.of (by kernel_rfl), Cs.of (by kernel_rfl), Cs.of (by kernel_rfl)⟩
theorem t_2_1_1 (k m : Int) (key value : List UInt8) (kept : Int) : Cs rows_2_1 2 1 1 0 false k m key value kept ∧
    Cs rows_2_1 2 1 1 1 false k m key value kept ∧
    Cs rows_2_1 2 1 1 2 false k m key value kept ∧
    Cs rows_2_1 2 1 1 2 true k m key value kept ∧
    Cs rows_2_1 2 1 1 3 false k m key value kept ∧
    Cs rows_2_1 2 1 1 3 true k m key value kept :=
  ⟨Cs.of (by kernel_rfl), Cs.of (by kernel_rfl), Cs.of (by kernel_rfl), Cs.of (by kernel_rfl), Cs.of (by kernel_rfl), Cs.of (by kernel_rfl)⟩
theorem t_2_1_2 (k m : Int) (key value : List UInt8) (kept : Int) : Cs rows_2_1 2 1 2 0 false k m key value kept ∧
    Cs rows_2_1 2 1 2 1 false k m key value kept ∧
    Cs rows_2_1 2 1 2 2 false k m key value kept ∧
    Cs rows_2_1 2 1 2 2 true k m key value kept ∧
    Cs rows_2_1 2 1 2 3 false k m key value kept ∧
    Cs rows_2_1 2 1 2 3 true k m key value kept :=
  ⟨Cs.of (by kernel_rfl), Cs.of (by kernel_rfl), Cs.of (by kernel_rfl), Cs.of (by kernel_rfl), Cs.of (by kernel_rfl), Cs.of (by kernel_rfl)⟩
def rows_2_2 : List (List Nat) := [[1,0],[0,1],[142,244],[244,142]]
theorem t_2_2_0 (k m : Int) (key value : List UInt8) (kept : Int) : Cs rows_2_2 2 2 0 0 false k m key value kept ∧
    Cs rows_2_2 2 2 0 1 false k m key value kept ∧
    Cs rows_2_2 2 2 0 2 false k m key value kept ∧
    Cs rows_2_2 2 2 0 2 true k m key value kept ∧
    Cs rows_2_2 2 2 0 3 false k m key value kept ∧
    Cs rows_2_2 2 2 0 3 true k m key value kept ∧
    Cs rows_2_2 2 2 0 4 false k m key value kept ∧
    Cs rows_2_2 2 2 0 4 true k m key value kept :=
  ⟨Cs.of (by kernel_rfl), Cs.of (by kernel_rfl), Cs.of (by kernel_rfl), Cs.of (by kernel_rfl), Cs.of (by kernel_rfl), Cs.of (by kernel_rfl), Cs.of (by kernel_rfl), Cs.of (by kernel_rfl)⟩
theorem t_2_2_1 (k m : Int) (key value : List UInt8) (kept : Int) : Cs rows_2_2 2 2 1 0 false k m key value kept ∧
    Cs rows_2_2 2 2 1 1 false k m key value kept ∧
    Cs rows_2_2 2 2 1 2 false k m key value kept ∧
    Cs rows_2_2 2 2 1 2 true k m key value kept ∧
    Cs rows_2_2 2 2 1 3 false k m key value kept ∧
    Cs rows_2_2 2 2 1 3 true k m key value kept ∧
    Cs rows_2_2 2 2 1 4 false k m key value kept ∧
    Cs rows_2_2 2 2 1 4 true k m key value kept :=
  ⟨Cs.of (by kernel_rfl), Cs.of (by kernel_rfl), Cs.of (by kernel_rfl), Cs.of (by kernel_rfl), Cs.of (by kernel_rfl), Cs.of (by kernel_rfl), Cs.of (by kernel_rfl), Cs.of (by kernel_rfl)⟩
theorem t_2_2_2 (k m : Int) (key value : List UInt8) (kept : Int) : Cs rows_2_2 2 2 2 0 false k m key value kept ∧
    Cs rows_2_2 2 2 2 1 false k m key value kept ∧
    Cs rows_2_2 2 2 2 2 false k m key value kept ∧
    Cs rows_2_2 2 2 2 2 true k m key value kept ∧
    Cs rows_2_2 2 2 2 3 false k m key value kept ∧
    Cs rows_2_2 2 2 2 3 true k m key value kept ∧
    Cs rows_2_2 2 2 2 4 false k m key value kept ∧
    Cs rows_2_2 2 2 2 4 true k m key value kept :=
  ⟨Cs.of (by kernel_rfl), Cs.of (by kernel_rfl), Cs.of (by kernel_rfl), Cs.of (by kernel_rfl), Cs.of (by kernel_rfl), Cs.of (by kernel_rfl), Cs.of (by kernel_rfl), Cs.of (by kernel_rfl)⟩
theorem t_2_2_3 (k m : Int) (key value : List UInt8) (kept : Int) : Cs rows_2_2 2 2 3 0 false k m key value kept ∧
    Cs rows_2_2 2 2 3 1 false k m key value kept ∧
    Cs rows_2_2 2 2 3 2 false k m key value kept ∧
    Cs rows_2_2 2 2 3 2 true k m key value kept ∧
    Cs rows_2_2 2 2 3 3 false k m key value kept ∧
    Cs rows_2_2 2 2 3 3 true k m key value kept ∧
    Cs rows_2_2 2 2 3 4 false k m key value kept ∧
    Cs rows_2_2 2 2 3 4 true k m key value kept :=
  ⟨Cs.of (by kernel_rfl), Cs.of (by kernel_rfl), Cs.of (by kernel_rfl), Cs.of (by kernel_rfl), Cs.of (by kernel_rfl), Cs.of (by kernel_rfl), Cs.of (by kernel_rfl), Cs.of (by kernel_rfl)⟩
def rows_2_3 : List (List Nat) := [[1,0],[0,1],[142,244],[244,142],[71,167]]
theorem t_2_3_0 (k m : Int) (key value : List UInt8) (kept : Int) : Cs rows_2_3 2 3 0 0 false k m key value kept ∧
    Cs rows_2_3 2 3 0 1 false k m key value kept ∧
    Cs rows_2_3 2 3 0 2 false k m key value kept ∧
    Cs rows_2_3 2 3 0 2 true k m key value kept ∧
    Cs rows_2_3 2 3 0 3 false k m key value kept ∧
    Cs rows_2_3 2 3 0 3 true k m key value kept ∧
    Cs rows_2_3 2 3 0 4 false k m key value kept ∧
    Cs rows_2_3 2 3 0 4 true k m key value kept ∧
    Cs rows_2_3 2 3 0 5 false k m key value kept ∧
    Cs rows_2_3 2 3 0 5 true k m key value kept :=
  ⟨Cs.of (by kernel_rfl), Cs.of (by kernel_rfl), Cs.of (by kernel_rfl), Cs.of (by kernel_rfl), Cs.of (by kernel_rfl), Cs.of (by kernel_rfl), Cs.of (by kernel_rfl), Cs.of (by kernel_rfl), Cs.of (by kernel_rfl), Cs.of (by kernel_rfl)⟩
theorem t_2_3_1 (k m : Int) (key value : List UInt8) (kept : Int) : Cs rows_2_3 2 3 1 0 false k m key value kept ∧
    Cs rows_2_3 2 3 1 1 false k m key value kept ∧
    Cs rows_2_3 2 3 1 2 false k m key value kept ∧
    Cs rows_2_3 2 3 1 2 true k m key value kept ∧
    Cs rows_2_3 2 3 1 3 false k m key value kept ∧
    Cs rows_2_3 2 3 1 3 true k m key value kept ∧
    Cs rows_2_3 2 3 1 4 false k m key value kept ∧
    Cs rows_2_3 2 3 1 4 true k m key value kept ∧
    Cs rows_2_3 2 3 1 5 false k m key value kept ∧
    Cs rows_2_3 2 3 1 5 true k m key value kept :=
  ⟨Cs.of (by kernel_rfl), Cs.of (by kernel_rfl), Cs.of (by kernel_rfl), Cs.of (by kernel_rfl), Cs.of (by kernel_rfl), Cs.of (by kernel_rfl), Cs.of (by kernel_rfl), Cs.of (by kernel_rfl), Cs.of (by kernel_rfl), Cs.of (by kernel_rfl)⟩
theorem t_2_3_2 (k m : Int) (key value : List UInt8) (kept : Int) : Cs rows_2_3 2 3 2 0 false k m key value kept ∧
    Cs rows_2_3 2 3 2 1 false k m key value kept ∧
    Cs rows_2_3 2 3 2 2 false k m key value kept ∧
    Cs rows_2_3 2 3 2 2 true k m key value kept ∧
    Cs rows_2_3 2 3 2 3 false k m key value kept ∧
    Cs rows_2_3 2 3 2 3 true k m key value kept ∧
    Cs rows_2_3 2 3 2 4 false k m key value kept ∧
    Cs rows_2_3 2 3 2 4 true k m key value kept ∧
    Cs rows_2_3 2 3 2 5 false k m key value kept ∧
    Cs rows_2_3 2 3 2 5 true k m key value kept :=
  ⟨Cs.of (by kernel_rfl), Cs.of (by kernel_rfl), Cs.of (by kernel_rfl), Cs.of (by kernel_rfl), Cs.of (by kernel_rfl), Cs.of (by kernel_rfl), Cs.of (by kernel_rfl), Cs.of (by kernel_rfl), Cs.of (by kernel_rfl), Cs.of (by kernel_rfl)⟩
theorem t_2_3_3 (k m : Int) (key value : List UInt8) (kept : Int) : Cs rows_2_3 2 3 3 0 false k m key value kept ∧
    Cs rows_2_3 2 3 3 1 false k m key value kept ∧
    Cs rows_2_3 2 3 3 2 false k m key value kept ∧
    Cs rows_2_3 2 3 3 2 true k m key value kept ∧
    Cs rows_2_3 2 3 3 3 false k m key value kept ∧
    Cs rows_2_3 2 3 3 3 true k m key value kept ∧
    Cs rows_2_3 2 3 3 4 false k m key value kept ∧
    Cs rows_2_3 2 3 3 4 true k m key value kept ∧
    Cs rows_2_3 2 3 3 5 false k m key value kept ∧
    Cs rows_2_3 2 3 3 5 true k m key value kept :=
  ⟨Cs.of (by kernel_rfl), Cs.of (by kernel_rfl), Cs.of (by kernel_rfl), Cs.of (by kernel_rfl), Cs.of (by kernel_rfl), Cs.of (by kernel_rfl), Cs.of (by kernel_rfl), Cs.of (by kernel_rfl), Cs.of (by kernel_rfl), Cs.of (by kernel_rfl)⟩
theorem t_2_3_4 (k m : Int) (key value : List UInt8) (kept : Int) : Cs rows_2_3 2 3 4 0 false k m key value kept ∧
    Cs rows_2_3 2 3 4 1 false k m key value kept ∧
    Cs rows_2_3 2 3 4 2 false k m key value kept ∧
    Cs rows_2_3 2 3 4 2 true k m key value kept ∧
    Cs rows_2_3 2 3 4 3 false k m key value kept ∧
    Cs rows_2_3 2 3 4 3 true k m key value kept ∧
    Cs rows_2_3 2 3 4 4 false k m key value kept ∧
    Cs rows_2_3 2 3 4 4 true k m key value kept ∧
    Cs rows_2_3 2 3 4 5 false k m key value kept ∧
    Cs rows_2_3 2 3 4 5 true k m key value kept :=
  ⟨Cs.of (by kernel_rfl), Cs.of (by kernel_rfl), Cs.of (by kernel_rfl), Cs.of (by kernel_rfl), Cs.of (by kernel_rfl), Cs.of (by kernel_rfl), Cs.of (by kernel_rfl), Cs.of (by kernel_rfl), Cs.of (by kernel_rfl), Cs.of (by kernel_rfl)⟩
end Go.Proofs.YtjlfnolaifkakaaDoor
