/- TaskFails: the case that an input falls into, out of the runs. Printed by genTfU.py. Conditions: none. -/
import Derived.Test.YtjlfnolaifkakaaDoorTfR1
import Derived.Test.YtjlfnolaifkakaaDoorTfR2
import Derived.Test.YtjlfnolaifkakaaDoorTfR3
import Derived.Test.YtjlfnolaifkakaaDoorTfR4
namespace Go.Proofs.YtjlfnolaifkakaaDoor
open Go.Dp
set_option linter.unusedVariables false
def rowsAB (a b : Nat) : List (List Nat) := match a, b with
  | 1, 0 => rows_1_0
  | 1, 1 => rows_1_1
  | 1, 2 => rows_1_2
  | 1, 3 => rows_1_3
  | 2, 0 => rows_2_0
  | 2, 1 => rows_2_1
  | 2, 2 => rows_2_2
  | 2, 3 => rows_2_3
  | 3, 0 => rows_3_0
  | 3, 1 => rows_3_1
  | 3, 2 => rows_3_2
  | 3, 3 => rows_3_3
  | 4, 0 => rows_4_0
  | 4, 1 => rows_4_1
  | 4, 2 => rows_4_2
  | 4, 3 => rows_4_3
  | _, _ => []
theorem u_1_0_0 (k m : Int) (key value : List UInt8) (kept : Int) (n : Nat) (hn : n ≤ 1) (big : Bool) (hb : n < 1 → big = false) : Cs (rowsAB 1 0) 1 0 0 n big k m key value kept := by
  obtain ⟨h0f, h1f, h1t⟩ := t_1_0_0 k m key value kept
  have hc : n = 0 ∨ n = 1 := by omega
  rcases hc with rfl | rfl
  · rw [hb (by omega)]; exact h0f
  · cases big; exact h1f; exact h1t
theorem u_1_0 (k m : Int) (key value : List UInt8) (kept : Int) (q : Nat) (hq : q < 1) (n : Nat) (hn : n ≤ 1) (big : Bool) (hb : n < 1 → big = false) : Cs (rowsAB 1 0) 1 0 q n big k m key value kept := by
  have hc : q = 0 := by omega
  rcases hc with rfl
  · exact u_1_0_0 k m key value kept n hn big hb
theorem u_1_1_0 (k m : Int) (key value : List UInt8) (kept : Int) (n : Nat) (hn : n ≤ 2) (big : Bool) (hb : n < 1 → big = false) : Cs (rowsAB 1 1) 1 1 0 n big k m key value kept := by
  obtain ⟨h0f, h1f, h1t, h2f, h2t⟩ := t_1_1_0 k m key value kept
  have hc : n = 0 ∨ n = 1 ∨ n = 2 := by omega
  rcases hc with rfl | rfl | rfl
  · rw [hb (by omega)]; exact h0f
  · cases big; exact h1f; exact h1t
  · cases big; exact h2f; exact h2t
theorem u_1_1_1 (k m : Int) (key value : List UInt8) (kept : Int) (n : Nat) (hn : n ≤ 2) (big : Bool) (hb : n < 1 → big = false) : Cs (rowsAB 1 1) 1 1 1 n big k m key value kept := by
  obtain ⟨h0f, h1f, h1t, h2f, h2t⟩ := t_1_1_1 k m key value kept
  have hc : n = 0 ∨ n = 1 ∨ n = 2 := by omega
  rcases hc with rfl | rfl | rfl
  · rw [hb (by omega)]; exact h0f
  · cases big; exact h1f; exact h1t
  · cases big; exact h2f; exact h2t
theorem u_1_1 (k m : Int) (key value : List UInt8) (kept : Int) (q : Nat) (hq : q < 2) (n : Nat) (hn : n ≤ 2) (big : Bool) (hb : n < 1 → big = false) : Cs (rowsAB 1 1) 1 1 q n big k m key value kept := by
  have hc : q = 0 ∨ q = 1 := by omega
  rcases hc with rfl | rfl
  · exact u_1_1_0 k m key value kept n hn big hb
  · exact u_1_1_1 k m key value kept n hn big hb
theorem u_1_2_0 (k m : Int) (key value : List UInt8) (kept : Int) (n : Nat) (hn : n ≤ 3) (big : Bool) (hb : n < 1 → big = false) : Cs (rowsAB 1 2) 1 2 0 n big k m key value kept := by
  obtain ⟨h0f, h1f, h1t, h2f, h2t, h3f, h3t⟩ := t_1_2_0 k m key value kept
  have hc : n = 0 ∨ n = 1 ∨ n = 2 ∨ n = 3 := by omega
  rcases hc with rfl | rfl | rfl | rfl
  · rw [hb (by omega)]; exact h0f
  · cases big; exact h1f; exact h1t
  · cases big; exact h2f; exact h2t
  · cases big; exact h3f; exact h3t
theorem u_1_2_1 (k m : Int) (key value : List UInt8) (kept : Int) (n : Nat) (hn : n ≤ 3) (big : Bool) (hb : n < 1 → big = false) : Cs (rowsAB 1 2) 1 2 1 n big k m key value kept := by
  obtain ⟨h0f, h1f, h1t, h2f, h2t, h3f, h3t⟩ := t_1_2_1 k m key value kept
  have hc : n = 0 ∨ n = 1 ∨ n = 2 ∨ n = 3 := by omega
  rcases hc with rfl | rfl | rfl | rfl
  · rw [hb (by omega)]; exact h0f
  · cases big; exact h1f; exact h1t
  · cases big; exact h2f; exact h2t
  · cases big; exact h3f; exact h3t
theorem u_1_2_2 (k m : Int) (key value : List UInt8) (kept : Int) (n : Nat) (hn : n ≤ 3) (big : Bool) (hb : n < 1 → big = false) : Cs (rowsAB 1 2) 1 2 2 n big k m key value kept := by
  obtain ⟨h0f, h1f, h1t, h2f, h2t, h3f, h3t⟩ := t_1_2_2 k m key value kept
  have hc : n = 0 ∨ n = 1 ∨ n = 2 ∨ n = 3 := by omega
  rcases hc with rfl | rfl | rfl | rfl
  · rw [hb (by omega)]; exact h0f
  · cases big; exact h1f; exact h1t
  · cases big; exact h2f; exact h2t
  · cases big; exact h3f; exact h3t
theorem u_1_2 (k m : Int) (key value : List UInt8) (kept : Int) (q : Nat) (hq : q < 3) (n : Nat) (hn : n ≤ 3) (big : Bool) (hb : n < 1 → big = false) : Cs (rowsAB 1 2) 1 2 q n big k m key value kept := by
  have hc : q = 0 ∨ q = 1 ∨ q = 2 := by omega
  rcases hc with rfl | rfl | rfl
  · exact u_1_2_0 k m key value kept n hn big hb
  · exact u_1_2_1 k m key value kept n hn big hb
  · exact u_1_2_2 k m key value kept n hn big hb
theorem u_1_3_0 (k m : Int) (key value : List UInt8) (kept : Int) (n : Nat) (hn : n ≤ 4) (big : Bool) (hb : n < 1 → big = false) : Cs (rowsAB 1 3) 1 3 0 n big k m key value kept := by
  obtain ⟨h0f, h1f, h1t, h2f, h2t, h3f, h3t, h4f, h4t⟩ := t_1_3_0 k m key value kept
  have hc : n = 0 ∨ n = 1 ∨ n = 2 ∨ n = 3 ∨ n = 4 := by omega
  rcases hc with rfl | rfl | rfl | rfl | rfl
  · rw [hb (by omega)]; exact h0f
  · cases big; exact h1f; exact h1t
  · cases big; exact h2f; exact h2t
  · cases big; exact h3f; exact h3t
  · cases big; exact h4f; exact h4t
theorem u_1_3_1 (k m : Int) (key value : List UInt8) (kept : Int) (n : Nat) (hn : n ≤ 4) (big : Bool) (hb : n < 1 → big = false) : Cs (rowsAB 1 3) 1 3 1 n big k m key value kept := by
  obtain ⟨h0f, h1f, h1t, h2f, h2t, h3f, h3t, h4f, h4t⟩ := t_1_3_1 k m key value kept
  have hc : n = 0 ∨ n = 1 ∨ n = 2 ∨ n = 3 ∨ n = 4 := by omega
  rcases hc with rfl | rfl | rfl | rfl | rfl
  · rw [hb (by omega)]; exact h0f
  · cases big; exact h1f; exact h1t
  · cases big; exact h2f; exact h2t
  · cases big; exact h3f; exact h3t
  · cases big; exact h4f; exact h4t
theorem u_1_3_2 (k m : Int) (key value : List UInt8) (kept : Int) (n : Nat) (hn : n ≤ 4) (big : Bool) (hb : n < 1 → big = false) : Cs (rowsAB 1 3) 1 3 2 n big k m key value kept := by
  obtain ⟨h0f, h1f, h1t, h2f, h2t, h3f, h3t, h4f, h4t⟩ := t_1_3_2 k m key value kept
  have hc : n = 0 ∨ n = 1 ∨ n = 2 ∨ n = 3 ∨ n = 4 := by omega
  rcases hc with rfl | rfl | rfl | rfl | rfl
  · rw [hb (by omega)]; exact h0f
  · cases big; exact h1f; exact h1t
  · cases big; exact h2f; exact h2t
  · cases big; exact h3f; exact h3t
  · cases big; exact h4f; exact h4t
theorem u_1_3_3 (k m : Int) (key value : List UInt8) (kept : Int) (n : Nat) (hn : n ≤ 4) (big : Bool) (hb : n < 1 → big = false) : Cs (rowsAB 1 3) 1 3 3 n big k m key value kept := by
  obtain ⟨h0f, h1f, h1t, h2f, h2t, h3f, h3t, h4f, h4t⟩ := t_1_3_3 k m key value kept
  have hc : n = 0 ∨ n = 1 ∨ n = 2 ∨ n = 3 ∨ n = 4 := by omega
  rcases hc with rfl | rfl | rfl | rfl | rfl
  · rw [hb (by omega)]; exact h0f
  · cases big; exact h1f; exact h1t
  · cases big; exact h2f; exact h2t
  · cases big; exact h3f; exact h3t
  · cases big; exact h4f; exact h4t
theorem u_1_3 (k m : Int) (key value : List UInt8) (kept : Int) (q : Nat) (hq : q < 4) (n : Nat) (hn : n ≤ 4) (big : Bool) (hb : n < 1 → big = false) : Cs (rowsAB 1 3) 1 3 q n big k m key value kept := by
  have hc : q = 0 ∨ q = 1 ∨ q = 2 ∨ q = 3 := by omega
  rcases hc with rfl | rfl | rfl | rfl
  · exact u_1_3_0 k m key value kept n hn big hb
  · exact u_1_3_1 k m key value kept n hn big hb
  · exact u_1_3_2 k m key value kept n hn big hb
  · exact u_1_3_3 k m key value kept n hn big hb
theorem u_2_0_0 (k m : Int) (key value : List UInt8) (kept : Int) (n : Nat) (hn : n ≤ 2) (big : Bool) (hb : n < 2 → big = false) : Cs (rowsAB 2 0) 2 0 0 n big k m key value kept := by
  obtain ⟨h0f, h1f, h2f, h2t⟩ := t_2_0_0 k m key value kept
  have hc : n = 0 ∨ n = 1 ∨ n = 2 := by omega
  rcases hc with rfl | rfl | rfl
  · rw [hb (by omega)]; exact h0f
  · rw [hb (by omega)]; exact h1f
  · cases big; exact h2f; exact h2t
theorem u_2_0_1 (k m : Int) (key value : List UInt8) (kept : Int) (n : Nat) (hn : n ≤ 2) (big : Bool) (hb : n < 2 → big = false) : Cs (rowsAB 2 0) 2 0 1 n big k m key value kept := by
  obtain ⟨h0f, h1f, h2f, h2t⟩ := t_2_0_1 k m key value kept
  have hc : n = 0 ∨ n = 1 ∨ n = 2 := by omega
  rcases hc with rfl | rfl | rfl
  · rw [hb (by omega)]; exact h0f
  · rw [hb (by omega)]; exact h1f
  · cases big; exact h2f; exact h2t
theorem u_2_0 (k m : Int) (key value : List UInt8) (kept : Int) (q : Nat) (hq : q < 2) (n : Nat) (hn : n ≤ 2) (big : Bool) (hb : n < 2 → big = false) : Cs (rowsAB 2 0) 2 0 q n big k m key value kept := by
  have hc : q = 0 ∨ q = 1 := by omega
  rcases hc with rfl | rfl
  · exact u_2_0_0 k m key value kept n hn big hb
  · exact u_2_0_1 k m key value kept n hn big hb
theorem u_2_1_0 (k m : Int) (key value : List UInt8) (kept : Int) (n : Nat) (hn : n ≤ 3) (big : Bool) (hb : n < 2 → big = false) : Cs (rowsAB 2 1) 2 1 0 n big k m key value kept := by
  obtain ⟨h0f, h1f, h2f, h2t, h3f, h3t⟩ := t_2_1_0 k m key value kept
  have hc : n = 0 ∨ n = 1 ∨ n = 2 ∨ n = 3 := by omega
  rcases hc with rfl | rfl | rfl | rfl
  · rw [hb (by omega)]; exact h0f
  · rw [hb (by omega)]; exact h1f
  · cases big; exact h2f; exact h2t
  · cases big; exact h3f; exact h3t
theorem u_2_1_1 (k m : Int) (key value : List UInt8) (kept : Int) (n : Nat) (hn : n ≤ 3) (big : Bool) (hb : n < 2 → big = false) : Cs (rowsAB 2 1) 2 1 1 n big k m key value kept := by
  obtain ⟨h0f, h1f, h2f, h2t, h3f, h3t⟩ := t_2_1_1 k m key value kept
  have hc : n = 0 ∨ n = 1 ∨ n = 2 ∨ n = 3 := by omega
  rcases hc with rfl | rfl | rfl | rfl
  · rw [hb (by omega)]; exact h0f
  · rw [hb (by omega)]; exact h1f
  · cases big; exact h2f; exact h2t
  · cases big; exact h3f; exact h3t
theorem u_2_1_2 (k m : Int) (key value : List UInt8) (kept : Int) (n : Nat) (hn : n ≤ 3) (big : Bool) (hb : n < 2 → big = false) : Cs (rowsAB 2 1) 2 1 2 n big k m key value kept := by
  obtain ⟨h0f, h1f, h2f, h2t, h3f, h3t⟩ := t_2_1_2 k m key value kept
  have hc : n = 0 ∨ n = 1 ∨ n = 2 ∨ n = 3 := by omega
  rcases hc with rfl | rfl | rfl | rfl
  · rw [hb (by omega)]; exact h0f
  · rw [hb (by omega)]; exact h1f
  · cases big; exact h2f; exact h2t
  · cases big; exact h3f; exact h3t
theorem u_2_1 (k m : Int) (key value : List UInt8) (kept : Int) (q : Nat) (hq : q < 3) (n : Nat) (hn : n ≤ 3) (big : Bool) (hb : n < 2 → big = false) : Cs (rowsAB 2 1) 2 1 q n big k m key value kept := by
  have hc : q = 0 ∨ q = 1 ∨ q = 2 := by omega
  rcases hc with rfl | rfl | rfl
  · exact u_2_1_0 k m key value kept n hn big hb
  · exact u_2_1_1 k m key value kept n hn big hb
  · exact u_2_1_2 k m key value kept n hn big hb
theorem u_2_2_0 (k m : Int) (key value : List UInt8) (kept : Int) (n : Nat) (hn : n ≤ 4) (big : Bool) (hb : n < 2 → big = false) : Cs (rowsAB 2 2) 2 2 0 n big k m key value kept := by
  obtain ⟨h0f, h1f, h2f, h2t, h3f, h3t, h4f, h4t⟩ := t_2_2_0 k m key value kept
  have hc : n = 0 ∨ n = 1 ∨ n = 2 ∨ n = 3 ∨ n = 4 := by omega
  rcases hc with rfl | rfl | rfl | rfl | rfl
  · rw [hb (by omega)]; exact h0f
  · rw [hb (by omega)]; exact h1f
  · cases big; exact h2f; exact h2t
  · cases big; exact h3f; exact h3t
  · cases big; exact h4f; exact h4t
theorem u_2_2_1 (k m : Int) (key value : List UInt8) (kept : Int) (n : Nat) (hn : n ≤ 4) (big : Bool) (hb : n < 2 → big = false) : Cs (rowsAB 2 2) 2 2 1 n big k m key value kept := by
  obtain ⟨h0f, h1f, h2f, h2t, h3f, h3t, h4f, h4t⟩ := t_2_2_1 k m key value kept
  have hc : n = 0 ∨ n = 1 ∨ n = 2 ∨ n = 3 ∨ n = 4 := by omega
  rcases hc with rfl | rfl | rfl | rfl | rfl
  · rw [hb (by omega)]; exact h0f
  · rw [hb (by omega)]; exact h1f
  · cases big; exact h2f; exact h2t
  · cases big; exact h3f; exact h3t
  · cases big; exact h4f; exact h4t
theorem u_2_2_2 (k m : Int) (key value : List UInt8) (kept : Int) (n : Nat) (hn : n ≤ 4) (big : Bool) (hb : n < 2 → big = false) : Cs (rowsAB 2 2) 2 2 2 n big k m key value kept := by
  obtain ⟨h0f, h1f, h2f, h2t, h3f, h3t, h4f, h4t⟩ := t_2_2_2 k m key value kept
  have hc : n = 0 ∨ n = 1 ∨ n = 2 ∨ n = 3 ∨ n = 4 := by omega
  rcases hc with rfl | rfl | rfl | rfl | rfl
  · rw [hb (by omega)]; exact h0f
  · rw [hb (by omega)]; exact h1f
  · cases big; exact h2f; exact h2t
  · cases big; exact h3f; exact h3t
  · cases big; exact h4f; exact h4t
theorem u_2_2_3 (k m : Int) (key value : List UInt8) (kept : Int) (n : Nat) (hn : n ≤ 4) (big : Bool) (hb : n < 2 → big = false) : Cs (rowsAB 2 2) 2 2 3 n big k m key value kept := by
  obtain ⟨h0f, h1f, h2f, h2t, h3f, h3t, h4f, h4t⟩ := t_2_2_3 k m key value kept
  have hc : n = 0 ∨ n = 1 ∨ n = 2 ∨ n = 3 ∨ n = 4 := by omega
  rcases hc with rfl | rfl | rfl | rfl | rfl
  · rw [hb (by omega)]; exact h0f
  · rw [hb (by omega)]; exact h1f
  · cases big; exact h2f; exact h2t
  · cases big; exact h3f; exact h3t
  · cases big; exact h4f; exact h4t
theorem u_2_2 (k m : Int) (key value : List UInt8) (kept : Int) (q : Nat) (hq : q < 4) (n : Nat) (hn : n ≤ 4) (big : Bool) (hb : n < 2 → big = false) : Cs (rowsAB 2 2) 2 2 q n big k m key value kept := by
  have hc : q = 0 ∨ q = 1 ∨ q = 2 ∨ q = 3 := by omega
  rcases hc with rfl | rfl | rfl | rfl
  · exact u_2_2_0 k m key value kept n hn big hb
  · exact u_2_2_1 k m key value kept n hn big hb
  · exact u_2_2_2 k m key value kept n hn big hb
  · exact u_2_2_3 k m key value kept n hn big hb
theorem u_2_3_0 (k m : Int) (key value : List UInt8) (kept : Int) (n : Nat) (hn : n ≤ 5) (big : Bool) (hb : n < 2 → big = false) : Cs (rowsAB 2 3) 2 3 0 n big k m key value kept := by
  obtain ⟨h0f, h1f, h2f, h2t, h3f, h3t, h4f, h4t, h5f, h5t⟩ := t_2_3_0 k m key value kept
  have hc : n = 0 ∨ n = 1 ∨ n = 2 ∨ n = 3 ∨ n = 4 ∨ n = 5 := by omega
  rcases hc with rfl | rfl | rfl | rfl | rfl | rfl
  · rw [hb (by omega)]; exact h0f
  · rw [hb (by omega)]; exact h1f
  · cases big; exact h2f; exact h2t
  · cases big; exact h3f; exact h3t
  · cases big; exact h4f; exact h4t
  · cases big; exact h5f; exact h5t
theorem u_2_3_1 (k m : Int) (key value : List UInt8) (kept : Int) (n : Nat) (hn : n ≤ 5) (big : Bool) (hb : n < 2 → big = false) : Cs (rowsAB 2 3) 2 3 1 n big k m key value kept := by
  obtain ⟨h0f, h1f, h2f, h2t, h3f, h3t, h4f, h4t, h5f, h5t⟩ := t_2_3_1 k m key value kept
  have hc : n = 0 ∨ n = 1 ∨ n = 2 ∨ n = 3 ∨ n = 4 ∨ n = 5 := by omega
  rcases hc with rfl | rfl | rfl | rfl | rfl | rfl
  · rw [hb (by omega)]; exact h0f
  · rw [hb (by omega)]; exact h1f
  · cases big; exact h2f; exact h2t
  · cases big; exact h3f; exact h3t
  · cases big; exact h4f; exact h4t
  · cases big; exact h5f; exact h5t
theorem u_2_3_2 (k m : Int) (key value : List UInt8) (kept : Int) (n : Nat) (hn : n ≤ 5) (big : Bool) (hb : n < 2 → big = false) : Cs (rowsAB 2 3) 2 3 2 n big k m key value kept := by
  obtain ⟨h0f, h1f, h2f, h2t, h3f, h3t, h4f, h4t, h5f, h5t⟩ := t_2_3_2 k m key value kept
  have hc : n = 0 ∨ n = 1 ∨ n = 2 ∨ n = 3 ∨ n = 4 ∨ n = 5 := by omega
  rcases hc with rfl | rfl | rfl | rfl | rfl | rfl
  · rw [hb (by omega)]; exact h0f
  · rw [hb (by omega)]; exact h1f
  · cases big; exact h2f; exact h2t
  · cases big; exact h3f; exact h3t
  · cases big; exact h4f; exact h4t
  · cases big; exact h5f; exact h5t
theorem u_2_3_3 (k m : Int) (key value : List UInt8) (kept : Int) (n : Nat) (hn : n ≤ 5) (big : Bool) (hb : n < 2 → big = false) : Cs (rowsAB 2 3) 2 3 3 n big k m key value kept := by
  obtain ⟨h0f, h1f, h2f, h2t, h3f, h3t, h4f, h4t, h5f, h5t⟩ := t_2_3_3 k m key value kept
  have hc : n = 0 ∨ n = 1 ∨ n = 2 ∨ n = 3 ∨ n = 4 ∨ n = 5 := by omega
  rcases hc with rfl | rfl | rfl | rfl | rfl | rfl
  · rw [hb (by omega)]; exact h0f
  · rw [hb (by omega)]; exact h1f
  · cases big; exact h2f; exact h2t
  · cases big; exact h3f; exact h3t
  · cases big; exact h4f; exact h4t
  · cases big; exact h5f; exact h5t
theorem u_2_3_4 (k m : Int) (key value : List UInt8) (kept : Int) (n : Nat) (hn : n ≤ 5) (big : Bool) (hb : n < 2 → big = false) : Cs (rowsAB 2 3) 2 3 4 n big k m key value kept := by
  obtain ⟨h0f, h1f, h2f, h2t, h3f, h3t, h4f, h4t, h5f, h5t⟩ := t_2_3_4 k m key value kept
  have hc : n = 0 ∨ n = 1 ∨ n = 2 ∨ n = 3 ∨ n = 4 ∨ n = 5 := by omega
  rcases hc with rfl | rfl | rfl | rfl | rfl | rfl
  · rw [hb (by omega)]; exact h0f
  · rw [hb (by omega)]; exact h1f
  · cases big; exact h2f; exact h2t
  · cases big; exact h3f; exact h3t
  · cases big; exact h4f; exact h4t
  · cases big; exact h5f; exact h5t
theorem u_2_3 (k m : Int) (key value : List UInt8) (kept : Int) (q : Nat) (hq : q < 5) (n : Nat) (hn : n ≤ 5) (big : Bool) (hb : n < 2 → big = false) : Cs (rowsAB 2 3) 2 3 q n big k m key value kept := by
  have hc : q = 0 ∨ q = 1 ∨ q = 2 ∨ q = 3 ∨ q = 4 := by omega
  rcases hc with rfl | rfl | rfl | rfl | rfl
  · exact u_2_3_0 k m key value kept n hn big hb
  · exact u_2_3_1 k m key value kept n hn big hb
  · exact u_2_3_2 k m key value kept n hn big hb
  · exact u_2_3_3 k m key value kept n hn big hb
  · exact u_2_3_4 k m key value kept n hn big hb
theorem u_3_0_0 (k m : Int) (key value : List UInt8) (kept : Int) (n : Nat) (hn : n ≤ 3) (big : Bool) (hb : n < 3 → big = false) : Cs (rowsAB 3 0) 3 0 0 n big k m key value kept := by
  obtain ⟨h0f, h1f, h2f, h3f, h3t⟩ := t_3_0_0 k m key value kept
  have hc : n = 0 ∨ n = 1 ∨ n = 2 ∨ n = 3 := by omega
  rcases hc with rfl | rfl | rfl | rfl
  · rw [hb (by omega)]; exact h0f
  · rw [hb (by omega)]; exact h1f
  · rw [hb (by omega)]; exact h2f
  · cases big; exact h3f; exact h3t
theorem u_3_0_1 (k m : Int) (key value : List UInt8) (kept : Int) (n : Nat) (hn : n ≤ 3) (big : Bool) (hb : n < 3 → big = false) : Cs (rowsAB 3 0) 3 0 1 n big k m key value kept := by
  obtain ⟨h0f, h1f, h2f, h3f, h3t⟩ := t_3_0_1 k m key value kept
  have hc : n = 0 ∨ n = 1 ∨ n = 2 ∨ n = 3 := by omega
  rcases hc with rfl | rfl | rfl | rfl
  · rw [hb (by omega)]; exact h0f
  · rw [hb (by omega)]; exact h1f
  · rw [hb (by omega)]; exact h2f
  · cases big; exact h3f; exact h3t
theorem u_3_0_2 (k m : Int) (key value : List UInt8) (kept : Int) (n : Nat) (hn : n ≤ 3) (big : Bool) (hb : n < 3 → big = false) : Cs (rowsAB 3 0) 3 0 2 n big k m key value kept := by
  obtain ⟨h0f, h1f, h2f, h3f, h3t⟩ := t_3_0_2 k m key value kept
  have hc : n = 0 ∨ n = 1 ∨ n = 2 ∨ n = 3 := by omega
  rcases hc with rfl | rfl | rfl | rfl
  · rw [hb (by omega)]; exact h0f
  · rw [hb (by omega)]; exact h1f
  · rw [hb (by omega)]; exact h2f
  · cases big; exact h3f; exact h3t
theorem u_3_0 (k m : Int) (key value : List UInt8) (kept : Int) (q : Nat) (hq : q < 3) (n : Nat) (hn : n ≤ 3) (big : Bool) (hb : n < 3 → big = false) : Cs (rowsAB 3 0) 3 0 q n big k m key value kept := by
  have hc : q = 0 ∨ q = 1 ∨ q = 2 := by omega
  rcases hc with rfl | rfl | rfl
  · exact u_3_0_0 k m key value kept n hn big hb
  · exact u_3_0_1 k m key value kept n hn big hb
  · exact u_3_0_2 k m key value kept n hn big hb
theorem u_3_1_0 (k m : Int) (key value : List UInt8) (kept : Int) (n : Nat) (hn : n ≤ 4) (big : Bool) (hb : n < 3 → big = false) : Cs (rowsAB 3 1) 3 1 0 n big k m key value kept := by
  obtain ⟨h0f, h1f, h2f, h3f, h3t, h4f, h4t⟩ := t_3_1_0 k m key value kept
  have hc : n = 0 ∨ n = 1 ∨ n = 2 ∨ n = 3 ∨ n = 4 := by omega
  rcases hc with rfl | rfl | rfl | rfl | rfl
  · rw [hb (by omega)]; exact h0f
  · rw [hb (by omega)]; exact h1f
  · rw [hb (by omega)]; exact h2f
  · cases big; exact h3f; exact h3t
  · cases big; exact h4f; exact h4t
theorem u_3_1_1 (k m : Int) (key value : List UInt8) (kept : Int) (n : Nat) (hn : n ≤ 4) (big : Bool) (hb : n < 3 → big = false) : Cs (rowsAB 3 1) 3 1 1 n big k m key value kept := by
  obtain ⟨h0f, h1f, h2f, h3f, h3t, h4f, h4t⟩ := t_3_1_1 k m key value kept
  have hc : n = 0 ∨ n = 1 ∨ n = 2 ∨ n = 3 ∨ n = 4 := by omega
  rcases hc with rfl | rfl | rfl | rfl | rfl
  · rw [hb (by omega)]; exact h0f
  · rw [hb (by omega)]; exact h1f
  · rw [hb (by omega)]; exact h2f
  · cases big; exact h3f; exact h3t
  · cases big; exact h4f; exact h4t
theorem u_3_1_2 (k m : Int) (key value : List UInt8) (kept : Int) (n : Nat) (hn : n ≤ 4) (big : Bool) (hb : n < 3 → big = false) : Cs (rowsAB 3 1) 3 1 2 n big k m key value kept := by
  obtain ⟨h0f, h1f, h2f, h3f, h3t, h4f, h4t⟩ := t_3_1_2 k m key value kept
  have hc : n = 0 ∨ n = 1 ∨ n = 2 ∨ n = 3 ∨ n = 4 := by omega
  rcases hc with rfl | rfl | rfl | rfl | rfl
  · rw [hb (by omega)]; exact h0f
  · rw [hb (by omega)]; exact h1f
  · rw [hb (by omega)]; exact h2f
  · cases big; exact h3f; exact h3t
  · cases big; exact h4f; exact h4t
theorem u_3_1_3 (k m : Int) (key value : List UInt8) (kept : Int) (n : Nat) (hn : n ≤ 4) (big : Bool) (hb : n < 3 → big = false) : Cs (rowsAB 3 1) 3 1 3 n big k m key value kept := by
  obtain ⟨h0f, h1f, h2f, h3f, h3t, h4f, h4t⟩ := t_3_1_3 k m key value kept
  have hc : n = 0 ∨ n = 1 ∨ n = 2 ∨ n = 3 ∨ n = 4 := by omega
  rcases hc with rfl | rfl | rfl | rfl | rfl
  · rw [hb (by omega)]; exact h0f
  · rw [hb (by omega)]; exact h1f
  · rw [hb (by omega)]; exact h2f
  · cases big; exact h3f; exact h3t
  · cases big; exact h4f; exact h4t
theorem u_3_1 (k m : Int) (key value : List UInt8) (kept : Int) (q : Nat) (hq : q < 4) (n : Nat) (hn : n ≤ 4) (big : Bool) (hb : n < 3 → big = false) : Cs (rowsAB 3 1) 3 1 q n big k m key value kept := by
  have hc : q = 0 ∨ q = 1 ∨ q = 2 ∨ q = 3 := by omega
  rcases hc with rfl | rfl | rfl | rfl
  · exact u_3_1_0 k m key value kept n hn big hb
  · exact u_3_1_1 k m key value kept n hn big hb
  · exact u_3_1_2 k m key value kept n hn big hb
  · exact u_3_1_3 k m key value kept n hn big hb
theorem u_3_2_0 (k m : Int) (key value : List UInt8) (kept : Int) (n : Nat) (hn : n ≤ 5) (big : Bool) (hb : n < 3 → big = false) : Cs (rowsAB 3 2) 3 2 0 n big k m key value kept := by
  obtain ⟨h0f, h1f, h2f, h3f, h3t, h4f, h4t, h5f, h5t⟩ := t_3_2_0 k m key value kept
  have hc : n = 0 ∨ n = 1 ∨ n = 2 ∨ n = 3 ∨ n = 4 ∨ n = 5 := by omega
  rcases hc with rfl | rfl | rfl | rfl | rfl | rfl
  · rw [hb (by omega)]; exact h0f
  · rw [hb (by omega)]; exact h1f
  · rw [hb (by omega)]; exact h2f
  · cases big; exact h3f; exact h3t
  · cases big; exact h4f; exact h4t
  · cases big; exact h5f; exact h5t
theorem u_3_2_1 (k m : Int) (key value : List UInt8) (kept : Int) (n : Nat) (hn : n ≤ 5) (big : Bool) (hb : n < 3 → big = false) : Cs (rowsAB 3 2) 3 2 1 n big k m key value kept := by
  obtain ⟨h0f, h1f, h2f, h3f, h3t, h4f, h4t, h5f, h5t⟩ := t_3_2_1 k m key value kept
  have hc : n = 0 ∨ n = 1 ∨ n = 2 ∨ n = 3 ∨ n = 4 ∨ n = 5 := by omega
  rcases hc with rfl | rfl | rfl | rfl | rfl | rfl
  · rw [hb (by omega)]; exact h0f
  · rw [hb (by omega)]; exact h1f
  · rw [hb (by omega)]; exact h2f
  · cases big; exact h3f; exact h3t
  · cases big; exact h4f; exact h4t
  · cases big; exact h5f; exact h5t
theorem u_3_2_2 (k m : Int) (key value : List UInt8) (kept : Int) (n : Nat) (hn : n ≤ 5) (big : Bool) (hb : n < 3 → big = false) : Cs (rowsAB 3 2) 3 2 2 n big k m key value kept := by
  obtain ⟨h0f, h1f, h2f, h3f, h3t, h4f, h4t, h5f, h5t⟩ := t_3_2_2 k m key value kept
  have hc : n = 0 ∨ n = 1 ∨ n = 2 ∨ n = 3 ∨ n = 4 ∨ n = 5 := by omega
  rcases hc with rfl | rfl | rfl | rfl | rfl | rfl
  · rw [hb (by omega)]; exact h0f
  · rw [hb (by omega)]; exact h1f
  · rw [hb (by omega)]; exact h2f
  · cases big; exact h3f; exact h3t
  · cases big; exact h4f; exact h4t
  · cases big; exact h5f; exact h5t
theorem u_3_2_3 (k m : Int) (key value : List UInt8) (kept : Int) (n : Nat) (hn : n ≤ 5) (big : Bool) (hb : n < 3 → big = false) : Cs (rowsAB 3 2) 3 2 3 n big k m key value kept := by
  obtain ⟨h0f, h1f, h2f, h3f, h3t, h4f, h4t, h5f, h5t⟩ := t_3_2_3 k m key value kept
  have hc : n = 0 ∨ n = 1 ∨ n = 2 ∨ n = 3 ∨ n = 4 ∨ n = 5 := by omega
  rcases hc with rfl | rfl | rfl | rfl | rfl | rfl
  · rw [hb (by omega)]; exact h0f
  · rw [hb (by omega)]; exact h1f
  · rw [hb (by omega)]; exact h2f
  · cases big; exact h3f; exact h3t
  · cases big; exact h4f; exact h4t
  · cases big; exact h5f; exact h5t
theorem u_3_2_4 (k m : Int) (key value : List UInt8) (kept : Int) (n : Nat) (hn : n ≤ 5) (big : Bool) (hb : n < 3 → big = false) : Cs (rowsAB 3 2) 3 2 4 n big k m key value kept := by
  obtain ⟨h0f, h1f, h2f, h3f, h3t, h4f, h4t, h5f, h5t⟩ := t_3_2_4 k m key value kept
  have hc : n = 0 ∨ n = 1 ∨ n = 2 ∨ n = 3 ∨ n = 4 ∨ n = 5 := by omega
  rcases hc with rfl | rfl | rfl | rfl | rfl | rfl
  · rw [hb (by omega)]; exact h0f
  · rw [hb (by omega)]; exact h1f
  · rw [hb (by omega)]; exact h2f
  · cases big; exact h3f; exact h3t
  · cases big; exact h4f; exact h4t
  · cases big; exact h5f; exact h5t
theorem u_3_2 (k m : Int) (key value : List UInt8) (kept : Int) (q : Nat) (hq : q < 5) (n : Nat) (hn : n ≤ 5) (big : Bool) (hb : n < 3 → big = false) : Cs (rowsAB 3 2) 3 2 q n big k m key value kept := by
  have hc : q = 0 ∨ q = 1 ∨ q = 2 ∨ q = 3 ∨ q = 4 := by omega
  rcases hc with rfl | rfl | rfl | rfl | rfl
  · exact u_3_2_0 k m key value kept n hn big hb
  · exact u_3_2_1 k m key value kept n hn big hb
  · exact u_3_2_2 k m key value kept n hn big hb
  · exact u_3_2_3 k m key value kept n hn big hb
  · exact u_3_2_4 k m key value kept n hn big hb
theorem u_3_3_0 (k m : Int) (key value : List UInt8) (kept : Int) (n : Nat) (hn : n ≤ 6) (big : Bool) (hb : n < 3 → big = false) : Cs (rowsAB 3 3) 3 3 0 n big k m key value kept := by
  obtain ⟨h0f, h1f, h2f, h3f, h3t, h4f, h4t, h5f, h5t, h6f, h6t⟩ := t_3_3_0 k m key value kept
  have hc : n = 0 ∨ n = 1 ∨ n = 2 ∨ n = 3 ∨ n = 4 ∨ n = 5 ∨ n = 6 := by omega
  rcases hc with rfl | rfl | rfl | rfl | rfl | rfl | rfl
  · rw [hb (by omega)]; exact h0f
  · rw [hb (by omega)]; exact h1f
  · rw [hb (by omega)]; exact h2f
  · cases big; exact h3f; exact h3t
  · cases big; exact h4f; exact h4t
  · cases big; exact h5f; exact h5t
  · cases big; exact h6f; exact h6t
theorem u_3_3_1 (k m : Int) (key value : List UInt8) (kept : Int) (n : Nat) (hn : n ≤ 6) (big : Bool) (hb : n < 3 → big = false) : Cs (rowsAB 3 3) 3 3 1 n big k m key value kept := by
  obtain ⟨h0f, h1f, h2f, h3f, h3t, h4f, h4t, h5f, h5t, h6f, h6t⟩ := t_3_3_1 k m key value kept
  have hc : n = 0 ∨ n = 1 ∨ n = 2 ∨ n = 3 ∨ n = 4 ∨ n = 5 ∨ n = 6 := by omega
  rcases hc with rfl | rfl | rfl | rfl | rfl | rfl | rfl
  · rw [hb (by omega)]; exact h0f
  · rw [hb (by omega)]; exact h1f
  · rw [hb (by omega)]; exact h2f
  · cases big; exact h3f; exact h3t
  · cases big; exact h4f; exact h4t
  · cases big; exact h5f; exact h5t
  · cases big; exact h6f; exact h6t
theorem u_3_3_2 (k m : Int) (key value : List UInt8) (kept : Int) (n : Nat) (hn : n ≤ 6) (big : Bool) (hb : n < 3 → big = false) : Cs (rowsAB 3 3) 3 3 2 n big k m key value kept := by
  obtain ⟨h0f, h1f, h2f, h3f, h3t, h4f, h4t, h5f, h5t, h6f, h6t⟩ := t_3_3_2 k m key value kept
  have hc : n = 0 ∨ n = 1 ∨ n = 2 ∨ n = 3 ∨ n = 4 ∨ n = 5 ∨ n = 6 := by omega
  rcases hc with rfl | rfl | rfl | rfl | rfl | rfl | rfl
  · rw [hb (by omega)]; exact h0f
  · rw [hb (by omega)]; exact h1f
  · rw [hb (by omega)]; exact h2f
  · cases big; exact h3f; exact h3t
  · cases big; exact h4f; exact h4t
  · cases big; exact h5f; exact h5t
  · cases big; exact h6f; exact h6t
theorem u_3_3_3 (k m : Int) (key value : List UInt8) (kept : Int) (n : Nat) (hn : n ≤ 6) (big : Bool) (hb : n < 3 → big = false) : Cs (rowsAB 3 3) 3 3 3 n big k m key value kept := by
  obtain ⟨h0f, h1f, h2f, h3f, h3t, h4f, h4t, h5f, h5t, h6f, h6t⟩ := t_3_3_3 k m key value kept
  have hc : n = 0 ∨ n = 1 ∨ n = 2 ∨ n = 3 ∨ n = 4 ∨ n = 5 ∨ n = 6 := by omega
  rcases hc with rfl | rfl | rfl | rfl | rfl | rfl | rfl
  · rw [hb (by omega)]; exact h0f
  · rw [hb (by omega)]; exact h1f
  · rw [hb (by omega)]; exact h2f
  · cases big; exact h3f; exact h3t
  · cases big; exact h4f; exact h4t
  · cases big; exact h5f; exact h5t
  · cases big; exact h6f; exact h6t
theorem u_3_3_4 (k m : Int) (key value : List UInt8) (kept : Int) (n : Nat) (hn : n ≤ 6) (big : Bool) (hb : n < 3 → big = false) : Cs (rowsAB 3 3) 3 3 4 n big k m key value kept := by
  obtain ⟨h0f, h1f, h2f, h3f, h3t, h4f, h4t, h5f, h5t, h6f, h6t⟩ := t_3_3_4 k m key value kept
  have hc : n = 0 ∨ n = 1 ∨ n = 2 ∨ n = 3 ∨ n = 4 ∨ n = 5 ∨ n = 6 := by omega
  rcases hc with rfl | rfl | rfl | rfl | rfl | rfl | rfl
  · rw [hb (by omega)]; exact h0f
  · rw [hb (by omega)]; exact h1f
  · rw [hb (by omega)]; exact h2f
  · cases big; exact h3f; exact h3t
  · cases big; exact h4f; exact h4t
  · cases big; exact h5f; exact h5t
  · cases big; exact h6f; exact h6t
theorem u_3_3_5 (k m : Int) (key value : List UInt8) (kept : Int) (n : Nat) (hn : n ≤ 6) (big : Bool) (hb : n < 3 → big = false) : Cs (rowsAB 3 3) 3 3 5 n big k m key value kept := by
  obtain ⟨h0f, h1f, h2f, h3f, h3t, h4f, h4t, h5f, h5t, h6f, h6t⟩ := t_3_3_5 k m key value kept
  have hc : n = 0 ∨ n = 1 ∨ n = 2 ∨ n = 3 ∨ n = 4 ∨ n = 5 ∨ n = 6 := by omega
  rcases hc with rfl | rfl | rfl | rfl | rfl | rfl | rfl
  · rw [hb (by omega)]; exact h0f
  · rw [hb (by omega)]; exact h1f
  · rw [hb (by omega)]; exact h2f
  · cases big; exact h3f; exact h3t
  · cases big; exact h4f; exact h4t
  · cases big; exact h5f; exact h5t
  · cases big; exact h6f; exact h6t
theorem u_3_3 (k m : Int) (key value : List UInt8) (kept : Int) (q : Nat) (hq : q < 6) (n : Nat) (hn : n ≤ 6) (big : Bool) (hb : n < 3 → big = false) : Cs (rowsAB 3 3) 3 3 q n big k m key value kept := by
  have hc : q = 0 ∨ q = 1 ∨ q = 2 ∨ q = 3 ∨ q = 4 ∨ q = 5 := by omega
  rcases hc with rfl | rfl | rfl | rfl | rfl | rfl
  · exact u_3_3_0 k m key value kept n hn big hb
  · exact u_3_3_1 k m key value kept n hn big hb
  · exact u_3_3_2 k m key value kept n hn big hb
  · exact u_3_3_3 k m key value kept n hn big hb
  · exact u_3_3_4 k m key value kept n hn big hb
  · exact u_3_3_5 k m key value kept n hn big hb
theorem u_4_0_0 (k m : Int) (key value : List UInt8) (kept : Int) (n : Nat) (hn : n ≤ 4) (big : Bool) (hb : n < 4 → big = false) : Cs (rowsAB 4 0) 4 0 0 n big k m key value kept := by
  obtain ⟨h0f, h1f, h2f, h3f, h4f, h4t⟩ := t_4_0_0 k m key value kept
  have hc : n = 0 ∨ n = 1 ∨ n = 2 ∨ n = 3 ∨ n = 4 := by omega
  rcases hc with rfl | rfl | rfl | rfl | rfl
  · rw [hb (by omega)]; exact h0f
  · rw [hb (by omega)]; exact h1f
  · rw [hb (by omega)]; exact h2f
  · rw [hb (by omega)]; exact h3f
  · cases big; exact h4f; exact h4t
theorem u_4_0_1 (k m : Int) (key value : List UInt8) (kept : Int) (n : Nat) (hn : n ≤ 4) (big : Bool) (hb : n < 4 → big = false) : Cs (rowsAB 4 0) 4 0 1 n big k m key value kept := by
  obtain ⟨h0f, h1f, h2f, h3f, h4f, h4t⟩ := t_4_0_1 k m key value kept
  have hc : n = 0 ∨ n = 1 ∨ n = 2 ∨ n = 3 ∨ n = 4 := by omega
  rcases hc with rfl | rfl | rfl | rfl | rfl
  · rw [hb (by omega)]; exact h0f
  · rw [hb (by omega)]; exact h1f
  · rw [hb (by omega)]; exact h2f
  · rw [hb (by omega)]; exact h3f
  · cases big; exact h4f; exact h4t
theorem u_4_0_2 (k m : Int) (key value : List UInt8) (kept : Int) (n : Nat) (hn : n ≤ 4) (big : Bool) (hb : n < 4 → big = false) : Cs (rowsAB 4 0) 4 0 2 n big k m key value kept := by
  obtain ⟨h0f, h1f, h2f, h3f, h4f, h4t⟩ := t_4_0_2 k m key value kept
  have hc : n = 0 ∨ n = 1 ∨ n = 2 ∨ n = 3 ∨ n = 4 := by omega
  rcases hc with rfl | rfl | rfl | rfl | rfl
  · rw [hb (by omega)]; exact h0f
  · rw [hb (by omega)]; exact h1f
  · rw [hb (by omega)]; exact h2f
  · rw [hb (by omega)]; exact h3f
  · cases big; exact h4f; exact h4t
theorem u_4_0_3 (k m : Int) (key value : List UInt8) (kept : Int) (n : Nat) (hn : n ≤ 4) (big : Bool) (hb : n < 4 → big = false) : Cs (rowsAB 4 0) 4 0 3 n big k m key value kept := by
  obtain ⟨h0f, h1f, h2f, h3f, h4f, h4t⟩ := t_4_0_3 k m key value kept
  have hc : n = 0 ∨ n = 1 ∨ n = 2 ∨ n = 3 ∨ n = 4 := by omega
  rcases hc with rfl | rfl | rfl | rfl | rfl
  · rw [hb (by omega)]; exact h0f
  · rw [hb (by omega)]; exact h1f
  · rw [hb (by omega)]; exact h2f
  · rw [hb (by omega)]; exact h3f
  · cases big; exact h4f; exact h4t
theorem u_4_0 (k m : Int) (key value : List UInt8) (kept : Int) (q : Nat) (hq : q < 4) (n : Nat) (hn : n ≤ 4) (big : Bool) (hb : n < 4 → big = false) : Cs (rowsAB 4 0) 4 0 q n big k m key value kept := by
  have hc : q = 0 ∨ q = 1 ∨ q = 2 ∨ q = 3 := by omega
  rcases hc with rfl | rfl | rfl | rfl
  · exact u_4_0_0 k m key value kept n hn big hb
  · exact u_4_0_1 k m key value kept n hn big hb
  · exact u_4_0_2 k m key value kept n hn big hb
  · exact u_4_0_3 k m key value kept n hn big hb
theorem u_4_1_0 (k m : Int) (key value : List UInt8) (kept : Int) (n : Nat) (hn : n ≤ 5) (big : Bool) (hb : n < 4 → big = false) : Cs (rowsAB 4 1) 4 1 0 n big k m key value kept := by
  obtain ⟨h0f, h1f, h2f, h3f, h4f, h4t, h5f, h5t⟩ := t_4_1_0 k m key value kept
  have hc : n = 0 ∨ n = 1 ∨ n = 2 ∨ n = 3 ∨ n = 4 ∨ n = 5 := by omega
  rcases hc with rfl | rfl | rfl | rfl | rfl | rfl
  · rw [hb (by omega)]; exact h0f
  · rw [hb (by omega)]; exact h1f
  · rw [hb (by omega)]; exact h2f
  · rw [hb (by omega)]; exact h3f
  · cases big; exact h4f; exact h4t
  · cases big; exact h5f; exact h5t
theorem u_4_1_1 (k m : Int) (key value : List UInt8) (kept : Int) (n : Nat) (hn : n ≤ 5) (big : Bool) (hb : n < 4 → big = false) : Cs (rowsAB 4 1) 4 1 1 n big k m key value kept := by
  obtain ⟨h0f, h1f, h2f, h3f, h4f, h4t, h5f, h5t⟩ := t_4_1_1 k m key value kept
  have hc : n = 0 ∨ n = 1 ∨ n = 2 ∨ n = 3 ∨ n = 4 ∨ n = 5 := by omega
  rcases hc with rfl | rfl | rfl | rfl | rfl | rfl
  · rw [hb (by omega)]; exact h0f
  · rw [hb (by omega)]; exact h1f
  · rw [hb (by omega)]; exact h2f
  · rw [hb (by omega)]; exact h3f
  · cases big; exact h4f; exact h4t
  · cases big; exact h5f; exact h5t
theorem u_4_1_2 (k m : Int) (key value : List UInt8) (kept : Int) (n : Nat) (hn : n ≤ 5) (big : Bool) (hb : n < 4 → big = false) : Cs (rowsAB 4 1) 4 1 2 n big k m key value kept := by
  obtain ⟨h0f, h1f, h2f, h3f, h4f, h4t, h5f, h5t⟩ := t_4_1_2 k m key value kept
  have hc : n = 0 ∨ n = 1 ∨ n = 2 ∨ n = 3 ∨ n = 4 ∨ n = 5 := by omega
  rcases hc with rfl | rfl | rfl | rfl | rfl | rfl
  · rw [hb (by omega)]; exact h0f
  · rw [hb (by omega)]; exact h1f
  · rw [hb (by omega)]; exact h2f
  · rw [hb (by omega)]; exact h3f
  · cases big; exact h4f; exact h4t
  · cases big; exact h5f; exact h5t
theorem u_4_1_3 (k m : Int) (key value : List UInt8) (kept : Int) (n : Nat) (hn : n ≤ 5) (big : Bool) (hb : n < 4 → big = false) : Cs (rowsAB 4 1) 4 1 3 n big k m key value kept := by
  obtain ⟨h0f, h1f, h2f, h3f, h4f, h4t, h5f, h5t⟩ := t_4_1_3 k m key value kept
  have hc : n = 0 ∨ n = 1 ∨ n = 2 ∨ n = 3 ∨ n = 4 ∨ n = 5 := by omega
  rcases hc with rfl | rfl | rfl | rfl | rfl | rfl
  · rw [hb (by omega)]; exact h0f
  · rw [hb (by omega)]; exact h1f
  · rw [hb (by omega)]; exact h2f
  · rw [hb (by omega)]; exact h3f
  · cases big; exact h4f; exact h4t
  · cases big; exact h5f; exact h5t
theorem u_4_1_4 (k m : Int) (key value : List UInt8) (kept : Int) (n : Nat) (hn : n ≤ 5) (big : Bool) (hb : n < 4 → big = false) : Cs (rowsAB 4 1) 4 1 4 n big k m key value kept := by
  obtain ⟨h0f, h1f, h2f, h3f, h4f, h4t, h5f, h5t⟩ := t_4_1_4 k m key value kept
  have hc : n = 0 ∨ n = 1 ∨ n = 2 ∨ n = 3 ∨ n = 4 ∨ n = 5 := by omega
  rcases hc with rfl | rfl | rfl | rfl | rfl | rfl
  · rw [hb (by omega)]; exact h0f
  · rw [hb (by omega)]; exact h1f
  · rw [hb (by omega)]; exact h2f
  · rw [hb (by omega)]; exact h3f
  · cases big; exact h4f; exact h4t
  · cases big; exact h5f; exact h5t
theorem u_4_1 (k m : Int) (key value : List UInt8) (kept : Int) (q : Nat) (hq : q < 5) (n : Nat) (hn : n ≤ 5) (big : Bool) (hb : n < 4 → big = false) : Cs (rowsAB 4 1) 4 1 q n big k m key value kept := by
  have hc : q = 0 ∨ q = 1 ∨ q = 2 ∨ q = 3 ∨ q = 4 := by omega
  rcases hc with rfl | rfl | rfl | rfl | rfl
  · exact u_4_1_0 k m key value kept n hn big hb
  · exact u_4_1_1 k m key value kept n hn big hb
  · exact u_4_1_2 k m key value kept n hn big hb
  · exact u_4_1_3 k m key value kept n hn big hb
  · exact u_4_1_4 k m key value kept n hn big hb
theorem u_4_2_0 (k m : Int) (key value : List UInt8) (kept : Int) (n : Nat) (hn : n ≤ 6) (big : Bool) (hb : n < 4 → big = false) : Cs (rowsAB 4 2) 4 2 0 n big k m key value kept := by
  obtain ⟨h0f, h1f, h2f, h3f, h4f, h4t, h5f, h5t, h6f, h6t⟩ := t_4_2_0 k m key value kept
  have hc : n = 0 ∨ n = 1 ∨ n = 2 ∨ n = 3 ∨ n = 4 ∨ n = 5 ∨ n = 6 := by omega
  rcases hc with rfl | rfl | rfl | rfl | rfl | rfl | rfl
  · rw [hb (by omega)]; exact h0f
  · rw [hb (by omega)]; exact h1f
  · rw [hb (by omega)]; exact h2f
  · rw [hb (by omega)]; exact h3f
  · cases big; exact h4f; exact h4t
  · cases big; exact h5f; exact h5t
  · cases big; exact h6f; exact h6t
theorem u_4_2_1 (k m : Int) (key value : List UInt8) (kept : Int) (n : Nat) (hn : n ≤ 6) (big : Bool) (hb : n < 4 → big = false) : Cs (rowsAB 4 2) 4 2 1 n big k m key value kept := by
  obtain ⟨h0f, h1f, h2f, h3f, h4f, h4t, h5f, h5t, h6f, h6t⟩ := t_4_2_1 k m key value kept
  have hc : n = 0 ∨ n = 1 ∨ n = 2 ∨ n = 3 ∨ n = 4 ∨ n = 5 ∨ n = 6 := by omega
  rcases hc with rfl | rfl | rfl | rfl | rfl | rfl | rfl
  · rw [hb (by omega)]; exact h0f
  · rw [hb (by omega)]; exact h1f
  · rw [hb (by omega)]; exact h2f
  · rw [hb (by omega)]; exact h3f
  · cases big; exact h4f; exact h4t
  · cases big; exact h5f; exact h5t
  · cases big; exact h6f; exact h6t
theorem u_4_2_2 (k m : Int) (key value : List UInt8) (kept : Int) (n : Nat) (hn : n ≤ 6) (big : Bool) (hb : n < 4 → big = false) : Cs (rowsAB 4 2) 4 2 2 n big k m key value kept := by
  obtain ⟨h0f, h1f, h2f, h3f, h4f, h4t, h5f, h5t, h6f, h6t⟩ := t_4_2_2 k m key value kept
  have hc : n = 0 ∨ n = 1 ∨ n = 2 ∨ n = 3 ∨ n = 4 ∨ n = 5 ∨ n = 6 := by omega
  rcases hc with rfl | rfl | rfl | rfl | rfl | rfl | rfl
  · rw [hb (by omega)]; exact h0f
  · rw [hb (by omega)]; exact h1f
  · rw [hb (by omega)]; exact h2f
  · rw [hb (by omega)]; exact h3f
  · cases big; exact h4f; exact h4t
  · cases big; exact h5f; exact h5t
  · cases big; exact h6f; exact h6t
theorem u_4_2_3 (k m : Int) (key value : List UInt8) (kept : Int) (n : Nat) (hn : n ≤ 6) (big : Bool) (hb : n < 4 → big = false) : Cs (rowsAB 4 2) 4 2 3 n big k m key value kept := by
  obtain ⟨h0f, h1f, h2f, h3f, h4f, h4t, h5f, h5t, h6f, h6t⟩ := t_4_2_3 k m key value kept
  have hc : n = 0 ∨ n = 1 ∨ n = 2 ∨ n = 3 ∨ n = 4 ∨ n = 5 ∨ n = 6 := by omega
  rcases hc with rfl | rfl | rfl | rfl | rfl | rfl | rfl
  · rw [hb (by omega)]; exact h0f
  · rw [hb (by omega)]; exact h1f
  · rw [hb (by omega)]; exact h2f
  · rw [hb (by omega)]; exact h3f
  · cases big; exact h4f; exact h4t
  · cases big; exact h5f; exact h5t
  · cases big; exact h6f; exact h6t
theorem u_4_2_4 (k m : Int) (key value : List UInt8) (kept : Int) (n : Nat) (hn : n ≤ 6) (big : Bool) (hb : n < 4 → big = false) : Cs (rowsAB 4 2) 4 2 4 n big k m key value kept := by
  obtain ⟨h0f, h1f, h2f, h3f, h4f, h4t, h5f, h5t, h6f, h6t⟩ := t_4_2_4 k m key value kept
  have hc : n = 0 ∨ n = 1 ∨ n = 2 ∨ n = 3 ∨ n = 4 ∨ n = 5 ∨ n = 6 := by omega
  rcases hc with rfl | rfl | rfl | rfl | rfl | rfl | rfl
  · rw [hb (by omega)]; exact h0f
  · rw [hb (by omega)]; exact h1f
  · rw [hb (by omega)]; exact h2f
  · rw [hb (by omega)]; exact h3f
  · cases big; exact h4f; exact h4t
  · cases big; exact h5f; exact h5t
  · cases big; exact h6f; exact h6t
theorem u_4_2_5 (k m : Int) (key value : List UInt8) (kept : Int) (n : Nat) (hn : n ≤ 6) (big : Bool) (hb : n < 4 → big = false) : Cs (rowsAB 4 2) 4 2 5 n big k m key value kept := by
  obtain ⟨h0f, h1f, h2f, h3f, h4f, h4t, h5f, h5t, h6f, h6t⟩ := t_4_2_5 k m key value kept
  have hc : n = 0 ∨ n = 1 ∨ n = 2 ∨ n = 3 ∨ n = 4 ∨ n = 5 ∨ n = 6 := by omega
  rcases hc with rfl | rfl | rfl | rfl | rfl | rfl | rfl
  · rw [hb (by omega)]; exact h0f
  · rw [hb (by omega)]; exact h1f
  · rw [hb (by omega)]; exact h2f
  · rw [hb (by omega)]; exact h3f
  · cases big; exact h4f; exact h4t
  · cases big; exact h5f; exact h5t
  · cases big; exact h6f; exact h6t
theorem u_4_2 (k m : Int) (key value : List UInt8) (kept : Int) (q : Nat) (hq : q < 6) (n : Nat) (hn : n ≤ 6) (big : Bool) (hb : n < 4 → big = false) : Cs (rowsAB 4 2) 4 2 q n big k m key value kept := by
  have hc : q = 0 ∨ q = 1 ∨ q = 2 ∨ q = 3 ∨ q = 4 ∨ q = 5 := by omega
  rcases hc with rfl | rfl | rfl | rfl | rfl | rfl
  · exact u_4_2_0 k m key value kept n hn big hb
  · exact u_4_2_1 k m key value kept n hn big hb
  · exact u_4_2_2 k m key value kept n hn big hb
  · exact u_4_2_3 k m key value kept n hn big hb
  · exact u_4_2_4 k m key value kept n hn big hb
  · exact u_4_2_5 k m key value kept n hn big hb
theorem u_4_3_0 (k m : Int) (key value : List UInt8) (kept : Int) (n : Nat) (hn : n ≤ 7) (big : Bool) (hb : n < 4 → big = false) : Cs (rowsAB 4 3) 4 3 0 n big k m key value kept := by
  obtain ⟨h0f, h1f, h2f, h3f, h4f, h4t, h5f, h5t, h6f, h6t, h7f, h7t⟩ := t_4_3_0 k m key value kept
  have hc : n = 0 ∨ n = 1 ∨ n = 2 ∨ n = 3 ∨ n = 4 ∨ n = 5 ∨ n = 6 ∨ n = 7 := by omega
  rcases hc with rfl | rfl | rfl | rfl | rfl | rfl | rfl | rfl
  · rw [hb (by omega)]; exact h0f
  · rw [hb (by omega)]; exact h1f
  · rw [hb (by omega)]; exact h2f
  · rw [hb (by omega)]; exact h3f
  · cases big; exact h4f; exact h4t
  · cases big; exact h5f; exact h5t
  · cases big; exact h6f; exact h6t
  · cases big; exact h7f; exact h7t
theorem u_4_3_1 (k m : Int) (key value : List UInt8) (kept : Int) (n : Nat) (hn : n ≤ 7) (big : Bool) (hb : n < 4 → big = false) : Cs (rowsAB 4 3) 4 3 1 n big k m key value kept := by
  obtain ⟨h0f, h1f, h2f, h3f, h4f, h4t, h5f, h5t, h6f, h6t, h7f, h7t⟩ := t_4_3_1 k m key value kept
  have hc : n = 0 ∨ n = 1 ∨ n = 2 ∨ n = 3 ∨ n = 4 ∨ n = 5 ∨ n = 6 ∨ n = 7 := by omega
  rcases hc with rfl | rfl | rfl | rfl | rfl | rfl | rfl | rfl
  · rw [hb (by omega)]; exact h0f
  · rw [hb (by omega)]; exact h1f
  · rw [hb (by omega)]; exact h2f
  · rw [hb (by omega)]; exact h3f
  · cases big; exact h4f; exact h4t
  · cases big; exact h5f; exact h5t
  · cases big; exact h6f; exact h6t
  · cases big; exact h7f; exact h7t
theorem u_4_3_2 (k m : Int) (key value : List UInt8) (kept : Int) (n : Nat) (hn : n ≤ 7) (big : Bool) (hb : n < 4 → big = false) : Cs (rowsAB 4 3) 4 3 2 n big k m key value kept := by
  obtain ⟨h0f, h1f, h2f, h3f, h4f, h4t, h5f, h5t, h6f, h6t, h7f, h7t⟩ := t_4_3_2 k m key value kept
  have hc : n = 0 ∨ n = 1 ∨ n = 2 ∨ n = 3 ∨ n = 4 ∨ n = 5 ∨ n = 6 ∨ n = 7 := by omega
  rcases hc with rfl | rfl | rfl | rfl | rfl | rfl | rfl | rfl
  · rw [hb (by omega)]; exact h0f
  · rw [hb (by omega)]; exact h1f
  · rw [hb (by omega)]; exact h2f
  · rw [hb (by omega)]; exact h3f
  · cases big; exact h4f; exact h4t
  · cases big; exact h5f; exact h5t
  · cases big; exact h6f; exact h6t
  · cases big; exact h7f; exact h7t
theorem u_4_3_3 (k m : Int) (key value : List UInt8) (kept : Int) (n : Nat) (hn : n ≤ 7) (big : Bool) (hb : n < 4 → big = false) : Cs (rowsAB 4 3) 4 3 3 n big k m key value kept := by
  obtain ⟨h0f, h1f, h2f, h3f, h4f, h4t, h5f, h5t, h6f, h6t, h7f, h7t⟩ := t_4_3_3 k m key value kept
  have hc : n = 0 ∨ n = 1 ∨ n = 2 ∨ n = 3 ∨ n = 4 ∨ n = 5 ∨ n = 6 ∨ n = 7 := by omega
  rcases hc with rfl | rfl | rfl | rfl | rfl | rfl | rfl | rfl
  · rw [hb (by omega)]; exact h0f
  · rw [hb (by omega)]; exact h1f
  · rw [hb (by omega)]; exact h2f
  · rw [hb (by omega)]; exact h3f
  · cases big; exact h4f; exact h4t
  · cases big; exact h5f; exact h5t
  · cases big; exact h6f; exact h6t
  · cases big; exact h7f; exact h7t
theorem u_4_3_4 (k m : Int) (key value : List UInt8) (kept : Int) (n : Nat) (hn : n ≤ 7) (big : Bool) (hb : n < 4 → big = false) : Cs (rowsAB 4 3) 4 3 4 n big k m key value kept := by
  obtain ⟨h0f, h1f, h2f, h3f, h4f, h4t, h5f, h5t, h6f, h6t, h7f, h7t⟩ := t_4_3_4 k m key value kept
  have hc : n = 0 ∨ n = 1 ∨ n = 2 ∨ n = 3 ∨ n = 4 ∨ n = 5 ∨ n = 6 ∨ n = 7 := by omega
  rcases hc with rfl | rfl | rfl | rfl | rfl | rfl | rfl | rfl
  · rw [hb (by omega)]; exact h0f
  · rw [hb (by omega)]; exact h1f
  · rw [hb (by omega)]; exact h2f
  · rw [hb (by omega)]; exact h3f
  · cases big; exact h4f; exact h4t
  · cases big; exact h5f; exact h5t
  · cases big; exact h6f; exact h6t
  · cases big; exact h7f; exact h7t
theorem u_4_3_5 (k m : Int) (key value : List UInt8) (kept : Int) (n : Nat) (hn : n ≤ 7) (big : Bool) (hb : n < 4 → big = false) : Cs (rowsAB 4 3) 4 3 5 n big k m key value kept := by
  obtain ⟨h0f, h1f, h2f, h3f, h4f, h4t, h5f, h5t, h6f, h6t, h7f, h7t⟩ := t_4_3_5 k m key value kept
  have hc : n = 0 ∨ n = 1 ∨ n = 2 ∨ n = 3 ∨ n = 4 ∨ n = 5 ∨ n = 6 ∨ n = 7 := by omega
  rcases hc with rfl | rfl | rfl | rfl | rfl | rfl | rfl | rfl
  · rw [hb (by omega)]; exact h0f
  · rw [hb (by omega)]; exact h1f
  · rw [hb (by omega)]; exact h2f
  · rw [hb (by omega)]; exact h3f
  · cases big; exact h4f; exact h4t
  · cases big; exact h5f; exact h5t
  · cases big; exact h6f; exact h6t
  · cases big; exact h7f; exact h7t
theorem u_4_3_6 (k m : Int) (key value : List UInt8) (kept : Int) (n : Nat) (hn : n ≤ 7) (big : Bool) (hb : n < 4 → big = false) : Cs (rowsAB 4 3) 4 3 6 n big k m key value kept := by
  obtain ⟨h0f, h1f, h2f, h3f, h4f, h4t, h5f, h5t, h6f, h6t, h7f, h7t⟩ := t_4_3_6 k m key value kept
  have hc : n = 0 ∨ n = 1 ∨ n = 2 ∨ n = 3 ∨ n = 4 ∨ n = 5 ∨ n = 6 ∨ n = 7 := by omega
  rcases hc with rfl | rfl | rfl | rfl | rfl | rfl | rfl | rfl
  · rw [hb (by omega)]; exact h0f
  · rw [hb (by omega)]; exact h1f
  · rw [hb (by omega)]; exact h2f
  · rw [hb (by omega)]; exact h3f
  · cases big; exact h4f; exact h4t
  · cases big; exact h5f; exact h5t
  · cases big; exact h6f; exact h6t
  · cases big; exact h7f; exact h7t
theorem u_4_3 (k m : Int) (key value : List UInt8) (kept : Int) (q : Nat) (hq : q < 7) (n : Nat) (hn : n ≤ 7) (big : Bool) (hb : n < 4 → big = false) : Cs (rowsAB 4 3) 4 3 q n big k m key value kept := by
  have hc : q = 0 ∨ q = 1 ∨ q = 2 ∨ q = 3 ∨ q = 4 ∨ q = 5 ∨ q = 6 := by omega
  rcases hc with rfl | rfl | rfl | rfl | rfl | rfl | rfl
  · exact u_4_3_0 k m key value kept n hn big hb
  · exact u_4_3_1 k m key value kept n hn big hb
  · exact u_4_3_2 k m key value kept n hn big hb
  · exact u_4_3_3 k m key value kept n hn big hb
  · exact u_4_3_4 k m key value kept n hn big hb
  · exact u_4_3_5 k m key value kept n hn big hb
  · exact u_4_3_6 k m key value kept n hn big hb
theorem u_all (a b : Nat) (a1 : 1 ≤ a) (a2 : a ≤ 4) (b2 : b ≤ 3) (k m : Int) (key value : List UInt8) (kept : Int) (q : Nat) (hq : q < a + b) (n : Nat) (hn : n ≤ a + b) (big : Bool) (hb : n < a → big = false) : Cs (rowsAB a b) a b q n big k m key value kept := by
  have ha : a = 1 ∨ a = 2 ∨ a = 3 ∨ a = 4 := by omega
  have hbb : b = 0 ∨ b = 1 ∨ b = 2 ∨ b = 3 := by omega
  rcases ha with rfl | rfl | rfl | rfl <;> rcases hbb with rfl | rfl | rfl | rfl
  · exact u_1_0 k m key value kept q hq n hn big hb
  · exact u_1_1 k m key value kept q hq n hn big hb
  · exact u_1_2 k m key value kept q hq n hn big hb
  · exact u_1_3 k m key value kept q hq n hn big hb
  · exact u_2_0 k m key value kept q hq n hn big hb
  · exact u_2_1 k m key value kept q hq n hn big hb
  · exact u_2_2 k m key value kept q hq n hn big hb
  · exact u_2_3 k m key value kept q hq n hn big hb
  · exact u_3_0 k m key value kept q hq n hn big hb
  · exact u_3_1 k m key value kept q hq n hn big hb
  · exact u_3_2 k m key value kept q hq n hn big hb
  · exact u_3_3 k m key value kept q hq n hn big hb
  · exact u_4_0 k m key value kept q hq n hn big hb
  · exact u_4_1 k m key value kept q hq n hn big hb
  · exact u_4_2 k m key value kept q hq n hn big hb
  · exact u_4_3 k m key value kept q hq n hn big hb
end Go.Proofs.YtjlfnolaifkakaaDoor
