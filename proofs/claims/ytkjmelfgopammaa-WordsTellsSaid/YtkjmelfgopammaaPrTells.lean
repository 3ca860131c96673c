/- The law WordsTells: for every two texts and numbers the call returns true and leaves the world as it was but for new memory. Conditions: none. -/
import Derived.Test.YtkjmelfgopammaaRows
import Derived.WalkKit
import Derived.ProofKit
import Derived.OpenShut
import Derived.Below
import Derived.Carry
import Derived.ChangeMaps5
import Derived.Test.YtkjmelfgopammaaQsF
import Derived.Test.YtkjmelfgopammaaWdM
namespace Go.Proofs.Ytkjmelfgopammaa.wordsTells
open Go.ChangeShapes Go.WideShapes Go.ChangeAt Go.RowKit Go.ChangeMaps
set_option linter.unusedVariables false

theorem own : ownKnob Try.prog.godebug = none := by kernel_rfl

theorem walk (s n : ByteArray) (most : Nat) (hm : most < 18446744073709551616) (vb : Int) (w : World) : Calls Try.prog 4 #[.string s, .string n, .int .u64 (.ofNat most), .int .i64 vb] w fun e w' => e = .returned (.bool true) ∧ Below w.heap.size w w' :=
  Go.Dp.law_of (c := cx) prog_ok lib_ok (g := 4) (f := 4) (by kernel_rfl) (args := [.str s.data.toList, .str n.data.toList, .int .u64 (.ofNat most), .int .i64 vb]) (ρ := fun _ => none) (H := Go.Dp.noHeap) (Go.Dp.rel_none cx (fun _ => rfl) w)
    ⟨Go.Dp.VRel_str.2 ⟨s, rfl, rfl⟩, Go.Dp.VRel_str.2 ⟨n, rfl, rfl⟩, by rw [Go.Dp.VRel_int], by rw [Go.Dp.VRel_int], trivial⟩ Go.Dp.Heap.Ok.noHeap (Tells_law _ _ _ hm _ _)

set_option maxRecDepth 100000 in
theorem lifted (os : Os) (started : os.Started) (H : Type) (enc : TypeId × Value → H) :
    ReturnsInHanded {} Try.checked os 4 .any (Rows.wordsTellsSpec.pre6 enc Try.prog Try.f4 Rows.wordsTellsRow.domain false) (Rows.wordsTellsSpec.post enc Try.prog Try.f4 false true false false) := by
  refine returnsInHanded_of_change (C := Try.checked) own started (by kernel_rfl) Try.func4
    (ChangeSpec.witness6 (enc := enc) (C := Try.checked) false ⟨#[], #[.string .empty, .string .empty, .int .u64 0, .int .i64 0], []⟩ 8 (by kernel_rfl) (by kernel_rfl) (by kernel_rfl) (by kernel_rfl)) ?_
  intro W base args ds gs before hval0 hW hcnd _
  have hval : ∀ (j : Nat) t v, Try.f4.params[j]? = some t → args[j]? = some v → Value.okWide Try.prog W .any base t v := hval0
  have hW' := hW
  obtain ⟨p, q, hA0, hV, rfl, hfz, hnd⟩ := hW
  have hA : DataW.TrodAll enc Try.prog W 0 (fun _ => true) true Try.f4.params.toList args.toList ds p := hA0
  rw [Try.params4] at hA hval
  obtain ⟨v0, vs0, d0, ds0, p0, q0, hargs, rfl, rfl, h0, r0⟩ := trodAll_cons hA
  obtain ⟨v1, vs1, d1, ds1, p1, q1, rfl, rfl, rfl, h1, r1⟩ := trodAll_cons r0
  obtain ⟨v2, vs2, d2, ds2, p2, q2, rfl, rfl, rfl, h2, r2⟩ := trodAll_cons r1
  obtain ⟨v3, vs3, d3, ds3, p3, q3, rfl, rfl, rfl, h3, r3⟩ := trodAll_cons r2
  obtain ⟨rfl, rfl, rfl⟩ := trodAll_nil r3
  obtain rfl : args = #[v0, v1, v2, v3] := by cases args; simp_all
  obtain ⟨rfl, rfl⟩ := trodVars_none hV
  obtain ⟨s, rfl, rfl, rfl, hs⟩ := open_string Try.underlying9 (hval 0 9 v0 rfl rfl) h0
  obtain ⟨n, rfl, rfl, rfl, hn⟩ := open_string Try.underlying9 (hval 1 9 v1 rfl rfl) h1
  obtain ⟨m, rfl, rfl, rfl, hm⟩ := open_int Try.underlying23 (hval 2 23 v2 rfl rfl) h2
  obtain ⟨x, rfl, rfl, rfl, hx⟩ := open_int Try.underlying3 (hval 3 3 v3 rfl rfl) h3
  clear hA0 hval0
  simp only [List.append_nil] at hW'
  have hm' := hm
  simp only [Lit.wf, Bool.and_eq_true, decide_eq_true_eq] at hm'
  have hlo : (0 : Int) ≤ m := hm'.1
  have hhi : m ≤ 18446744073709551615 := hm'.2
  obtain ⟨k, rfl⟩ := Int.eq_ofNat_of_zero_le hlo
  have hk : k < 18446744073709551616 := by omega
  refine (walk s n k hk x W).mono fun e W' ⟨he, hg⟩ => ?_
  subst he
  exact ⟨_, rfl, _, _, _, [], [], [], hW', trodAll_cons_mk (shut_bool Try.underlying4 _) trodAll_mk0, trodAll_cons_mk (shut_string Try.underlying9 hs) (trodAll_cons_mk (shut_string Try.underlying9 hn) (trodAll_cons_mk (shut_int Try.underlying23 hm) (trodAll_cons_mk (shut_int Try.underlying3 hx) trodAll_mk0))), rfl, hg.frame _, fun h => by cases h⟩

theorem over : Rows.wordsTellsRow.holds Try.pinned (OpenSpec.ofChange Rows.wordsTellsSpec) :=
  OpenClaim.holds_of_wide 4 Try.f4 rfl rfl rfl rfl rfl rfl rfl ⟨rfl, rfl, rfl, rfl, rfl⟩ rfl rfl rfl rfl rfl (by kernel_rfl) Try.func4 (by kernel_rfl)
    (of_decide_eq_true (by kernel_rfl)) (by unfold Func.isWrapper; first | (rw [if_pos (by decide +kernel)]; kernel_rfl) | (rw [if_neg (by decide +kernel)]; exact ⟨rfl, rfl⟩))
    (fun os started H enc _ => lifted os started H enc)

/-- ████ THE STATEMENT ████ -/
theorem proved : Rows.WordsTellsSaid :=
  over
#print axioms proved
end Go.Proofs.Ytkjmelfgopammaa.wordsTells
