/- The law ParseLines: for every list of texts the call returns true and leaves the world as it was but for new memory. Conditions: none. -/
import Derived.Test.YtkjmelfgopammaaRows
import Derived.WalkKit
import Derived.ProofKit
import Derived.OpenShut
import Derived.Below
import Derived.Carry
import Derived.ChangeMaps5
import Derived.SliceStrings
import Derived.ChangeSlices
import Derived.Test.YtkjmelfgopammaaQsJ
import Derived.Test.YtkjmelfgopammaaPaN
namespace Go.Proofs.Ytkjmelfgopammaa.parseLines
open Go.ChangeShapes Go.WideShapes Go.ChangeAt Go.RowKit Go.ChangeMaps
set_option linter.unusedVariables false

theorem own : ownKnob Try.prog.godebug = none := by kernel_rfl
theorem cells9 : Try.prog.cellsOf 9 = 1 := by kernel_rfl
theorem laid : laidOutB Try.prog = true := by kernel_rfl
theorem reads22 : Try.prog.readableRec 22 = true := by kernel_rfl
theorem row22 : 22 < Try.prog.types.size := of_decide_eq_true (by kernel_rfl)

theorem walk (v1 : Value) (w : World) (h1 : Go.Dp.ArgS cx w v1 fun cs => ∃ l : List (List UInt8), cs = l.map Go.Dp.AV.str ∧ l.length < 9223372036854775808) :
    Calls Try.prog 11 #[v1] w fun e w' => e = .returned (.bool true) ∧ Below w.heap.size w w' := by
  obtain ⟨ρ1, H1, av1, cs1, R1, o1, ro1, x1, le1, s1, r1, l, rfl, hl⟩ := Go.Dp.arg_any (c := cx) (Go.Dp.rel_none cx (fun _ => rfl) w) Go.Dp.Heap.Ok.noHeap Go.Dp.Heap.RO.noHeap h1
  exact Go.Dp.law_of (c := cx) prog_ok lib_ok (g := 11) (f := 11) (by kernel_rfl) (args := [av1]) R1
    ⟨r1, trivial⟩ o1 (PLines_law av1 l _ s1 hl)

set_option maxRecDepth 100000 in
theorem lifted (os : Os) (started : os.Started) (H : Type) (enc : TypeId × Value → H) :
    ReturnsInHanded {} Try.checked os 11 .any (Rows.parseLinesSpec.pre6 enc Try.prog Try.f11 Rows.parseLinesRow.domain false) (Rows.parseLinesSpec.post enc Try.prog Try.f11 false true false false) := by
  refine returnsInHanded_of_change (C := Try.checked) own started (by kernel_rfl) Try.func11
    (ChangeSpec.witness6 (enc := enc) (C := Try.checked) false ⟨#[], #[.slice none 0 0], []⟩ 8 (by kernel_rfl) (by kernel_rfl) (by kernel_rfl) (by kernel_rfl)) ?_
  intro W base args ds gs before hval0 hW hcnd _
  have hval : ∀ (j : Nat) t v, Try.f11.params[j]? = some t → args[j]? = some v → Value.okWide Try.prog W .any base t v := hval0
  have hW' := hW
  have hlt := hW.lt
  obtain ⟨p, q, hA0, hV, rfl, hfz, hnd⟩ := hW
  have hA : DataW.TrodAll enc Try.prog W 0 (fun _ => true) true Try.f11.params.toList args.toList ds p := hA0
  rw [Try.params11] at hA hval
  obtain ⟨v0, vs0, d0, ds0, p0, q0, hargs, rfl, rfl, h0, r0⟩ := trodAll_cons hA
  obtain ⟨rfl, rfl, rfl⟩ := trodAll_nil r0
  obtain rfl : args = #[v0] := by cases args; simp_all
  obtain ⟨rfl, rfl⟩ := trodVars_none hV
  have h1' := h0
  have hv1 := hval 0 22 v0 rfl rfl
  obtain ⟨a1, len1, cap1, rfl⟩ := okWide_slice Try.underlying22 hv1
  have A1 : Go.Dp.ArgS cx W (.slice a1 len1 cap1) fun cs => ∃ l : List (List UInt8), cs = l.map Go.Dp.AV.str ∧ l.length < 9223372036854775808 := by
    obtain ⟨fuel, hf⟩ := h0
    rcases open_strings Try.underlying22 Try.underlying9 cells9 hf with ⟨hcs, hx⟩ | ⟨a, len', cap', ss, hcs, _, hl, hm, hz, hx, hcell, hsz⟩
    · simp [Value.cells] at hcs
      obtain ⟨rfl, rfl, rfl⟩ := hcs
      exact Go.Dp.args_nil_str
    · simp [Value.cells] at hcs
      obtain ⟨rfl, rfl, rfl⟩ := hcs
      simp only [Value.okWide, Try.underlying22, Cell.okWide, Cell.ok] at hv1
      obtain ⟨_, _, _, hspot, row, n, hsh, _⟩ := hv1
      exact Go.Dp.args_str hspot hsh hl hm hz hcell
  clear hA0 hval0
  simp only [List.append_nil] at hW' hlt
  refine (walk _ W A1).mono fun e W' ⟨he, hg⟩ => ?_
  subst he
  exact ⟨_, rfl, _, _, _, [], _, [], hW', trodAll_cons_mk (shut_bool Try.underlying4 _) trodAll_mk0, trodAll_cons_mk (Below.trod laid reads22 row22 h1' hg (fun x hx => hlt x (by simp [hx]))) trodAll_mk0, rfl, hg.frame _, fun h => by cases h⟩

theorem over : Rows.parseLinesRow.holds Try.pinned (OpenSpec.ofChange Rows.parseLinesSpec) :=
  OpenClaim.holds_of_wide 11 Try.f11 rfl rfl rfl rfl rfl rfl rfl ⟨rfl, rfl, rfl, rfl, rfl⟩ rfl rfl rfl rfl rfl (by kernel_rfl) Try.func11 (by kernel_rfl)
    (of_decide_eq_true (by kernel_rfl)) (by unfold Func.isWrapper; first | (rw [if_pos (by decide +kernel)]; kernel_rfl) | (rw [if_neg (by decide +kernel)]; exact ⟨rfl, rfl⟩))
    (fun os started H enc _ => lifted os started H enc)

/-- ████ THE STATEMENT ████ -/
theorem proved : Rows.ParseLinesSaid :=
  over
#print axioms proved
end Go.Proofs.Ytkjmelfgopammaa.parseLines
