/- The law SlotScans: for every argument the call returns true and leaves the world as it was but for new memory. Conditions: none. -/
import Derived.Test.YtihoblfmhighpaaRows
import Derived.WalkKit
import Derived.ProofKit
import Derived.OpenShut
import Derived.Below
import Derived.Carry
import Derived.Deep.DeepHandedRow
import Derived.ChangeSlices
import Derived.SliceStrings
import Derived.Test.YtihoblfmhighpaaQsJ
import Derived.Test.YtihoblfmhighpaaScG
namespace Go.Proofs.Ytihoblfmhighpaa.slotScans
open Go.ChangeShapes Go.WideShapes Go.ChangeAt Go.RowKit
set_option linter.unusedVariables false

theorem own : ownKnob Try.prog.godebug = none := by kernel_rfl
theorem cells9 : Try.prog.cellsOf 9 = 1 := by kernel_rfl
theorem laid : laidOutB Try.prog = true := by kernel_rfl
theorem reads33 : Try.prog.readableRec 33 = true := by kernel_rfl
theorem row33 : 33 < Try.prog.types.size := of_decide_eq_true (by kernel_rfl)

theorem walk (w : World) (v0 : Value) (a0 : Go.Dp.ArgS cx w v0 fun cs => ∃ l : List (List UInt8), cs = l.map Go.Dp.AV.str ∧ l.length < 9223372036854775808) : Calls Try.prog 6 #[v0] w fun e w' => e = .returned (.bool true) ∧ Below w.heap.size w w' := by
  obtain ⟨ρ0, H0, av0, cs0, R0', o0, ro0, ex0, le0, s0, r0, l0, rfl, hl0⟩ := Go.Dp.arg_any (c := cx) (Go.Dp.rel_none cx (fun _ => rfl) w) Go.Dp.Heap.Ok.noHeap Go.Dp.Heap.RO.noHeap a0
  exact Go.Dp.law_of (c := cx) prog_ok lib_ok (g := 6) (f := 6) (by kernel_rfl) (args := [av0]) R0'
    ⟨r0, trivial⟩ o0 (Scans_law l0 av0 _ s0)

set_option maxRecDepth 100000 in
theorem lifted (os : Os) (started : os.Started) (H : Type) (enc : TypeId × Value → H) :
    ReturnsInHanded {} Try.checked os 6 .any (Rows.slotScansSpec.pre6 enc Try.prog Try.f6 Rows.slotScansRow.domain false) (Rows.slotScansSpec.post enc Try.prog Try.f6 false true false false) := by
  refine returnsInHanded_of_change (C := Try.checked) own started (by kernel_rfl) Try.func6
    (ChangeSpec.witness6 (enc := enc) (C := Try.checked) false ⟨#[], #[.slice none 0 0], []⟩ 8 (by kernel_rfl) (by kernel_rfl) (by kernel_rfl) (by kernel_rfl)) ?_
  intro W base args ds gs before hval0 hW hcnd _
  have hval : ∀ (j : Nat) t v, Try.f6.params[j]? = some t → args[j]? = some v → Value.okWide Try.prog W .any base t v := hval0
  have hW' := hW
  have hlt := hW.lt
  obtain ⟨p, q, hA0, hV, rfl, hfz, hnd⟩ := hW
  have hA : DataW.TrodAll enc Try.prog W 0 (fun _ => true) true Try.f6.params.toList args.toList ds p := hA0
  rw [Try.params6] at hA hval
  obtain ⟨v0, vs0, d0, ds0, p0, q0, hargs, rfl, rfl, h0, r0⟩ := trodAll_cons hA
  obtain ⟨rfl, rfl, rfl⟩ := trodAll_nil r0
  obtain rfl : args = #[v0] := by cases args; simp_all
  obtain ⟨rfl, rfl⟩ := trodVars_none hV
  have k0 := h0
  have hv0 := hval 0 33 v0 rfl rfl
  obtain ⟨a0, len0, cap0, rfl⟩ := okWide_slice Try.underlying33 hv0
  have A0 : Go.Dp.ArgS cx W (.slice a0 len0 cap0) fun cs => ∃ l : List (List UInt8), cs = l.map Go.Dp.AV.str ∧ l.length < 9223372036854775808 := by
    obtain ⟨fuel, hf⟩ := h0
    rcases open_strings Try.underlying33 Try.underlying9 cells9 hf with ⟨hcs, hx⟩ | ⟨a, len', cap', ss, hcs, _, hl, hm, hz, hx, hcell, hsz⟩
    · simp [Value.cells] at hcs
      obtain ⟨rfl, rfl, rfl⟩ := hcs
      exact .inl ⟨rfl, [], rfl, by decide⟩
    · simp [Value.cells] at hcs
      obtain ⟨rfl, rfl, rfl⟩ := hcs
      simp only [Value.okWide, Try.underlying33, Cell.okWide, Cell.ok] at hv0
      obtain ⟨_, _, _, hspot, row, n, hsh, _⟩ := hv0
      exact Go.Dp.args_str hspot hsh hl hm hz hcell
  clear hA0 hval0
  simp only [List.append_nil] at hW' hlt
  refine (walk W _ A0).mono fun e W' ⟨he, hg⟩ => ?_
  subst he
  exact ⟨_, rfl, _, _, _, [], _, [], hW', trodAll_cons_mk (shut_bool Try.underlying4 _) trodAll_mk0, trodAll_cons_mk (Below.trod laid reads33 row33 k0 hg (fun x hx => hlt x (by simp [hx]))) trodAll_mk0, rfl, hg.frame _, fun h => by cases h⟩

theorem over : Rows.slotScansRow.holds Try.pinned (OpenSpec.ofChange Rows.slotScansSpec) :=
  OpenClaim.holds_of_wide 6 Try.f6 rfl rfl rfl rfl rfl rfl rfl ⟨rfl, rfl, rfl, rfl, rfl⟩ rfl rfl rfl rfl rfl (by kernel_rfl) Try.func6 (by kernel_rfl)
    (of_decide_eq_true (by kernel_rfl)) (by unfold Func.isWrapper; first | (rw [if_pos (by decide +kernel)]; kernel_rfl) | (rw [if_neg (by decide +kernel)]; exact ⟨rfl, rfl⟩))
    (fun os started H enc _ => lifted os started H enc)

theorem proved : Rows.SlotScansSaid :=
  over
#print axioms proved
end Go.Proofs.Ytihoblfmhighpaa.slotScans
