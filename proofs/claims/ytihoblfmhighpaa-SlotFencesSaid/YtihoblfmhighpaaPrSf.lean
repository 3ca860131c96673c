/- The law SlotFences: for every argument the call returns true and leaves the world as it was but for new memory. Conditions: none. -/
import Derived.Test.YtihoblfmhighpaaRows
import Derived.WalkKit
import Derived.ProofKit
import Derived.OpenShut
import Derived.Below
import Derived.Carry
import Derived.Deep.DeepHandedRow
import Derived.ChangeSlices
import Derived.Test.YtihoblfmhighpaaQsJ
import Derived.Test.YtihoblfmhighpaaFnR
namespace Go.Proofs.Ytihoblfmhighpaa.slotFences
open Go.ChangeShapes Go.WideShapes Go.ChangeAt Go.RowKit
set_option linter.unusedVariables false

theorem own : ownKnob Try.prog.godebug = none := by kernel_rfl
theorem cells3 : Try.prog.cellsOf 3 = 1 := by kernel_rfl
theorem laid : laidOutB Try.prog = true := by kernel_rfl
theorem reads34 : Try.prog.readableRec 34 = true := by kernel_rfl
theorem row34 : 34 < Try.prog.types.size := of_decide_eq_true (by kernel_rfl)
theorem reads40 : Try.prog.readableRec 40 = true := by kernel_rfl
theorem row40 : 40 < Try.prog.types.size := of_decide_eq_true (by kernel_rfl)

theorem walk (w : World) (v0 : Value) (a0 : ArgQ w v0) (v1 : Value) (a1 : Go.Dp.ArgS cx w v1 fun cs => ∃ l : List Int, cs = l.map (Go.Dp.AV.int .i64) ∧ l.length < 9223372036854775808) : Calls Try.prog 5 #[v0, v1] w fun e w' => e = .returned (.bool true) ∧ Below w.heap.size w w' := by
  obtain ⟨ρ0, H0, av0, l0, R0', o0, ro0, ex0, le0, s0, r0, k0⟩ := arg_q (Go.Dp.rel_none cx (fun _ => rfl) w) Go.Dp.Heap.Ok.noHeap Go.Dp.Heap.RO.noHeap a0
  obtain ⟨ρ1, H1, av1, cs1, R1', o1, ro1, ex1, le1, s1, r1, l1, rfl, hl1⟩ := Go.Dp.arg_any (c := cx) R0' o0 ro0 a1
  exact Go.Dp.law_of (c := cx) prog_ok lib_ok (g := 5) (f := 5) (by kernel_rfl) (args := [av0, av1]) R1'
    ⟨(r0).ext ex1, r1, trivial⟩ o1 (Fences_law av0 l0 av1 l1 _ (s0.mono le1) k0.1 k0.2 s1 hl1)

set_option maxRecDepth 100000 in
theorem lifted (os : Os) (started : os.Started) (H : Type) (enc : TypeId × Value → H) (F : Stop.Interp) :
    ReturnsInHanded {} Try.checked os 5 .any ((OpenSpec.ofChange Rows.slotFencesSpec).preRow enc Try.prog Try.f5 Rows.slotFencesRow.domain false Rows.slotFencesRow.laid) (((OpenSpec.ofChange Rows.slotFencesSpec).at F).post enc Try.prog Try.f5 false true false false) := by
  refine returnsInHanded_of_row (C := Try.checked) (s := OpenSpec.ofChange Rows.slotFencesSpec) own started (by kernel_rfl) Try.func5
    (witness_row_at (enc := enc) (C := Try.checked) false (World.holding Try.prog os ⟨#[], #[.slice none 0 0, .slice none 0 0], []⟩) #[.slice none 0 0, .slice none 0 0] rfl (by kernel_rfl) (by kernel_rfl) (by kernel_rfl)
      (OpenSpec.preRow_of_cond 8 (show DataW.whole enc Try.prog _ Try.f5.params.toList Rows.slotFencesSpec.vars false (#[.slice none 0 0, .slice none 0 0] : Array Value).toList 8 = some ([.nil, .nil], [], []) by kernel_rfl) (by kernel_rfl) (fun k hk => by cases hk) (by kernel_rfl) (show laidMet _ [] _ from ⟨[], rfl, List.nodup_nil, fun _ _ h => by cases h⟩))) ?_
  intro W base args ds gs before hval0 hW _ _ hwt0 _ _ _
  have eT : Try.f5.params.toList ++ (OpenSpec.ofChange Rows.slotFencesSpec).bare.plain.varTypes Try.prog = [40, 34] := by kernel_rfl
  have hw : (DataW.weightsEach Try.prog [40, 34] (ds ++ gs)).all (fun n => decide (n ≤ reachBytes)) = true := by
    rw [← eT]
    exact hwt0
  have hval : ∀ (j : Nat) t v, Try.f5.params[j]? = some t → args[j]? = some v → Value.okWide Try.prog W .any base t v := hval0
  have hW' := hW
  have hlt := hW.lt
  obtain ⟨p, q, hA0, hV, rfl, hfz, hnd⟩ := hW
  have hA : DataW.TrodAll enc Try.prog W 0 (fun _ => true) true Try.f5.params.toList args.toList ds p := hA0
  rw [Try.params5] at hA hval
  obtain ⟨v0, vs0, d0, ds0, p0, q0, hargs, rfl, rfl, h0, r0⟩ := trodAll_cons hA
  obtain ⟨v1, vs1, d1, ds1, p1, q1, rfl, rfl, rfl, h1, r1⟩ := trodAll_cons r0
  obtain ⟨rfl, rfl, rfl⟩ := trodAll_nil r1
  obtain rfl : args = #[v0, v1] := by cases args; simp_all
  obtain ⟨rfl, rfl⟩ := trodVars_none hV
  simp only [List.append_nil] at hw
  obtain ⟨hw0, hx0'⟩ := wt_cons hw
  obtain ⟨hw1, hx1'⟩ := wt_cons hx0'
  have k0 := h0
  have A0 : ArgQ W v0 := open_q (hval 0 40 v0 rfl rfl) h0 hw0
  have k1 := h1
  have hv1 := hval 1 34 v1 rfl rfl
  obtain ⟨a1, len1, cap1, rfl⟩ := okWide_slice Try.underlying34 hv1
  have A1 : Go.Dp.ArgS cx W (.slice a1 len1 cap1) fun cs => ∃ l : List Int, cs = l.map (Go.Dp.AV.int .i64) ∧ l.length < 9223372036854775808 := by
    obtain ⟨fuel, hf⟩ := h1
    rcases open_ints Try.underlying34 Try.underlying3 cells3 hf with ⟨hcs, hx⟩ | ⟨a, len', cap', ss, hcs, _, hl, hm, hz, hx, hcell, hsz⟩
    · simp [Value.cells] at hcs
      obtain ⟨rfl, rfl, rfl⟩ := hcs
      exact .inl ⟨rfl, [], rfl, by decide⟩
    · simp [Value.cells] at hcs
      obtain ⟨rfl, rfl, rfl⟩ := hcs
      simp only [Value.okWide, Try.underlying34, Cell.okWide, Cell.ok] at hv1
      obtain ⟨_, _, _, hspot, row, n, hsh, _⟩ := hv1
      exact Go.Dp.args_int hspot hsh hl hm hz hcell
  clear hA0 hval0
  simp only [List.append_nil] at hW' hlt
  refine (walk W _ A0 _ A1).mono fun e W' ⟨he, hg⟩ => ?_
  subst he
  exact ⟨_, rfl, _, _, _, [], _, [], hW', trodAll_cons_mk (shut_bool Try.underlying4 _) trodAll_mk0, trodAll_cons_mk (Below.trod laid reads40 row40 k0 hg (fun x hx => hlt x (by simp [hx]))) (trodAll_cons_mk (Below.trod laid reads34 row34 k1 hg (fun x hx => hlt x (by simp [hx]))) trodAll_mk0), rfl, hg.frame _, fun h => by cases h⟩

theorem over : Rows.slotFencesRow.holds Try.pinned (OpenSpec.ofChange Rows.slotFencesSpec) :=
  OpenClaim.holds_of_cond 5 Try.f5 rfl rfl rfl rfl rfl rfl rfl ⟨rfl, rfl, rfl, rfl, rfl⟩ rfl rfl rfl rfl rfl (by kernel_rfl) Try.func5 (by kernel_rfl)
    (of_decide_eq_true (by kernel_rfl)) (by unfold Func.isWrapper; first | (rw [if_pos (by decide +kernel)]; kernel_rfl) | (rw [if_neg (by decide +kernel)]; exact ⟨rfl, rfl⟩))
    (fun os started H enc _ F => by rw [OpenClaim.pre_eq_preRow]; exact lifted os started H enc F)

/-- THE STATEMENT -/
theorem proved : Rows.SlotFencesSaid :=
  over
#print axioms proved
end Go.Proofs.Ytihoblfmhighpaa.slotFences
