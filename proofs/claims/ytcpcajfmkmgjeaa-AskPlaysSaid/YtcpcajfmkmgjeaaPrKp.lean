/- The law AskPlays: for every argument the call returns true and leaves the world as it was but for new memory. Conditions: none. -/
import Derived.Test.YtcpcajfmkmgjeaaRows
import Derived.WalkKit
import Derived.ProofKit
import Derived.OpenShut
import Derived.Below
import Derived.Carry
import Derived.Deep.DeepHandedRow
import Derived.ChangeSlices
import Derived.Test.YtcpcajfmkmgjeaaQsJ
import Derived.Test.YtcpcajfmkmgjeaaAkZ
namespace Go.Proofs.Ytcpcajfmkmgjeaa.askPlays
open Go.ChangeShapes Go.WideShapes Go.ChangeAt Go.RowKit
set_option linter.unusedVariables false

theorem own : ownKnob Try.prog.godebug = none := by kernel_rfl
theorem laid : laidOutB Try.prog = true := by kernel_rfl
theorem reads40 : Try.prog.readableRec 40 = true := by kernel_rfl
theorem row40 : 40 < Try.prog.types.size := of_decide_eq_true (by kernel_rfl)

theorem walk (w : World) (v0 : Value) (a0 : ArgQ w v0) : Calls Try.prog 6 #[v0] w fun e w' => e = .returned (.bool true) ∧ Below w.heap.size w w' := by
  obtain ⟨ρ0, H0, av0, l0, R0', o0, ro0, ex0, le0, s0, r0, k0⟩ := arg_q (Go.Dp.rel_none cx (fun _ => rfl) w) Go.Dp.Heap.Ok.noHeap Go.Dp.Heap.RO.noHeap a0
  exact Go.Dp.law_of (c := cx) prog_ok lib_ok (g := 6) (f := 6) (by kernel_rfl) (args := [av0]) R0'
    ⟨r0, trivial⟩ o0 (Plays_law av0 l0 _ s0 k0.1 k0.2)

set_option maxRecDepth 100000 in
theorem lifted (os : Os) (started : os.Started) (H : Type) (enc : TypeId × Value → H) (F : Stop.Interp) :
    ReturnsInHanded {} Try.checked os 6 .any ((OpenSpec.ofChange Rows.askPlaysSpec).preRow enc Try.prog Try.f6 Rows.askPlaysRow.domain false Rows.askPlaysRow.laid) (((OpenSpec.ofChange Rows.askPlaysSpec).at F).post enc Try.prog Try.f6 false true false false) := by
  refine returnsInHanded_of_row (C := Try.checked) (s := OpenSpec.ofChange Rows.askPlaysSpec) own started (by kernel_rfl) Try.func6
    (witness_row_at (enc := enc) (C := Try.checked) false (World.holding Try.prog os ⟨#[], #[.slice none 0 0], []⟩) #[.slice none 0 0] rfl (by kernel_rfl) (by kernel_rfl) (by kernel_rfl)
      (OpenSpec.preRow_of_cond 8 (show DataW.whole enc Try.prog _ Try.f6.params.toList Rows.askPlaysSpec.vars false (#[.slice none 0 0] : Array Value).toList 8 = some ([.nil], [], []) by kernel_rfl) (by kernel_rfl) (fun k hk => by cases hk) (by kernel_rfl) (show laidMet _ [] _ from ⟨[], rfl, List.nodup_nil, fun _ _ h => by cases h⟩))) ?_
  intro W base args ds gs before hval0 hW _ _ hwt0 _ _ _
  have eT : Try.f6.params.toList ++ (OpenSpec.ofChange Rows.askPlaysSpec).bare.plain.varTypes Try.prog = [40] := by kernel_rfl
  have hw : (DataW.weightsEach Try.prog [40] (ds ++ gs)).all (fun n => decide (n ≤ reachBytes)) = true := by
    rw [← eT]
    exact hwt0
  have hval : ∀ (j : Nat) t v, Try.f6.params[j]? = some t → args[j]? = some v → Value.okWide Try.prog W .any base t v := hval0
  have hW' := hW
  have hlt := hW.lt
  obtain ⟨p, q, hA0, hV, rfl, hfz, hnd⟩ := hW
  have hA : DataW.TrodAll enc Try.prog W 0 (fun _ => true) true Try.f6.params.toList args.toList ds p := hA0
  rw [Try.params6] at hA hval
  obtain ⟨v0, vs0, d0, ds0, p0, q0, hargs, rfl, rfl, h0, r0⟩ := trodAll_cons hA
  obtain ⟨rfl, rfl, rfl⟩ := trodAll_nil r0
  obtain rfl : args = #[v0] := by cases args; simp_all
  obtain ⟨rfl, rfl⟩ := trodVars_none hV
  simp only [List.append_nil] at hw
  obtain ⟨hw0, hx0'⟩ := wt_cons hw
  have k0 := h0
  have A0 : ArgQ W v0 := open_q (hval 0 40 v0 rfl rfl) h0 hw0
  clear hA0 hval0
  simp only [List.append_nil] at hW' hlt
  refine (walk W _ A0).mono fun e W' ⟨he, hg⟩ => ?_
  subst he
  exact ⟨_, rfl, _, _, _, [], _, [], hW', trodAll_cons_mk (shut_bool Try.underlying4 _) trodAll_mk0, trodAll_cons_mk (Below.trod laid reads40 row40 k0 hg (fun x hx => hlt x (by simp [hx]))) trodAll_mk0, rfl, hg.frame _, fun h => by cases h⟩

theorem over : Rows.askPlaysRow.holds Try.pinned (OpenSpec.ofChange Rows.askPlaysSpec) :=
  OpenClaim.holds_of_cond 6 Try.f6 rfl rfl rfl rfl rfl rfl rfl ⟨rfl, rfl, rfl, rfl, rfl⟩ rfl rfl rfl rfl rfl (by kernel_rfl) Try.func6 (by kernel_rfl)
    (of_decide_eq_true (by kernel_rfl)) (by unfold Func.isWrapper; first | (rw [if_pos (by decide +kernel)]; kernel_rfl) | (rw [if_neg (by decide +kernel)]; exact ⟨rfl, rfl⟩))
    (fun os started H enc _ F => by rw [OpenClaim.pre_eq_preRow]; exact lifted os started H enc F)

/-- THE STATEMENT -/
theorem proved : Rows.AskPlaysSaid :=
  over
#print axioms proved
end Go.Proofs.Ytcpcajfmkmgjeaa.askPlays
