/- The law ParseCuts: for every text and list of numbers the call returns true and leaves the world as it was but for new memory. Conditions: none. -/
import Derived.Test.YtkjmelfgopammaaRows
import Derived.WalkKit
import Derived.ProofKit
import Derived.OpenShut
import Derived.Below
import Derived.Carry
import Derived.ChangeMaps5
import Derived.SliceStrings
import Derived.ChangeSlices
import Derived.Test.YtkjmelfgopammaaQsJ
import Derived.Test.YtkjmelfgopammaaPaM
namespace Go.Proofs.Ytkjmelfgopammaa.parseCuts
open Go.ChangeShapes Go.WideShapes Go.ChangeAt Go.RowKit Go.ChangeMaps
set_option linter.unusedVariables false

theorem own : ownKnob Try.prog.godebug = none := by kernel_rfl
theorem cells3 : Try.prog.cellsOf 3 = 1 := by kernel_rfl
theorem laid : laidOutB Try.prog = true := by kernel_rfl
theorem reads41 : Try.prog.readableRec 41 = true := by kernel_rfl
theorem row41 : 41 < Try.prog.types.size := of_decide_eq_true (by kernel_rfl)

theorem walk (s : ByteArray) (v1 : Value) (w : World) (h1 : Go.Dp.ArgS cx w v1 fun cs => ∃ l : List Int, cs = l.map (Go.Dp.AV.int .i64) ∧ l.length < 9223372036854775808) :
    Calls Try.prog 10 #[.string s, v1] w fun e w' => e = .returned (.bool true) ∧ Below w.heap.size w w' := by
  obtain ⟨ρ1, H1, av1, cs1, R1, o1, ro1, x1, le1, s1, r1, l, rfl, hl⟩ := Go.Dp.arg_any (c := cx) (Go.Dp.rel_none cx (fun _ => rfl) w) Go.Dp.Heap.Ok.noHeap Go.Dp.Heap.RO.noHeap h1
  exact Go.Dp.law_of (c := cx) prog_ok lib_ok (g := 10) (f := 10) (by kernel_rfl) (args := [.str s.data.toList, av1]) R1
    ⟨Go.Dp.VRel_str.2 ⟨s, rfl, rfl⟩, r1, trivial⟩ o1 (PCuts_law _ av1 l _ s1 hl)

set_option maxRecDepth 100000 in
theorem lifted (os : Os) (started : os.Started) (H : Type) (enc : TypeId × Value → H) :
    ReturnsInHanded {} Try.checked os 10 .any (Rows.parseCutsSpec.pre6 enc Try.prog Try.f10 Rows.parseCutsRow.domain false) (Rows.parseCutsSpec.post enc Try.prog Try.f10 false true false false) := by
  refine returnsInHanded_of_change (C := Try.checked) own started (by kernel_rfl) Try.func10
    (ChangeSpec.witness6 (enc := enc) (C := Try.checked) false ⟨#[], #[.string .empty, .slice none 0 0], []⟩ 8 (by kernel_rfl) (by kernel_rfl) (by kernel_rfl) (by kernel_rfl)) ?_
  intro W base args ds gs before hval0 hW hcnd _
  have hval : ∀ (j : Nat) t v, Try.f10.params[j]? = some t → args[j]? = some v → Value.okWide Try.prog W .any base t v := hval0
  have hW' := hW
  have hlt := hW.lt
  obtain ⟨p, q, hA0, hV, rfl, hfz, hnd⟩ := hW
  have hA : DataW.TrodAll enc Try.prog W 0 (fun _ => true) true Try.f10.params.toList args.toList ds p := hA0
  rw [Try.params10] at hA hval
  obtain ⟨v0, vs0, d0, ds0, p0, q0, hargs, rfl, rfl, h0, r0⟩ := trodAll_cons hA
  obtain ⟨v1, vs1, d1, ds1, p1, q1, rfl, rfl, rfl, h1, r1⟩ := trodAll_cons r0
  obtain ⟨rfl, rfl, rfl⟩ := trodAll_nil r1
  obtain rfl : args = #[v0, v1] := by cases args; simp_all
  obtain ⟨rfl, rfl⟩ := trodVars_none hV
  obtain ⟨s, rfl, rfl, rfl, hs⟩ := open_string Try.underlying9 (hval 0 9 v0 rfl rfl) h0
  have h2' := h1
  have hv2 := hval 1 41 v1 rfl rfl
  obtain ⟨a2, len2, cap2, rfl⟩ := okWide_slice Try.underlying41 hv2
  have A2 : Go.Dp.ArgS cx W (.slice a2 len2 cap2) fun cs => ∃ l : List Int, cs = l.map (Go.Dp.AV.int .i64) ∧ l.length < 9223372036854775808 := by
    obtain ⟨fuel, hf⟩ := h1
    rcases open_ints Try.underlying41 Try.underlying3 cells3 hf with ⟨hcs, hx⟩ | ⟨a, len', cap', ss, hcs, _, hl, hm, hz, hx, hcell, hsz⟩
    · simp [Value.cells] at hcs
      obtain ⟨rfl, rfl, rfl⟩ := hcs
      exact Go.Dp.args_nil_int
    · simp [Value.cells] at hcs
      obtain ⟨rfl, rfl, rfl⟩ := hcs
      simp only [Value.okWide, Try.underlying41, Cell.okWide, Cell.ok] at hv2
      obtain ⟨_, _, _, hspot, row, n, hsh, _⟩ := hv2
      exact Go.Dp.args_int hspot hsh hl hm hz hcell
  clear hA0 hval0
  simp only [List.append_nil] at hW' hlt
  refine (walk s _ W A2).mono fun e W' ⟨he, hg⟩ => ?_
  subst he
  exact ⟨_, rfl, _, _, _, [], _, [], hW', trodAll_cons_mk (shut_bool Try.underlying4 _) trodAll_mk0, trodAll_cons_mk (shut_string Try.underlying9 hs) (trodAll_cons_mk (Below.trod laid reads41 row41 h2' hg (fun x hx => hlt x (by simp [hx]))) trodAll_mk0), rfl, hg.frame _, fun h => by cases h⟩

theorem over : Rows.parseCutsRow.holds Try.pinned (OpenSpec.ofChange Rows.parseCutsSpec) :=
  OpenClaim.holds_of_wide 10 Try.f10 rfl rfl rfl rfl rfl rfl rfl ⟨rfl, rfl, rfl, rfl, rfl⟩ rfl rfl rfl rfl rfl (by kernel_rfl) Try.func10 (by kernel_rfl)
    (of_decide_eq_true (by kernel_rfl)) (by unfold Func.isWrapper; first | (rw [if_pos (by decide +kernel)]; kernel_rfl) | (rw [if_neg (by decide +kernel)]; exact ⟨rfl, rfl⟩))
    (fun os started H enc _ => lifted os started H enc)

/-- ████ THE STATEMENT ████ -/
theorem proved : Rows.ParseCutsSaid :=
  over
#print axioms proved
end Go.Proofs.Ytkjmelfgopammaa.parseCuts
