/- The law AnswerValues and its tied card: for every argument the call returns true and leaves the world as it was but for new memory. Conditions: the row's own list of tables. The row's step began as UptoLaidToy.lean; the walk is our own. -/
import Derived.Test.YtkjmelfgopammaaDoorCards
import Derived.Test.YtkjmelfgopammaaDoorTie
import Derived.WalkKit
import Derived.ProofKit
import Derived.OpenShut
import Derived.Below
import Derived.Carry
import Derived.Deep.DeepHandedRow
import Derived.SliceStrings
import Derived.ChangeSlices
import Derived.Test.YtkjmelfgopammaaDoorStT
import Derived.Test.YtkjmelfgopammaaDoorAnR
import Derived.Test.YtkjmelfgopammaaDoorAnK
namespace Go.Proofs.YtkjmelfgopammaaDoor.answerValues
open Go.ChangeShapes Go.WideShapes Go.ChangeAt Go.RowKit
set_option linter.unusedVariables false

theorem own : ownKnob Tryd.prog.godebug = none := by kernel_rfl
theorem laid : laidOutB Tryd.prog = true := by kernel_rfl
theorem reads24 : Tryd.prog.readableRec 24 = true := by kernel_rfl
theorem row24 : 24 < Tryd.prog.types.size := of_decide_eq_true (by kernel_rfl)

theorem walk (w : World) (hL : laidMet Tryd.prog tabs w) (v0 : Value) (a0 : Go.Dp.ArgR cx 4 w v0 FdB) (v1 : Value) (a1 : Go.Dp.ArgR cx 4 w v1 FdB) (x2 : Bool) : Calls Tryd.prog 4 #[v0, v1, .bool x2] w fun e w' => e = .returned (.bool true) ∧ Below w.heap.size w w' := by
  obtain ⟨t, e, hW⟩ := tab_cells hL
  have R0 : Go.Dp.Rel cx w.heap.size _ (Go.Dp.noHeap.new (.cells powC 0)) w := Go.Dp.Rel.tab (g := 0) (fun x b h => by
    have h : (bif Nat.beq x 0 then some 0 else none) = some b := h
    cases hx : Nat.beq x 0 with
    | false => rw [hx] at h; cases h
    | true => rw [hx] at h; cases h; exact ⟨Nat.eq_of_beq_eq_true hx, rfl⟩) hW rfl (fun ρ i x h => by
    rw [powC_eq, List.getElem?_map] at h
    cases hp : pows[i]? with
    | none => rw [hp] at h; cases h
    | some z =>
      rw [hp] at h
      cases h
      exact ⟨.int .u64 z, by simp [hp], rfl⟩)
  have o0 : (Go.Dp.noHeap.new (.cells powC 0)).Ok := Go.Dp.Heap.Ok.noHeap.new _
  have ro0 : (Go.Dp.noHeap.new (.cells powC 0)).RO := Go.Dp.Heap.RO.noHeap.new _
  have tab0 : Tab (Go.Dp.noHeap.new (.cells powC 0)) := Go.Dp.Heap.get_new_self _ _
  obtain ⟨ρ0, H0, av0, cs0, R0', o0, ro0, ex0, le0, s0, q0, r0, l0, rfl, k0⟩ := Go.Dp.arg_r R0 o0 ro0 (by decide) a0
  obtain ⟨ρ1, H1, av1, cs1, R1', o1, ro1, ex1, le1, s1, q1, r1, l1, rfl, k1⟩ := Go.Dp.arg_r R0' o0 ro0 (by decide) a1
  exact Go.Dp.law_of (c := cx) prog_ok lib_ok (g := 4) (f := 4) (by kernel_rfl) (args := [av0, av1, .bool x2]) R1'
    ⟨(r0).ext ex1, r1, by rw [Go.Dp.VRel_bool], trivial⟩ o1 (Values_law l0 l1 x2 av0 av1 _ ((tab0.mono le0).mono le1) k0.1 k1.1 k0.2 k1.2 (s0.mono le1) s1)

set_option maxRecDepth 100000 in
theorem contract (H : Type) (enc : TypeId × Value → H) (W : World) (base : Nat) (args : Array Value) (ds gs : List (DataW H)) (before : List MemPlace) (hL : laidMet Tryd.prog tabs W)
    (hval : ∀ (j : Nat) t v, Tryd.f4.params[j]? = some t → args[j]? = some v → Value.okWide Tryd.prog W .any base t v)
    (hW : DataW.Whole enc Tryd.prog Tryd.f4.params.toList Rows.answerValuesSpec.vars false W args.toList ds gs before) (hw : (DataW.weightsEach Tryd.prog [24, 24, 4] (ds ++ gs)).all (fun n => decide (n ≤ reachBytes)) = true) :
    Calls Tryd.prog 4 args W fun e W' => ∃ v, e = .returned v ∧ Rows.answerValuesSpec.post enc Tryd.prog Tryd.f4 false true false false W args v W' := by
  have hW' := hW
  have hlt := hW.lt
  obtain ⟨p, q, hA0, hV, rfl, hfz, hnd⟩ := hW
  have hA : DataW.TrodAll enc Tryd.prog W 0 (fun _ => true) true Tryd.f4.params.toList args.toList ds p := hA0
  rw [Tryd.params4] at hA hval
  obtain ⟨v0, vs0, d0, ds0, p0, q0, hargs, rfl, rfl, h0, r0⟩ := trodAll_cons hA
  obtain ⟨v1, vs1, d1, ds1, p1, q1, rfl, rfl, rfl, h1, r1⟩ := trodAll_cons r0
  obtain ⟨v2, vs2, d2, ds2, p2, q2, rfl, rfl, rfl, h2, r2⟩ := trodAll_cons r1
  obtain ⟨rfl, rfl, rfl⟩ := trodAll_nil r2
  obtain rfl : args = #[v0, v1, v2] := by cases args; simp_all
  obtain ⟨rfl, rfl⟩ := trodVars_none hV
  simp only [List.append_nil] at hw
  obtain ⟨hw0, hx0'⟩ := wt_cons hw
  obtain ⟨hw1, hx1'⟩ := wt_cons hx0'
  obtain ⟨hw2, hx2'⟩ := wt_cons hx1'
  have k0 := h0
  have hv0 := hval 0 24 v0 rfl rfl
  obtain ⟨a0, len0, cap0, rfl⟩ := okWide_slice Tryd.underlying24 hv0
  have A0 : Go.Dp.ArgR cx 4 W (.slice a0 len0 cap0) FdB := by
    obtain ⟨fuel, hf⟩ := h0
    have hc : Cell.okWide Tryd.prog W .any base 24 (.slice a0 len0 cap0) := by
      have h := hv0
      simp only [Value.okWide, Tryd.underlying24] at h
      exact h
    exact open_founds hc hf hw0
  have k1 := h1
  have hv1 := hval 1 24 v1 rfl rfl
  obtain ⟨a1, len1, cap1, rfl⟩ := okWide_slice Tryd.underlying24 hv1
  have A1 : Go.Dp.ArgR cx 4 W (.slice a1 len1 cap1) FdB := by
    obtain ⟨fuel, hf⟩ := h1
    have hc : Cell.okWide Tryd.prog W .any base 24 (.slice a1 len1 cap1) := by
      have h := hv1
      simp only [Value.okWide, Tryd.underlying24] at h
      exact h
    exact open_founds hc hf hw1
  obtain ⟨x2, rfl, rfl, rfl⟩ := open_bool Tryd.underlying4 (hval 2 4 v2 rfl rfl) h2
  clear hA0
  simp only [List.append_nil] at hW' hlt
  refine (walk W hL _ A0 _ A1 x2).mono fun e W' ⟨he, hg⟩ => ?_
  subst he
  exact ⟨_, rfl, _, _, _, [], _, [], hW', trodAll_cons_mk (shut_bool Tryd.underlying4 _) trodAll_mk0, trodAll_cons_mk (Below.trod laid reads24 row24 k0 hg (fun x hx => hlt x (by simp [hx]))) (trodAll_cons_mk (Below.trod laid reads24 row24 k1 hg (fun x hx => hlt x (by simp [hx]))) (trodAll_cons_mk (shut_bool Tryd.underlying4 x2) trodAll_mk0)), rfl, hg.frame _, fun h => by cases h⟩

/-- The cells of a table. -/
def cellsOf : DataW Unit → Array Value
  | .agg l => (l.map fun
    | .lit (.int k n) => Value.int k n
    | _ => undef).toArray
  | _ => #[]
def lay (cs : Array Value) : Obj → Obj
  | .cells _ t frozen => .cells cs t frozen
  | o => o

/-- A world for the witness: the settled one, the tables laid. -/
noncomputable def laidWorld (os : Os) : World :=
  { World.holding Tryd.prog os ⟨#[], #[.slice none 0 0, .slice none 0 0, .bool false], []⟩ with heap := ((((World.holding Tryd.prog os ⟨#[], #[.slice none 0 0, .slice none 0 0, .bool false], []⟩).heap.modify 1 (lay (cellsOf Rows.laid_math_bits_deBruijn32tab))).modify 2 (lay (cellsOf Rows.laid_math_bits_deBruijn64tab))).modify 0 (lay (cellsOf Rows.laid_internal_strconv_uint64pow10))) }
theorem laid_met (os : Os) : laidMet Tryd.prog Rows.answerValuesRow.laid ((laidWorld os).forCall (fun _ _ => 0) ⟨#[], #[.slice none 0 0, .slice none 0 0, .bool false], []⟩).memory :=
  laidMet_of_run' 8 (by kernel_rfl) (by kernel_rfl)
theorem reads (os : Os) {H : Type} (enc : TypeId × Value → H) : ∃ places, DataW.whole enc Tryd.prog ((laidWorld os).forCall (fun _ _ => 0) ⟨#[], #[.slice none 0 0, .slice none 0 0, .bool false], []⟩).memory Tryd.f4.params.toList Rows.answerValuesSpec.vars false (#[.slice none 0 0, .slice none 0 0, .bool false] : Array Value).toList 8 = some ([.nil, .nil, .lit (.bool false)], [], places) :=
  ⟨[], by kernel_rfl⟩

set_option maxRecDepth 100000 in
theorem lifted (os : Os) (started : os.Started) (H : Type) (enc : TypeId × Value → H) (F : Stop.Interp) :
    ReturnsInHanded {} Tryd.checked os 4 .any ((OpenSpec.ofChange Rows.answerValuesSpec).preRow enc Tryd.prog Tryd.f4 Rows.answerValuesRow.domain false Rows.answerValuesRow.laid) (((OpenSpec.ofChange Rows.answerValuesSpec).at F).post enc Tryd.prog Tryd.f4 false true false false) := by
  obtain ⟨places, hx⟩ := reads os enc
  refine returnsInHanded_of_row (C := Tryd.checked) (s := OpenSpec.ofChange Rows.answerValuesSpec) own started (by kernel_rfl) Tryd.func4
    (witness_row_at (enc := enc) (C := Tryd.checked) false (laidWorld os) #[.slice none 0 0, .slice none 0 0, .bool false] rfl (by kernel_rfl) (by kernel_rfl) (by kernel_rfl)
      (OpenSpec.preRow_of_cond 8 hx (by kernel_rfl) (fun k hk => by cases hk) (by kernel_rfl) (laid_met os))) ?_
  intro W base args ds gs before hval hW _ _ hwt hL _ _
  have eT : Tryd.f4.params.toList ++ (OpenSpec.ofChange Rows.answerValuesSpec).bare.plain.varTypes Tryd.prog = [24, 24, 4] := by kernel_rfl
  have hwt' : (DataW.weightsEach Tryd.prog [24, 24, 4] (ds ++ gs)).all (fun n => decide (n ≤ reachBytes)) = true := by
    rw [← eT]
    exact hwt
  exact contract H enc W base args ds gs before hL hval hW hwt'

theorem said : Rows.AnswerValuesSaid :=
  OpenClaim.holds_of_cond 4 Tryd.f4 rfl rfl rfl rfl rfl rfl rfl ⟨rfl, rfl, rfl, rfl, rfl⟩ rfl rfl rfl rfl rfl (by kernel_rfl) Tryd.func4 (by kernel_rfl)
    (of_decide_eq_true (by kernel_rfl)) (by unfold Func.isWrapper; first | (rw [if_pos (by decide +kernel)]; kernel_rfl) | (rw [if_neg (by decide +kernel)]; exact ⟨rfl, rfl⟩))
    (fun os started H enc _ F => by rw [OpenClaim.pre_eq_preRow]; exact lifted os started H enc F)

/-- No parameter wants a stand-in; the program's own looks are off: what the card asks. -/
theorem plain (f : FuncId) (fn : Func) (hf : Tryd.pinned.checked.prog.funcNamed "depot/depotlaw14.AnswerValues" = some f) (hfn : Tryd.pinned.checked.prog.funcs[f]? = some fn) :
    false = Tryd.pinned.checked.prog.looks [] ∧ ∀ (j : Nat) t, fn.params[j]? = some t → Tryd.pinned.checked.prog.wantsStandIn t = false := by
  obtain rfl : f = 4 := Option.some.inj ((show Tryd.prog.funcNamed "depot/depotlaw14.AnswerValues" = some 4 by kernel_rfl).symm.trans hf) |>.symm
  obtain rfl : fn = Tryd.f4 := (Option.some.inj (Tryd.func4.symm.trans hfn)).symm
  refine ⟨by kernel_rfl, fun j t ht => ?_⟩
  rw [Tryd.params4] at ht
  have ht : [24, 24, 4][j]? = some t := by simpa using ht
  have hall : ∀ x, x ∈ ([24, 24, 4] : List TypeId) → Tryd.prog.wantsStandIn x = false := by
    intro x hx
    simp only [List.mem_cons, List.not_mem_nil, or_false] at hx
    rcases hx with rfl | rfl | rfl <;> kernel_rfl
  exact hall t (List.mem_of_getElem? ht)

theorem proved : Rows.AnswerValuesCardSaid :=
  Claim7.holds_tied_plain_at .later [] _ _ _ _ said (fun _ h => by cases h) (by kernel_rfl) (fun _ h => by cases h) answerValues_row_tie rfl ⟨rfl, rfl⟩ (by kernel_rfl) rfl plain (by kernel_rfl)
#print axioms proved
end Go.Proofs.YtkjmelfgopammaaDoor.answerValues
