/- The law AnswerTells and its tied card: for every argument the call returns true and leaves the world as it was but for new memory. Conditions: the row's own list of tables. The row's step began as UptoLaidToy.lean; the walk is our own. -/
import Derived.Test.YtkjmelfgopammaaDoorCards
import Derived.Test.YtkjmelfgopammaaDoorTie
import Derived.WalkKit
import Derived.ProofKit
import Derived.OpenShut
import Derived.Below
import Derived.Carry
import Derived.Deep.DeepHandedRow
import Derived.SliceStrings
import Derived.ChangeSlices
import Derived.Test.YtkjmelfgopammaaDoorStT
import Derived.Test.YtkjmelfgopammaaDoorAnR
import Derived.Test.YtkjmelfgopammaaDoorAnN
namespace Go.Proofs.YtkjmelfgopammaaDoor.answerTells
open Go.ChangeShapes Go.WideShapes Go.ChangeAt Go.RowKit
set_option linter.unusedVariables false

theorem own : ownKnob Tryd.prog.godebug = none := by kernel_rfl
theorem laid : laidOutB Tryd.prog = true := by kernel_rfl
theorem reads28 : Tryd.prog.readableRec 28 = true := by kernel_rfl
theorem row28 : 28 < Tryd.prog.types.size := of_decide_eq_true (by kernel_rfl)

theorem walk (w : World) (hL : laidMet Tryd.prog tabs w) (v0 : Value) (a0 : ArgA w v0) (x1 : Bool) : Calls Tryd.prog 6 #[v0, .bool x1] w fun e w' => e = .returned (.bool true) ∧ Below w.heap.size w w' := by
  obtain ⟨t, e, hW⟩ := tab_cells hL
  have R0 : Go.Dp.Rel cx w.heap.size _ (Go.Dp.noHeap.new (.cells powC 0)) w := Go.Dp.Rel.tab (g := 0) (fun x b h => by
    have h : (bif Nat.beq x 0 then some 0 else none) = some b := h
    cases hx : Nat.beq x 0 with
    | false => rw [hx] at h; cases h
    | true => rw [hx] at h; cases h; exact ⟨Nat.eq_of_beq_eq_true hx, rfl⟩) hW rfl (fun ρ i x h => by
    rw [powC_eq, List.getElem?_map] at h
    cases hp : pows[i]? with
    | none => rw [hp] at h; cases h
    | some z =>
      rw [hp] at h
      cases h
      exact ⟨.int .u64 z, by simp [hp], rfl⟩)
  have o0 : (Go.Dp.noHeap.new (.cells powC 0)).Ok := Go.Dp.Heap.Ok.noHeap.new _
  have ro0 : (Go.Dp.noHeap.new (.cells powC 0)).RO := Go.Dp.Heap.RO.noHeap.new _
  have tab0 : Tab (Go.Dp.noHeap.new (.cells powC 0)) := Go.Dp.Heap.get_new_self _ _
  obtain ⟨ρ0, H0, av0, y0, R0', o0, ro0, ex0, le0, s0, q0, k0⟩ := arg_ans R0 o0 ro0 a0
  have r0 := q0 _ (Go.Dp.Ext.refl _)
  exact Go.Dp.law_of (c := cx) prog_ok lib_ok (g := 6) (f := 6) (by kernel_rfl) (args := [.agg (y0.cells av0), .bool x1]) R0'
    ⟨r0, by rw [Go.Dp.VRel_bool], trivial⟩ o0 (Tells_law y0 x1 av0 _ (tab0.mono le0) k0 s0)

set_option maxRecDepth 100000 in
theorem contract (H : Type) (enc : TypeId × Value → H) (W : World) (base : Nat) (args : Array Value) (ds gs : List (DataW H)) (before : List MemPlace) (hL : laidMet Tryd.prog tabs W)
    (hval : ∀ (j : Nat) t v, Tryd.f6.params[j]? = some t → args[j]? = some v → Value.okWide Tryd.prog W .any base t v)
    (hW : DataW.Whole enc Tryd.prog Tryd.f6.params.toList Rows.answerTellsSpec.vars false W args.toList ds gs before) (hw : (DataW.weightsEach Tryd.prog [28, 4] (ds ++ gs)).all (fun n => decide (n ≤ reachBytes)) = true) :
    Calls Tryd.prog 6 args W fun e W' => ∃ v, e = .returned v ∧ Rows.answerTellsSpec.post enc Tryd.prog Tryd.f6 false true false false W args v W' := by
  have hW' := hW
  have hlt := hW.lt
  obtain ⟨p, q, hA0, hV, rfl, hfz, hnd⟩ := hW
  have hA : DataW.TrodAll enc Tryd.prog W 0 (fun _ => true) true Tryd.f6.params.toList args.toList ds p := hA0
  rw [Tryd.params6] at hA hval
  obtain ⟨v0, vs0, d0, ds0, p0, q0, hargs, rfl, rfl, h0, r0⟩ := trodAll_cons hA
  obtain ⟨v1, vs1, d1, ds1, p1, q1, rfl, rfl, rfl, h1, r1⟩ := trodAll_cons r0
  obtain ⟨rfl, rfl, rfl⟩ := trodAll_nil r1
  obtain rfl : args = #[v0, v1] := by cases args; simp_all
  obtain ⟨rfl, rfl⟩ := trodVars_none hV
  simp only [List.append_nil] at hw
  obtain ⟨hw0, hx0'⟩ := wt_cons hw
  obtain ⟨hw1, hx1'⟩ := wt_cons hx0'
  have k0 := h0
  have A0 : ArgA W v0 := open_answer (hval 0 28 v0 rfl rfl) h0 hw0
  obtain ⟨x1, rfl, rfl, rfl⟩ := open_bool Tryd.underlying4 (hval 1 4 v1 rfl rfl) h1
  clear hA0
  simp only [List.append_nil] at hW' hlt
  refine (walk W hL _ A0 x1).mono fun e W' ⟨he, hg⟩ => ?_
  subst he
  exact ⟨_, rfl, _, _, _, [], _, [], hW', trodAll_cons_mk (shut_bool Tryd.underlying4 _) trodAll_mk0, trodAll_cons_mk (Below.trod laid reads28 row28 k0 hg (fun x hx => hlt x (by simp [hx]))) (trodAll_cons_mk (shut_bool Tryd.underlying4 x1) trodAll_mk0), rfl, hg.frame _, fun h => by cases h⟩

/-- The cells of a table. -/
def cellsOf : DataW Unit → Array Value
  | .agg l => (l.map fun
    | .lit (.int k n) => Value.int k n
    | _ => undef).toArray
  | _ => #[]
def lay (cs : Array Value) : Obj → Obj
  | .cells _ t frozen => .cells cs t frozen
  | o => o

/-- A world for the witness: the settled one, the tables laid. -/
noncomputable def laidWorld (os : Os) : World :=
  { World.holding Tryd.prog os ⟨#[], #[.agg #[.int .i64 0, .slice none 0 0, .bool false, .int .u64 0, .string .empty, .int .i64 0, .int .i64 0, .int .i64 0, .int .i64 0], .bool false], []⟩ with heap := ((((World.holding Tryd.prog os ⟨#[], #[.agg #[.int .i64 0, .slice none 0 0, .bool false, .int .u64 0, .string .empty, .int .i64 0, .int .i64 0, .int .i64 0, .int .i64 0], .bool false], []⟩).heap.modify 1 (lay (cellsOf Rows.laid_math_bits_deBruijn32tab))).modify 2 (lay (cellsOf Rows.laid_math_bits_deBruijn64tab))).modify 0 (lay (cellsOf Rows.laid_internal_strconv_uint64pow10))) }
theorem laid_met (os : Os) : laidMet Tryd.prog Rows.answerTellsRow.laid ((laidWorld os).forCall (fun _ _ => 0) ⟨#[], #[.agg #[.int .i64 0, .slice none 0 0, .bool false, .int .u64 0, .string .empty, .int .i64 0, .int .i64 0, .int .i64 0, .int .i64 0], .bool false], []⟩).memory :=
  laidMet_of_run' 8 (by kernel_rfl) (by kernel_rfl)
theorem reads (os : Os) {H : Type} (enc : TypeId × Value → H) : ∃ places, DataW.whole enc Tryd.prog ((laidWorld os).forCall (fun _ _ => 0) ⟨#[], #[.agg #[.int .i64 0, .slice none 0 0, .bool false, .int .u64 0, .string .empty, .int .i64 0, .int .i64 0, .int .i64 0, .int .i64 0], .bool false], []⟩).memory Tryd.f6.params.toList Rows.answerTellsSpec.vars false (#[.agg #[.int .i64 0, .slice none 0 0, .bool false, .int .u64 0, .string .empty, .int .i64 0, .int .i64 0, .int .i64 0, .int .i64 0], .bool false] : Array Value).toList 8 = some ([.agg [.lit (.int .i64 0), .nil, .lit (.bool false), .lit (.int .u64 0), .lit (.string []), .agg [.lit (.int .i64 0), .lit (.int .i64 0), .lit (.int .i64 0), .lit (.int .i64 0)]], .lit (.bool false)], [], places) :=
  ⟨[], by kernel_rfl⟩

set_option maxRecDepth 100000 in
theorem lifted (os : Os) (started : os.Started) (H : Type) (enc : TypeId × Value → H) (F : Stop.Interp) :
    ReturnsInHanded {} Tryd.checked os 6 .any ((OpenSpec.ofChange Rows.answerTellsSpec).preRow enc Tryd.prog Tryd.f6 Rows.answerTellsRow.domain false Rows.answerTellsRow.laid) (((OpenSpec.ofChange Rows.answerTellsSpec).at F).post enc Tryd.prog Tryd.f6 false true false false) := by
  obtain ⟨places, hx⟩ := reads os enc
  refine returnsInHanded_of_row (C := Tryd.checked) (s := OpenSpec.ofChange Rows.answerTellsSpec) own started (by kernel_rfl) Tryd.func6
    (witness_row_at (enc := enc) (C := Tryd.checked) false (laidWorld os) #[.agg #[.int .i64 0, .slice none 0 0, .bool false, .int .u64 0, .string .empty, .int .i64 0, .int .i64 0, .int .i64 0, .int .i64 0], .bool false] rfl (by kernel_rfl) (by kernel_rfl) (by kernel_rfl)
      (OpenSpec.preRow_of_cond 8 hx (by kernel_rfl) (fun k hk => by cases hk) (by kernel_rfl) (laid_met os))) ?_
  intro W base args ds gs before hval hW _ _ hwt hL _ _
  have eT : Tryd.f6.params.toList ++ (OpenSpec.ofChange Rows.answerTellsSpec).bare.plain.varTypes Tryd.prog = [28, 4] := by kernel_rfl
  have hwt' : (DataW.weightsEach Tryd.prog [28, 4] (ds ++ gs)).all (fun n => decide (n ≤ reachBytes)) = true := by
    rw [← eT]
    exact hwt
  exact contract H enc W base args ds gs before hL hval hW hwt'

theorem said : Rows.AnswerTellsSaid :=
  OpenClaim.holds_of_cond 6 Tryd.f6 rfl rfl rfl rfl rfl rfl rfl ⟨rfl, rfl, rfl, rfl, rfl⟩ rfl rfl rfl rfl rfl (by kernel_rfl) Tryd.func6 (by kernel_rfl)
    (of_decide_eq_true (by kernel_rfl)) (by unfold Func.isWrapper; first | (rw [if_pos (by decide +kernel)]; kernel_rfl) | (rw [if_neg (by decide +kernel)]; exact ⟨rfl, rfl⟩))
    (fun os started H enc _ F => by rw [OpenClaim.pre_eq_preRow]; exact lifted os started H enc F)

/-- No parameter wants a stand-in; the program's own looks are off: what the card asks. -/
theorem plain (f : FuncId) (fn : Func) (hf : Tryd.pinned.checked.prog.funcNamed "depot/depotlaw14.AnswerTells" = some f) (hfn : Tryd.pinned.checked.prog.funcs[f]? = some fn) :
    false = Tryd.pinned.checked.prog.looks [] ∧ ∀ (j : Nat) t, fn.params[j]? = some t → Tryd.pinned.checked.prog.wantsStandIn t = false := by
  obtain rfl : f = 6 := Option.some.inj ((show Tryd.prog.funcNamed "depot/depotlaw14.AnswerTells" = some 6 by kernel_rfl).symm.trans hf) |>.symm
  obtain rfl : fn = Tryd.f6 := (Option.some.inj (Tryd.func6.symm.trans hfn)).symm
  refine ⟨by kernel_rfl, fun j t ht => ?_⟩
  rw [Tryd.params6] at ht
  have ht : [28, 4][j]? = some t := by simpa using ht
  have hall : ∀ x, x ∈ ([28, 4] : List TypeId) → Tryd.prog.wantsStandIn x = false := by
    intro x hx
    simp only [List.mem_cons, List.not_mem_nil, or_false] at hx
    rcases hx with rfl | rfl <;> kernel_rfl
  exact hall t (List.mem_of_getElem? ht)

theorem proved : Rows.AnswerTellsCardSaid :=
  Claim7.holds_tied_plain_at .later [] _ _ _ _ said (fun _ h => by cases h) (by kernel_rfl) (fun _ h => by cases h) answerTells_row_tie rfl ⟨rfl, rfl⟩ (by kernel_rfl) rfl plain (by kernel_rfl)
#print axioms proved
end Go.Proofs.YtkjmelfgopammaaDoor.answerTells
