/- The law ClusterIgnores and its tied card: for every argument the call returns true and leaves the world as it was but for new memory. Conditions: the row's own list of tables. The row's step began as UptoLaidToy.lean; the walk is our own. -/
import Derived.Test.YtobnlhfgebfebaaGreatDoorCards
import Derived.Test.YtobnlhfgebfebaaGreatDoorTie
import Derived.WalkKit
import Derived.ProofKit
import Derived.OpenShut
import Derived.Below
import Derived.Carry
import Derived.Deep.DeepHandedRow
import Derived.SliceStrings
import Derived.ChangeSlices
import Derived.Lib.LaidTab
import Derived.Test.YtobnlhfgebfebaaGreatDoorIgM
namespace Go.Proofs.YtobnlhfgebfebaaGreatDoor.clusterIgnores
open Go.ChangeMaps Go.ChangeShapes Go.WideShapes Go.ChangeAt Go.RowKit
set_option linter.unusedVariables false

theorem own : ownKnob Tryz.prog.godebug = none := by kernel_rfl
def tabs : List (String × DataW Unit) := [("math/bits.deBruijn32tab", Rows.laid_math_bits_deBruijn32tab), ("math/bits.deBruijn64tab", Rows.laid_math_bits_deBruijn64tab), ("internal/strconv.uint64pow10", Rows.laid_internal_strconv_uint64pow10)]
theorem laid : laidOutB Tryz.prog = true := by kernel_rfl
theorem reads27 : Tryz.prog.readableRec 27 = true := by kernel_rfl
theorem row27 : 27 < Tryz.prog.types.size := of_decide_eq_true (by kernel_rfl)
theorem reads36 : Tryz.prog.readableRec 36 = true := by kernel_rfl
theorem row36 : 36 < Tryz.prog.types.size := of_decide_eq_true (by kernel_rfl)

theorem walk (w : World) (hL : laidMet Tryz.prog tabs w) (v0 : Value) (a0 : ArgCfg v0) (v1 : Value) (a1 : ArgQ w v1) : Calls Tryz.prog 4 #[v0, v1] w fun e w' => e = .returned (.bool true) ∧ Below w.heap.size w w' := by
  obtain ⟨c00, c01, c02, c03, c04, c05, r0⟩ := arg_cfg (c := cx) a0
  obtain ⟨ρ1, X1, av1, cs1, R1', o1, ro1, ex1, s1, r1, ⟨l1, rfl, k1⟩, n1⟩ := Go.Dp.arg_x (Go.Dp.rel_none cx (fun _ => rfl) w) Go.Dp.Heap.Ok.noHeap Go.Dp.Heap.RO.noHeap (by decide) a1
  exact Go.Dp.law_of (c := cx) prog_ok lib_ok (g := 4) (f := 4) (by kernel_rfl) (args := [.agg [.int .i64 c00, .int .i64 c01, .int .i64 c02, .int .i64 c03, .int .i64 c04, .int .i64 c05], av1]) R1'
    ⟨r0, r1, trivial⟩ o1 (Ignores_law _ _ _ _ _ _ l1 k1 X1 av1 s1)

set_option maxRecDepth 100000 in
theorem contract (H : Type) (enc : TypeId × Value → H) (W : World) (base : Nat) (args : Array Value) (ds gs : List (DataW H)) (before : List MemPlace) (hL : laidMet Tryz.prog tabs W)
    (hval : ∀ (j : Nat) t v, Tryz.f4.params[j]? = some t → args[j]? = some v → Value.okWide Tryz.prog W .any base t v)
    (hW : DataW.Whole enc Tryz.prog Tryz.f4.params.toList Rows.clusterIgnoresSpec.vars false W args.toList ds gs before) (hw : (DataW.weightsEach Tryz.prog [27, 36] (ds ++ gs)).all (fun n => decide (n ≤ reachBytes)) = true) :
    Calls Tryz.prog 4 args W fun e W' => ∃ v, e = .returned v ∧ Rows.clusterIgnoresSpec.post enc Tryz.prog Tryz.f4 false true false false W args v W' := by
  have hW' := hW
  have hlt := hW.lt
  obtain ⟨p, q, hA0, hV, rfl, hfz, hnd⟩ := hW
  have hA : DataW.TrodAll enc Tryz.prog W 0 (fun _ => true) true Tryz.f4.params.toList args.toList ds p := hA0
  rw [Tryz.params4] at hA hval
  obtain ⟨v0, vs0, d0, ds0, p0, q0, hargs, rfl, rfl, h0, r0⟩ := trodAll_cons hA
  obtain ⟨v1, vs1, d1, ds1, p1, q1, rfl, rfl, rfl, h1, r1⟩ := trodAll_cons r0
  obtain ⟨rfl, rfl, rfl⟩ := trodAll_nil r1
  obtain rfl : args = #[v0, v1] := by cases args; simp_all
  obtain ⟨rfl, rfl⟩ := trodVars_none hV
  simp only [List.append_nil] at hw
  obtain ⟨hw0, hx0'⟩ := wt_cons hw
  obtain ⟨hw1, hx1'⟩ := wt_cons hx0'
  have k0 := h0
  have A0 : ArgCfg v0 := open_cfg (hval 0 27 v0 rfl rfl) h0
  have k1 := h1
  have A1 : ArgQ W v1 := open_q (hval 1 36 v1 rfl rfl) h1 hw1
  clear hA0
  simp only [List.append_nil] at hW' hlt
  refine (walk W hL _ A0 _ A1).mono fun e W' ⟨he, hg⟩ => ?_
  subst he
  exact ⟨_, rfl, _, _, _, [], _, [], hW', trodAll_cons_mk (shut_bool Tryz.underlying4 _) trodAll_mk0, trodAll_cons_mk (Below.trod laid reads27 row27 k0 hg (fun x hx => hlt x (by simp [hx]))) (trodAll_cons_mk (Below.trod laid reads36 row36 k1 hg (fun x hx => hlt x (by simp [hx]))) trodAll_mk0), rfl, hg.frame _, fun h => by cases h⟩

/-- The cells of a table. -/
def cellsOf : DataW Unit → Array Value
  | .agg l => (l.map fun
    | .lit (.int k n) => Value.int k n
    | _ => undef).toArray
  | _ => #[]
def lay (cs : Array Value) : Obj → Obj
  | .cells _ t frozen => .cells cs t frozen
  | o => o

/-- A world for the witness: the settled one, the tables laid. -/
noncomputable def laidWorld (os : Os) : World :=
  { World.holding Tryz.prog os ⟨#[], #[.agg #[.int .i64 0, .int .i64 0, .int .i64 0, .int .i64 0, .int .i64 0, .int .i64 0], .slice none 0 0], []⟩ with heap := ((((World.holding Tryz.prog os ⟨#[], #[.agg #[.int .i64 0, .int .i64 0, .int .i64 0, .int .i64 0, .int .i64 0, .int .i64 0], .slice none 0 0], []⟩).heap.modify 2 (lay (cellsOf Rows.laid_math_bits_deBruijn32tab))).modify 3 (lay (cellsOf Rows.laid_math_bits_deBruijn64tab))).modify 0 (lay (cellsOf Rows.laid_internal_strconv_uint64pow10))) }
theorem laid_met (os : Os) : laidMet Tryz.prog Rows.clusterIgnoresRow.laid ((laidWorld os).forCall (fun _ _ => 0) ⟨#[], #[.agg #[.int .i64 0, .int .i64 0, .int .i64 0, .int .i64 0, .int .i64 0, .int .i64 0], .slice none 0 0], []⟩).memory :=
  laidMet_of_run' 8 (by kernel_rfl) (by kernel_rfl)
theorem reads (os : Os) {H : Type} (enc : TypeId × Value → H) : ∃ places, DataW.whole enc Tryz.prog ((laidWorld os).forCall (fun _ _ => 0) ⟨#[], #[.agg #[.int .i64 0, .int .i64 0, .int .i64 0, .int .i64 0, .int .i64 0, .int .i64 0], .slice none 0 0], []⟩).memory Tryz.f4.params.toList Rows.clusterIgnoresSpec.vars false (#[.agg #[.int .i64 0, .int .i64 0, .int .i64 0, .int .i64 0, .int .i64 0, .int .i64 0], .slice none 0 0] : Array Value).toList 8 = some ([.agg [.lit (.int .i64 0), .lit (.int .i64 0), .lit (.int .i64 0), .lit (.int .i64 0), .lit (.int .i64 0), .lit (.int .i64 0)], .nil], [], places) :=
  ⟨[], by kernel_rfl⟩

set_option maxHeartbeats 0 in
set_option maxRecDepth 100000 in
theorem lifted (os : Os) (started : os.Started) (H : Type) (enc : TypeId × Value → H) (F : Stop.Interp) :
    ReturnsInHanded {} Tryz.checked os 4 .any ((OpenSpec.ofChange Rows.clusterIgnoresSpec).preRow enc Tryz.prog Tryz.f4 Rows.clusterIgnoresRow.domain false Rows.clusterIgnoresRow.laid) (((OpenSpec.ofChange Rows.clusterIgnoresSpec).at F).post enc Tryz.prog Tryz.f4 false true false false) := by
  obtain ⟨places, hx⟩ := reads os enc
  refine returnsInHanded_of_row (C := Tryz.checked) (s := OpenSpec.ofChange Rows.clusterIgnoresSpec) own started (by kernel_rfl) Tryz.func4
    (witness_row_at (enc := enc) (C := Tryz.checked) false (laidWorld os) #[.agg #[.int .i64 0, .int .i64 0, .int .i64 0, .int .i64 0, .int .i64 0, .int .i64 0], .slice none 0 0] rfl (by kernel_rfl) (by kernel_rfl) (by kernel_rfl)
      (OpenSpec.preRow_of_cond 8 hx (by kernel_rfl) (fun k hk => by cases hk) (by kernel_rfl) (laid_met os))) ?_
  intro W base args ds gs before hval hW _ _ hwt hL _ _
  have eT : Tryz.f4.params.toList ++ (OpenSpec.ofChange Rows.clusterIgnoresSpec).bare.plain.varTypes Tryz.prog = [27, 36] := by kernel_rfl
  have hwt' : (DataW.weightsEach Tryz.prog [27, 36] (ds ++ gs)).all (fun n => decide (n ≤ reachBytes)) = true := by
    rw [← eT]
    exact hwt
  exact contract H enc W base args ds gs before hL hval hW hwt'

set_option maxHeartbeats 0 in
theorem closed : joinedFacts Tryz.pinned.checked.prog 4 Tryz.f4 (OpenSpec.ofChange Rows.clusterIgnoresSpec).bare Rows.clusterIgnoresRow = true := by
  unfold joinedFacts
  simp only [Bool.and_eq_true]
  repeat' (refine And.intro ?_ ?_)
  all_goals (as_aux_lemma => kernel_rfl)

set_option maxHeartbeats 0 in
theorem said : Rows.ClusterIgnoresSaid :=
  OpenClaim.holds_of_cond 4 Tryz.f4 rfl rfl rfl rfl rfl rfl rfl ⟨rfl, rfl, rfl, rfl, rfl⟩ rfl rfl rfl rfl rfl (by kernel_rfl) Tryz.func4 closed
    (of_decide_eq_true (by kernel_rfl)) (by unfold Func.isWrapper; first | (rw [if_pos (by decide +kernel)]; kernel_rfl) | (rw [if_neg (by decide +kernel)]; exact ⟨rfl, rfl⟩))
    (fun os started H enc _ F => by rw [OpenClaim.pre_eq_preRow]; exact lifted os started H enc F)

/-- No parameter wants a stand-in; the program's own looks are off: what the card asks. -/
theorem plain (f : FuncId) (fn : Func) (hf : Tryz.pinned.checked.prog.funcNamed "depot/depotlaw24.ClusterIgnores" = some f) (hfn : Tryz.pinned.checked.prog.funcs[f]? = some fn) :
    false = Tryz.pinned.checked.prog.looks [] ∧ ∀ (j : Nat) t, fn.params[j]? = some t → Tryz.pinned.checked.prog.wantsStandIn t = false := by
  obtain rfl : f = 4 := Option.some.inj ((show Tryz.prog.funcNamed "depot/depotlaw24.ClusterIgnores" = some 4 by kernel_rfl).symm.trans hf) |>.symm
  obtain rfl : fn = Tryz.f4 := (Option.some.inj (Tryz.func4.symm.trans hfn)).symm
  refine ⟨by kernel_rfl, fun j t ht => ?_⟩
  rw [Tryz.params4] at ht
  have ht : [27, 36][j]? = some t := by simpa using ht
  have hall : ∀ x, x ∈ ([27, 36] : List TypeId) → Tryz.prog.wantsStandIn x = false := by
    intro x hx
    simp only [List.mem_cons, List.not_mem_nil, or_false] at hx
    rcases hx with rfl | rfl <;> kernel_rfl
  exact hall t (List.mem_of_getElem? ht)

set_option maxHeartbeats 0 in
theorem proved : Rows.ClusterIgnoresCardSaid :=
  Claim7.holds_tied_plain_at .later [] _ _ _ _ said (fun _ h => by cases h) (by kernel_rfl) (fun _ h => by cases h) clusterIgnores_row_tie rfl ⟨rfl, rfl⟩ (by kernel_rfl) rfl plain (by kernel_rfl)
#print axioms proved
end Go.Proofs.YtobnlhfgebfebaaGreatDoor.clusterIgnores
