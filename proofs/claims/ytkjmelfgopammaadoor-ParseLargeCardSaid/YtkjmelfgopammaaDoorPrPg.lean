/- The law ParseLarge and its tied card: for every argument the call returns true and leaves the world as it was but for new memory. Conditions: the row's own list of tables. The row's step began as UptoLaidToy.lean; the walk is our own. -/
import Derived.Test.YtkjmelfgopammaaDoorCards
import Derived.Test.YtkjmelfgopammaaDoorTie
import Derived.WalkKit
import Derived.ProofKit
import Derived.OpenShut
import Derived.Below
import Derived.Carry
import Derived.Deep.DeepHandedRow
import Derived.Test.YtkjmelfgopammaaDoorStT
import Derived.Test.YtkjmelfgopammaaDoorStL
namespace Go.Proofs.YtkjmelfgopammaaDoor.parseLarge
open Go.ChangeShapes Go.WideShapes Go.ChangeAt Go.RowKit
set_option linter.unusedVariables false

theorem own : ownKnob Tryd.prog.godebug = none := by kernel_rfl

theorem walk (w : World) (hL : laidMet Tryd.prog tabs w) (x0 : Int) (x1 : Int) (x2 : Bool) (x3 : Nat) (hx3 : x3 < 256) : Calls Tryd.prog 9 #[.int .i64 x0, .int .i64 x1, .bool x2, .int .u8 (x3 : Int)] w fun e w' => e = .returned (.bool true) ∧ Below w.heap.size w w' := by
  obtain ⟨t, e, hW⟩ := tab_cells hL
  have R0 : Go.Dp.Rel cx w.heap.size _ (Go.Dp.noHeap.new (.cells powC 0)) w := Go.Dp.Rel.tab (g := 0) (fun x b h => by
    have h : (bif Nat.beq x 0 then some 0 else none) = some b := h
    cases hx : Nat.beq x 0 with
    | false => rw [hx] at h; cases h
    | true => rw [hx] at h; cases h; exact ⟨Nat.eq_of_beq_eq_true hx, rfl⟩) hW rfl (fun ρ i x h => by
    rw [powC_eq, List.getElem?_map] at h
    cases hp : pows[i]? with
    | none => rw [hp] at h; cases h
    | some z =>
      rw [hp] at h
      cases h
      exact ⟨.int .u64 z, by simp [hp], rfl⟩)
  have o0 : (Go.Dp.noHeap.new (.cells powC 0)).Ok := Go.Dp.Heap.Ok.noHeap.new _
  have ro0 : (Go.Dp.noHeap.new (.cells powC 0)).RO := Go.Dp.Heap.RO.noHeap.new _
  have tab0 : Tab (Go.Dp.noHeap.new (.cells powC 0)) := Go.Dp.Heap.get_new_self _ _
  exact Go.Dp.law_of (c := cx) prog_ok lib_ok (g := 9) (f := 9) (by kernel_rfl) (args := [.int .i64 x0, .int .i64 x1, .bool x2, .int .u8 (.ofNat x3)]) R0
    ⟨by rw [Go.Dp.VRel_int], by rw [Go.Dp.VRel_int], by rw [Go.Dp.VRel_bool], by rw [Go.Dp.VRel_int]; rfl, trivial⟩ o0 (Large_law x0 x1 x2 x3 hx3 _ tab0)

set_option maxRecDepth 100000 in
theorem contract (H : Type) (enc : TypeId × Value → H) (W : World) (base : Nat) (args : Array Value) (ds gs : List (DataW H)) (before : List MemPlace) (hL : laidMet Tryd.prog tabs W)
    (hval : ∀ (j : Nat) t v, Tryd.f9.params[j]? = some t → args[j]? = some v → Value.okWide Tryd.prog W .any base t v)
    (hW : DataW.Whole enc Tryd.prog Tryd.f9.params.toList Rows.parseLargeSpec.vars false W args.toList ds gs before) :
    Calls Tryd.prog 9 args W fun e W' => ∃ v, e = .returned v ∧ Rows.parseLargeSpec.post enc Tryd.prog Tryd.f9 false true false false W args v W' := by
  have hW' := hW
  have hlt := hW.lt
  obtain ⟨p, q, hA0, hV, rfl, hfz, hnd⟩ := hW
  have hA : DataW.TrodAll enc Tryd.prog W 0 (fun _ => true) true Tryd.f9.params.toList args.toList ds p := hA0
  rw [Tryd.params9] at hA hval
  obtain ⟨v0, vs0, d0, ds0, p0, q0, hargs, rfl, rfl, h0, r0⟩ := trodAll_cons hA
  obtain ⟨v1, vs1, d1, ds1, p1, q1, rfl, rfl, rfl, h1, r1⟩ := trodAll_cons r0
  obtain ⟨v2, vs2, d2, ds2, p2, q2, rfl, rfl, rfl, h2, r2⟩ := trodAll_cons r1
  obtain ⟨v3, vs3, d3, ds3, p3, q3, rfl, rfl, rfl, h3, r3⟩ := trodAll_cons r2
  obtain ⟨rfl, rfl, rfl⟩ := trodAll_nil r3
  obtain rfl : args = #[v0, v1, v2, v3] := by cases args; simp_all
  obtain ⟨rfl, rfl⟩ := trodVars_none hV
  obtain ⟨x0, rfl, rfl, rfl, hx0⟩ := open_int Tryd.underlying3 (hval 0 3 v0 rfl rfl) h0
  obtain ⟨x1, rfl, rfl, rfl, hx1⟩ := open_int Tryd.underlying3 (hval 1 3 v1 rfl rfl) h1
  obtain ⟨x2, rfl, rfl, rfl⟩ := open_bool Tryd.underlying4 (hval 2 4 v2 rfl rfl) h2
  obtain ⟨y3, rfl, rfl, rfl, hx3⟩ := open_int Tryd.underlying5 (hval 3 5 v3 rfl rfl) h3
  have hy3 := hx3
  simp only [Lit.wf, Bool.and_eq_true, decide_eq_true_eq] at hy3
  have hz3 : (0 : Int) ≤ y3 := hy3.1
  have hu3 : y3 ≤ 255 := hy3.2
  obtain ⟨x3, rfl⟩ := Int.eq_ofNat_of_zero_le hz3
  clear hA0
  simp only [List.append_nil] at hW' hlt
  refine (walk W hL x0 x1 x2 x3 (by omega)).mono fun e W' ⟨he, hg⟩ => ?_
  subst he
  exact ⟨_, rfl, _, _, _, [], _, [], hW', trodAll_cons_mk (shut_bool Tryd.underlying4 _) trodAll_mk0, trodAll_cons_mk (shut_int Tryd.underlying3 hx0) (trodAll_cons_mk (shut_int Tryd.underlying3 hx1) (trodAll_cons_mk (shut_bool Tryd.underlying4 x2) (trodAll_cons_mk (shut_int Tryd.underlying5 hx3) trodAll_mk0))), rfl, hg.frame _, fun h => by cases h⟩

/-- The cells of a table. -/
def cellsOf : DataW Unit → Array Value
  | .agg l => (l.map fun
    | .lit (.int k n) => Value.int k n
    | _ => undef).toArray
  | _ => #[]
def lay (cs : Array Value) : Obj → Obj
  | .cells _ t frozen => .cells cs t frozen
  | o => o

/-- A world for the witness: the settled one, the tables laid. -/
noncomputable def laidWorld (os : Os) : World :=
  { World.holding Tryd.prog os ⟨#[], #[.int .i64 0, .int .i64 0, .bool false, .int .u8 0], []⟩ with heap := ((((World.holding Tryd.prog os ⟨#[], #[.int .i64 0, .int .i64 0, .bool false, .int .u8 0], []⟩).heap.modify 1 (lay (cellsOf Rows.laid_math_bits_deBruijn32tab))).modify 2 (lay (cellsOf Rows.laid_math_bits_deBruijn64tab))).modify 0 (lay (cellsOf Rows.laid_internal_strconv_uint64pow10))) }
theorem laid_met (os : Os) : laidMet Tryd.prog Rows.parseLargeRow.laid ((laidWorld os).forCall (fun _ _ => 0) ⟨#[], #[.int .i64 0, .int .i64 0, .bool false, .int .u8 0], []⟩).memory :=
  laidMet_of_run' 8 (by kernel_rfl) (by kernel_rfl)
theorem reads (os : Os) {H : Type} (enc : TypeId × Value → H) : ∃ places, DataW.whole enc Tryd.prog ((laidWorld os).forCall (fun _ _ => 0) ⟨#[], #[.int .i64 0, .int .i64 0, .bool false, .int .u8 0], []⟩).memory Tryd.f9.params.toList Rows.parseLargeSpec.vars false (#[.int .i64 0, .int .i64 0, .bool false, .int .u8 0] : Array Value).toList 8 = some ([.lit (.int .i64 0), .lit (.int .i64 0), .lit (.bool false), .lit (.int .u8 0)], [], places) :=
  ⟨[], by kernel_rfl⟩

set_option maxRecDepth 100000 in
theorem lifted (os : Os) (started : os.Started) (H : Type) (enc : TypeId × Value → H) (F : Stop.Interp) :
    ReturnsInHanded {} Tryd.checked os 9 .any ((OpenSpec.ofChange Rows.parseLargeSpec).preRow enc Tryd.prog Tryd.f9 Rows.parseLargeRow.domain false Rows.parseLargeRow.laid) (((OpenSpec.ofChange Rows.parseLargeSpec).at F).post enc Tryd.prog Tryd.f9 false true false false) := by
  obtain ⟨places, hx⟩ := reads os enc
  refine returnsInHanded_of_row (C := Tryd.checked) (s := OpenSpec.ofChange Rows.parseLargeSpec) own started (by kernel_rfl) Tryd.func9
    (witness_row_at (enc := enc) (C := Tryd.checked) false (laidWorld os) #[.int .i64 0, .int .i64 0, .bool false, .int .u8 0] rfl (by kernel_rfl) (by kernel_rfl) (by kernel_rfl)
      (OpenSpec.preRow_of_cond 8 hx (by kernel_rfl) (fun k hk => by cases hk) (by kernel_rfl) (laid_met os))) ?_
  intro W base args ds gs before hval hW _ _ _ hL _ _
  exact contract H enc W base args ds gs before hL hval hW

theorem said : Rows.ParseLargeSaid :=
  OpenClaim.holds_of_cond 9 Tryd.f9 rfl rfl rfl rfl rfl rfl rfl ⟨rfl, rfl, rfl, rfl, rfl⟩ rfl rfl rfl rfl rfl (by kernel_rfl) Tryd.func9 (by kernel_rfl)
    (of_decide_eq_true (by kernel_rfl)) (by unfold Func.isWrapper; first | (rw [if_pos (by decide +kernel)]; kernel_rfl) | (rw [if_neg (by decide +kernel)]; exact ⟨rfl, rfl⟩))
    (fun os started H enc _ F => by rw [OpenClaim.pre_eq_preRow]; exact lifted os started H enc F)

/-- No parameter wants a stand-in; the program's own looks are off: what the card asks. -/
theorem plain (f : FuncId) (fn : Func) (hf : Tryd.pinned.checked.prog.funcNamed "depot/depotlaw13.ParseLarge" = some f) (hfn : Tryd.pinned.checked.prog.funcs[f]? = some fn) :
    false = Tryd.pinned.checked.prog.looks [] ∧ ∀ (j : Nat) t, fn.params[j]? = some t → Tryd.pinned.checked.prog.wantsStandIn t = false := by
  obtain rfl : f = 9 := Option.some.inj ((show Tryd.prog.funcNamed "depot/depotlaw13.ParseLarge" = some 9 by kernel_rfl).symm.trans hf) |>.symm
  obtain rfl : fn = Tryd.f9 := (Option.some.inj (Tryd.func9.symm.trans hfn)).symm
  refine ⟨by kernel_rfl, fun j t ht => ?_⟩
  rw [Tryd.params9] at ht
  have ht : [3, 3, 4, 5][j]? = some t := by simpa using ht
  have hall : ∀ x, x ∈ ([3, 3, 4, 5] : List TypeId) → Tryd.prog.wantsStandIn x = false := by
    intro x hx
    simp only [List.mem_cons, List.not_mem_nil, or_false] at hx
    rcases hx with rfl | rfl | rfl | rfl <;> kernel_rfl
  exact hall t (List.mem_of_getElem? ht)

theorem proved : Rows.ParseLargeCardSaid :=
  Claim7.holds_tied_plain_at .later [] _ _ _ _ said (fun _ h => by cases h) (by kernel_rfl) (fun _ h => by cases h) parseLarge_row_tie rfl ⟨rfl, rfl⟩ (by kernel_rfl) rfl plain (by kernel_rfl)
#print axioms proved
end Go.Proofs.YtkjmelfgopammaaDoor.parseLarge
