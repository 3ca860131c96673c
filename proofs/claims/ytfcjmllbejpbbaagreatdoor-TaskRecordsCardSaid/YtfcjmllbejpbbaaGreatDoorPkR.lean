/- A record among a law's arguments. Conditions: none. -/
import Derived.Test.YtfcjmllbejpbbaaGreatDoorPkJ
import Derived.Test.YtfcjmllbejpbbaaGreatDoorRows
import Derived.OpenShut
import Derived.ChangeMaps5
import Derived.Deep.Slices
namespace Go.Proofs.YtfcjmllbejpbbaaGreatDoor
open Go.Dp
set_option maxRecDepth 8000

def ArgRec (v : Value) : Prop := ∃ a : List Int, RecOk a ∧ v = .agg (a.map (Value.int .i64)).toArray
theorem arg_rec {c : Cx} {v : Value} (h : ArgRec v) : ∃ a : List Int, RecOk a ∧ ∀ {ρ : Rho}, VRel c ρ (.agg (a.map (.int .i64))) v := by
  obtain ⟨a, ha, rfl⟩ := h
  obtain ⟨x0, x1, x2, x3, x4, rfl⟩ := ha.mk5
  exact ⟨_, ha, fun {ρ} => ⟨_, rfl, rfl, rfl, rfl, rfl, rfl, trivial⟩⟩

theorem open_rec {H : Type} {enc : TypeId × Value → H} {W : World} {base : Nat} {v : Value} {d : DataW H} {ps : List MemPlace} (hv : Value.okWide Tryz.prog W .any base 23 v) (h : DataW.Trod enc Tryz.prog W 0 (fun _ => true) true 23 v d ps) : ArgRec v := by
  have c3 : Tryz.prog.cellsOf 3 = 1 := by kernel_rfl
  have c23 : Tryz.prog.cellsOf 23 = 5 := by kernel_rfl
  have hct : Tryz.prog.cellTypes Tryz.prog.depth 23 = some [3, 3, 3, 3, 3] := by kernel_rfl
  simp only [Value.okWide, Tryz.underlying23] at hv
  obtain ⟨cs, rfl, hsz, ts, hts, _, hcw⟩ := hv
  obtain rfl : [3, 3, 3, 3, 3] = ts := Option.some.inj (hct.symm.trans hts)
  rw [c23] at hsz
  obtain ⟨cs⟩ := cs
  match cs, hsz with
  | [v0, v1, v2, v3, v4], _ =>
    obtain ⟨fuel, h⟩ := h
    obtain ⟨xs, k, rfl, hxy, _, hxl, hf⟩ := DataW.trod_struct Tryz.underlying23 h
    match xs, hxl with
    | [y0, y1, y2, y3, y4], _ =>
      have f0 := hf 0 _ rfl
      have f1 := hf 1 _ rfl
      have f2 := hf 2 _ rfl
      have f3 := hf 3 _ rfl
      have f4 := hf 4 _ rfl
      simp [Value.cells, c3] at f0 f1 f2 f3 f4
      obtain ⟨z0, q0, _, g0⟩ := DataW.trod_int Tryz.underlying3 f0
      obtain ⟨z1, q1, _, g1⟩ := DataW.trod_int Tryz.underlying3 f1
      obtain ⟨z2, q2, _, g2⟩ := DataW.trod_int Tryz.underlying3 f2
      obtain ⟨z3, q3, _, g3⟩ := DataW.trod_int Tryz.underlying3 f3
      obtain ⟨z4, q4, _, g4⟩ := DataW.trod_int Tryz.underlying3 f4
      simp only [List.cons.injEq, and_true] at q0 q1 q2 q3 q4
      subst q0 q1 q2 q3 q4
      simp only [Lit.wf, Bool.and_eq_true, decide_eq_true_eq] at g0 g1 g2 g3 g4
      refine ⟨[z0, z1, z2, z3, z4], ⟨rfl, fun x hx => ?_⟩, rfl⟩
      simp only [List.mem_cons, List.not_mem_nil, or_false] at hx
      rcases hx with rfl | rfl | rfl | rfl | rfl
      · exact g0
      · exact g1
      · exact g2
      · exact g3
      · exact g4
theorem sz_lt {x : ByteArray} (h : x.size ≤ maxLen) : x.data.toList.length < 9223372036854775808 := by
  have h2 : maxLen < 9223372036854775808 := by decide
  have e : x.data.toList.length = x.size := Array.length_toList
  omega
end Go.Proofs.YtfcjmllbejpbbaaGreatDoor
