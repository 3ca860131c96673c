/- The law WordsKeys: for every list of texts and every text the call returns true and leaves the world as it was but for new memory. Conditions: none. -/
import Derived.Test.YtkjmelfgopammaaRows
import Derived.WalkKit
import Derived.ProofKit
import Derived.OpenShut
import Derived.Below
import Derived.Carry
import Derived.ChangeMaps5
import Derived.SliceStrings
import Derived.Test.YtkjmelfgopammaaQsG
import Derived.Test.YtkjmelfgopammaaWdK
namespace Go.Proofs.Ytkjmelfgopammaa.wordsKeys
open Go.ChangeShapes Go.WideShapes Go.ChangeAt Go.RowKit Go.ChangeMaps
set_option linter.unusedVariables false

theorem own : ownKnob Try.prog.godebug = none := by kernel_rfl
theorem cells9 : Try.prog.cellsOf 9 = 1 := by kernel_rfl
theorem laid : laidOutB Try.prog = true := by kernel_rfl
theorem reads22 : Try.prog.readableRec 22 = true := by kernel_rfl
theorem row22 : 22 < Try.prog.types.size := of_decide_eq_true (by kernel_rfl)

theorem walk_nil (s : ByteArray) (w : World) : Calls Try.prog 7 #[.slice none 0 0, .string s] w fun e w' => e = .returned (.bool true) ∧ Below w.heap.size w w' :=
  Go.Dp.law_of (c := cx) prog_ok lib_ok (g := 7) (f := 7) (by kernel_rfl) (args := [.nils, .str s.data.toList]) (ρ := fun _ => none) (H := Go.Dp.noHeap) (Go.Dp.rel_none cx (fun _ => rfl) w)
    ⟨by rw [Go.Dp.VRel_nils], Go.Dp.VRel_str.2 ⟨s, rfl, rfl⟩, trivial⟩ Go.Dp.Heap.Ok.noHeap (Keys_law .nils [] _ _ (.inl ⟨rfl, rfl⟩) (by simp))

theorem walk_some (a : Addr) (len cap : Nat) (ss : List ByteArray) (s : ByteArray) (w : World) (hspot : a.spot = none) {e : TypeId} {n : Nat} (hsh : w.shape? a.block = some (e, n)) (hl : len ≤ cap) (hm : cap ≤ maxLen) (hss : ss.length = cap)
    (hcell : ∀ i, i < ss.length → w.cell? (a.add i) = some (.string (ss.getD i ByteArray.empty))) : Calls Try.prog 7 #[.slice (some a) len cap, .string s] w fun e w' => e = .returned (.bool true) ∧ Below w.heap.size w w' := by
  obtain ⟨ρ, H, R, hO, _, _, _, hsl, hv⟩ := Go.Dp.arg_slice (c := cx) (Go.Dp.rel_none cx (fun _ => rfl) w) Go.Dp.Heap.Ok.noHeap Go.Dp.Heap.RO.noHeap (a := a) (len := len) (cap := cap)
    (l := Go.Proofs.Ytkjmelfgopammaa.strs ((ss.take len).map fun b => b.data.toList)) hspot (by rw [strs_len, List.length_map, List.length_take]; omega) hl hsh (fun i hi => by
      refine ⟨_, hcell i (by omega), fun x hx => ?_⟩
      unfold Go.Proofs.Ytkjmelfgopammaa.strs at hx
      rw [List.map_map, List.getElem?_map] at hx
      cases h : (ss.take len)[i]? with
      | none => rw [h] at hx; cases hx
      | some b =>
        rw [h] at hx
        cases hx
        have hb : ss[i]? = some b := by
          rw [List.getElem?_take] at h
          split at h
          · exact h
          · cases h
        rw [List.getD_eq_getElem?_getD, hb]
        exact ⟨b, rfl, rfl⟩)
  exact Go.Dp.law_of (c := cx) prog_ok lib_ok (g := 7) (f := 7) (by kernel_rfl) (args := [.sl Go.Dp.noHeap.next 0 len 1, .str s.data.toList]) R ⟨hv, Go.Dp.VRel_str.2 ⟨s, rfl, rfl⟩, trivial⟩ hO (Keys_law _ _ _ _ hsl (by
    rw [List.length_map, List.length_take]
    have : maxLen < 9223372036854775808 := by decide
    omega))

set_option maxRecDepth 100000 in
theorem lifted (os : Os) (started : os.Started) (H : Type) (enc : TypeId × Value → H) :
    ReturnsInHanded {} Try.checked os 7 .any (Rows.wordsKeysSpec.pre6 enc Try.prog Try.f7 Rows.wordsKeysRow.domain false) (Rows.wordsKeysSpec.post enc Try.prog Try.f7 false true false false) := by
  refine returnsInHanded_of_change (C := Try.checked) own started (by kernel_rfl) Try.func7
    (ChangeSpec.witness6 (enc := enc) (C := Try.checked) false ⟨#[], #[.slice none 0 0, .string .empty], []⟩ 8 (by kernel_rfl) (by kernel_rfl) (by kernel_rfl) (by kernel_rfl)) ?_
  intro W base args ds gs before hval0 hW hcnd _
  have hval : ∀ (j : Nat) t v, Try.f7.params[j]? = some t → args[j]? = some v → Value.okWide Try.prog W .any base t v := hval0
  have hW' := hW
  have hlt := hW.lt
  obtain ⟨p, q, hA0, hV, rfl, hfz, hnd⟩ := hW
  have hA : DataW.TrodAll enc Try.prog W 0 (fun _ => true) true Try.f7.params.toList args.toList ds p := hA0
  rw [Try.params7] at hA hval
  obtain ⟨v0, vs0, d0, ds0, p0, q0, hargs, rfl, rfl, h0, r0⟩ := trodAll_cons hA
  obtain ⟨v1, vs1, d1, ds1, p1, q1, rfl, rfl, rfl, h1, r1⟩ := trodAll_cons r0
  obtain ⟨rfl, rfl, rfl⟩ := trodAll_nil r1
  obtain rfl : args = #[v0, v1] := by cases args; simp_all
  obtain ⟨rfl, rfl⟩ := trodVars_none hV
  obtain ⟨s, rfl, rfl, rfl, hs⟩ := open_string Try.underlying9 (hval 1 9 v1 rfl rfl) h1
  have h0' := h0
  have hv0 := hval 0 22 v0 rfl rfl
  obtain ⟨a0, len, cap, rfl⟩ := okWide_slice Try.underlying22 hv0
  have hw : Calls Try.prog 7 #[.slice a0 len cap, .string s] W fun e w' => e = .returned (.bool true) ∧ Below W.heap.size W w' := by
    obtain ⟨fuel, hf⟩ := h0
    rcases open_strings Try.underlying22 Try.underlying9 cells9 hf with ⟨hcs, hx⟩ | ⟨a, len', cap', ss, hcs, _, hl, hm, hz, hx, hcell, hsz⟩
    · simp [Value.cells] at hcs
      obtain ⟨rfl, rfl, rfl⟩ := hcs
      exact walk_nil s W
    · simp [Value.cells] at hcs
      obtain ⟨rfl, rfl, rfl⟩ := hcs
      simp only [Value.okWide, Try.underlying22, Cell.okWide, Cell.ok] at hv0
      obtain ⟨_, _, _, hspot, row, n, hsh, _⟩ := hv0
      exact walk_some a len cap ss s W hspot hsh hl hm hz hcell
  clear hA0 hval0
  simp only [List.append_nil] at hW' hlt
  refine hw.mono fun e W' ⟨he, hg⟩ => ?_
  subst he
  exact ⟨_, rfl, _, _, _, [], _, [], hW', trodAll_cons_mk (shut_bool Try.underlying4 _) trodAll_mk0, trodAll_cons_mk (Below.trod laid reads22 row22 h0' hg (fun x hx => hlt x (by simpa using hx))) (trodAll_cons_mk (shut_string Try.underlying9 hs) trodAll_mk0), rfl, hg.frame _, fun h => by cases h⟩

theorem over : Rows.wordsKeysRow.holds Try.pinned (OpenSpec.ofChange Rows.wordsKeysSpec) :=
  OpenClaim.holds_of_wide 7 Try.f7 rfl rfl rfl rfl rfl rfl rfl ⟨rfl, rfl, rfl, rfl, rfl⟩ rfl rfl rfl rfl rfl (by kernel_rfl) Try.func7 (by kernel_rfl)
    (of_decide_eq_true (by kernel_rfl)) (by unfold Func.isWrapper; first | (rw [if_pos (by decide +kernel)]; kernel_rfl) | (rw [if_neg (by decide +kernel)]; exact ⟨rfl, rfl⟩))
    (fun os started H enc _ => lifted os started H enc)

/-- ████ THE STATEMENT ████ -/
theorem proved : Rows.WordsKeysSaid :=
  over
#print axioms proved
end Go.Proofs.Ytkjmelfgopammaa.wordsKeys
