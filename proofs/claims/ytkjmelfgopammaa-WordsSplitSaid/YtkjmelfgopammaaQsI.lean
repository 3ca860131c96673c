/- Slices among a law's arguments, one behind the other. Conditions: none. -/
import Derived.Test.YtkjmelfgopammaaQsH
namespace Go.Dp
open Go.RowKit

/-- What the row tells of a slice: nil, or memory whose cells read as cs. -/
def ArgS (c : Cx) (W : World) (v : Value) (C : List AV → Prop) : Prop :=
  (v = .slice none 0 0 ∧ C []) ∨ ∃ (a : Addr) (len cap : Nat) (cs : List AV) (e : TypeId) (n : Nat), v = .slice (some a) len cap ∧ a.spot = none ∧ cs.length = len ∧ len ≤ cap ∧ W.shape? a.block = some (e, n) ∧
    (∀ ρ i, i < cap → ∃ x, W.cell? (a.add i) = some x ∧ ∀ y, cs[i]? = some y → SRel c ρ y x) ∧ C cs

theorem arg_any {c : Cx} {ρ : Rho} {H : Heap} {W : World} (R : Rel c W.heap.size ρ H W) (hO : H.Ok) (hro : H.RO) {v : Value} {C : List AV → Prop} (h : ArgS c W v C) :
    ∃ ρ' H' av cs, Rel c W.heap.size ρ' H' W ∧ H'.Ok ∧ H'.RO ∧ Ext ρ ρ' ∧ HLe H H' ∧ Sl H' 1 av cs ∧ VRel c ρ' av v ∧ C cs := by
  rcases h with ⟨rfl, h⟩ | ⟨a, len, cap, cs, e, n, rfl, h1, h2, h3, h4, h5, h6⟩
  · exact ⟨ρ, H, .nils, [], R, hO, hro, Ext.refl _, HLe.refl _, .inl ⟨rfl, rfl⟩, by rw [VRel_nils], h⟩
  · obtain ⟨ρ', H', a1, a2, a3, a4, a5, a6, a7⟩ := arg_slice R hO hro h1 h2 h3 h4 (h5 ρ)
    exact ⟨ρ', H', _, cs, a1, a2, a3, a4, a5, a6, a7, h6⟩

theorem args_str {c : Cx} {W : World} {a : Addr} {len cap : Nat} {ss : List ByteArray} {e : TypeId} {n : Nat} (hspot : a.spot = none) (hsh : W.shape? a.block = some (e, n)) (hl : len ≤ cap) (hm : cap ≤ maxLen) (hss : ss.length = cap)
    (hcell : ∀ i, i < ss.length → W.cell? (a.add i) = some (.string (ss.getD i ByteArray.empty))) :
    ArgS c W (.slice (some a) len cap) fun cs => ∃ l : List (List UInt8), cs = l.map AV.str ∧ l.length < 9223372036854775808 := by
  have : maxLen < 9223372036854775808 := by decide
  refine .inr ⟨a, len, cap, ((ss.take len).map fun b => b.data.toList).map AV.str, e, n, rfl, hspot, by rw [List.length_map, List.length_map, List.length_take]; omega, hl, hsh, fun ρ i hi => ⟨_, hcell i (by omega), fun x hx => ?_⟩, _, rfl, by rw [List.length_map, List.length_take]; omega⟩
  rw [List.map_map, List.getElem?_map] at hx
  cases h : (ss.take len)[i]? with
  | none => rw [h] at hx; cases hx
  | some b =>
    rw [h] at hx
    cases hx
    have hb : ss[i]? = some b := by
      rw [List.getElem?_take] at h
      split at h
      · exact h
      · cases h
    rw [List.getD_eq_getElem?_getD, hb]
    exact ⟨b, rfl, rfl⟩
theorem args_int {c : Cx} {W : World} {a : Addr} {len cap : Nat} {k : IntKind} {zs : List Int} {e : TypeId} {n : Nat} (hspot : a.spot = none) (hsh : W.shape? a.block = some (e, n)) (hl : len ≤ cap) (hm : cap ≤ maxLen) (hss : zs.length = cap)
    (hcell : ∀ i, i < zs.length → W.cell? (a.add i) = some (.int k (zs.getD i 0))) :
    ArgS c W (.slice (some a) len cap) fun cs => ∃ l : List Int, cs = l.map (AV.int k) ∧ l.length < 9223372036854775808 := by
  have : maxLen < 9223372036854775808 := by decide
  refine .inr ⟨a, len, cap, (zs.take len).map (AV.int k), e, n, rfl, hspot, by rw [List.length_map, List.length_take]; omega, hl, hsh, fun ρ i hi => ⟨_, hcell i (by omega), fun x hx => ?_⟩, _, rfl, by rw [List.length_take]; omega⟩
  rw [List.getElem?_map] at hx
  cases h : (zs.take len)[i]? with
  | none => rw [h] at hx; cases hx
  | some b =>
    rw [h] at hx
    cases hx
    have hb : zs[i]? = some b := by
      rw [List.getElem?_take] at h
      split at h
      · exact h
      · cases h
    rw [List.getD_eq_getElem?_getD, hb]
    exact rfl
theorem args_nil_str {c : Cx} {W : World} : ArgS c W (.slice none 0 0) fun cs => ∃ l : List (List UInt8), cs = l.map AV.str ∧ l.length < 9223372036854775808 := .inl ⟨rfl, [], rfl, by decide⟩
theorem args_nil_int {c : Cx} {W : World} {k : IntKind} : ArgS c W (.slice none 0 0) fun cs => ∃ l : List Int, cs = l.map (AV.int k) ∧ l.length < 9223372036854775808 := .inl ⟨rfl, [], rfl, by decide⟩
end Go.Dp
