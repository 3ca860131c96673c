/- strconv's table: from the row's list of tables to the clean machine's first heap. Conditions: none. -/
import Derived.Test.YtihoblfmhighpaaDoorStA
import Derived.Test.YtihoblfmhighpaaDoorRows
import Derived.Lib.LaidTab
namespace Go.Proofs.YtihoblfmhighpaaDoor
open Go.Dp

def pows : List Int := [1, 10, 100, 1000, 10000, 100000, 1000000, 10000000, 100000000, 1000000000, 10000000000, 100000000000, 1000000000000, 10000000000000, 100000000000000, 1000000000000000, 10000000000000000, 100000000000000000, 1000000000000000000, 10000000000000000000]
theorem powC_eq : powC = pows.map (AV.int .u64) := rfl
def tabs : List (String × DataW Unit) := [("math/bits.deBruijn32tab", Rows.laid_math_bits_deBruijn32tab), ("math/bits.deBruijn64tab", Rows.laid_math_bits_deBruijn64tab), ("internal/strconv.uint64pow10", Rows.laid_internal_strconv_uint64pow10)]
theorem tab_cells {W : World} (h : laidMet Tryd.prog tabs W) : ∃ t e, W.heap[0]? = some (.cells (pows.map fun z => Value.int .u64 z).toArray t e) := by
  obtain ⟨ps, ⟨g1, t1, c1, f1, p1, q1, _, _, _, _, ⟨g2, t2, c2, f2, p2, q2, _, _, _, _, ⟨g, t, cs, fuel, p, q, hg, ht, hvar, hd, _, _⟩, _⟩, _⟩, _⟩ := h
  obtain rfl : g = 0 := (Option.some.inj ((show Tryd.prog.globalNamed "internal/strconv.uint64pow10" = some 0 by kernel_rfl).symm.trans hg)).symm
  obtain ⟨e, hu, he, hce, hct⟩ : ∃ e, Tryd.prog.underlying t = some (.array 20 e) ∧ Tryd.prog.underlying e = some (.int .u64) ∧ Tryd.prog.cellsOf e = 1 ∧ Tryd.prog.cellsOf t = 20 := by
    obtain ⟨t0, ht0⟩ : ∃ t0, (Tryd.prog.globals[0]?).map (·.type) = some t0 := ⟨t, ht⟩
    obtain rfl := Option.some.inj (ht0.symm.trans ht)
    have h1 : (Tryd.prog.globals[0]?).map (·.type) = some 118 := by kernel_rfl
    obtain rfl := Option.some.inj (h1.symm.trans ht)
    exact ⟨98, by kernel_rfl, by kernel_rfl, by kernel_rfl, by kernel_rfl⟩
  have hcs := Go.Lib.cells_of_tab (zs := pows) (k := .u64) hu he hce hct (p := p) (by rw [hd]; rfl)
  unfold World.var? at hvar
  rw [hg] at hvar
  simp only [Option.bind_some] at hvar
  split at hvar
  · rename_i cs' t' e' hh
    obtain rfl := Option.some.inj hvar
    refine ⟨t', e', ?_⟩
    rw [hh, ← hcs]
  · cases hvar

/-- what a row tells of a slice of texts -/
def StrsB (cs : List AV) : Prop := ∃ l : List (List UInt8), cs = l.map AV.str ∧ l.length < 9223372036854775808 ∧ ∀ s ∈ l, s.length < 9223372036854775808
theorem args_strB {c : Cx} {W : World} {a : Addr} {len cap : Nat} {ss : List ByteArray} {e : TypeId} {n : Nat} (hspot : a.spot = none) (hsh : W.shape? a.block = some (e, n)) (hl : len ≤ cap) (hm : cap ≤ maxLen) (hss : ss.length = cap)
    (hcell : ∀ i, i < ss.length → W.cell? (a.add i) = some (.string (ss.getD i ByteArray.empty))) (hsz : ∀ s ∈ ss, s.size ≤ maxLen) : ArgS c W (.slice (some a) len cap) StrsB := by
  have : maxLen < 9223372036854775808 := by decide
  refine .inr ⟨a, len, cap, ((ss.take len).map fun b => b.data.toList).map AV.str, e, n, rfl, hspot, by rw [List.length_map, List.length_map, List.length_take]; omega, hl, hsh, fun ρ i hi => ⟨_, hcell i (by omega), fun x hx => ?_⟩, _, rfl, by rw [List.length_map, List.length_take]; omega, ?_⟩
  · rw [List.map_map, List.getElem?_map] at hx
    cases h : (ss.take len)[i]? with
    | none => rw [h] at hx; cases hx
    | some b =>
      rw [h] at hx
      cases hx
      have hb : ss[i]? = some b := by
        rw [List.getElem?_take] at h
        split at h
        · exact h
        · cases h
      rw [List.getD_eq_getElem?_getD, hb]
      exact ⟨b, rfl, rfl⟩
  · intro s hs
    obtain ⟨b, hb, rfl⟩ := List.mem_map.1 hs
    have h1 := hsz b (List.mem_of_mem_take hb)
    have h2 : b.data.toList.length = b.size := by
      rw [Array.length_toList]; rfl
    omega
theorem args_nil_strB {c : Cx} {W : World} : ArgS c W (.slice none 0 0) StrsB := .inl ⟨rfl, [], rfl, by decide, fun s h => by cases h⟩
end Go.Proofs.YtihoblfmhighpaaDoor
