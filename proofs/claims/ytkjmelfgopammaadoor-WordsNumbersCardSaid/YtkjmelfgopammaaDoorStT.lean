/- strconv's table: from the row's list of tables to the clean machine's first heap. Conditions: none. -/
import Derived.Test.YtkjmelfgopammaaDoorStA
import Derived.Test.YtkjmelfgopammaaDoorRows
import Derived.Lib.LaidTab
namespace Go.Proofs.YtkjmelfgopammaaDoor
open Go.Dp

def pows : List Int := [1, 10, 100, 1000, 10000, 100000, 1000000, 10000000, 100000000, 1000000000, 10000000000, 100000000000, 1000000000000, 10000000000000, 100000000000000, 1000000000000000, 10000000000000000, 100000000000000000, 1000000000000000000, 10000000000000000000]
theorem powC_eq : powC = pows.map (AV.int .u64) := rfl
def tabs : List (String × DataW Unit) := [("math/bits.deBruijn32tab", Rows.laid_math_bits_deBruijn32tab), ("math/bits.deBruijn64tab", Rows.laid_math_bits_deBruijn64tab), ("internal/strconv.uint64pow10", Rows.laid_internal_strconv_uint64pow10)]
theorem tab_cells {W : World} (h : laidMet Tryd.prog tabs W) : ∃ t e, W.heap[0]? = some (.cells (pows.map fun z => Value.int .u64 z).toArray t e) := by
  obtain ⟨ps, ⟨g1, t1, c1, f1, p1, q1, _, _, _, _, ⟨g2, t2, c2, f2, p2, q2, _, _, _, _, ⟨g, t, cs, fuel, p, q, hg, ht, hvar, hd, _, _⟩, _⟩, _⟩, _⟩ := h
  obtain rfl : g = 0 := (Option.some.inj ((show Tryd.prog.globalNamed "internal/strconv.uint64pow10" = some 0 by kernel_rfl).symm.trans hg)).symm
  obtain ⟨e, hu, he, hce, hct⟩ : ∃ e, Tryd.prog.underlying t = some (.array 20 e) ∧ Tryd.prog.underlying e = some (.int .u64) ∧ Tryd.prog.cellsOf e = 1 ∧ Tryd.prog.cellsOf t = 20 := by
    obtain ⟨t0, ht0⟩ : ∃ t0, (Tryd.prog.globals[0]?).map (·.type) = some t0 := ⟨t, ht⟩
    obtain rfl := Option.some.inj (ht0.symm.trans ht)
    have h1 : (Tryd.prog.globals[0]?).map (·.type) = some 97 := by kernel_rfl
    obtain rfl := Option.some.inj (h1.symm.trans ht)
    exact ⟨25, by kernel_rfl, by kernel_rfl, by kernel_rfl, by kernel_rfl⟩
  have hcs := Go.Lib.cells_of_tab (zs := pows) (k := .u64) hu he hce hct (p := p) (by rw [hd]; rfl)
  unfold World.var? at hvar
  rw [hg] at hvar
  simp only [Option.bind_some] at hvar
  split at hvar
  · rename_i cs' t' e' hh
    obtain rfl := Option.some.inj hvar
    refine ⟨t', e', ?_⟩
    rw [hh, ← hcs]
  · cases hvar
end Go.Proofs.YtkjmelfgopammaaDoor
