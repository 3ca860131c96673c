/- Slices among a law's arguments: the first relation. Conditions: none. -/
import Derived.Test.YtkjmelfgopammaaQsF
namespace Go.Dp
open Go.RowKit

/-- Nothing may be written. -/
def Heap.RO (H : Heap) : Prop := ∀ b x, H.get b = some x → x.wr = false
theorem Heap.RO.noHeap : noHeap.RO := fun _ _ h => by cases h
theorem Heap.RO.new {H : Heap} (h : H.RO) (l : List AV) : (H.new (.cells l 0)).RO := by
  intro b x hb
  rw [Heap.get_new] at hb
  split at hb
  · cases hb; rfl
  · exact h b x hb

/-- One more block that is only read. -/
theorem Rel.addArg {c : Cx} {ρ : Rho} {H : Heap} {W : World} (R : Rel c W.heap.size ρ H W) (hO : H.Ok) (hro : H.RO) {p : Pl} {l : List AV} (hb : BlkRel c ρ p W (.cells l 0)) (hin : p.c < W.heap.size) :
    Rel c W.heap.size (ρ.at_ H.next p) (H.new (.cells l 0)) W := by
  have hn : ρ H.next = none := by
    cases h : ρ H.next with
    | none => rfl
    | some q => have := R.dom _ _ h; omega
  have hext := Rho.ext_at (p := p) hn
  have hcase : ∀ i q, (ρ.at_ H.next p) i = some q → (i = H.next ∧ q = p) ∨ (i ≠ H.next ∧ ρ i = some q) := by
    intro i q hq
    unfold Rho.at_ at hq
    by_cases e : i = H.next
    · rw [if_pos e] at hq; exact .inl ⟨e, (Option.some.inj hq).symm⟩
    · rw [if_neg e] at hq; exact .inr ⟨e, hq⟩
  have hro' := hro.new l
  refine ⟨R.size, fun i q hq => ?_, fun i q hq => ?_, fun i q hq => ?_, fun i q y hq hy hwr => ?_, fun i j q q' y y' hne hq hq' hy hy' hl hwr => ?_, fun g i hg => let ⟨q, h1, h2, h3⟩ := R.glob g i hg; ⟨q, hext i q h1, h2, h3⟩⟩
  · rcases hcase i q hq with ⟨rfl, _⟩ | ⟨_, h⟩
    · exact Nat.lt_succ_self _
    · exact Nat.lt_succ_of_lt (R.dom i q h)
  · rcases hcase i q hq with ⟨_, rfl⟩ | ⟨_, h⟩
    · exact hin
    · exact R.in_ i q h
  · rcases hcase i q hq with ⟨rfl, rfl⟩ | ⟨hi, h⟩
    · exact ⟨_, Heap.get_new_self _ _, hb.ext hext⟩
    · obtain ⟨y, hy, hyr⟩ := R.blk i q h
      exact ⟨y, by rw [Heap.get_new_ne _ _ hi]; exact hy, hyr.ext hext⟩
  · rw [hro' _ _ hy] at hwr; cases hwr
  · rw [hro' _ _ hy'] at hwr; cases hwr

/-- A slice of single cells that comes in. -/
theorem arg_slice {c : Cx} {ρ : Rho} {H : Heap} {W : World} (R : Rel c W.heap.size ρ H W) (hO : H.Ok) (hro : H.RO) {a : Addr} {len cap : Nat} {l : List AV} (hspot : a.spot = none) (hl : l.length = len) (hlc : len ≤ cap) {e : TypeId} {n : Nat} (hsh : W.shape? a.block = some (e, n))
    (hcell : ∀ i, i < cap → ∃ v, W.cell? (a.add i) = some v ∧ ∀ x, l[i]? = some x → SRel c ρ x v) :
    ∃ ρ' H', Rel c W.heap.size ρ' H' W ∧ H'.Ok ∧ H'.RO ∧ Ext ρ ρ' ∧ HLe H H' ∧ Sl H' 1 (.sl H.next 0 len 1) l ∧ VRel c ρ' (.sl H.next 0 len 1) (.slice (some a) len cap) := by
  obtain ⟨ab, off, sp⟩ := a
  simp only at hspot hsh
  subst hspot
  have hn : ρ H.next = none := by
    cases h : ρ H.next with
    | none => rfl
    | some q => have := R.dom _ _ h; omega
  unfold World.shape? at hsh
  obtain ⟨cs, e', fz, hh⟩ : ∃ cs e' fz, W.heap[ab]? = some (.cells cs e' fz) := by
    split at hsh
    · rename_i cs e' fz h
      exact ⟨cs, e', _, h⟩
    · cases hsh
  have hin : ab < W.heap.size := by
    rcases Nat.lt_or_ge ab W.heap.size with h | h
    · exact h
    · rw [Array.getElem?_eq_none h] at hh; cases hh
  have hc' : ∀ i, i < cap → ∃ v, cs[off + i]? = some v ∧ ∀ x, l[i]? = some x → SRel c ρ x v := by
    intro i hi
    obtain ⟨v, h1, h2⟩ := hcell i hi
    refine ⟨v, ?_, h2⟩
    rw [Addr.add_lit] at h1
    unfold World.cell? at h1
    simp only [hh] at h1
    simpa using h1
  -- where the block lies
  have key : ∃ p : Pl, p.c = ab ∧ p.n = len ∧ (off = p.s ∨ cap = 0) ∧ p.e = cap - len ∧ BlkRel c ρ p W (.cells l 0) := by
    by_cases h0 : cap = 0
    · refine ⟨⟨ab, 0, len, cap - len⟩, rfl, rfl, .inr h0, rfl, hl, cs, e', fz, hh, by simp; omega, fun i x hx => ?_, ⟨fun h => absurd rfl h, fun h => (by cases h), fun h => (by cases h)⟩⟩
      have := (List.getElem?_eq_some_iff.1 hx).1
      omega
    · refine ⟨⟨ab, off, len, cap - len⟩, rfl, rfl, .inl rfl, rfl, hl, cs, e', fz, hh, ?_, fun i x hx => ?_, ⟨fun h => absurd rfl h, fun h => (by cases h), fun h => (by cases h)⟩⟩
      · obtain ⟨v, h1, _⟩ := hc' (cap - 1) (by omega)
        have := (Array.getElem?_eq_some_iff.1 h1).1
        simp only
        omega
      · have hi := (List.getElem?_eq_some_iff.1 hx).1
        obtain ⟨v, h1, h2⟩ := hc' i (by omega)
        exact ⟨v, h1, h2 x hx⟩
  obtain ⟨p, rfl, hpn, hps, hpe, hb⟩ := key
  refine ⟨ρ.at_ H.next p, H.new (.cells l 0), R.addArg hO hro hb hin, hO.new _, hro.new _, Rho.ext_at hn, HLe.new (hO _ (Nat.le_refl _)) _, ?_, ?_⟩
  · exact .inr ⟨H.next, 0, len, l, 0, [], rfl, by omega, Heap.get_new_self _ _, Nat.zero_le _, by simp⟩
  · rw [VRel_sl]
    exact ⟨p, off, cap, by simp [Rho.at_], rfl, hlc, by omega, by omega, by omega, by omega, by omega⟩

end Go.Dp
