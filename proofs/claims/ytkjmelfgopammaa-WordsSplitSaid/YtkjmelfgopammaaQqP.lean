/- Operations that turn the heap: append. Conditions: none. -/
import Derived.Test.YtkjmelfgopammaaQqO
import Derived.Laws.Append
namespace Go.Dp
open Go.RowKit

section
variable {c : Cx} {base : Nat} {ρ : Rho} {H : Heap} {W : World}

theorem cell_heap {W W' : World} (h : W'.heap = W.heap) (a : Addr) : W'.cell? a = W.cell? a := by unfold World.cell?; rw [h]

theorem ofBytes_sc (s : List UInt8) : (ofBytes s).all AV.isSc = true := by
  induction s with
  | nil => rfl
  | cons b s ih => exact ih

/-- What is appended or copied. -/
theorem src_rel (R : Rel c base ρ H W) {sz n : Nat} {x : AV} {w : Value} {cs : List AV} (hx : VRel c ρ x w) (h : srcCells H sz x = some (n, cs)) :
    ∃ ws : List Value, ws.length = n * sz ∧ All2 (SRel c ρ) cs ws ∧ cs.all AV.isSc = true ∧ (∀ W', (Builtin.lenOf w).run c.P W' = .ok n W') ∧
      ∀ m W', m ≤ n → W'.heap = W.heap → (Builtin.firstCells sz m w).run c.P W' = .ok (ws.take (m * sz)).toArray W' := by
  unfold srcCells at h
  split at h
  · cases h
    rw [VRel_nils] at hx
    subst hx
    exact ⟨[], by simp, trivial, rfl, fun _ => rfl, fun m W' _ _ => by simp [Builtin.firstCells]⟩
  · rename_i b o len sz'
    rw [nbeq] at h
    by_cases hs : sz = sz'
    · rw [decide_eq_true hs] at h
      subst hs
      simp only [cond_true] at h
      split at h
      · rename_i cs' hld
        cases hsc : cs'.all AV.isSc with
        | false => rw [hsc] at h; cases h
        | true =>
          rw [hsc] at h
          cases h
          rw [VRel_sl] at hx
          obtain ⟨p, off, cap, hp, rfl, q1, q2, q3, q4, q5, q6⟩ := hx
          obtain ⟨ws, h1, h2, h3, h4⟩ := ld_run R hp hld
          refine ⟨ws, h1, h2, hsc, fun _ => rfl, fun m W' hm hW => ?_⟩
          have hm2 : m * sz ≤ n * sz := Nat.mul_le_mul_right _ hm
          refine run_firstCells_some W' sz m _ n cap (ws.take (m * sz)) (by rw [List.length_take, h1]; omega) fun j v hj => ?_
          have hj' : ws[j]? = some v := by
            rw [List.getElem?_take] at hj
            split at hj
            · exact hj
            · cases hj
          rcases q2 with rfl | h0
          · rw [Addr.add_lit, cell_heap hW]; exact h3 j v hj'
          · exfalso
            have hn : n = 0 := by omega
            rw [hn] at h1
            have := (List.getElem?_eq_some_iff.1 hj').1
            omega
      · cases h
    · rw [decide_eq_false hs] at h; cases h
  · rename_i s
    rw [nbeq] at h
    by_cases hs : sz = 1
    · rw [decide_eq_true hs] at h
      subst hs
      cases h
      rw [VRel_str] at hx
      obtain ⟨sb, rfl, rfl⟩ := hx
      refine ⟨sb.data.toList.map fun b => Value.int .u8 b.toNat, by simp, ofBytes_rel _, ofBytes_sc _, fun _ => rfl, fun m W' hm hW => ?_⟩
      simp only [Builtin.firstCells, Sem.run_pure, Nat.mul_one]
      congr 1
      apply Array.ext'
      rw [Array.toList_map, extract_list]
      simp [List.map_take]
    · rw [decide_eq_false hs] at h; cases h
  · cases h

theorem size_info {e : TypeId} {sz : Nat} (h : c.size e = some sz) : ∃ i, c.P.info? e = some i ∧ i.size = sz := by
  unfold Cx.size at h
  split at h
  · rename_i i hi; cases h; exact ⟨i, hi, rfl⟩
  · cases h
theorem bytes_info {e : TypeId} {b : Nat} (h : c.bytes e = some b) : ∃ i, c.P.info? e = some i ∧ i.bytes = b := by
  unfold Cx.bytes at h
  split at h
  · rename_i i hi; cases h; exact ⟨i, hi, rfl⟩
  · cases h

/-- a type that is no integer type -/
def NoInt (c : Cx) (t : TypeId) : Prop := (∃ e, c.P.underlying t = some (.slice e)) ∨ c.P.underlying t = some .string

theorem append_fits {s t e ty : TypeId} {sz n len cap : Nat} {ts : Array TypeId} {xs : Array Value} {a : Option Addr} {u : Value} {ws : List Value} (h0 : ts[0]? = some s) (h1 : ts[1]? = some t) (k0 : xs[0]? = some (.slice a len cap)) (k1 : xs[1]? = some u)
    (hs : c.P.underlying s = some (.slice e)) (ht : NoInt c t) (hn : c.size e = some sz) (hl : (Builtin.lenOf u).run c.P W = .ok n W) (hf : (Builtin.firstCells sz n u).run c.P W = .ok ws.toArray W) (hle : len + n ≤ cap) {W' : World}
    (hst : ∀ a', a = some a' → (storeCells (a'.add (len * sz)) ws).run c.P W = .ok () W') (ha : a = none → W' = W) :
    (Builtin.append_ ts ty xs).run c.P W = .ok (.slice a (len + n) cap) W' := by
  obtain ⟨i, hi, hisz⟩ := size_info hn
  subst hisz
  rcases ht with ⟨e', ht⟩ | ht <;> simp only [Builtin.append_, h0, h1, k0, k1, Sem.run_bind, run_underlying hs, run_underlying ht, Result.andThen_ok, sizeOf, run_info hi, Sem.run_pure, Bool.false_eq_true, if_false, hl, hle, if_true, Bool.not_false, hf]
  all_goals
    cases a with
    | none => rw [ha rfl]; rfl
    | some a' => simp only [Sem.run_bind, hst a' rfl, Result.andThen_ok, Sem.run_pure]

theorem append_grows {s t e ty : TypeId} {sz bytes n len cap : Nat} {z : Value} {ts : Array TypeId} {xs : Array Value} {a : Option Addr} {u : Value} {os ws : List Value} (h0 : ts[0]? = some s) (h1 : ts[1]? = some t) (k0 : xs[0]? = some (.slice a len cap)) (k1 : xs[1]? = some u)
    (hs : c.P.underlying s = some (.slice e)) (ht : NoInt c t) (hn : c.size e = some sz) (hb : c.bytes e = some bytes) (hz : ∀ w, (zeroValue e).run c.P w = .ok z w) (hl : (Builtin.lenOf u).run c.P W = .ok n W) (ho : (Builtin.firstCells sz len (.slice a len cap)).run c.P W.drew = .ok os.toArray W.drew)
    (hf : (Builtin.firstCells sz n u).run c.P W.drew = .ok ws.toArray W.drew) (hlt : cap < len + n) (hbd : (len + n) * bytes ≤ 35184372088832) (hbn : len + n ≤ 35184372088832) :
    (Builtin.append_ ts ty xs).run c.P W = .ok (.slice (some ⟨W.heap.size, 0, none⟩) (len + n) (grownCap W (len + n) cap e)) (W.drew.alloc (.cells ((os ++ ws).toArray ++ Builtin.zeroCells z.cells (grownCap W (len + n) cap e - (len + n))) e)) := by
  obtain ⟨i, hi, hisz⟩ := size_info hn
  subst hisz
  obtain ⟨i', hi', hib⟩ := bytes_info hb
  rw [hi] at hi'
  cases hi'
  subst hib
  have hnn : ¬ (len + n ≤ cap) := by omega
  have h63' : ¬ (9223372036854775807 < ((len : Int) + (n : Int))) := by omega
  have hfit := growslice_fits hlt (by omega : (len + n) * i.bytes ≤ 140737488355328)
  have h48' : ¬ (281474976710656 < Builtin.nextslicecap (len + n) cap * i.bytes) := by omega
  have hq : (Question.appendCap (len + n) cap e).forced = false := rfl
  rcases ht with ⟨e', ht⟩ | ht <;> simp [Builtin.append_, h0, h1, k0, k1, run_underlying hs, run_underlying ht, sizeOf, typeInfo, hi, hl, hnn, h63', h48', hq, ho, hf, hz, newRow, grownCap]
  all_goals
    congr 2
    apply Array.ext'
    simp [List.append_assoc]

theorem Rel.fresh (R : Rel c base ρ H W) : ρ H.next = none := by
  cases h : ρ H.next with
  | none => rfl
  | some p => exact absurd (R.dom _ _ h) (Nat.lt_irrefl _)

/-- A block is given up. -/
theorem Rel.kill (R : Rel c base ρ H W) (b : Nat) : Rel c base ρ (H.put b .dead) W := by
  refine ⟨R.size, R.dom, R.in_, fun i q hq => ?_, fun i q y hq hy hwr => ?_, fun i j q q' y y' hne hq hq' hy hy' hl hwr => ?_, R.glob⟩
  · rw [Heap.get_put]
    by_cases hi : i = b
    · exact ⟨.dead, by rw [if_pos hi], trivial⟩
    · rw [if_neg hi]; exact R.blk i q hq
  · rw [Heap.get_put] at hy
    by_cases hi : i = b
    · rw [if_pos hi] at hy; cases hy; cases hwr
    · rw [if_neg hi] at hy; exact R.low i q y hq hy hwr
  · rw [Heap.get_put] at hy hy'
    by_cases hi : i = b
    · rw [if_pos hi] at hy; cases hy; cases hl
    · rw [if_neg hi] at hy
      by_cases hj : j = b
      · rw [if_pos hj] at hy'; cases hy'; cases hwr
      · rw [if_neg hj] at hy'; exact R.apart i j q q' y y' hne hq hq' hy hy' hl hwr

/-- A block is given up; a new one takes its cells over. -/
theorem Rel.take (R : Rel c base ρ H W) {b k : Nat} {p p' : Pl} {l l' : List AV} {W' : World} (hp : ρ b = some p) (hx : H.get b = some (.cells l (k + 1))) (hc : p'.c = p.c) (hs : W'.heap.size = W.heap.size) (hother : ∀ i, i ≠ p.c → W'.heap[i]? = W.heap[i]?)
    (hb : BlkRel c (ρ.at_ H.next p') p' W' (.cells l' (k + 1))) : Rel c base (ρ.at_ H.next p') ((H.put b .dead).new (.cells l' (k + 1))) W' := by
  have hfr := R.fresh
  have hext := Rho.ext_at (p := p') hfr
  have hbn := R.dom b p hp
  have hget : ∀ i, i ≠ H.next → i ≠ b → ((H.put b .dead).new (.cells l' (k + 1))).get i = H.get i := by
    intro i h1 h2
    rw [Heap.get_new, Heap.next_put, if_neg h1, Heap.get_put, if_neg h2]
  have hgb : ((H.put b .dead).new (.cells l' (k + 1))).get b = some .dead := by
    rw [Heap.get_new, Heap.next_put, if_neg (by omega), Heap.get_put, if_pos rfl]
  have hgn : ((H.put b .dead).new (.cells l' (k + 1))).get H.next = some (.cells l' (k + 1)) := by
    rw [Heap.get_new, Heap.next_put, if_pos rfl]
  have hcase : ∀ i q, (ρ.at_ H.next p') i = some q → (i = H.next ∧ q = p') ∨ (i ≠ H.next ∧ ρ i = some q) := by
    intro i q hq
    unfold Rho.at_ at hq
    by_cases e : i = H.next
    · rw [if_pos e] at hq; exact .inl ⟨e, (Option.some.inj hq).symm⟩
    · rw [if_neg e] at hq; exact .inr ⟨e, hq⟩
  refine ⟨by rw [hs]; exact R.size, fun i q hq => ?_, fun i q hq => ?_, fun i q hq => ?_, fun i q y hq hy hwr => ?_, fun i j q q' y y' hne hq hq' hy hy' hl hwr => ?_, fun g i hg => let ⟨q, h1, h2, h3⟩ := R.glob g i hg; ⟨q, hext i q h1, h2, h3⟩⟩
  · show i < H.next + 1
    rcases hcase i q hq with ⟨rfl, _⟩ | ⟨_, h⟩
    · omega
    · have := R.dom i q h; omega
  · rw [hs]
    rcases hcase i q hq with ⟨_, rfl⟩ | ⟨_, h⟩
    · rw [hc]; exact R.in_ b p hp
    · exact R.in_ i q h
  · rcases hcase i q hq with ⟨rfl, rfl⟩ | ⟨hi, h⟩
    · exact ⟨_, hgn, hb⟩
    · by_cases hib : i = b
      · subst hib; exact ⟨.dead, hgb, trivial⟩
      · obtain ⟨y, hy, hyr⟩ := R.blk i q h
        refine ⟨y, by rw [hget i hi hib]; exact hy, ?_⟩
        by_cases hl : y.live = true
        · exact (hyr.ext hext).heap (hother _ (R.apart i b q p y _ hib h hp hy hx hl rfl))
        · cases y <;> first | exact absurd rfl hl | trivial
  · rcases hcase i q hq with ⟨rfl, rfl⟩ | ⟨hi, h⟩
    · rw [hc]; exact R.low b p _ hp hx rfl
    · by_cases hib : i = b
      · subst hib; rw [hgb] at hy; cases hy; cases hwr
      · rw [hget i hi hib] at hy; exact R.low i q y h hy hwr
  · rcases hcase i q hq with ⟨rfl, rfl⟩ | ⟨hi, h⟩ <;> rcases hcase j q' hq' with ⟨rfl, rfl⟩ | ⟨hj, h'⟩
    · exact absurd rfl hne
    · by_cases hjb : j = b
      · subst hjb; rw [hgb] at hy'; cases hy'; cases hwr
      · rw [hget j hj hjb] at hy'
        intro e
        exact R.apart b j p q' _ y' (Ne.symm hjb) hp h' hx hy' rfl hwr (hc.symm.trans e)
    · by_cases hib : i = b
      · subst hib; rw [hgb] at hy; cases hy; cases hl
      · rw [hget i hi hib] at hy
        intro e
        exact R.apart i b q p y _ hib h hp hy hx hl rfl (e.trans hc)
    · by_cases hib : i = b
      · subst hib; rw [hgb] at hy; cases hy; cases hl
      · by_cases hjb : j = b
        · subst hjb; rw [hgb] at hy'; cases hy'; cases hwr
        · rw [hget i hi hib] at hy
          rw [hget j hj hjb] at hy'
          exact R.apart i j q q' y y' hne h h' hy hy' hl hwr

end
end Go.Dp
