/- Blocks, slices, structs: what a heap holds. Conditions: none. -/
import Derived.Test.YtkjmelfgopammaaQsD
namespace Go.Dp

theorem Tr.set_set {α : Type} : ∀ (f : Nat) (t : Tr α) (n : Nat) (x y : α), Tr.set f (Tr.set f t n x) n y = Tr.set f t n y := by
  intro f
  induction f with
  | zero => intros; rfl
  | succ f ih =>
    intro t n x y
    cases t <;> simp only [Tr.set] <;> cases h0 : Nat.beq n 0 <;> cases h1 : Nat.beq (n % 2) 1 <;> simp only [cond_true, cond_false, Tr.set, h0, h1, ih]

theorem Heap.put_put (H : Heap) (b : Nat) (x y : Blk) : (H.put b x).put b y = H.put b y := by
  unfold Heap.put; simp only [Tr.set_set]
theorem Heap.new_put (H : Heap) (x y : Blk) : (H.new x).put H.next y = H.new y := by
  unfold Heap.put Heap.new; simp only [Tr.set_set]
theorem Heap.get_new_self (H : Heap) (x : Blk) : (H.new x).get H.next = some x := by rw [Heap.get_new, if_pos rfl]
theorem Heap.get_put_self (H : Heap) (b : Nat) (x : Blk) : (H.put b x).get b = some x := by rw [Heap.get_put, if_pos rfl]
theorem Heap.get_new_ne (H : Heap) (x : Blk) {b : Nat} (h : b ≠ H.next) : (H.new x).get b = H.get b := by rw [Heap.get_new, if_neg h]
theorem Heap.get_put_ne (H : Heap) (b : Nat) (x : Blk) {c : Nat} (h : c ≠ b) : (H.put b x).get c = H.get c := by rw [Heap.get_put, if_neg h]

theorem Heap.get_new2 (H : Heap) (x y : Blk) : ((H.new x).new y).get (H.next + 1) = some y := Heap.get_new_self (H.new x) y
theorem Heap.get_new2' (H : Heap) (x y : Blk) : ((H.new x).new y).get H.next = some x := by rw [Heap.get_new_ne _ _ (by rw [Heap.next_new]; omega), Heap.get_new_self]
theorem Heap.put_new2 (H : Heap) (x y z : Blk) : ((H.new x).new y).put (H.next + 1) z = (H.new x).new z := Heap.new_put (H.new x) y z
theorem Heap.get_new2_ne (H : Heap) (x y : Blk) {b : Nat} (h : b < H.next) : ((H.new x).new y).get b = H.get b := by
  rw [Heap.get_new_ne _ _ (by rw [Heap.next_new]; omega), Heap.get_new_ne _ _ (by omega)]
theorem HLe.refl (H : Heap) : HLe H H := fun _ _ h => h
theorem HLe.trans {a b c : Heap} (h : HLe a b) (k : HLe b c) : HLe a c := fun i x e => k i x (h i x e)
theorem HLe.new_ {H0 H : Heap} (h : HLe H0 H) (hO : H.Ok) (x : Blk) : HLe H0 (H.new x) := h.trans (HLe.new (hO H.next (Nat.le_refl _)) x)
theorem HLe.put_ {H0 H : Heap} (h : HLe H0 H) {b : Nat} (hb : H0.get b = none) (x : Blk) : HLe H0 (H.put b x) := by
  intro c y hc
  have : c ≠ b := by intro e; subst e; rw [hb] at hc; cases hc
  rw [Heap.get_put_ne _ _ _ this]
  exact h c y hc

/-- A slice that this run has made itself, exactly as long as its block; H0: the heap at the beginning. -/
def Own (H0 H : Heap) (k sz : Nat) (v : AV) (cs : List AV) : Prop :=
  (v = .nils ∧ cs = []) ∨ ∃ b len, v = .sl b 0 len sz ∧ cs.length = len * sz ∧ H.get b = some (.cells cs (k + 1)) ∧ H0.get b = none
/-- A slice as it may be read. -/
def Sl (H : Heap) (sz : Nat) (v : AV) (cs : List AV) : Prop :=
  (v = .nils ∧ cs = []) ∨ ∃ b o len l w rest, v = .sl b o len sz ∧ cs.length = len * sz ∧ H.get b = some (.cells l w) ∧ o ≤ l.length ∧ l.drop o = cs ++ rest

theorem Own.sl {H0 H : Heap} {k sz : Nat} {v : AV} {cs : List AV} (h : Own H0 H k sz v cs) : Sl H sz v cs := by
  rcases h with h | ⟨b, len, h1, h2, h3, h4⟩
  · exact .inl h
  · exact .inr ⟨b, 0, len, cs, k + 1, [], h1, h2, h3, Nat.zero_le _, by simp⟩
theorem Sl.mono {H H' : Heap} {sz : Nat} {v : AV} {cs : List AV} (hle : HLe H H') (h : Sl H sz v cs) : Sl H' sz v cs := by
  rcases h with h | ⟨b, o, len, l, w, rest, h1, h2, h3, h4⟩
  · exact .inl h
  · exact .inr ⟨b, o, len, l, w, rest, h1, h2, hle _ _ h3, h4⟩

theorem Heap.ld_of {H : Heap} {b o n : Nat} {l : List AV} {w : Nat} (h : H.get b = some (.cells l w)) (hn : o + n ≤ l.length) : H.ld b o n = some ((l.drop o).take n) := by
  unfold Heap.ld
  rw [h]
  simp only [nble, decide_eq_true hn, cond_true]
theorem Heap.st_of {H : Heap} {b o : Nat} {vs l : List AV} {w : Nat} (h : H.get b = some (.cells l (w + 1))) (hn : o + vs.length ≤ l.length) : H.st b o vs = some (H.put b (.cells (over l o vs) (w + 1))) := by
  unfold Heap.st
  rw [h]
  simp only [nble, decide_eq_true hn, cond_true]

/-- A part of a slice's cells. -/
theorem Sl.ld {H : Heap} {b o len sz : Nat} {cs l rest : List AV} {w : Nat} (h2 : cs.length = len * sz) (h3 : H.get b = some (.cells l w)) (h4 : o ≤ l.length) (h5 : l.drop o = cs ++ rest) {i n : Nat} (hi : i + n ≤ cs.length) :
    H.ld b (o + i) n = some ((cs.drop i).take n) := by
  have hl : l.length - o = cs.length + rest.length := by rw [← List.length_drop, h5, List.length_append]
  rw [Heap.ld_of h3 (by omega), ← List.drop_drop, h5, List.drop_append_of_le_length (by omega), List.take_append_of_le_length (by rw [List.length_drop]; omega)]

theorem Sl.src {H : Heap} {sz : Nat} {v : AV} {cs : List AV} (h : Sl H sz v cs) (hc : cs.all AV.isSc = true) (hz : 0 < sz) : srcCells H sz v = some (cs.length / sz, cs) := by
  rcases h with ⟨rfl, rfl⟩ | ⟨b, o, len, l, w, rest, rfl, h2, h3, h4, h5⟩
  · simp [srcCells]
  · have e := Sl.ld h2 h3 h4 h5 (i := 0) (n := len * sz) (by omega)
    rw [Nat.add_zero, List.drop_zero, ← h2, List.take_length] at e
    unfold srcCells
    simp only [nbeq, decide_true, cond_true]
    rw [← h2, e]
    simp only [hc, cond_true]
    rw [h2, Nat.mul_div_cancel _ hz]

/-- append to a slice that this run has made -/
theorem Own.app {H0 H : Heap} {k sz bytes n : Nat} {v x : AV} {cs new : List AV} (hO : H.Ok) (hle : HLe H0 H) (h : Own H0 H k sz v cs) (hx : srcCells H sz x = some (n, new)) (hn : new.length = n * sz) (hz : 0 < sz)
    (hb : (cs.length / sz + n) * bytes ≤ 35184372088832) (hb2 : cs.length / sz + n ≤ 35184372088832) :
    ∃ v' H', evalApp k sz bytes H v x = some (v', H') ∧ H'.Ok ∧ HLe H0 H' ∧ H.next ≤ H'.next ∧ Own H0 H' k sz v' (cs ++ new) ∧ (∀ b y, H.get b = some y → (∀ o l z, v ≠ .sl b o l z) → H'.get b = some y) := by
  have hfresh : H0.get H.next = none := by
    cases e : H0.get H.next with
    | none => rfl
    | some y => have := hle _ _ e; rw [hO H.next (Nat.le_refl _)] at this; cases this
  by_cases hn0 : n = 0
  · subst hn0
    have hnil : new = [] := List.eq_nil_of_length_eq_zero (by omega)
    subst hnil
    rcases h with ⟨rfl, rfl⟩ | ⟨b, len, rfl, h2, h3, h4⟩
    · refine ⟨.nils, H, ?_, hO, hle, Nat.le_refl _, .inl ⟨rfl, rfl⟩, fun _ _ e _ => e⟩
      simp only [evalApp, hx, nbeq, decide_true, cond_true]
    · refine ⟨.sl b 0 len sz, H, ?_, hO, hle, Nat.le_refl _, .inr ⟨b, len, rfl, by simpa using h2, by simpa using h3, h4⟩, fun _ _ e _ => e⟩
      have hz' : Nat.beq sz 0 = false := by rw [nbeq]; exact decide_eq_false (by omega)
      simp only [evalApp, hx, nbeq sz sz, decide_true, hz', Bool.not_false, Bool.and_self, cond_true, h3, appTo, nble, nbeq 0 0]
      rw [decide_eq_true (by omega)]; rfl
  · have hn0' : Nat.beq n 0 = false := by rw [nbeq]; exact decide_eq_false hn0
    have hz' : Nat.beq sz 0 = false := by rw [nbeq]; exact decide_eq_false (by omega)
    rcases h with ⟨rfl, rfl⟩ | ⟨b, len, rfl, h2, h3, h4⟩
    · simp only [List.length_nil, Nat.zero_div, Nat.zero_add] at hb hb2
      refine ⟨.sl H.next 0 n sz, H.new (.cells new (k + 1)), ?_, hO.new _, hle.new_ hO _, Nat.le_succ _, .inr ⟨H.next, n, rfl, by simpa using hn, by simpa using Heap.get_new_self _ _, hfresh⟩, fun c y e _ => HLe.new (hO _ (Nat.le_refl _)) _ c y e⟩
      simp only [evalApp, hx, hn0', cond_false, nble, decide_eq_true hb, decide_eq_true hb2, hz', Bool.not_false, Bool.and_self, cond_true]
    · have hlen : cs.length / sz = len := by rw [h2, Nat.mul_div_cancel _ hz]
      rw [hlen] at hb hb2
      have hnb : H.next ≠ b := by intro e; subst e; rw [hO H.next (Nat.le_refl _)] at h3; cases h3
      refine ⟨.sl H.next 0 (len + n) sz, (H.put b .dead).new (.cells (cs ++ new) (k + 1)), ?_, (hO.put h3 _).new _, (hle.put_ h4 _).new_ (hO.put h3 _) _, Nat.le_succ _, .inr ⟨H.next, len + n, rfl, by rw [List.length_append, Nat.add_mul]; omega, Heap.get_new_self (H.put b .dead) _, hfresh⟩, fun c y e hne => ?_⟩
      · have hlt : ¬ (0 + (len + n) * sz ≤ cs.length) := by
          rw [h2, Nat.add_mul]
          have : 0 < n * sz := Nat.mul_pos (by omega) hz
          omega
        simp only [evalApp, hx, nbeq sz sz, decide_true, hz', Bool.not_false, Bool.and_self, cond_true, h3, appTo, nble, hn0', cond_false, decide_eq_false hlt, nbeq k k, decide_eq_true hb, decide_eq_true hb2]
        rw [decide_eq_true (by omega)]
        simp only [cond_true, List.drop_zero]
        rw [← h2, List.take_length]
      · have hcb : c ≠ b := by intro e; subst e; exact hne _ _ _ rfl
        have hcn : c ≠ H.next := by intro e'; subst e'; rw [hO H.next (Nat.le_refl _)] at e; cases e
        rw [Heap.get_new_ne _ _ (by rw [Heap.next_put]; exact hcn), Heap.get_put_ne _ _ _ hcb]
        exact e

theorem Own.put {H0 H : Heap} {k sz b : Nat} {v : AV} {cs : List AV} {y : Blk} (h : Own H0 H k sz v cs) (hb : H0.get b = some y) (x : Blk) : Own H0 (H.put b x) k sz v cs := by
  rcases h with h | ⟨c, len, h1, h2, h3, h4⟩
  · exact .inl h
  · refine .inr ⟨c, len, h1, h2, ?_, h4⟩
    rw [Heap.get_put_ne _ _ _ (by intro e; subst e; rw [hb] at h4; cases h4)]
    exact h3
theorem Own.sc {H0 H : Heap} {k sz : Nat} {v : AV} {cs : List AV} (h : Own H0 H k sz v cs) : v.cells = [v] ∧ v.isSc = true := by
  rcases h with ⟨rfl, _⟩ | ⟨c, len, rfl, _⟩ <;> exact ⟨rfl, rfl⟩
theorem HLe.none {H0 H : Heap} (h : HLe H0 H) {b : Nat} (hb : H.get b = none) : H0.get b = none := by
  cases e : H0.get b with
  | none => rfl
  | some y => rw [h b y e] at hb; cases hb
theorem Own.mono {H0 H H' : Heap} {k sz : Nat} {v : AV} {cs : List AV} (hle : HLe H H') (h : Own H0 H k sz v cs) : Own H0 H' k sz v cs := by
  rcases h with h | ⟨b, len, h1, h2, h3, h4⟩
  · exact .inl h
  · exact .inr ⟨b, len, h1, h2, hle _ _ h3, h4⟩

/-- append of one thing -/
theorem Own.push {H0 H : Heap} {k sz bytes w : Nat} {v : AV} {cs row : List AV} (hO : H.Ok) (hle : HLe H0 H) (h : Own H0 H k sz v cs) (hr : row.length = sz) (hs : row.all AV.isSc = true) (hz : 0 < sz)
    (hb : (cs.length / sz + 1) * bytes ≤ 35184372088832) (hb2 : cs.length / sz + 1 ≤ 35184372088832) :
    ∃ v' H', evalApp k sz bytes (H.new (.cells row w)) v (.sl H.next 0 1 sz) = some (v', H') ∧ H'.Ok ∧ HLe H0 H' ∧ H.next ≤ H'.next ∧ Own H0 H' k sz v' (cs ++ row) ∧ (∀ b y, H.get b = some y → (∀ o l z, v ≠ .sl b o l z) → H'.get b = some y) := by
  have hn : HLe H (H.new (.cells row w)) := HLe.new (hO _ (Nat.le_refl _)) _
  have hx : srcCells (H.new (.cells row w)) sz (.sl H.next 0 1 sz) = some (1, row) := by
    have := Sl.src (H := H.new (.cells row w)) (sz := sz) (v := .sl H.next 0 1 sz) (cs := row) (.inr ⟨H.next, 0, 1, row, w, [], rfl, by omega, Heap.get_new_self _ _, Nat.zero_le _, by simp⟩) hs hz
    rw [hr, Nat.div_self hz] at this
    exact this
  obtain ⟨v', H', e1, e2, e3, e4, e5, e6⟩ := Own.app (hO.new _) (hle.new_ hO _) (h.mono hn) hx (by omega) hz hb hb2
  exact ⟨v', H', e1, e2, e3, Nat.le_trans (Nat.le_succ _) e4, e5, fun b y hy hv => e6 b y (hn b y hy) hv⟩

/-- The equations of cells. -/
theorem wh :
    (∀ b, AV.cells (.bool b) = [.bool b]) ∧ (∀ k n, AV.cells (.int k n) = [.int k n]) ∧ (∀ s, AV.cells (.str s) = [.str s]) ∧ (AV.cells .nilp = [.nilp]) ∧ (∀ b o, AV.cells (.ptr b o) = [.ptr b o]) ∧ (AV.cells .nils = [.nils]) ∧
    (∀ b o l s, AV.cells (.sl b o l s) = [.sl b o l s]) ∧ (AV.cells .nilm = [.nilm]) ∧ (∀ b, AV.cells (.map b) = [.map b]) ∧ (∀ l, AV.cells (.agg l) = l) ∧
    (∀ b, AV.isSc (.bool b) = true) ∧ (∀ k n, AV.isSc (.int k n) = true) ∧ (∀ s, AV.isSc (.str s) = true) ∧ (AV.isSc .nilp = true) ∧ (∀ b o, AV.isSc (.ptr b o) = true) ∧ (AV.isSc .nils = true) ∧
    (∀ b o l s, AV.isSc (.sl b o l s) = true) ∧ (AV.isSc .nilm = true) ∧ (∀ b, AV.isSc (.map b) = true) ∧
    (∀ fr cs, lay fr cs [] = some cs) ∧
    (∀ fr cs off n x rest, lay fr cs ((off, n, x) :: rest) = bif Nat.beq (x.ev fr).cells.length n && (Nat.ble (off + n) cs.length && (x.ev fr).cells.all AV.isSc) then lay fr (over cs off (x.ev fr).cells) rest else none) ∧
    (∀ k sz len cs, nBslice k sz len (some cs) = some (.cells cs (k + 1), slTo len sz)) ∧
    (∀ len sz b, slTo len sz b = .sl b 0 len sz) ∧ (∀ b, ptrTo b = .ptr b 0) ∧
    (∀ (l : List AV) o vs, over l o vs = l.take o ++ (vs ++ l.drop (o + vs.length))) ∧
    (∀ cs, oneOf true (some cs) = some (.agg cs)) ∧ (∀ c, oneOf false (some [c]) = some c) ∧
    (∀ H g n b o, rLoad H g n (.ptr b o) = oneOf g (H.ld b o n)) ∧
    (∀ off b o, rFaddr off (.ptr b o) = some (.ptr b (o + off))) ∧
    (∀ H n b o cs, eStore H n (.ptr b o) cs = bif Nat.beq cs.length n && cs.all AV.isSc then unit (H.st b o cs) else none) ∧
    (∀ H, unit (some H) = some (.tup [], H)) ∧
    (∀ cs, rBuild (some cs) = some (.agg cs)) ∧
    (∀ i vs, rExt i (.tup vs) = vs[i]?) ∧
    (∀ n off cs, rFld false n off (.agg cs) = cs[off]?) :=
  ⟨fun _ => rfl, fun _ _ => rfl, fun _ => rfl, rfl, fun _ _ => rfl, rfl, fun _ _ _ _ => rfl, rfl, fun _ => rfl, fun _ => rfl, fun _ => rfl, fun _ _ => rfl, fun _ => rfl, rfl, fun _ _ => rfl, rfl, fun _ _ _ _ => rfl, rfl, fun _ => rfl,
    fun _ _ => rfl, fun _ _ _ _ _ _ => rfl, fun _ _ _ _ => rfl, fun _ _ _ => rfl, fun _ => rfl, fun _ _ _ => rfl, fun _ => rfl, fun _ => rfl, fun _ _ _ _ _ => rfl, fun _ _ _ => rfl, fun _ _ _ _ _ => rfl, fun _ => rfl, fun _ => rfl, fun _ _ => rfl, fun _ _ _ => rfl⟩

end Go.Dp
