/- A row of cells that is written to, appended to, cut. Conditions: none. -/
import Derived.Test.YtfcjmllbejpbbaaGreatDoorQsJ
namespace Go.Proofs.YtfcjmllbejpbbaaGreatDoor
open Go.Dp
set_option linter.unusedSimpArgs false
set_option linter.unusedVariables false
set_option maxHeartbeats 2000000

theorem over_lenC (l : List AV) (o : Nat) (vs : List AV) (h : o + vs.length ≤ l.length) : (over l o vs).length = l.length := by
  show (l.take o ++ (vs ++ l.drop (o + vs.length))).length = _
  rw [List.length_append, List.length_append, List.length_take, List.length_drop]
  omega

/-- a row of cells: v reads as cs; what is behind it in its block is free -/
def RV (H0 H : Heap) (k sz : Nat) (v : AV) (cs : List AV) : Prop :=
  (v = .nils ∧ cs = []) ∨ ∃ c len l, v = .sl c 0 len sz ∧ cs.length = len * sz ∧ H.get c = some (.cells l (k + 1)) ∧ cs.length ≤ l.length ∧ l.take cs.length = cs ∧ H0.get c = none

theorem RV.sc {H0 H : Heap} {k sz : Nat} {v : AV} {cs : List AV} (h : RV H0 H k sz v cs) : v.cells = [v] ∧ v.isSc = true := by
  rcases h with ⟨rfl, _⟩ | ⟨c, len, l, rfl, _⟩ <;> exact ⟨rfl, rfl⟩
theorem RV.same {H0 H : Heap} {k sz : Nat} {v : AV} {cs : List AV} (h : RV H0 H k sz v cs) : sameAV v v = true := by
  rcases h with ⟨rfl, _⟩ | ⟨c, len, l, rfl, _⟩
  · rfl
  · simp [sameAV, nbeq]
theorem RV.lens {H0 H : Heap} {k sz : Nat} {v : AV} {cs : List AV} (hz : 0 < sz) (h : RV H0 H k sz v cs) : rLensl v = some (.int .i64 (.ofNat (cs.length / sz))) := by
  rcases h with ⟨rfl, rfl⟩ | ⟨c, len, l, rfl, h2, _⟩
  · rw [List.length_nil, Nat.zero_div]; rfl
  · rw [h2, Nat.mul_div_cancel _ hz]; rfl
theorem RV.sl {H0 H : Heap} {k sz : Nat} {v : AV} {cs : List AV} (h : RV H0 H k sz v cs) : Sl H sz v cs := by
  rcases h with h | ⟨c, len, l, rfl, h2, h3, h4, h5, _⟩
  · exact .inl h
  · refine .inr ⟨c, 0, len, l, k + 1, l.drop cs.length, rfl, h2, h3, Nat.zero_le _, ?_⟩
    rw [List.drop_zero]
    exact (List.take_append_drop cs.length l).symm.trans (by rw [h5])
theorem RV.keep {H0 H H' : Heap} {k sz : Nat} {v : AV} {cs : List AV} (h : RV H0 H k sz v cs) (hk : ∀ c o l z x, v = .sl c o l z → H.get c = some x → H'.get c = some x) : RV H0 H' k sz v cs := by
  rcases h with h | ⟨c, len, l, h1, h2, h3, h4⟩
  · exact .inl h
  · exact .inr ⟨c, len, l, h1, h2, hk _ _ _ _ _ h1 h3, h4⟩
theorem RV.nil {H0 H : Heap} {k sz : Nat} : RV H0 H k sz .nils [] := .inl ⟨rfl, rfl⟩

theorem RV.app {H0 H : Heap} {k sz bytes n : Nat} {v x : AV} {cs new : List AV} (hO : H.Ok) (hle : HLe H0 H) (h : RV H0 H k sz v cs) (hx : srcCells H sz x = some (n, new)) (hn : new.length = n * sz) (hz : 0 < sz)
    (hb : (cs.length / sz + n) * bytes ≤ 35184372088832) (hb2 : cs.length / sz + n ≤ 35184372088832) :
    ∃ v' H', evalApp k sz bytes H v x = some (v', H') ∧ H'.Ok ∧ HLe H0 H' ∧ H.next ≤ H'.next ∧ RV H0 H' k sz v' (cs ++ new) ∧ (∀ b y, H.get b = some y → (∀ o l z, v ≠ .sl b o l z) → H'.get b = some y ∧ ∀ o l z, v' ≠ .sl b o l z) := by
  have hz' : Nat.beq sz 0 = false := by rw [nbeq]; exact decide_eq_false (by omega)
  by_cases ht : n = 0
  · subst ht
    have hnil : new = [] := List.eq_nil_of_length_eq_zero (by omega)
    subst hnil
    rcases h with ⟨rfl, rfl⟩ | ⟨c, len, l, rfl, h2, h3, h4, h5, h6⟩
    · refine ⟨.nils, H, ?_, hO, hle, Nat.le_refl _, .inl ⟨rfl, rfl⟩, fun b y e hv => ⟨e, hv⟩⟩
      simp only [evalApp, hx, nbeq, decide_true, cond_true]
    · refine ⟨.sl c 0 len sz, H, ?_, hO, hle, Nat.le_refl _, .inr ⟨c, len, l, rfl, by rw [List.append_nil]; exact h2, h3, by rw [List.append_nil]; exact h4, by rw [List.append_nil]; exact h5, h6⟩, fun b y e hv => ⟨e, hv⟩⟩
      simp only [evalApp, hx, nbeq sz sz, decide_true, hz', Bool.not_false, Bool.and_self, cond_true, h3, appTo, nble, nbeq 0 0]
      rw [decide_eq_true (by omega)]; rfl
  · have hn0 : Nat.beq n 0 = false := by rw [nbeq]; exact decide_eq_false ht
    have hfresh : H0.get H.next = none := hle.none (hO _ (Nat.le_refl _))
    rcases h with ⟨rfl, rfl⟩ | ⟨c, len, l, rfl, h2, h3, h4, h5, h6⟩
    · simp only [List.length_nil, Nat.zero_div, Nat.zero_add] at hb hb2
      refine ⟨.sl H.next 0 n sz, H.new (.cells new (k + 1)), ?_, hO.new _, hle.new_ hO _, Nat.le_succ _, .inr ⟨H.next, n, new, rfl, hn, Heap.get_new_self _ _, by rw [List.nil_append]; exact Nat.le_refl _, by rw [List.nil_append, List.take_length], hfresh⟩, fun b y e _ => ?_⟩
      · simp only [evalApp, hx, hn0, cond_false, nble, decide_eq_true hb, decide_eq_true hb2, hz', Bool.not_false, Bool.and_self, cond_true]
      · have hbn : b ≠ H.next := by intro e'; subst e'; rw [hO H.next (Nat.le_refl _)] at e; cases e
        exact ⟨by rw [Heap.get_new_ne _ _ hbn]; exact e, fun o l z hz => by injection hz with q; exact hbn q.symm⟩
    · have hlen : cs.length / sz = len := by rw [h2, Nat.mul_div_cancel _ hz]
      rw [hlen] at hb hb2
      have hnb : H.next ≠ c := by intro e; subst e; rw [hO H.next (Nat.le_refl _)] at h3; cases h3
      have e0 : (0 : Nat) + len * sz = cs.length := by omega
      have e1 : (0 : Nat) + (len + n) * sz = cs.length + new.length := by rw [Nat.add_mul]; omega
      by_cases hfit : cs.length + new.length ≤ l.length
      · have hol : (over l cs.length new).length = l.length := over_lenC l _ _ hfit
        refine ⟨.sl c 0 (len + n) sz, H.put c (.cells (over l cs.length new) (k + 1)), ?_, hO.put h3 _, hle.put_ h6 _, by rw [Heap.next_put]; exact Nat.le_refl _,
          .inr ⟨c, len + n, over l cs.length new, rfl, by rw [List.length_append, Nat.add_mul]; omega, Heap.get_put_self _ _ _, by rw [List.length_append, hol]; exact hfit, ?_, h6⟩, fun b y e hv => ?_⟩
        · simp only [evalApp, hx, nbeq sz sz, decide_true, hz', Bool.not_false, Bool.and_self, cond_true, h3, appTo, nble, e0, e1, hn0, cond_false, decide_eq_true h4, decide_eq_true hfit]
        · rw [List.length_append]
          show (l.take cs.length ++ (new ++ l.drop (cs.length + new.length))).take (cs.length + new.length) = _
          rw [h5, ← List.append_assoc, List.take_append_of_le_length (by rw [List.length_append]; exact Nat.le_refl _), List.take_of_length_le (by rw [List.length_append]; exact Nat.le_refl _)]
        · have hcb : b ≠ c := by intro e'; subst e'; exact hv _ _ _ rfl
          exact ⟨by rw [Heap.get_put_ne _ _ _ hcb]; exact e, fun o l z hz => by injection hz with q; exact hcb q.symm⟩
      · have hO' := hO.put h3 .dead
        refine ⟨.sl H.next 0 (len + n) sz, (H.put c .dead).new (.cells (cs ++ new) (k + 1)), ?_, hO'.new _, (hle.put_ h6 _).new_ hO' _, Nat.le_succ _,
          .inr ⟨H.next, len + n, cs ++ new, rfl, by rw [List.length_append, Nat.add_mul]; omega, Heap.get_new_self (H.put c .dead) _, Nat.le_refl _, List.take_length, hfresh⟩, fun b y e hv => ?_⟩
        · simp only [evalApp, hx, nbeq sz sz, decide_true, hz', Bool.not_false, Bool.and_self, cond_true, h3, appTo, nble, e0, e1, hn0, cond_false, decide_eq_true h4, decide_eq_false hfit, nbeq k k, decide_eq_true hb, decide_eq_true hb2, List.drop_zero]
          rw [← h2, h5]
        · have hcb : b ≠ c := by intro e'; subst e'; exact hv _ _ _ rfl
          have hbn : b ≠ H.next := by intro e'; subst e'; rw [hO H.next (Nat.le_refl _)] at e; cases e
          exact ⟨by rw [Heap.get_new_ne _ _ (by rw [Heap.next_put]; exact hbn), Heap.get_put_ne _ _ _ hcb]; exact e, fun o l z hz => by injection hz with q; exact hbn q.symm⟩

/-- append of one thing, laid into a new block -/
theorem RV.push {H0 H : Heap} {k sz bytes w : Nat} {v : AV} {cs row : List AV} (hO : H.Ok) (hle : HLe H0 H) (h : RV H0 H k sz v cs) (hr : row.length = sz) (hs : row.all AV.isSc = true) (hz : 0 < sz)
    (hb : (cs.length / sz + 1) * bytes ≤ 35184372088832) (hb2 : cs.length / sz + 1 ≤ 35184372088832) :
    ∃ v' H', evalApp k sz bytes (H.new (.cells row w)) v (.sl H.next 0 1 sz) = some (v', H') ∧ H'.Ok ∧ HLe H0 H' ∧ H.next ≤ H'.next ∧ RV H0 H' k sz v' (cs ++ row) ∧ (∀ b y, H.get b = some y → (∀ o l z, v ≠ .sl b o l z) → H'.get b = some y ∧ ∀ o l z, v' ≠ .sl b o l z) := by
  have hn : HLe H (H.new (.cells row w)) := HLe.new (hO _ (Nat.le_refl _)) _
  have hx : srcCells (H.new (.cells row w)) sz (.sl H.next 0 1 sz) = some (1, row) := by
    have := Sl.src (H := H.new (.cells row w)) (sz := sz) (v := .sl H.next 0 1 sz) (cs := row) (.inr ⟨H.next, 0, 1, row, w, [], rfl, by omega, Heap.get_new_self _ _, Nat.zero_le _, by simp⟩) hs hz
    rw [hr, Nat.div_self hz] at this
    exact this
  have h' : RV H0 (H.new (.cells row w)) k sz v cs := h.keep fun c o l z x _ hg => hn _ _ hg
  obtain ⟨v', H', e1, e2, e3, e4, e5, e6⟩ := RV.app (hO.new _) (hle.new_ hO _) h' hx (by omega) hz hb hb2
  exact ⟨v', H', e1, e2, e3, Nat.le_trans (Nat.le_succ _) e4, e5, fun b y hy hv => e6 b y (hn b y hy) hv⟩
end Go.Proofs.YtfcjmllbejpbbaaGreatDoor
