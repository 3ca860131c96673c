/- Layer 14: a strings.Builder. Conditions: none. -/
import Derived.Test.YtkjmelfgopammaaDoorStD
namespace Go.Proofs.YtkjmelfgopammaaDoor
open Go.Dp
set_option linter.unusedSimpArgs false
set_option linter.unusedVariables false
set_option maxHeartbeats 2000000
set_option maxRecDepth 8000
attribute [local irreducible] Ex.thnK Ex.inK Ret

theorem ofBytes_app (s t : List UInt8) : ofBytes (s ++ t) = ofBytes s ++ ofBytes t := List.map_append ..
theorem over_len2 (l : List AV) (o : Nat) (vs : List AV) (h : o + vs.length ≤ l.length) : (over l o vs).length = l.length := by
  show (l.take o ++ (vs ++ l.drop (o + vs.length))).length = _
  rw [List.length_append, List.length_append, List.length_take, List.length_drop]
  omega
/-- a row of bytes that is written to: v reads as s -/
def BV (H0 H : Heap) (v : AV) (s : List UInt8) : Prop :=
  (v = .nils ∧ s = []) ∨ ∃ c l, v = .sl c 0 s.length 1 ∧ H.get c = some (.cells l 3) ∧ s.length ≤ l.length ∧ l.take s.length = ofBytes s ∧ H0.get c = none ∧ 0 < l.length

theorem BV.sc {H0 H : Heap} {v : AV} {s : List UInt8} (h : BV H0 H v s) : v.cells = [v] ∧ v.isSc = true := by
  rcases h with ⟨rfl, _⟩ | ⟨c, l, rfl, _⟩ <;> exact ⟨rfl, rfl⟩
theorem BV.keep {H0 H H' : Heap} {v : AV} {s : List UInt8} (h : BV H0 H v s) (k : ∀ c x, H.get c = some x → H0.get c = none → H'.get c = some x) : BV H0 H' v s := by
  rcases h with h | ⟨c, l, h1, h2, h3, h4, h5⟩
  · exact .inl h
  · exact .inr ⟨c, l, h1, k c _ h2 h5.1, h3, h4, h5⟩

theorem BV.app {H0 H : Heap} {v : AV} {s : List UInt8} (hO : H.Ok) (hle : HLe H0 H) (h : BV H0 H v s) (t : List UInt8) (hb : s.length + t.length ≤ 35184372088832) :
    ∃ v' H', evalApp 2 1 1 H v (.str t) = some (v', H') ∧ H'.Ok ∧ HLe H0 H' ∧ H.next ≤ H'.next ∧ BV H0 H' v' (s ++ t) ∧ (∀ b y, H.get b = some y → (∀ o l z, v ≠ .sl b o l z) → H'.get b = some y ∧ ∀ o l z, v' ≠ .sl b o l z) := by
  have hx : srcCells H 1 (.str t) = some (t.length, ofBytes t) := rfl
  by_cases ht : t.length = 0
  · have hnil : t = [] := List.eq_nil_of_length_eq_zero ht
    subst hnil
    rcases h with ⟨rfl, rfl⟩ | ⟨c, l, rfl, h2, h3, h4, h5⟩
    · refine ⟨.nils, H, rfl, hO, hle, Nat.le_refl _, .inl ⟨rfl, rfl⟩, fun b y e hv => ⟨e, hv⟩⟩
    · refine ⟨.sl c 0 s.length 1, H, ?_, hO, hle, Nat.le_refl _, .inr ⟨c, l, by rw [List.append_nil], h2, by rw [List.append_nil]; exact h3, by rw [List.append_nil]; exact h4, h5⟩, fun b y e hv => ⟨e, hv⟩⟩
      simp only [evalApp, hx, nbeq, decide_true, decide_eq_false (show ¬ (1 : Nat) = 0 by decide), Bool.not_false, Bool.and_self, cond_true, h2, appTo, nble, List.length_nil]
      rw [decide_eq_true (by omega)]; rfl
  · have hn0 : Nat.beq t.length 0 = false := by rw [nbeq]; exact decide_eq_false ht
    have h10 : Nat.beq 1 0 = false := rfl
    have hbl : (ofBytes t).length = t.length := ofBytes_len t
    have hfresh : H0.get H.next = none := hle.none (hO _ (Nat.le_refl _))
    have hb1 : (t.length * 1 ≤ 35184372088832) := by omega
    have hb2 : (t.length ≤ 35184372088832) := by omega
    rcases h with ⟨rfl, rfl⟩ | ⟨c, l, rfl, h2, h3, h4, h5⟩
    · refine ⟨.sl H.next 0 t.length 1, H.new (.cells (ofBytes t) 3), ?_, hO.new _, hle.new_ hO _, Nat.le_succ _, .inr ⟨H.next, ofBytes t, rfl, Heap.get_new_self _ _, by rw [List.nil_append, hbl]; exact Nat.le_refl _, by rw [List.nil_append, List.take_of_length_le (by rw [hbl]; exact Nat.le_refl _)], hfresh, by rw [hbl]; omega⟩, fun b y e hv => ?_⟩
      · simp only [evalApp, hx, hn0, h10, cond_false, nble, decide_eq_true hb1, decide_eq_true hb2, Bool.not_false, Bool.and_self, cond_true]
      · have hbn : b ≠ H.next := by intro e'; subst e'; rw [hO H.next (Nat.le_refl _)] at e; cases e
        exact ⟨by rw [Heap.get_new_ne _ _ hbn]; exact e, fun o l z hz => by injection hz with q; exact hbn q.symm⟩
    · have hnb : H.next ≠ c := by intro e; subst e; rw [hO H.next (Nat.le_refl _)] at h2; cases h2
      by_cases hfit : s.length + t.length ≤ l.length
      · refine ⟨.sl c 0 (s.length + t.length) 1, H.put c (.cells (over l s.length (ofBytes t)) 3), ?_, hO.put h2 _, hle.put_ h5.1 _, by rw [Heap.next_put]; exact Nat.le_refl _,
          .inr ⟨c, over l s.length (ofBytes t), by rw [List.length_append], Heap.get_put_self _ _ _, by rw [List.length_append, over_len2 l _ _ (by rw [hbl]; exact hfit)]; exact hfit, ?_, h5.1, by rw [over_len2 l _ _ (by rw [hbl]; exact hfit)]; exact h5.2⟩, fun b y e hv => ?_⟩
        · have e0 : (0 : Nat) + s.length * 1 = s.length := by omega
          have e1 : (0 : Nat) + (s.length + t.length) * 1 = s.length + t.length := by omega
          simp only [evalApp, hx, nbeq 1 1, decide_true, h10, Bool.not_false, Bool.and_self, cond_true, h2, appTo, nble, e0, e1, hn0, cond_false, decide_eq_true h3, decide_eq_true hfit]
        · rw [List.length_append]
          show (l.take s.length ++ (ofBytes t ++ l.drop (s.length + (ofBytes t).length))).take (s.length + t.length) = _
          rw [h4, ← List.append_assoc, ← ofBytes_app, List.take_append_of_le_length (by rw [ofBytes_len, List.length_append]; exact Nat.le_refl _), List.take_of_length_le (by rw [ofBytes_len, List.length_append]; exact Nat.le_refl _)]
        · have hcb : b ≠ c := by intro e'; subst e'; exact hv _ _ _ rfl
          exact ⟨by rw [Heap.get_put_ne _ _ _ hcb]; exact e, fun o l z hz => by injection hz with q; exact hcb q.symm⟩
      · have hO' := hO.put h2 .dead
        refine ⟨.sl H.next 0 (s.length + t.length) 1, (H.put c .dead).new (.cells (ofBytes s ++ ofBytes t) 3), ?_, hO'.new _, (hle.put_ h5.1 _).new_ hO' _, Nat.le_succ _,
          .inr ⟨H.next, ofBytes (s ++ t), by rw [List.length_append], by rw [← ofBytes_app]; exact Heap.get_new_self (H.put c .dead) _, by rw [ofBytes_len]; exact Nat.le_refl _, List.take_of_length_le (by rw [ofBytes_len]; exact Nat.le_refl _), hfresh, by rw [ofBytes_len, List.length_append]; omega⟩, fun b y e hv => ?_⟩
        · have e0 : (0 : Nat) + s.length * 1 = s.length := by omega
          have e1 : (0 : Nat) + (s.length + t.length) * 1 = s.length + t.length := by omega
          have e2 : s.length * 1 = s.length := by omega
          have e3 : (s.length + t.length) * 1 = s.length + t.length := by omega
          simp only [evalApp, hx, nbeq 1 1, decide_true, h10, Bool.not_false, Bool.and_self, cond_true, h2, appTo, nble, e0, e1, e2, e3, hn0, cond_false, decide_eq_true h3, Nat.zero_add, decide_eq_false hfit, nbeq 2 2, decide_eq_true hb, List.drop_zero, h4]
        · have hcb : b ≠ c := by intro e'; subst e'; exact hv _ _ _ rfl
          have hbn : b ≠ H.next := by intro e'; subst e'; rw [hO H.next (Nat.le_refl _)] at e; cases e
          exact ⟨by rw [Heap.get_new_ne _ _ (by rw [Heap.next_put]; exact hbn), Heap.get_put_ne _ _ _ hcb]; exact e, fun o l z hz => by injection hz with q; exact hbn q.symm⟩

/-- a strings.Builder at b that holds s -/
def Bld (H0 H : Heap) (b : Nat) (s : List UInt8) : Prop :=
  ∃ p v, H.get b = some (.cells [p, v] 2) ∧ (p = .nilp ∨ p = .ptr b 0) ∧ H0.get b = none ∧ BV H0 H v s ∧ ∀ o l z, v ≠ .sl b o l z
end Go.Proofs.YtkjmelfgopammaaDoor
