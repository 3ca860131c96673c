/- Rows of things with tags: one is read, one is written. Conditions: none. -/
import Derived.Test.YtfcjmllbejpbbaaGreatDoorTgA
namespace Go.Proofs.YtfcjmllbejpbbaaGreatDoor
open Go.Dp
set_option linter.unusedSimpArgs false
set_option linter.unusedVariables false
set_option maxHeartbeats 2000000

theorem over_take (l : List AV) (o : Nat) (vs : List AV) (m : Nat) (h : o + vs.length ≤ m) (hm : m ≤ l.length) : (over l o vs).take m = over (l.take m) o vs := by
  show (l.take o ++ (vs ++ l.drop (o + vs.length))).take m = (l.take m).take o ++ (vs ++ (l.take m).drop (o + vs.length))
  rw [List.take_take, Nat.min_eq_left (by omega), List.drop_take, ← List.append_assoc, ← List.append_assoc, List.take_append]
  have e : (l.take o ++ vs).length = o + vs.length := by rw [List.length_append, List.length_take]; omega
  rw [List.take_of_length_le (by omega), e]
theorem over_right (a r : List AV) (o : Nat) (vs : List AV) : over (a ++ r) (a.length + o) vs = a ++ over r o vs := by
  show (a ++ r).take (a.length + o) ++ (vs ++ (a ++ r).drop (a.length + o + vs.length)) = a ++ (r.take o ++ (vs ++ r.drop (o + vs.length)))
  rw [List.take_length_add_append, Nat.add_assoc, List.drop_length_add_append, List.append_assoc]
theorem over_left (a r : List AV) (o : Nat) (vs : List AV) (h : o + vs.length ≤ a.length) : over (a ++ r) o vs = over a o vs ++ r := by
  show (a ++ r).take o ++ (vs ++ (a ++ r).drop (o + vs.length)) = a.take o ++ (vs ++ a.drop (o + vs.length)) ++ r
  rw [List.take_append_of_le_length (by omega), List.drop_append_of_le_length (by omega), List.append_assoc, List.append_assoc]

section
variable {α : Type} {g : α → List AV} {n : Nat}
theorem fm_over (hg : ∀ a, (g a).length = n) (d : α) (j : Nat) (ys : List AV) (x' : α) (hj : j + ys.length ≤ n) : ∀ (l : List α) (i : Nat), i < l.length → g x' = over (g (l.getD i d)) j ys → over (l.flatMap g) (i * n + j) ys = (l.set i x').flatMap g
  | [], i, h, _ => by cases h
  | a :: l, 0, _, hx => by
    rw [Nat.zero_mul, Nat.zero_add, List.flatMap_cons, over_left _ _ _ _ (by rw [hg]; exact hj)]
    have : (a :: l).getD 0 d = a := rfl
    rw [this] at hx
    rw [← hx]
    rfl
  | a :: l, i + 1, h, hx => by
    have e : (i + 1) * n + j = (g a).length + (i * n + j) := by rw [Nat.add_mul, Nat.one_mul, hg]; omega
    rw [e, List.flatMap_cons, over_right, fm_over hg d j ys x' hj l i (Nat.lt_of_succ_lt_succ h) hx]
    rfl

/-- a row is read -/
theorem RT.rowG (hg : ∀ a, (g a).length = n) (d : α) {T : Tags} {H : Heap} {t : Tg} {k : Nat} {v : AV} {l : List α} (h : RT T H t k n v (l.flatMap g)) (hl : 0 < l.length) (hn : 0 < n) :
    ∃ c cl, v = .sl c 0 l.length n ∧ H.get c = some (.cells cl (k + 1)) ∧ T c = t ∧ l.length * n ≤ cl.length ∧ cl.take (l.length * n) = l.flatMap g ∧ ∀ i, i < l.length → i * n + n ≤ cl.length ∧ ∃ rest, cl.drop (i * n) = g (l.getD i d) ++ rest := by
  have hr := fm_len hg l
  rcases h with ⟨rfl, h2⟩ | ⟨c, len, cl, rfl, h2, h3, h4, h5, h6⟩
  · rw [h2, List.length_nil] at hr
    have := Nat.mul_pos hl hn
    omega
  · have he : len = l.length := Nat.eq_of_mul_eq_mul_right hn (by rw [← h2, hr])
    subst he
    rw [hr] at h4 h5
    refine ⟨c, cl, rfl, h3, h6, h4, h5, fun i hi => ?_⟩
    have hm : (i + 1) * n ≤ l.length * n := Nat.mul_le_mul_right _ hi
    rw [Nat.add_mul, Nat.one_mul] at hm
    refine ⟨by omega, (l.drop (i + 1)).flatMap g ++ cl.drop (l.length * n), ?_⟩
    have e : cl = l.flatMap g ++ cl.drop (l.length * n) := by rw [← h5, List.take_append_drop]
    have e2 : cl.drop (i * n) = (l.flatMap g).drop (i * n) ++ cl.drop (l.length * n) := by
      conv => lhs; rw [e]
      rw [List.drop_append_of_le_length (by rw [hr]; omega)]
    rw [e2, fm_drop hg d l i hi, List.append_assoc]
theorem RT.lensG (hg : ∀ a, (g a).length = n) {T : Tags} {H : Heap} {t : Tg} {k : Nat} {v : AV} {l : List α} (h : RT T H t k n v (l.flatMap g)) (hn : 0 < n) : rLensl v = some (.int .i64 (.ofNat l.length)) ∧ v.isSc = true ∧ v.cells = [v] := by
  refine ⟨?_, h.sc.2, h.sc.1⟩
  rw [h.lens hn, fm_len hg, Nat.mul_div_cancel _ hn]
/-- a part of one thing of a row is written -/
theorem RT.setG (hg : ∀ a, (g a).length = n) (d : α) {T : Tags} {H : Heap} {t : Tg} {k c : Nat} {l : List α} {cl : List AV} (hO : H.Ok) (h3 : H.get c = some (.cells cl (k + 1))) (h6 : T c = t) (h4 : l.length * n ≤ cl.length) (h5 : cl.take (l.length * n) = l.flatMap g)
    {i : Nat} (hi : i < l.length) {j : Nat} {ys : List AV} (hj : j + ys.length ≤ n) {x' : α} (hx : g x' = over (g (l.getD i d)) j ys) :
    RT T (H.put c (.cells (over cl (i * n + j) ys) (k + 1))) t k n (.sl c 0 l.length n) ((l.set i x').flatMap g) ∧ Stp (fun u => u = t) T H T (H.put c (.cells (over cl (i * n + j) ys) (k + 1))) ∧ i * n + j + ys.length ≤ cl.length := by
  have hm : (i + 1) * n ≤ l.length * n := Nat.mul_le_mul_right _ hi
  rw [Nat.add_mul, Nat.one_mul] at hm
  have hlen : ((l.set i x').flatMap g).length = l.length * n := by rw [fm_len hg, List.length_set]
  refine ⟨.inr ⟨c, l.length, _, rfl, hlen, Heap.get_put_self _ _ _, ?_, ?_, h6⟩, Stp.put hO h3 h6 _, by omega⟩
  · rw [hlen, over_lenC _ _ _ (by omega)]
    exact h4
  · rw [hlen, over_take _ _ _ _ (by omega) h4, h5, fm_over hg d j ys x' hj l i hi hx]
end
end Go.Proofs.YtfcjmllbejpbbaaGreatDoor
