/- Frames of the cluster, taken; two rows of frames, the same. Conditions: none. NOT BUILT YET (the functions' names are guessed). -/
import Derived.Test.YtobnlhfgebfebaaGreatDoorCgB
namespace Go.Proofs.YtobnlhfgebfebaaGreatDoor
open Go.Dp
set_option linter.unusedSimpArgs false
set_option linter.unusedVariables false
set_option maxHeartbeats 400000
set_option maxRecDepth 8000
attribute [local irreducible] Ex.thnK Ex.inK Ret

abbrev frKs : List CK := [CK.i IntKind.i64, CK.i IntKind.i64, CK.i IntKind.i64, CK.i IntKind.i64, CK.i IntKind.i64, CK.i IntKind.i64, CK.s, CK.i IntKind.i64, CK.s]

theorem take_of {l R : List AV} {n : Nat} (hR : R.length = n) (h : ∀ j, j < n → l[j]? = R[j]?) : l.take n = R ∧ n ≤ l.length := by
  have hn : n ≤ l.length := by
    rcases Nat.eq_zero_or_pos n with e | e
    · omega
    · have := h (n - 1) (by omega)
      rw [List.getElem?_eq_getElem (show n - 1 < R.length by omega)] at this
      have := (List.getElem?_eq_some_iff.1 this).1
      omega
  refine ⟨List.ext_getElem? fun i => ?_, hn⟩
  rw [List.getElem?_take]
  by_cases hi : i < n
  · rw [if_pos hi, h i hi]
  · rw [if_neg hi, List.getElem?_eq_none (by omega)]
theorem row_of {l R : List AV} {S i : Nat} (hR : R.length = S * 9) (h : ∀ j, j < S * 9 → l[j]? = R[j]?) (hi : i < S) : i * 9 + 9 ≤ l.length ∧ (l.drop (i * 9)).take 9 = (R.drop (i * 9)).take 9 := by
  obtain ⟨h1, h2⟩ := take_of hR h
  have hS : (i + 1) * 9 ≤ S * 9 := Nat.mul_le_mul_right 9 hi
  refine ⟨by omega, ?_⟩
  rw [← h1]
  apply List.ext_getElem?
  intro j
  rw [List.getElem?_take, List.getElem?_take]
  by_cases hj : j < 9
  · rw [if_pos hj, if_pos hj, List.getElem?_drop, List.getElem?_drop, List.getElem?_take, if_pos (by omega)]
  · rw [if_neg hj, if_neg hj]

/-- a row appended to a new empty one -/
theorem app_new {sz bytes : Nat} (hsz : 0 < sz) (H : Heap) (hOk : H.Ok) (fb S : Nat) (hS : 0 < S) (hb : S * bytes ≤ 35184372088832) (hS2 : S ≤ 35184372088832) (l1 R : List AV) (u1 : Nat) (hR : R.length = S * sz) (hsc : R.all AV.isSc = true) (hg : H.get fb = some (.cells l1 u1)) (h : ∀ j, j < S * sz → l1[j]? = R[j]?) :
    evalApp 0 sz bytes (H.new (.cells [] 1)) (.sl H.next 0 0 sz) (.sl fb 0 S sz) = some (.sl (H.next + 1) 0 S sz, ((H.new (.cells [] 1)).put H.next .dead).new (.cells R 1)) := by
  obtain ⟨h1, h2⟩ := take_of hR h
  have gl := hOk.lt hg
  have hss : 0 < S * sz := Nat.mul_pos hS hsz
  have hsrc : srcCells (H.new (.cells [] 1)) sz (.sl fb 0 S sz) = some (S, R) := by
    simp only [srcCells, nbeq, decide_true, cond_true, Heap.ld, Heap.get_new_ne _ _ (show fb ≠ H.next by omega), hg, nble, Nat.zero_add, decide_eq_true h2, List.drop_zero, h1, hsc]
  have hz : decide (sz = 0) = false := decide_eq_false (by omega)
  have hs0 : decide (S = 0) = false := decide_eq_false (by omega)
  have hf : decide (0 + (0 + S) * sz ≤ ([] : List AV).length) = false := decide_eq_false (by simp; omega)
  simp only [evalApp, hsrc, nbeq, decide_true, hz, Bool.not_false, Bool.and_self, cond_true, Heap.get_new_self, appTo, nble, Nat.zero_mul, Nat.zero_add, List.length_nil, Nat.le_refl, hs0, cond_false]
  have hf2 : decide (S * sz ≤ 0) = false := decide_eq_false (by omega)
  simp only [hf2, cond_false, decide_eq_true hb, decide_eq_true hS2, Bool.and_self, cond_true, Heap.next_new, List.drop_zero, List.take_zero, List.nil_append]

theorem CloneF_ev (fb S : Nat) (hS : 0 < S) (hS2 : S < 1000) (l1 : List AV) (u1 : Nat) (R : List AV) (hR : R.length = S * 9) (hsc : R.all AV.isSc = true) (H : Heap) (hg : H.get fb = some (.cells l1 u1)) (h : ∀ j, j < S * 9 → l1[j]? = R[j]?) (Q : AV → Heap → Prop)
    (hQ : ∀ H', H'.Ok → HLe H H' → ∀ wb, H'.get wb = some (.cells R 1) → Q (.sl wb 0 S 9) H') : Eo lib n_slices_Clone_api_Frame_api_Frame [.sl fb 0 S 9] H Q := by
  refine Eo.ok fun hOk => ?_
  refine Eo.code at_slices_Clone_api_Frame_api_Frame rfl ?_
  have hnil : negIf false (eqv .s (.sl fb 0 S 9) .nils) = some (.bool false) := rfl
  have hap := app_new (sz := 9) (bytes := 88) (by omega) H hOk fb S hS (by omega) (by omega) l1 R u1 hR hsc hg h
  have hbs : nBslice 0 9 0 (some []) = some (.cells [] 1, slTo 0 9) := rfl
  have hsl : slTo 0 9 H.next = .sl H.next 0 0 9 := rfl
  repeat (first | ((first | apply Xk.sAny | apply Xk.tAny); (case hok => rfl); (case h => intro C hC; simp (disch := omega) only [w1, ↓reduceIte, Nat.reduceEqDiff, Nat.reduceLeDiff, Nat.reduceAdd, Nat.reduceSub, hnil, hap, hbs, hsl]; with_reducible exact hC); refine gc ?_) | refine gm ?_)
  exact hQ _ ((hOk.new _).new _) ((HLe.new (hOk _ (Nat.le_refl _)) .dead).new_ (hOk.new _) _) (H.next + 1) (Heap.get_new_self (H.new .dead) _)

theorem SameR_ev (fb wb S : Nat) (hS2 : S < 1000) (l1 l2 : List AV) (u1 u2 : Nat) (R : List AV) (hR : R.length = S * 9) (H : Heap) (g1 : H.get fb = some (.cells l1 u1)) (g2 : H.get wb = some (.cells l2 u2)) (h1 : ∀ j, j < S * 9 → l1[j]? = R[j]?) (h2 : ∀ j, j < S * 9 → l2[j]? = R[j]?)
    (hK : ∀ i, i < S → negIf true (aggEq frKs (.agg ((R.drop (i * 9)).take 9)) (.agg ((R.drop (i * 9)).take 9))) = some (.bool false)) (Q : AV → Heap → Prop) (hQ : Q (.bool true) H) : Eo lib n_depotbook_Same_api_Frame [.sl fb 0 S 9, .sl wb 0 S 9] H Q := by
  refine Eo.ok fun hOk => ?_
  refine Eo.code at_depotbook_Same_api_Frame rfl ?_
  have nbt : (!true) = false := rfl
  repeat (first | ((first | apply Xk.sAny | apply Xk.tAny); (case hok => rfl); (case h => intro C hC; simp (disch := omega) only [w1, ↓reduceIte, Nat.reduceEqDiff, Nat.reduceLeDiff, Nat.reduceAdd, Nat.reduceSub, nbt]; with_reducible exact hC); refine gc ?_) | refine gm ?_)
  refine Xk.iter [0, 1, 5] (fun m k G => ∃ i, m = S - i ∧ i ≤ S ∧ G = H ∧ k = [(0, .sl fb 0 S 9), (1, .sl wb 0 S 9), (5, .int .i64 (.ofNat i))]) rfl ⟨_, 0, rfl, Nat.zero_le _, rfl, rfl⟩ ?_
  rintro m k G ⟨i, rfl, hi, rfl, rfl⟩
  unfold l0_depotbook_Same_api_Frame
  by_cases c : i < S
  · obtain ⟨q1, r1⟩ := row_of hR h1 c
    obtain ⟨q2, r2⟩ := row_of hR h2 c
    have hag := hK i c
    generalize (R.drop (i * 9)).take 9 = x at r1 r2 hag
    repeat (first | ((first | apply Xk.sAny | apply Xk.tAny); (case hok => rfl); (case h => intro C hC; simp (disch := omega) only [w1, ↓reduceIte, Nat.reduceEqDiff, Nat.reduceLeDiff, Nat.reduceAdd, Nat.reduceSub, c, g1, g2, q1, q2, r1, r2, nbt, hag]; with_reducible exact hC); refine gc ?_) | refine gm ?_)
    exact ⟨rfl, _, by omega, i + 1, rfl, by omega, rfl, rfl⟩
  · repeat (first | ((first | apply Xk.sAny | apply Xk.tAny); (case hok => rfl); (case h => intro C hC; simp (disch := omega) only [w1, ↓reduceIte, Nat.reduceEqDiff, Nat.reduceLeDiff, Nat.reduceAdd, Nat.reduceSub, c]; with_reducible exact hC); refine gc ?_) | refine gm ?_)
    exact hQ

end Go.Proofs.YtobnlhfgebfebaaGreatDoor
