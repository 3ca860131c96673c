/- Layer 12's functions of the program that make lists and requests: what a call of each comes to. Conditions: none. -/
import Derived.Test.YtkjmelfgopammaaDoorWdA
namespace Go.Proofs.YtkjmelfgopammaaDoor
open Go.Dp Go.Wd
set_option linter.unusedSimpArgs false
set_option linter.unusedVariables false
set_option maxHeartbeats 1000000
attribute [local irreducible] Ex.thnK Ex.inK Ret

/-- texts as cells -/
def strs (l : List (List UInt8)) : List AV := l.map .str
theorem strs_sc (l : List (List UInt8)) : (strs l).all AV.isSc = true := by
  unfold strs; rw [List.all_map]; exact List.all_eq_true.2 fun _ _ => rfl
theorem strs_len (l : List (List UInt8)) : (strs l).length = l.length := by unfold strs; rw [List.length_map]
theorem strs_app (l m : List (List UInt8)) : strs (l ++ m) = strs l ++ strs m := by unfold strs; rw [List.map_append]

theorem splitGo_nil (cur : List UInt8) : splitGo cur [] = if cur.length = 0 then [] else [cur] := rfl
theorem splitGo_blank (cur : List UInt8) (c : UInt8) (r : List UInt8) (h : c.toNat = 32) : splitGo cur (c :: r) = if cur.length = 0 then splitGo [] r else cur :: splitGo [] r := if_pos h
theorem splitGo_other (cur : List UInt8) (c : UInt8) (r : List UInt8) (h : ¬ c.toNat = 32) : splitGo cur (c :: r) = splitGo (cur ++ [c]) r := if_neg h

theorem mid_add (s : List UInt8) {a i : Nat} (h : i < s.length) (ha : a ≤ i) : (s.drop a).take (i - a) ++ [s.getD i 0] = (s.drop a).take (i + 1 - a) := by
  have e : i + 1 - a = (i - a) + 1 := by omega
  rw [e, List.take_add_one, List.getElem?_drop, List.getD_eq_getElem?_getD]
  have : a + (i - a) = i := by omega
  rw [this, List.getElem?_eq_getElem h]
  rfl
theorem mid_len (s : List UInt8) {a i : Nat} (h : i ≤ s.length) (ha : a ≤ i) : ((s.drop a).take (i - a)).length = i - a := by
  rw [List.length_take, List.length_drop]; omega

theorem Split_ev (s : List UInt8) (hs : s.length < 1000000000) (H : Heap) (Q : AV → Heap → Prop) (hQ : ∀ v H', H'.Ok → HLe H H' → Own H H' 0 1 v (strs (splitW s)) → Q v H') : Eo lib n_words_Split [.str s] H Q := by
  refine Eo.ok fun hOk => ?_
  refine Eo.code at_words_Split rfl ?_
  repeat (first | ((first | apply Xk.sAny | apply Xk.tAny); (case hok => rfl); (case h => intro C hC; simp (disch := omega) only [w0, ↓reduceIte, Nat.reduceEqDiff, Nat.reduceLeDiff, Nat.reduceAdd, Nat.reduceSub]; with_reducible exact hC); refine gm ?_) | refine gm ?_)
  refine Xk.iter [0, 3, 4, 5] (fun m k H' => ∃ i a v out, m = s.length + 1 - i ∧ i ≤ s.length + 1 ∧ a ≤ i ∧ (i = s.length + 1 → splitW s = out) ∧ (i ≤ s.length → splitW s = out ++ splitGo ((s.drop a).take (i - a)) (s.drop i)) ∧ out.length ≤ i ∧
    H'.Ok ∧ HLe H H' ∧ Own H H' 0 1 v (strs out) ∧ k = [(0, .str s), (3, v), (4, .int .i64 (.ofNat a)), (5, .int .i64 (.ofNat i))]) rfl ⟨_, 0, 0, .nils, [], rfl, by omega, by omega, fun h => by omega, fun _ => rfl, by simp, hOk, HLe.refl _, .inl ⟨rfl, rfl⟩, rfl⟩ ?_
  rintro m k H' ⟨i, a, v, out, hm, hi, ha, he, hsp, hlen, hO, hle, hown, rfl⟩
  by_cases hd : s.length < i
  · have hd' : ¬ i ≤ s.length := by omega
    repeat (first | ((first | apply Xk.sAny | apply Xk.tAny); (case hok => rfl); (case h => intro C hC; simp (disch := omega) only [w0, ↓reduceIte, Nat.reduceEqDiff, Nat.reduceLeDiff, Nat.reduceAdd, Nat.reduceSub, hd']; with_reducible exact hC); refine gm ?_) | refine gm ?_)
    rw [← he (by omega)] at hown
    exact hQ _ _ hO hle hown
  have hd' : i ≤ s.length := by omega
  have hsp := hsp hd'
  by_cases hl : i < s.length
  · rw [drop_getD 0 hl] at hsp
    by_cases hb : (s.getD i 0).toNat = 32
    · rw [splitGo_blank _ _ _ hb, mid_len s hd' ha] at hsp
      by_cases hia : a < i
      · rw [if_neg (by omega)] at hsp
        have hia' : a ≤ i := by omega
        obtain ⟨v', H2, e, hO2, hle2, _, hown2, _⟩ := Own.push (w := 1) (bytes := 16) (row := [.str ((s.drop a).take (i - a))]) hO hle hown rfl rfl (by omega) (by rw [strs_len]; omega) (by rw [strs_len]; omega)
        repeat (first | ((first | apply Xk.sAny | apply Xk.tAny); (case hok => rfl); (case h => intro C hC; simp (disch := omega) only [w1, ↓reduceIte, Nat.reduceEqDiff, Nat.reduceLeDiff, Nat.reduceAdd, Nat.reduceSub, hd', hl, hb, hia, e, hia']; with_reducible exact hC); refine gm ?_) | refine gm ?_)
        refine ⟨rfl, _, ?_, i + 1, i + 1, v', out ++ [(s.drop a).take (i - a)], rfl, by omega, by omega, by omega, fun _ => ?_, ?_, hO2, hle2, ?_, rfl⟩
        · omega
        · rw [hsp, List.append_assoc]; simp
        · rw [List.length_append]; simp; omega
        · rw [strs_app]; exact hown2
      · rw [if_pos (by omega)] at hsp
        repeat (first | ((first | apply Xk.sAny | apply Xk.tAny); (case hok => rfl); (case h => intro C hC; simp (disch := omega) only [w0, ↓reduceIte, Nat.reduceEqDiff, Nat.reduceLeDiff, Nat.reduceAdd, Nat.reduceSub, hd', hl, hb, hia]; with_reducible exact hC); refine gm ?_) | refine gm ?_)
        refine ⟨rfl, _, ?_, i + 1, i + 1, v, out, rfl, by omega, by omega, by omega, fun _ => ?_, by omega, hO, hle, hown, rfl⟩
        · omega
        · rw [hsp]; simp
    · rw [splitGo_other _ _ _ hb, mid_add s hl ha] at hsp
      repeat (first | ((first | apply Xk.sAny | apply Xk.tAny); (case hok => rfl); (case h => intro C hC; simp (disch := omega) only [w0, ↓reduceIte, Nat.reduceEqDiff, Nat.reduceLeDiff, Nat.reduceAdd, Nat.reduceSub, hd', hl, hb]; with_reducible exact hC); refine gm ?_) | refine gm ?_)
      refine ⟨rfl, _, ?_, i + 1, a, v, out, rfl, by omega, by omega, by omega, fun _ => hsp, by omega, hO, hle, hown, rfl⟩
      omega
  · have hil : i = s.length := by omega
    rw [show s.drop i = [] from List.drop_eq_nil_of_le (by omega), splitGo_nil, mid_len s hd' ha] at hsp
    by_cases hia : a < i
    · rw [if_neg (by omega)] at hsp
      have hia' : a ≤ i := by omega
      obtain ⟨v', H2, e, hO2, hle2, _, hown2, _⟩ := Own.push (w := 1) (bytes := 16) (row := [.str ((s.drop a).take (i - a))]) hO hle hown rfl rfl (by omega) (by rw [strs_len]; omega) (by rw [strs_len]; omega)
      repeat (first | ((first | apply Xk.sAny | apply Xk.tAny); (case hok => rfl); (case h => intro C hC; simp (disch := omega) only [w1, ↓reduceIte, Nat.reduceEqDiff, Nat.reduceLeDiff, Nat.reduceAdd, Nat.reduceSub, hd', hl, hia, e, hia']; with_reducible exact hC); refine gm ?_) | refine gm ?_)
      refine ⟨rfl, _, ?_, i + 1, i + 1, v', out ++ [(s.drop a).take (i - a)], rfl, by omega, by omega, fun _ => hsp, fun h => by omega, ?_, hO2, hle2, ?_, rfl⟩
      · omega
      · rw [List.length_append]; simp; omega
      · rw [strs_app]; exact hown2
    · rw [if_pos (by omega), List.append_nil] at hsp
      repeat (first | ((first | apply Xk.sAny | apply Xk.tAny); (case hok => rfl); (case h => intro C hC; simp (disch := omega) only [w0, ↓reduceIte, Nat.reduceEqDiff, Nat.reduceLeDiff, Nat.reduceAdd, Nat.reduceSub, hd', hl, hia]; with_reducible exact hC); refine gm ?_) | refine gm ?_)
      refine ⟨rfl, _, ?_, i + 1, i + 1, v, out, rfl, by omega, by omega, fun _ => hsp, fun h => by omega, by omega, hO, hle, hown, rfl⟩
      omega
end Go.Proofs.YtkjmelfgopammaaDoor
