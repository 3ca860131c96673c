/- strconv: Itoa of a number from 0 on. Conditions: none. -/
import Derived.Test.YtihoblfmhighpaaDoorStC
namespace Go.Proofs.YtihoblfmhighpaaDoor
open Go.Dp
set_option linter.unusedSimpArgs false
set_option linter.unusedVariables false
set_option maxHeartbeats 2000000
set_option maxRecDepth 8000
attribute [local irreducible] Ex.thnK Ex.inK Ret

theorem FormatInt_ev (u : Nat) (h : u < 9223372036854775808) (H : Heap) (hT : Tab H) (Q : AV → Heap → Prop) (hQ : ∀ H', H'.Ok → HLe H H' → Q (.str (dec u)) H') : Eo lib n_internal_strconv_FormatInt [.int .i64 (.ofNat u), .int .i64 (.ofNat 10)] H Q := by
  refine Eo.ok fun hOk => ?_
  refine Eo.code at_internal_strconv_FormatInt rfl ?_
  by_cases h1 : u < 100
  · have h1' := eq_true h1
    repeat (first | ((first | apply Xk.sAny | apply Xk.tAny); (case hok => rfl); (case h => intro C hC; simp (disch := omega) only [w1, ↓reduceIte, Nat.reduceEqDiff, Nat.reduceLeDiff, Nat.reduceAdd, Nat.reduceSub, h1']; with_reducible exact hC); refine gc ?_) | refine gm ?_)
    refine small_ev u h1 _ _ ?_
    repeat (first | ((first | apply Xk.sAny | apply Xk.tAny); (case hok => rfl); (case h => intro C hC; simp (disch := omega) only [w1, ↓reduceIte, Nat.reduceEqDiff, Nat.reduceLeDiff, Nat.reduceAdd, Nat.reduceSub]; with_reducible exact hC); refine gc ?_) | refine gm ?_)
    have e : dec u = dgs (if u < 10 then 1 else 2) u := by
      by_cases c : u < 10
      · rw [if_pos c]; exact dec_eq (by decide) (by decide) (.inr rfl) c
      · rw [if_neg c]; exact dec_eq (by decide) (by decide) (.inl (by show 10 ≤ u; omega)) h1
    rw [← e]
    exact hQ _ hOk (HLe.refl _)
  · have h1' := eq_false h1
    have hnew := HLe.new (hOk _ (Nat.le_refl _)) (.cells (rep 24 [.int .u8 (.ofNat 0)]) 1)
    have hrl : (rep 24 [AV.int .u8 (.ofNat 0)]).length = 24 := rfl
    repeat (first | ((first | apply Xk.sAny | apply Xk.tAny); (case hok => rfl); (case h => intro C hC; simp (disch := omega) only [w1, ↓reduceIte, Nat.reduceEqDiff, Nat.reduceLeDiff, Nat.reduceAdd, Nat.reduceSub, h1', Nat.not_lt_zero]; with_reducible exact hC); refine gc ?_) | refine gm ?_)
    refine numDigits_ev u (by omega) (by omega) _ (hT.mono hnew) _ fun n hn1 hn2 hn3 hn4 => ?_
    have hn24 : 1 + n ≤ 24 := by omega
    have hn1' : 1 ≤ 1 + n := by omega
    have hs : 1 + n - 1 = n := by omega
    repeat (first | ((first | apply Xk.sAny | apply Xk.tAny); (case hok => rfl); (case h => intro C hC; simp (disch := omega) only [w1, ↓reduceIte, Nat.reduceEqDiff, Nat.reduceLeDiff, Nat.reduceAdd, Nat.reduceSub, rSlarr, hrl, hn24, hn1', hs]; with_reducible exact hC); refine gc ?_) | refine gm ?_)
    refine formatBase10_ev _ 1 n u _ _ (Heap.get_new_self _ _) hn2 (by rw [hrl]; omega) hn4 (by omega) _ fun l H' hS hl hlen hpre hsuf => ?_
    rw [hrl] at hlen
    have ht : (l.drop 1).take n = ofBytes (dgs n u) := by
      rw [hsuf, List.take_append_of_le_length (by rw [ofBytes_len, dgs_len]; exact Nat.le_refl _), List.take_of_length_le (by rw [ofBytes_len, dgs_len]; exact Nat.le_refl _)]
    have hle : HLe H H' := by
      intro c x hc
      have := hOk.lt hc
      rw [hS.keep c (by omega)]
      exact hnew c x hc
    repeat (first | ((first | apply Xk.sAny | apply Xk.tAny); (case hok => rfl); (case h => intro C hC; simp (disch := omega) only [w1, ↓reduceIte, Nat.reduceEqDiff, Nat.reduceLeDiff, Nat.reduceAdd, Nat.reduceSub, rSlarr, hl, hlen, hn24, hn1', hs, rB2s, ht, strOf_of, Nat.not_lt_zero]; with_reducible exact hC); refine gc ?_) | refine gm ?_)
    rw [← dec_eq hn1 hn2 (.inl hn3) hn4]
    exact hQ _ hS.ok hle
theorem Itoa_ev (u : Nat) (h : u < 9223372036854775808) (H : Heap) (hT : Tab H) (Q : AV → Heap → Prop) (hQ : ∀ H', H'.Ok → HLe H H' → Q (.str (dec u)) H') : Eo lib n_strconv_Itoa [.int .i64 (.ofNat u)] H Q := by
  refine Eo.code at_strconv_Itoa rfl ?_
  repeat (first | ((first | apply Xk.sAny | apply Xk.tAny); (case hok => rfl); (case h => intro C hC; simp (disch := omega) only [w1, ↓reduceIte, Nat.reduceEqDiff, Nat.reduceLeDiff, Nat.reduceAdd, Nat.reduceSub]; with_reducible exact hC); refine gc ?_) | refine gm ?_)
  refine Eo.code at_internal_strconv_Itoa rfl ?_
  repeat (first | ((first | apply Xk.sAny | apply Xk.tAny); (case hok => rfl); (case h => intro C hC; simp (disch := omega) only [w1, ↓reduceIte, Nat.reduceEqDiff, Nat.reduceLeDiff, Nat.reduceAdd, Nat.reduceSub]; with_reducible exact hC); refine gc ?_) | refine gm ?_)
  refine FormatInt_ev u h _ hT _ fun H' hO hle => ?_
  repeat (first | ((first | apply Xk.sAny | apply Xk.tAny); (case hok => rfl); (case h => intro C hC; simp (disch := omega) only [w1, ↓reduceIte, Nat.reduceEqDiff, Nat.reduceLeDiff, Nat.reduceAdd, Nat.reduceSub]; with_reducible exact hC); refine gc ?_) | refine gm ?_)
  repeat (first | ((first | apply Xk.sAny | apply Xk.tAny); (case hok => rfl); (case h => intro C hC; simp (disch := omega) only [w1, ↓reduceIte, Nat.reduceEqDiff, Nat.reduceLeDiff, Nat.reduceAdd, Nat.reduceSub]; with_reducible exact hC); refine gc ?_) | refine gm ?_)
  exact hQ _ hO hle

/-- behind a loop, whichever way it was left: what holds there; l: the slots that are known -/
theorem _root_.Go.Dp.Xk.loopCut {L : Lib} {n : Nat} {k : Kn} {H : Heap} {Q : Ex → Kn → Heap → Prop} {b c : PC} {id : Nat} (l : List Nat) (I : Kn → Heap → Prop)
    (h1 : Xk L n (.loop b) k H (fun e k' H' => match e with
      | .exit j => j = id ∧ l.all (has k'.keys) = true ∧ I (k'.only l) H'
      | .ret => Q .ret k' H'
      | .normal => False))
    (h2 : ∀ k' H', I k' H' → Xk L n c k' H' Q) : Xk L n (.loop b) k H (Ex.inK id (Ex.thnK (fun k' H' => Xk L n c k' H' Q) Q)) :=
  h1.mono fun e k' H' _ _ h => by
    cases e with
    | normal => exact h.elim
    | ret => exact Ex.in_r (Ex.thn_r h)
    | exit j =>
      obtain ⟨rfl, hl, hI⟩ := h
      exact Ex.in_hit (Ex.thn_n (Xk.only l hl (h2 _ _ hI)))
end Go.Proofs.YtihoblfmhighpaaDoor
