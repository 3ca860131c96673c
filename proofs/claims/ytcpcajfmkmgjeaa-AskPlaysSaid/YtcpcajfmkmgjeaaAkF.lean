/- Layer 19: slices.Sort of few numbers. Conditions: none. -/
import Derived.Test.YtcpcajfmkmgjeaaAkE
namespace Go.Proofs.Ytcpcajfmkmgjeaa
open Go.Dp
set_option linter.unusedSimpArgs false
set_option linter.unusedVariables false
set_option maxHeartbeats 2000000
set_option maxRecDepth 8000
attribute [local irreducible] Ex.thnK Ex.inK Ret

abbrev Srt (l : List Int) : Prop := l.Pairwise (· ≤ ·)
def ints (l : List Int) : List AV := l.map (AV.int .i64)
theorem ints_len (l : List Int) : (ints l).length = l.length := List.length_map ..
theorem ints_at (a : List Int) (x : Int) (b : List Int) (rest : List AV) : ((ints (a ++ x :: b) ++ rest).drop a.length).take 1 = [.int .i64 x] := by
  unfold ints
  have hl : (a.map (AV.int .i64)).length = a.length := List.length_map ..
  rw [List.map_append, List.append_assoc, ← hl, List.drop_left]
  rfl
theorem ints_over (a : List Int) (x y : Int) (b : List Int) (rest : List AV) : over (ints (a ++ x :: b) ++ rest) a.length [.int .i64 y] = ints (a ++ y :: b) ++ rest := by
  show (ints (a ++ x :: b) ++ rest).take a.length ++ ([.int .i64 y] ++ (ints (a ++ x :: b) ++ rest).drop (a.length + 1)) = _
  unfold ints
  have hl : (a.map (AV.int .i64)).length = a.length := List.length_map ..
  rw [List.map_append, List.append_assoc, ← List.drop_drop, ← hl, List.take_left, List.drop_left, List.map_append, List.append_assoc]
  rfl

theorem Less_ev (x y : Int) (H : Heap) (Q : AV → Heap → Prop) (hQ : Q (.bool (decide (x < y))) H) : Eo lib n_cmp_Less_int [.int .i64 x, .int .i64 y] H Q := by
  refine Eo.ok fun hOk => ?_
  refine Eo.code at_cmp_Less_int rfl ?_
  repeat (first | ((first | apply Xk.sAny | apply Xk.tAny); (case hok => rfl); (case h => intro C hC; simp (disch := omega) only [w1, ↓reduceIte, Nat.reduceEqDiff, Nat.reduceLeDiff, Nat.reduceAdd, Nat.reduceSub]; with_reducible exact hC); refine gc ?_) | refine gm ?_)
  have nan : ∀ z : Int, ∀ Q : AV → Heap → Prop, Q (.bool false) H → Eo lib n_cmp_isNaN_int [.int .i64 z] H Q := by
    intro z Q hQ
    refine Eo.ok fun hOk => ?_
    refine Eo.code at_cmp_isNaN_int rfl ?_
    have q1 : (!true) = false := rfl
    repeat (first | ((first | apply Xk.sAny | apply Xk.tAny); (case hok => rfl); (case h => intro C hC; simp (disch := omega) only [w1, ↓reduceIte, Nat.reduceEqDiff, Nat.reduceLeDiff, Nat.reduceAdd, Nat.reduceSub, q1]; with_reducible exact hC); refine gc ?_) | refine gm ?_)
    repeat (first | ((first | apply Xk.sAny | apply Xk.tAny); (case hok => rfl); (case h => intro C hC; simp (disch := omega) only [w1, ↓reduceIte, Nat.reduceEqDiff, Nat.reduceLeDiff, Nat.reduceAdd, Nat.reduceSub, q1]; with_reducible exact hC); refine gc ?_) | refine gm ?_)
    exact hQ
  refine nan x _ ?_
  repeat (first | ((first | apply Xk.sAny | apply Xk.tAny); (case hok => rfl); (case h => intro C hC; simp (disch := omega) only [w1, ↓reduceIte, Nat.reduceEqDiff, Nat.reduceLeDiff, Nat.reduceAdd, Nat.reduceSub]; with_reducible exact hC); refine gc ?_) | refine gm ?_)
  repeat (first | ((first | apply Xk.sAny | apply Xk.tAny); (case hok => rfl); (case h => intro C hC; simp (disch := omega) only [w1, ↓reduceIte, Nat.reduceEqDiff, Nat.reduceLeDiff, Nat.reduceAdd, Nat.reduceSub]; with_reducible exact hC); refine gc ?_) | refine gm ?_)
  exact hQ

theorem Len_ev (n : Nat) (hn : n ≤ 12) (H : Heap) (Q : AV → Heap → Prop) (hQ : ∀ v, Q (.int .i64 v) H) : Eo lib n_math_bits_Len [.int .u64 (.ofNat n)] H Q := by
  refine Eo.ok fun hOk => ?_
  refine Eo.code at_math_bits_Len rfl ?_
  repeat (first | ((first | apply Xk.sAny | apply Xk.tAny); (case hok => rfl); (case h => intro C hC; simp (disch := omega) only [w1, ↓reduceIte, Nat.reduceEqDiff, Nat.reduceLeDiff, Nat.reduceAdd, Nat.reduceSub]; with_reducible exact hC); refine gc ?_) | refine gm ?_)
  repeat (first | ((first | apply Xk.sAny | apply Xk.tAny); (case hok => rfl); (case h => intro C hC; simp (disch := omega) only [w1, ↓reduceIte, Nat.reduceEqDiff, Nat.reduceLeDiff, Nat.reduceAdd, Nat.reduceSub]; with_reducible exact hC); refine gc ?_) | refine gm ?_)
  have e64 : ∀ Q : AV → Heap → Prop, (∀ v, Q (.int .i64 v) H) → Eo lib n_math_bits_Len64 [.int .u64 (.ofNat n)] H Q := by
    intro Q hQ
    refine Eo.ok fun hOk => ?_
    refine Eo.code at_math_bits_Len64 rfl ?_
    have c1 : ¬ 4294967296 ≤ n := by omega
    have c2 : ¬ 65536 ≤ n := by omega
    have c3 : ¬ 256 ≤ n := by omega
    repeat (first | ((first | apply Xk.sAny | apply Xk.tAny); (case hok => rfl); (case h => intro C hC; simp (disch := omega) only [w1, ↓reduceIte, Nat.reduceEqDiff, Nat.reduceLeDiff, Nat.reduceAdd, Nat.reduceSub, c1, c2, c3]; with_reducible exact hC); refine gc ?_) | refine gm ?_)
    repeat (first | ((first | apply Xk.sAny | apply Xk.tAny); (case hok => rfl); (case h => intro C hC; simp (disch := omega) only [w1, ↓reduceIte, Nat.reduceEqDiff, Nat.reduceLeDiff, Nat.reduceAdd, Nat.reduceSub, c1, c2, c3]; with_reducible exact hC); refine gc ?_) | refine gm ?_)
    repeat (first | ((first | apply Xk.sAny | apply Xk.tAny); (case hok => rfl); (case h => intro C hC; simp (disch := omega) only [w1, ↓reduceIte, Nat.reduceEqDiff, Nat.reduceLeDiff, Nat.reduceAdd, Nat.reduceSub, c1, c2, c3]; with_reducible exact hC); refine gc ?_) | refine gm ?_)
    repeat (first | ((first | apply Xk.sAny | apply Xk.tAny); (case hok => rfl); (case h => intro C hC; simp (disch := omega) only [w1, ↓reduceIte, Nat.reduceEqDiff, Nat.reduceLeDiff, Nat.reduceAdd, Nat.reduceSub, c1, c2, c3]; with_reducible exact hC); refine gc ?_) | refine gm ?_)
    have h22 := ixs [0, 1, 2, 2, 3, 3, 3, 3, 4, 4, 4, 4, 4, 4, 4, 4, 5, 5, 5, 5, 5, 5, 5, 5, 5, 5, 5, 5, 5, 5, 5, 5, 6, 6, 6, 6, 6, 6, 6, 6, 6, 6, 6, 6, 6, 6, 6, 6, 6, 6, 6, 6, 6, 6, 6, 6, 6, 6, 6, 6, 6, 6, 6, 6, 7, 7, 7, 7, 7, 7, 7, 7, 7, 7, 7, 7, 7, 7, 7, 7, 7, 7, 7, 7, 7, 7, 7, 7, 7, 7, 7, 7, 7, 7, 7, 7, 7, 7, 7, 7, 7, 7, 7, 7, 7, 7, 7, 7, 7, 7, 7, 7, 7, 7, 7, 7, 7, 7, 7, 7, 7, 7, 7, 7, 7, 7, 7, 7, 8, 8, 8, 8, 8, 8, 8, 8, 8, 8, 8, 8, 8, 8, 8, 8, 8, 8, 8, 8, 8, 8, 8, 8, 8, 8, 8, 8, 8, 8, 8, 8, 8, 8, 8, 8, 8, 8, 8, 8, 8, 8, 8, 8, 8, 8, 8, 8, 8, 8, 8, 8, 8, 8, 8, 8, 8, 8, 8, 8, 8, 8, 8, 8, 8, 8, 8, 8, 8, 8, 8, 8, 8, 8, 8, 8, 8, 8, 8, 8, 8, 8, 8, 8, 8, 8, 8, 8, 8, 8, 8, 8, 8, 8, 8, 8, 8, 8, 8, 8, 8, 8, 8, 8, 8, 8, 8, 8, 8, 8, 8, 8, 8, 8, 8, 8, 8, 8, 8, 8, 8, 8, 8, 8, 8, 8, 8, 8] .u8 n (by show n < 256; omega)
    have hm := UInt8.toNat_lt (([0, 1, 2, 2, 3, 3, 3, 3, 4, 4, 4, 4, 4, 4, 4, 4, 5, 5, 5, 5, 5, 5, 5, 5, 5, 5, 5, 5, 5, 5, 5, 5, 6, 6, 6, 6, 6, 6, 6, 6, 6, 6, 6, 6, 6, 6, 6, 6, 6, 6, 6, 6, 6, 6, 6, 6, 6, 6, 6, 6, 6, 6, 6, 6, 7, 7, 7, 7, 7, 7, 7, 7, 7, 7, 7, 7, 7, 7, 7, 7, 7, 7, 7, 7, 7, 7, 7, 7, 7, 7, 7, 7, 7, 7, 7, 7, 7, 7, 7, 7, 7, 7, 7, 7, 7, 7, 7, 7, 7, 7, 7, 7, 7, 7, 7, 7, 7, 7, 7, 7, 7, 7, 7, 7, 7, 7, 7, 7, 8, 8, 8, 8, 8, 8, 8, 8, 8, 8, 8, 8, 8, 8, 8, 8, 8, 8, 8, 8, 8, 8, 8, 8, 8, 8, 8, 8, 8, 8, 8, 8, 8, 8, 8, 8, 8, 8, 8, 8, 8, 8, 8, 8, 8, 8, 8, 8, 8, 8, 8, 8, 8, 8, 8, 8, 8, 8, 8, 8, 8, 8, 8, 8, 8, 8, 8, 8, 8, 8, 8, 8, 8, 8, 8, 8, 8, 8, 8, 8, 8, 8, 8, 8, 8, 8, 8, 8, 8, 8, 8, 8, 8, 8, 8, 8, 8, 8, 8, 8, 8, 8, 8, 8, 8, 8, 8, 8, 8, 8, 8, 8, 8, 8, 8, 8, 8, 8, 8, 8, 8, 8, 8, 8, 8, 8, 8, 8] : List UInt8).getD n 0)
    generalize (([0, 1, 2, 2, 3, 3, 3, 3, 4, 4, 4, 4, 4, 4, 4, 4, 5, 5, 5, 5, 5, 5, 5, 5, 5, 5, 5, 5, 5, 5, 5, 5, 6, 6, 6, 6, 6, 6, 6, 6, 6, 6, 6, 6, 6, 6, 6, 6, 6, 6, 6, 6, 6, 6, 6, 6, 6, 6, 6, 6, 6, 6, 6, 6, 7, 7, 7, 7, 7, 7, 7, 7, 7, 7, 7, 7, 7, 7, 7, 7, 7, 7, 7, 7, 7, 7, 7, 7, 7, 7, 7, 7, 7, 7, 7, 7, 7, 7, 7, 7, 7, 7, 7, 7, 7, 7, 7, 7, 7, 7, 7, 7, 7, 7, 7, 7, 7, 7, 7, 7, 7, 7, 7, 7, 7, 7, 7, 7, 8, 8, 8, 8, 8, 8, 8, 8, 8, 8, 8, 8, 8, 8, 8, 8, 8, 8, 8, 8, 8, 8, 8, 8, 8, 8, 8, 8, 8, 8, 8, 8, 8, 8, 8, 8, 8, 8, 8, 8, 8, 8, 8, 8, 8, 8, 8, 8, 8, 8, 8, 8, 8, 8, 8, 8, 8, 8, 8, 8, 8, 8, 8, 8, 8, 8, 8, 8, 8, 8, 8, 8, 8, 8, 8, 8, 8, 8, 8, 8, 8, 8, 8, 8, 8, 8, 8, 8, 8, 8, 8, 8, 8, 8, 8, 8, 8, 8, 8, 8, 8, 8, 8, 8, 8, 8, 8, 8, 8, 8, 8, 8, 8, 8, 8, 8, 8, 8, 8, 8, 8, 8, 8, 8, 8, 8, 8, 8] : List UInt8).getD n 0).toNat = m at h22 hm
    repeat (first | ((first | apply Xk.sAny | apply Xk.tAny); (case hok => rfl); (case h => intro C hC; simp (disch := omega) only [w1, ↓reduceIte, Nat.reduceEqDiff, Nat.reduceLeDiff, Nat.reduceAdd, Nat.reduceSub, h22]; with_reducible exact hC); refine gc ?_) | refine gm ?_)
    repeat (first | ((first | apply Xk.sAny | apply Xk.tAny); (case hok => rfl); (case h => intro C hC; simp (disch := omega) only [w1, ↓reduceIte, Nat.reduceEqDiff, Nat.reduceLeDiff, Nat.reduceAdd, Nat.reduceSub, h22]; with_reducible exact hC); refine gc ?_) | refine gm ?_)
    exact hQ _
  refine e64 _ fun v => ?_
  repeat (first | ((first | apply Xk.sAny | apply Xk.tAny); (case hok => rfl); (case h => intro C hC; simp (disch := omega) only [w1, ↓reduceIte, Nat.reduceEqDiff, Nat.reduceLeDiff, Nat.reduceAdd, Nat.reduceSub]; with_reducible exact hC); refine gc ?_) | refine gm ?_)
  exact hQ v

theorem Srt.mid {a b : List Int} {x : Int} (h : Srt (a ++ b)) (ha : ∀ y ∈ a, y ≤ x) (hb : ∀ y ∈ b, x < y) : Srt (a ++ x :: b) := by
  obtain ⟨h1, h2, h3⟩ := List.pairwise_append.1 h
  refine List.pairwise_append.2 ⟨h1, List.pairwise_cons.2 ⟨fun y hy => Int.le_of_lt (hb y hy), h2⟩, fun y hy w hw => ?_⟩
  rcases List.mem_cons.1 hw with rfl | hw
  · exact ha y hy
  · exact h3 y hy w hw

theorem insertion_ev (c : Nat) (z : List Int) (rest : List AV) (H : Heap) (hg : H.get c = some (.cells (ints z ++ rest) 1)) (hl : z.length ≤ 12) (Q : AV → Heap → Prop)
    (hQ : ∀ H' z', H'.Ok → H'.get c = some (.cells (ints z' ++ rest) 1) → (∀ b, b ≠ c → H'.get b = H.get b) → Srt z' → z'.Perm z → Q (.tup []) H') :
    Eo lib n_slices_insertionSortOrdered_int [.sl c 0 z.length 1, .int .i64 (.ofNat 0), .int .i64 (.ofNat z.length)] H Q := by
  refine Eo.ok fun hOk => ?_
  refine Eo.code at_slices_insertionSortOrdered_int rfl ?_
  repeat (first | ((first | apply Xk.sAny | apply Xk.tAny); (case hok => rfl); (case h => intro C hC; simp (disch := omega) only [w1, ↓reduceIte, Nat.reduceEqDiff, Nat.reduceLeDiff, Nat.reduceAdd, Nat.reduceSub]; with_reducible exact hC); refine gc ?_) | refine gm ?_)
  repeat (first | ((first | apply Xk.sAny | apply Xk.tAny); (case hok => rfl); (case h => intro C hC; simp (disch := omega) only [w1, ↓reduceIte, Nat.reduceEqDiff, Nat.reduceLeDiff, Nat.reduceAdd, Nat.reduceSub]; with_reducible exact hC); refine gc ?_) | refine gm ?_)
  refine Xk.iter [0, 1, 2, 6] (fun m k G => ∃ i s tl, m = 13 - i ∧ 1 ≤ i ∧ (s.length = i ∨ (s.length ≤ i ∧ tl = [])) ∧ Srt s ∧ (s ++ tl).Perm z ∧ G.get c = some (.cells (ints (s ++ tl) ++ rest) 1) ∧ (∀ b, b ≠ c → G.get b = H.get b) ∧
      k = [(0, .sl c 0 z.length 1), (1, .int .i64 (.ofNat 0)), (2, .int .i64 (.ofNat z.length)), (6, .int .i64 (.ofNat i))] ∧ G.Ok) rfl ?_ ?_
  · cases z with
    | nil => exact ⟨_, 1, [], [], rfl, Nat.le_refl _, .inr ⟨Nat.zero_le _, rfl⟩, List.Pairwise.nil, List.Perm.refl _, hg, fun _ _ => rfl, rfl, hOk⟩
    | cons a t => exact ⟨_, 1, [a], t, rfl, Nat.le_refl _, .inl rfl, List.pairwise_singleton _ _, List.Perm.refl _, hg, fun _ _ => rfl, rfl, hOk⟩
  rintro m k G ⟨i, s, tl, rfl, hi, hsl, hs, hperm, hg', hsame, rfl, hO'⟩
  unfold l1_slices_insertionSortOrdered_int
  have hplen := hperm.length_eq
  rw [List.length_append] at hplen
  by_cases ci : i < z.length
  case neg =>
    have htl : tl = [] := by
      rcases hsl with h | h
      · exact List.eq_nil_of_length_eq_zero (by omega)
      · exact h.2
    subst htl
    rw [List.append_nil] at hperm hg'
    repeat (first | ((first | apply Xk.sAny | apply Xk.tAny); (case hok => rfl); (case h => intro C hC; simp (disch := omega) only [w1, ↓reduceIte, Nat.reduceEqDiff, Nat.reduceLeDiff, Nat.reduceAdd, Nat.reduceSub, ci]; with_reducible exact hC); refine gc ?_) | refine gm ?_)
    exact hQ _ _ hO' hg' hsame hs hperm
  obtain ⟨hsi, x, tl, rfl⟩ : s.length = i ∧ ∃ x t, tl = x :: t := by
    cases tl with
    | nil =>
      simp only [List.length_nil] at hplen
      rcases hsl with h | h <;> omega
    | cons x t =>
      rcases hsl with h | h
      · exact ⟨h, x, t, rfl⟩
      · cases h.2
  repeat (first | ((first | apply Xk.sAny | apply Xk.tAny); (case hok => rfl); (case h => intro C hC; simp (disch := omega) only [w1, ↓reduceIte, Nat.reduceEqDiff, Nat.reduceLeDiff, Nat.reduceAdd, Nat.reduceSub, ci]; with_reducible exact hC); refine gc ?_) | refine gm ?_)
  repeat (first | ((first | apply Xk.sAny | apply Xk.tAny); (case hok => rfl); (case h => intro C hC; simp (disch := omega) only [w1, ↓reduceIte, Nat.reduceEqDiff, Nat.reduceLeDiff, Nat.reduceAdd, Nat.reduceSub, ci]; with_reducible exact hC); refine gc ?_) | refine gm ?_)
  refine Xk.iter [0, 1, 2, 6, 7] (fun m k G => ∃ pre suf, m = pre.length ∧ pre.length + suf.length = i ∧ Srt (pre ++ suf) ∧ (∀ y ∈ suf, x < y) ∧ (pre ++ x :: (suf ++ tl)).Perm z ∧ G.get c = some (.cells (ints (pre ++ x :: (suf ++ tl)) ++ rest) 1) ∧ (∀ b, b ≠ c → G.get b = H.get b) ∧
      k = [(0, .sl c 0 z.length 1), (1, .int .i64 (.ofNat 0)), (2, .int .i64 (.ofNat z.length)), (6, .int .i64 (.ofNat i)), (7, .int .i64 (.ofNat pre.length))] ∧ G.Ok) rfl
    ⟨_, s, [], rfl, by rw [hsi]; rfl, by rw [List.append_nil]; exact hs, fun y h => by (cases h), hperm, hg', hsame, by rw [hsi]; rfl, hO'⟩ ?_
  rintro m k G' ⟨pre, suf, rfl, hps, hsrt, hgt, hperm', hg2, hsame2, rfl, hO2⟩
  unfold l0_slices_insertionSortOrdered_int
  have hplen2 := hperm'.length_eq
  rw [List.length_append, List.length_cons, List.length_append] at hplen2
  have done : (∀ y ∈ pre, y ≤ x) → ∃ m', m' < 13 - i ∧ ∃ i' s' tl', m' = 13 - i' ∧ 1 ≤ i' ∧ (s'.length = i' ∨ (s'.length ≤ i' ∧ tl' = [])) ∧ Srt s' ∧ (s' ++ tl').Perm z ∧ G'.get c = some (.cells (ints (s' ++ tl') ++ rest) 1) ∧ (∀ b, b ≠ c → G'.get b = H.get b) ∧
      ([(0, .sl c 0 z.length 1), (1, .int .i64 (.ofNat 0)), (2, .int .i64 (.ofNat z.length)), (6, .int .i64 (.ofNat (i + 1)))] : Kn) = [(0, .sl c 0 z.length 1), (1, .int .i64 (.ofNat 0)), (2, .int .i64 (.ofNat z.length)), (6, .int .i64 (.ofNat i'))] ∧ G'.Ok := fun hle => by
    have e : pre ++ x :: (suf ++ tl) = (pre ++ x :: suf) ++ tl := by rw [List.append_assoc]; rfl
    rw [e] at hperm' hg2
    exact ⟨_, by omega, i + 1, pre ++ x :: suf, tl, rfl, by omega, .inl (by rw [List.length_append, List.length_cons]; omega), hsrt.mid hle hgt, hperm', hg2, hsame2, rfl, hO2⟩
  have hcase : pre = [] ∨ ∃ p y, pre = p ++ [y] := by
    rcases List.eq_nil_or_concat pre with h | ⟨p, y, h⟩
    · exact .inl h
    · exact .inr ⟨p, y, by rw [h, List.concat_eq_append]⟩
  rcases hcase with rfl | ⟨pre', y, rfl⟩
  · have hne : ¬ 0 < 0 := by decide
    repeat (first | ((first | apply Xk.sAny | apply Xk.tAny); (case hok => rfl); (case h => intro C hC; simp (disch := omega) only [w1, ↓reduceIte, Nat.reduceEqDiff, Nat.reduceLeDiff, Nat.reduceAdd, Nat.reduceSub, hne, List.length_nil]; with_reducible exact hC); refine gc ?_) | refine gm ?_)
    repeat (first | ((first | apply Xk.sAny | apply Xk.tAny); (case hok => rfl); (case h => intro C hC; simp (disch := omega) only [w1, ↓reduceIte, Nat.reduceEqDiff, Nat.reduceLeDiff, Nat.reduceAdd, Nat.reduceSub, hne, List.length_nil]; with_reducible exact hC); refine gc ?_) | refine gm ?_)
    exact ⟨rfl, done (fun y h => by cases h)⟩
  · have hjl : (pre' ++ [y]).length = pre'.length + 1 := by rw [List.length_append]; rfl
    have hcl : (pre' ++ [y]) ++ x :: (suf ++ tl) = pre' ++ y :: (x :: (suf ++ tl)) := by rw [List.append_assoc]; rfl
    have k1 := ints_at (pre' ++ [y]) x (suf ++ tl) rest
    have k2 := ints_at pre' y (x :: (suf ++ tl)) rest
    have o1 := ints_over (pre' ++ [y]) x y (suf ++ tl) rest
    have o2 := ints_over pre' y x (y :: (suf ++ tl)) rest
    have hcl2 : (pre' ++ [y]) ++ y :: (suf ++ tl) = pre' ++ y :: (y :: (suf ++ tl)) := by rw [List.append_assoc]; rfl
    rw [hjl] at hplen2
    have kl : pre'.length + 1 + 1 ≤ (ints ((pre' ++ [y]) ++ x :: (suf ++ tl)) ++ rest).length := by
      rw [List.length_append, ints_len, List.length_append, hjl, List.length_cons]
      omega
    rw [hjl] at k1 o1
    rw [← hcl] at k2
    rw [← hcl2] at o2
    have kl1 : (ints ((pre' ++ [y]) ++ y :: (suf ++ tl)) ++ rest).length = (ints ((pre' ++ [y]) ++ x :: (suf ++ tl)) ++ rest).length := by
      rw [List.length_append, List.length_append, ints_len, ints_len, List.length_append (bs := y :: (suf ++ tl)), List.length_append (bs := x :: (suf ++ tl)), List.length_cons, List.length_cons]
    have hpz : pre'.length + 1 ≤ z.length := by omega
    have hstep : (pre' ++ x :: (y :: suf ++ tl)).Perm z := by
      refine List.Perm.trans ?_ hperm'
      rw [hcl]
      exact List.Perm.append_left pre' (List.Perm.swap y x (suf ++ tl))
    have hsrt' : Srt (pre' ++ y :: suf) := by rw [List.append_assoc] at hsrt; exact hsrt
    have hlast : ∀ w ∈ pre', w ≤ y := fun w hw => (List.pairwise_append.1 hsrt').2.2 w hw y (List.mem_cons_self ..)
    rw [hjl] at hps ⊢
    generalize ints ((pre' ++ [y]) ++ x :: (suf ++ tl)) ++ rest = cl at hg2 k1 k2 o1 kl kl1
    have hg2' := hg2
    generalize ints ((pre' ++ [y]) ++ y :: (suf ++ tl)) ++ rest = cl1 at o1 o2 kl1
    have kn : pre'.length + 1 < z.length := by omega
    have kn2 : pre'.length < z.length := by omega
    have hp0 : 0 < pre'.length + 1 := Nat.succ_pos _
    have kl0 : pre'.length + 1 ≤ cl.length := by omega
    by_cases cxy : x < y
    · repeat (first | ((first | apply Xk.sAny | apply Xk.tAny); (case hok => rfl); (case h => intro C hC; simp (disch := omega) only [w1, ↓reduceIte, Nat.reduceEqDiff, Nat.reduceLeDiff, Nat.reduceAdd, Nat.reduceSub, hg2, k1, k2, kl, kn, kn2, hp0, kl0]; with_reducible exact hC); refine gc ?_) | refine gm ?_)
      refine Less_ev x y _ _ ?_
      repeat (first | ((first | apply Xk.sAny | apply Xk.tAny); (case hok => rfl); (case h => intro C hC; simp (disch := omega) only [w1, ↓reduceIte, Nat.reduceEqDiff, Nat.reduceLeDiff, Nat.reduceAdd, Nat.reduceSub, hg2, cxy]; with_reducible exact hC); refine gc ?_) | refine gm ?_)
      have o1' : cl.take (pre'.length + 1) ++ AV.int .i64 y :: cl.drop (pre'.length + 1 + 1) = cl1 := o1
      have o2' : cl1.take pre'.length ++ AV.int .i64 x :: cl1.drop (pre'.length + 1) = ints (pre' ++ x :: y :: (suf ++ tl)) ++ rest := o2
      have kl2 : pre'.length + 1 ≤ cl1.length := by omega
      repeat (first | ((first | apply Xk.sAny | apply Xk.tAny); (case hok => rfl); (case h => intro C hC; simp (disch := omega) only [w1, ↓reduceIte, Nat.reduceEqDiff, Nat.reduceLeDiff, Nat.reduceAdd, Nat.reduceSub, hg2, k1, k2, kl, kn, kn2, hp0, kl0, o1', kl2, o2']; with_reducible exact hC); refine gc ?_) | refine gm ?_)
      refine ⟨rfl, _, by omega, pre', y :: suf, rfl, ?_, hsrt', ?_, hstep, Heap.get_put_self _ _ _, fun b hb => by rw [Heap.get_put_ne _ _ _ hb]; exact hsame2 b hb, rfl, hO2.put hg2 _⟩
      · rw [List.length_cons]
        omega
      · intro w hw
        rcases List.mem_cons.1 hw with rfl | hw
        · exact cxy
        · exact hgt w hw
    · have hd := done (fun w hw => by
        rcases List.mem_append.1 hw with h | h
        · exact Int.le_trans (hlast w h) (Int.not_lt.1 cxy)
        · rw [List.mem_singleton] at h
          rw [h]
          exact Int.not_lt.1 cxy)
      repeat (first | ((first | apply Xk.sAny | apply Xk.tAny); (case hok => rfl); (case h => intro C hC; simp (disch := omega) only [w1, ↓reduceIte, Nat.reduceEqDiff, Nat.reduceLeDiff, Nat.reduceAdd, Nat.reduceSub, hg2, k1, k2, kl, kn, kn2, hp0, kl0]; with_reducible exact hC); refine gc ?_) | refine gm ?_)
      refine Less_ev x y _ _ ?_
      repeat (first | ((first | apply Xk.sAny | apply Xk.tAny); (case hok => rfl); (case h => intro C hC; simp (disch := omega) only [w1, ↓reduceIte, Nat.reduceEqDiff, Nat.reduceLeDiff, Nat.reduceAdd, Nat.reduceSub, hg2, cxy]; with_reducible exact hC); refine gc ?_) | refine gm ?_)
      repeat (first | ((first | apply Xk.sAny | apply Xk.tAny); (case hok => rfl); (case h => intro C hC; simp (disch := omega) only [w1, ↓reduceIte, Nat.reduceEqDiff, Nat.reduceLeDiff, Nat.reduceAdd, Nat.reduceSub, hg2, cxy]; with_reducible exact hC); refine gc ?_) | refine gm ?_)
      exact ⟨rfl, hd⟩

theorem Sort_ev (Hs H : Heap) (v : AV) (z : List Int) (hv : RV Hs H 0 1 v (ints z)) (hl : z.length ≤ 12) (Q : AV → Heap → Prop)
    (hQ : ∀ H' z', H'.Ok → RV Hs H' 0 1 v (ints z') → (∀ b, (∀ o l z, v ≠ .sl b o l z) → H'.get b = H.get b) → Srt z' → z'.Perm z → Q (.tup []) H') : Eo lib n_slices_Sort_int_int [v] H Q := by
  refine Eo.ok fun hOk => ?_
  refine Eo.code at_slices_Sort_int_int rfl ?_
  have hvl := hv.lens (by decide)
  rw [ints_len, Nat.div_one] at hvl
  repeat (first | ((first | apply Xk.sAny | apply Xk.tAny); (case hok => rfl); (case h => intro C hC; simp (disch := omega) only [w1, ↓reduceIte, Nat.reduceEqDiff, Nat.reduceLeDiff, Nat.reduceAdd, Nat.reduceSub, hvl]; with_reducible exact hC); refine gc ?_) | refine gm ?_)
  repeat (first | ((first | apply Xk.sAny | apply Xk.tAny); (case hok => rfl); (case h => intro C hC; simp (disch := omega) only [w1, ↓reduceIte, Nat.reduceEqDiff, Nat.reduceLeDiff, Nat.reduceAdd, Nat.reduceSub, hvl]; with_reducible exact hC); refine gc ?_) | refine gm ?_)
  refine Len_ev z.length hl _ _ fun n => ?_
  repeat (first | ((first | apply Xk.sAny | apply Xk.tAny); (case hok => rfl); (case h => intro C hC; simp (disch := omega) only [w1, ↓reduceIte, Nat.reduceEqDiff, Nat.reduceLeDiff, Nat.reduceAdd, Nat.reduceSub, hvl]; with_reducible exact hC); refine gc ?_) | refine gm ?_)
  have pdq : ∀ Q : AV → Heap → Prop, (∀ H' z', H'.Ok → RV Hs H' 0 1 v (ints z') → (∀ b, (∀ o l z, v ≠ .sl b o l z) → H'.get b = H.get b) → Srt z' → z'.Perm z → Q (.tup []) H') →
      Eo lib n_slices_pdqsortOrdered_int [v, .int .i64 (.ofNat 0), .int .i64 (.ofNat z.length), .int .i64 n] H Q := by
    intro Q hQ
    refine Eo.ok fun hOk => ?_
    refine Eo.code at_slices_pdqsortOrdered_int rfl ?_
    repeat (first | ((first | apply Xk.sAny | apply Xk.tAny); (case hok => rfl); (case h => intro C hC; simp (disch := omega) only [w1, ↓reduceIte, Nat.reduceEqDiff, Nat.reduceLeDiff, Nat.reduceAdd, Nat.reduceSub]; with_reducible exact hC); refine gc ?_) | refine gm ?_)
    repeat (first | ((first | apply Xk.sAny | apply Xk.tAny); (case hok => rfl); (case h => intro C hC; simp (disch := omega) only [w1, ↓reduceIte, Nat.reduceEqDiff, Nat.reduceLeDiff, Nat.reduceAdd, Nat.reduceSub]; with_reducible exact hC); refine gc ?_) | refine gm ?_)
    refine Xk.iter [0, 1, 2, 3] (fun m k G => m = 1 ∧ k = [(0, v), (1, .int .i64 (.ofNat 0)), (2, .int .i64 (.ofNat z.length)), (3, .int .i64 n)] ∧ G = H) rfl ⟨_, rfl, rfl, rfl⟩ ?_
    rintro m k G ⟨rfl, rfl, rfl⟩
    unfold l0_slices_pdqsortOrdered_int
    repeat (first | ((first | apply Xk.sAny | apply Xk.tAny); (case hok => rfl); (case h => intro C hC; simp (disch := omega) only [w1, ↓reduceIte, Nat.reduceEqDiff, Nat.reduceLeDiff, Nat.reduceAdd, Nat.reduceSub, hl]; with_reducible exact hC); refine gc ?_) | refine gm ?_)
    repeat (first | ((first | apply Xk.sAny | apply Xk.tAny); (case hok => rfl); (case h => intro C hC; simp (disch := omega) only [w1, ↓reduceIte, Nat.reduceEqDiff, Nat.reduceLeDiff, Nat.reduceAdd, Nat.reduceSub, hl]; with_reducible exact hC); refine gc ?_) | refine gm ?_)
    rcases hv with ⟨rfl, hz⟩ | ⟨c, len, l, rfl, h2, h3, h4, h5, h6⟩
    · have hz0 : z = [] := by
        cases z with
        | nil => rfl
        | cons a t => cases hz
      subst hz0
      have nils : ∀ Q : AV → Heap → Prop, Q (.tup []) G → Eo lib n_slices_insertionSortOrdered_int [.nils, .int .i64 (.ofNat 0), .int .i64 (.ofNat 0)] G Q := by
        intro Q hQ
        refine Eo.ok fun hOk => ?_
        refine Eo.code at_slices_insertionSortOrdered_int rfl ?_
        repeat (first | ((first | apply Xk.sAny | apply Xk.tAny); (case hok => rfl); (case h => intro C hC; simp (disch := omega) only [w1, ↓reduceIte, Nat.reduceEqDiff, Nat.reduceLeDiff, Nat.reduceAdd, Nat.reduceSub]; with_reducible exact hC); refine gc ?_) | refine gm ?_)
        repeat (first | ((first | apply Xk.sAny | apply Xk.tAny); (case hok => rfl); (case h => intro C hC; simp (disch := omega) only [w1, ↓reduceIte, Nat.reduceEqDiff, Nat.reduceLeDiff, Nat.reduceAdd, Nat.reduceSub]; with_reducible exact hC); refine gc ?_) | refine gm ?_)
        refine Xk.iter [2, 6] (fun m k G' => m = 1 ∧ k = [(2, .int .i64 (.ofNat 0)), (6, .int .i64 (.ofNat 1))] ∧ G' = G) rfl ⟨_, rfl, rfl, rfl⟩ ?_
        rintro m k G' ⟨rfl, rfl, rfl⟩
        unfold l1_slices_insertionSortOrdered_int
        have h10 : ¬ 1 < 0 := by decide
        repeat (first | ((first | apply Xk.sAny | apply Xk.tAny); (case hok => rfl); (case h => intro C hC; simp (disch := omega) only [w1, ↓reduceIte, Nat.reduceEqDiff, Nat.reduceLeDiff, Nat.reduceAdd, Nat.reduceSub, h10]; with_reducible exact hC); refine gc ?_) | refine gm ?_)
        repeat (first | ((first | apply Xk.sAny | apply Xk.tAny); (case hok => rfl); (case h => intro C hC; simp (disch := omega) only [w1, ↓reduceIte, Nat.reduceEqDiff, Nat.reduceLeDiff, Nat.reduceAdd, Nat.reduceSub, h10]; with_reducible exact hC); refine gc ?_) | refine gm ?_)
        exact hQ
      refine nils _ ?_
      repeat (first | ((first | apply Xk.sAny | apply Xk.tAny); (case hok => rfl); (case h => intro C hC; simp (disch := omega) only [w1, ↓reduceIte, Nat.reduceEqDiff, Nat.reduceLeDiff, Nat.reduceAdd, Nat.reduceSub]; with_reducible exact hC); refine gc ?_) | refine gm ?_)
      repeat (first | ((first | apply Xk.sAny | apply Xk.tAny); (case hok => rfl); (case h => intro C hC; simp (disch := omega) only [w1, ↓reduceIte, Nat.reduceEqDiff, Nat.reduceLeDiff, Nat.reduceAdd, Nat.reduceSub]; with_reducible exact hC); refine gc ?_) | refine gm ?_)
      exact hQ _ [] hOk (.inl ⟨rfl, rfl⟩) (fun _ _ => rfl) List.Pairwise.nil (List.Perm.refl _)
    · rw [ints_len, Nat.mul_one] at h2
      subst h2
      rw [ints_len] at h4 h5
      have hcl : l = ints z ++ l.drop z.length := by
        have := List.take_append_drop z.length l
        rw [h5] at this
        exact this.symm
      rw [hcl] at h3
      generalize l.drop z.length = rest at h3
      refine insertion_ev c z rest G h3 hl _ fun H' z' hO' hg' hsame hs hp => ?_
      repeat (first | ((first | apply Xk.sAny | apply Xk.tAny); (case hok => rfl); (case h => intro C hC; simp (disch := omega) only [w1, ↓reduceIte, Nat.reduceEqDiff, Nat.reduceLeDiff, Nat.reduceAdd, Nat.reduceSub]; with_reducible exact hC); refine gc ?_) | refine gm ?_)
      repeat (first | ((first | apply Xk.sAny | apply Xk.tAny); (case hok => rfl); (case h => intro C hC; simp (disch := omega) only [w1, ↓reduceIte, Nat.reduceEqDiff, Nat.reduceLeDiff, Nat.reduceAdd, Nat.reduceSub]; with_reducible exact hC); refine gc ?_) | refine gm ?_)
      have hlz := hp.length_eq
      refine hQ _ z' hO' (.inr ⟨c, z.length, ints z' ++ rest, rfl, by rw [ints_len, Nat.mul_one, hlz], hg', by rw [List.length_append]; exact Nat.le_add_right _ _, List.take_left, h6⟩) (fun b hb => hsame b (fun e => hb 0 z.length 1 (by rw [e]))) hs hp
  refine pdq _ fun H' z' hO' hr hsame hs hp => ?_
  repeat (first | ((first | apply Xk.sAny | apply Xk.tAny); (case hok => rfl); (case h => intro C hC; simp (disch := omega) only [w1, ↓reduceIte, Nat.reduceEqDiff, Nat.reduceLeDiff, Nat.reduceAdd, Nat.reduceSub]; with_reducible exact hC); refine gc ?_) | refine gm ?_)
  repeat (first | ((first | apply Xk.sAny | apply Xk.tAny); (case hok => rfl); (case h => intro C hC; simp (disch := omega) only [w1, ↓reduceIte, Nat.reduceEqDiff, Nat.reduceLeDiff, Nat.reduceAdd, Nat.reduceSub]; with_reducible exact hC); refine gc ?_) | refine gm ?_)
  exact hQ _ z' hO' hr hsame hs hp

theorem Contains_ev (Hs H : Heap) (v : AV) (z : List Int) (x : Int) (hv : RV Hs H 0 1 v (ints z)) (hl : z.length ≤ 100000) (Q : AV → Heap → Prop) (hQ : Q (.bool (z.contains x)) H) : Eo lib n_slices_Contains_int_int [v, .int .i64 x] H Q := by
  refine Eo.ok fun hOk => ?_
  refine Eo.code at_slices_Contains_int_int rfl ?_
  repeat (first | ((first | apply Xk.sAny | apply Xk.tAny); (case hok => rfl); (case h => intro C hC; simp (disch := omega) only [w1, ↓reduceIte, Nat.reduceEqDiff, Nat.reduceLeDiff, Nat.reduceAdd, Nat.reduceSub]; with_reducible exact hC); refine gc ?_) | refine gm ?_)
  repeat (first | ((first | apply Xk.sAny | apply Xk.tAny); (case hok => rfl); (case h => intro C hC; simp (disch := omega) only [w1, ↓reduceIte, Nat.reduceEqDiff, Nat.reduceLeDiff, Nat.reduceAdd, Nat.reduceSub]; with_reducible exact hC); refine gc ?_) | refine gm ?_)
  have ind : ∀ Q : AV → Heap → Prop, (z.contains x = true → ∀ i : Nat, Q (.int .i64 (.ofNat i)) H) → (z.contains x = false → Q (.int .i64 (.negSucc 0)) H) → Eo lib n_slices_Index_int_int [v, .int .i64 x] H Q := by
    intro Q hy hn
    refine Eo.ok fun hOk => ?_
    refine Eo.code at_slices_Index_int_int rfl ?_
    have hvl := hv.lens (by decide)
    rw [ints_len, Nat.div_one] at hvl
    repeat (first | ((first | apply Xk.sAny | apply Xk.tAny); (case hok => rfl); (case h => intro C hC; simp (disch := omega) only [w1, ↓reduceIte, Nat.reduceEqDiff, Nat.reduceLeDiff, Nat.reduceAdd, Nat.reduceSub, hvl]; with_reducible exact hC); refine gc ?_) | refine gm ?_)
    repeat (first | ((first | apply Xk.sAny | apply Xk.tAny); (case hok => rfl); (case h => intro C hC; simp (disch := omega) only [w1, ↓reduceIte, Nat.reduceEqDiff, Nat.reduceLeDiff, Nat.reduceAdd, Nat.reduceSub, hvl]; with_reducible exact hC); refine gc ?_) | refine gm ?_)
    refine Xk.iter [0, 1, 7, 8] (fun m k G => ∃ i, m = z.length - i ∧ i ≤ z.length ∧ (∀ y ∈ z.take i, x ≠ y) ∧ k = [(0, v), (1, .int .i64 x), (7, .int .i64 (.ofNat z.length)), (8, .int .i64 (.ofNat i))] ∧ G = H) rfl
      ⟨_, 0, rfl, Nat.zero_le _, (fun y h => by cases h), rfl, rfl⟩ ?_
    rintro m k G ⟨i, rfl, hi, hno, rfl, rfl⟩
    unfold l0_slices_Index_int_int
    by_cases c : i < z.length
    · rcases hv with ⟨rfl, hz⟩ | ⟨cc, len, l, rfl, h2, h3, h4, h5, h6⟩
      · have : (ints z).length = 0 := by rw [hz]; rfl
        rw [ints_len] at this
        omega
      · rw [ints_len, Nat.mul_one] at h2
        subst h2
        rw [ints_len] at h4 h5
        have k1 : (l.drop i).take 1 = [.int .i64 (z[i])] := by
          have e : (l.take z.length).drop i = ints (z.drop i) := by rw [h5]; exact List.map_drop.symm
          have e2 : ((l.take z.length).drop i).take 1 = [.int .i64 (z[i])] := by
            rw [e, List.drop_eq_getElem_cons c]
            rfl
          rw [← e2, List.drop_take, List.take_take, Nat.min_eq_left (by omega)]
        have kl : i + 1 ≤ l.length := by omega
        have hsn : z.take (i + 1) = z.take i ++ [z[i]] := List.take_succ_eq_append_getElem c
        have hmem : z[i] ∈ z := List.getElem_mem c
        generalize z[i] = w at k1 hsn hmem
        by_cases e : x = w
        · have q := decide_eq_true e
          repeat (first | ((first | apply Xk.sAny | apply Xk.tAny); (case hok => rfl); (case h => intro C hC; simp (disch := omega) only [w1, ↓reduceIte, Nat.reduceEqDiff, Nat.reduceLeDiff, Nat.reduceAdd, Nat.reduceSub, c, h3, k1, kl, q]; with_reducible exact hC); refine gc ?_) | refine gm ?_)
          repeat (first | ((first | apply Xk.sAny | apply Xk.tAny); (case hok => rfl); (case h => intro C hC; simp (disch := omega) only [w1, ↓reduceIte, Nat.reduceEqDiff, Nat.reduceLeDiff, Nat.reduceAdd, Nat.reduceSub, c, h3, k1, kl, q]; with_reducible exact hC); refine gc ?_) | refine gm ?_)
          exact hy (by rw [List.contains_iff_mem]; exact e ▸ hmem) i
        · have q := decide_eq_false e
          repeat (first | ((first | apply Xk.sAny | apply Xk.tAny); (case hok => rfl); (case h => intro C hC; simp (disch := omega) only [w1, ↓reduceIte, Nat.reduceEqDiff, Nat.reduceLeDiff, Nat.reduceAdd, Nat.reduceSub, c, h3, k1, kl, q]; with_reducible exact hC); refine gc ?_) | refine gm ?_)
          repeat (first | ((first | apply Xk.sAny | apply Xk.tAny); (case hok => rfl); (case h => intro C hC; simp (disch := omega) only [w1, ↓reduceIte, Nat.reduceEqDiff, Nat.reduceLeDiff, Nat.reduceAdd, Nat.reduceSub, c, h3, k1, kl, q]; with_reducible exact hC); refine gc ?_) | refine gm ?_)
          refine ⟨rfl, _, by omega, i + 1, rfl, by omega, ?_, rfl, rfl⟩
          intro y hy
          rw [hsn] at hy
          rcases List.mem_append.1 hy with h | h
          · exact hno y h
          · rw [List.mem_singleton] at h
            rw [h]
            exact e
    · repeat (first | ((first | apply Xk.sAny | apply Xk.tAny); (case hok => rfl); (case h => intro C hC; simp (disch := omega) only [w1, ↓reduceIte, Nat.reduceEqDiff, Nat.reduceLeDiff, Nat.reduceAdd, Nat.reduceSub, c]; with_reducible exact hC); refine gc ?_) | refine gm ?_)
      obtain rfl : i = z.length := by omega
      rw [List.take_length] at hno
      repeat (first | ((first | apply Xk.sAny | apply Xk.tAny); (case hok => rfl); (case h => intro C hC; simp (disch := omega) only [w1, ↓reduceIte, Nat.reduceEqDiff, Nat.reduceLeDiff, Nat.reduceAdd, Nat.reduceSub, c]; with_reducible exact hC); refine gc ?_) | refine gm ?_)
      refine hn ?_
      cases h : z.contains x with
      | false => rfl
      | true => exact absurd rfl (hno x (List.contains_iff_mem.1 h))
  refine ind _ (fun h i => ?_) (fun h => ?_)
  · rw [h] at hQ
    repeat (first | ((first | apply Xk.sAny | apply Xk.tAny); (case hok => rfl); (case h => intro C hC; simp (disch := omega) only [w1, ↓reduceIte, Nat.reduceEqDiff, Nat.reduceLeDiff, Nat.reduceAdd, Nat.reduceSub]; with_reducible exact hC); refine gc ?_) | refine gm ?_)
    repeat (first | ((first | apply Xk.sAny | apply Xk.tAny); (case hok => rfl); (case h => intro C hC; simp (disch := omega) only [w1, ↓reduceIte, Nat.reduceEqDiff, Nat.reduceLeDiff, Nat.reduceAdd, Nat.reduceSub]; with_reducible exact hC); refine gc ?_) | refine gm ?_)
    exact hQ
  · rw [h] at hQ
    repeat (first | ((first | apply Xk.sAny | apply Xk.tAny); (case hok => rfl); (case h => intro C hC; simp (disch := omega) only [w1, ↓reduceIte, Nat.reduceEqDiff, Nat.reduceLeDiff, Nat.reduceAdd, Nat.reduceSub]; with_reducible exact hC); refine gc ?_) | refine gm ?_)
    repeat (first | ((first | apply Xk.sAny | apply Xk.tAny); (case hok => rfl); (case h => intro C hC; simp (disch := omega) only [w1, ↓reduceIte, Nat.reduceEqDiff, Nat.reduceLeDiff, Nat.reduceAdd, Nat.reduceSub]; with_reducible exact hC); refine gc ?_) | refine gm ?_)
    exact hQ
end Go.Proofs.Ytcpcajfmkmgjeaa
