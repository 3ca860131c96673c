/- Layer 14: the law AnswerLines, over the clean machine. Conditions: none. -/
import Derived.Test.YtkjmelfgopammaaDoorAnI
namespace Go.Proofs.YtkjmelfgopammaaDoor
open Go.Dp
set_option linter.unusedSimpArgs false
set_option linter.unusedVariables false
set_option maxHeartbeats 2000000
set_option maxRecDepth 8000
attribute [local irreducible] Ex.thnK Ex.inK Ret

theorem ARuns_ev (H : Heap) (Q : AV → Heap → Prop) (hQ : Q (.bool true) H) : Eo lib n_depotlaw14_AnswerRuns [] H Q := Eo.runs rfl hQ

/-- an answer that comes in -/
structure An where
  k : Int
  l : List Fd
  gets : Bool
  num : Nat
  text : List UInt8
  s0 : Int
  s1 : Int
  s2 : Int
  s3 : Int
structure An.Ok (a : An) : Prop where
  tlen : a.text.length ≤ 281474976710656
  flen : ∀ f ∈ a.l, f.key.length ≤ 281474976710656 ∧ f.val.length ≤ 281474976710656
  len : a.l.length < 9223372036854775808
  num : a.num < 18446744073709551616
  f : ∀ f ∈ a.l, f.flags < 9223372036854775808 ∧ f.cas < 9223372036854775808
  h0 : a.s0 < 9223372036854775808
  h1 : a.s1 < 9223372036854775808
  h2 : a.s2 < 9223372036854775808
  h3 : a.s3 < 9223372036854775808
def An.cells (a : An) (v : AV) : List AV := ansC a.k v a.gets a.num a.text a.s0 a.s1 a.s2 a.s3
def An.tells (a : An) : List UInt8 := textB a.k a.gets a.l a.num a.text [a.s0, a.s1, a.s2, a.s3]
/-- a kind alone -/
def kindB (k : Int) : List UInt8 := textB k false [] 0 [] [0, 0, 0, 0]

theorem textB_out (k : Int) (gets : Bool) (l : List Fd) (num : Nat) (text : List UInt8) (st : List Int) (h : k < .ofNat 1 ∨ .ofNat 15 ≤ k) : textB k gets l num text st = [] := by
  have g : ∀ n : Nat, 1 ≤ n → n < 15 → ¬ k = .ofNat n := by
    intro n h1 h2 e
    have e1 : k = (n : Int) := e
    have e2 : k < (1 : Int) ∨ (15 : Int) ≤ k := h
    omega
  unfold textB plainB
  simp only [g 1 (by decide) (by decide), g 8 (by decide) (by decide), g 11 (by decide) (by decide), g 13 (by decide) (by decide), g 14 (by decide) (by decide), g 2 (by decide) (by decide), g 3 (by decide) (by decide), g 4 (by decide) (by decide), g 5 (by decide) (by decide), g 6 (by decide) (by decide), g 7 (by decide) (by decide), g 9 (by decide) (by decide), g 12 (by decide) (by decide), g 10 (by decide) (by decide), if_false, if_true]

theorem dec_pos {u : Nat} (h : u < 18446744073709551616) : 1 ≤ (dec u).length := by
  obtain ⟨n, h1, h2, h3, h4⟩ := dec_nd h
  rw [dec_eq h1 h2 h3 h4, dgs_len]
  exact h1
theorem textB_end (n : Nat) (h1 : 1 ≤ n) (h2 : n < 15) (gets : Bool) (l : List Fd) (num : Nat) (hn : num < 18446744073709551616) (text : List UInt8) (st : List Int) : ∃ t, textB (.ofNat n) gets l num text st = t ++ [13, 10] ∧ 1 ≤ t.length := by
  have : n = 1 ∨ n = 2 ∨ n = 3 ∨ n = 4 ∨ n = 5 ∨ n = 6 ∨ n = 7 ∨ n = 8 ∨ n = 9 ∨ n = 10 ∨ n = 11 ∨ n = 12 ∨ n = 13 ∨ n = 14 := by omega
  rcases this with rfl | rfl | rfl | rfl | rfl | rfl | rfl | rfl | rfl | rfl | rfl | rfl | rfl | rfl
  · exact ⟨valsB gets l ++ [69, 78, 68], rfl, by rw [List.length_append]; exact Nat.le_trans (by decide) (Nat.le_add_left 3 _)⟩
  · exact ⟨plainB (.ofNat 2), rfl, by decide⟩
  · exact ⟨plainB (.ofNat 3), rfl, by decide⟩
  · exact ⟨plainB (.ofNat 4), rfl, by decide⟩
  · exact ⟨plainB (.ofNat 5), rfl, by decide⟩
  · exact ⟨plainB (.ofNat 6), rfl, by decide⟩
  · exact ⟨plainB (.ofNat 7), rfl, by decide⟩
  · exact ⟨dec num, rfl, dec_pos hn⟩
  · exact ⟨plainB (.ofNat 9), rfl, by decide⟩
  · exact ⟨plainB (.ofNat 10), rfl, by decide⟩
  · exact ⟨stB st 4 ++ [69, 78, 68], rfl, by rw [List.length_append]; exact Nat.le_trans (by decide) (Nat.le_add_left 3 _)⟩
  · exact ⟨plainB (.ofNat 12), rfl, by decide⟩
  · exact ⟨cliE ++ text, rfl, by rw [List.length_append]; exact Nat.le_trans (by decide) (Nat.le_add_right 13 _)⟩
  · exact ⟨srvE ++ text, rfl, by rw [List.length_append]; exact Nat.le_trans (by decide) (Nat.le_add_right 13 _)⟩
theorem kindB_inj : ∀ n m : Nat, 1 ≤ n → n < 15 → 1 ≤ m → m < 15 → kindB (.ofNat n) = kindB (.ofNat m) → n = m := by
  have : ∀ n : Fin 15, ∀ m : Fin 15, 1 ≤ n.val → 1 ≤ m.val → kindB (.ofNat n.val) = kindB (.ofNat m.val) → n.val = m.val := by decide +kernel
  intro n m h1 h2 h3 h4 h5
  exact this ⟨n, h2⟩ ⟨m, h4⟩ h1 h3 h5

theorem textB_len (k : Int) (gets : Bool) (l : List Fd) (num : Nat) (text : List UInt8) (s0 s1 s2 s3 : Int) (hw : text.length + wt l ≤ 8000) (hnum : num < 18446744073709551616)
    (hf : ∀ f ∈ l, f.flags < 9223372036854775808 ∧ f.cas < 9223372036854775808) (h0 : s0 < 9223372036854775808) (h1 : s1 < 9223372036854775808) (h2 : s2 < 9223372036854775808) (h3 : s3 < 9223372036854775808) :
    (textB k gets l num text [s0, s1, s2, s3]).length ≤ 1200000 := by
  have a1 := valsB_len gets l hf (by omega)
  have a2 := wt_len l
  have a3 := plainB_len k
  have a4 := dec_len20 hnum
  have b0 := num0_len h0
  have b1 := num0_len h1
  have b2 := num0_len h2
  have b3 := num0_len h3
  have a5 : (stB [s0, s1, s2, s3] 4).length ≤ 200 := by
    simp only [stB, stL, List.length_append, List.length_cons, List.length_nil, stN, List.getD_cons_zero, List.getD_cons_succ]
    omega
  unfold textB cliE srvE
  repeat' split
  all_goals simp only [List.length_append, List.length_cons, List.length_nil]
  all_goals omega

theorem Lines_law (a b : An) (va vb : AV) (H : Heap) (hT : Tab H) (ha : a.Ok) (hb : b.Ok) (hva : Sl H 4 va (rows a.l)) (hvb : Sl H 4 vb (rows b.l)) :
    Eo lib n_depotlaw14_AnswerLines [.agg (a.cells va), .agg (b.cells vb)] H fun v _ => v = .bool true := by
  refine Eo.ok fun hOk => ?_
  refine Eo.code at_depotlaw14_AnswerLines rfl ?_
  obtain ⟨_, hv2, _⟩ := Sl.lens4 hva
  obtain ⟨_, hw2, _⟩ := Sl.lens4 hvb
  have bxa := box_ans (kind := a.k) (gets := a.gets) (num := a.num) (text := a.text) (s0 := a.s0) (s1 := a.s1) (s2 := a.s2) (s3 := a.s3) hv2
  have bxb := box_ans (kind := b.k) (gets := b.gets) (num := b.num) (text := b.text) (s0 := b.s0) (s1 := b.s1) (s2 := b.s2) (s3 := b.s3) hw2
  have ga := Heap.get_new2' H (.cells (a.cells va) 1) (.cells (b.cells vb) 1)
  have gb := Heap.get_new2 H (.cells (a.cells va) 1) (.cells (b.cells vb) 1)
  unfold An.cells ansC at ga gb ⊢
  have hO2 := (hOk.new (.cells (a.cells va) 1)).new (.cells (b.cells vb) 1)
  have hle2 : HLe H ((H.new (.cells (a.cells va) 1)).new (.cells (b.cells vb) 1)) := (HLe.new (hOk _ (Nat.le_refl _)) _).trans (HLe.new ((hOk.new _) _ (Nat.le_refl _)) _)
  unfold An.cells ansC at hO2 hle2
  repeat (first | ((first | apply Xk.sAny | apply Xk.tAny); (case hok => rfl); (case h => intro C hC; simp (disch := omega) only [w1, ↓reduceIte, Nat.reduceEqDiff, Nat.reduceLeDiff, Nat.reduceAdd, Nat.reduceSub, bxa, bxb, ga, gb]; with_reducible exact hC); refine gc ?_) | refine gm ?_)
  generalize (H.new (.cells [.int .i64 a.k, va, .bool a.gets, .int .u64 (.ofNat a.num), .str a.text, .int .i64 a.s0, .int .i64 a.s1, .int .i64 a.s2, .int .i64 a.s3] 1)).new (.cells [.int .i64 b.k, vb, .bool b.gets, .int .u64 (.ofNat b.num), .str b.text, .int .i64 b.s0, .int .i64 b.s1, .int .i64 b.s2, .int .i64 b.s3] 1) = H2 at ga gb hO2 hle2 ⊢
  generalize H.next + 1 = nb at gb ⊢
  generalize H.next = na at ga ⊢
  refine light_ev a.k va a.l a.gets a.num a.text a.s0 a.s1 a.s2 a.s3 H2 (hva.mono hle2) ha.tlen ha.flen ha.len _ fun H3 hO3 hle3 => ?_
  have ga3 := hle3 _ _ ga
  have gb3 := hle3 _ _ gb
  by_cases la : a.text.length + wt a.l ≤ 3000
  case neg =>
    rw [decide_eq_false la]
    repeat (first | ((first | apply Xk.sAny | apply Xk.tAny); (case hok => rfl); (case h => intro C hC; simp (disch := omega) only [w1, ↓reduceIte, Nat.reduceEqDiff, Nat.reduceLeDiff, Nat.reduceAdd, Nat.reduceSub, ga3, gb3]; with_reducible exact hC); refine gc ?_) | refine gm ?_)
    refine ARuns_ev _ _ ?_
    repeat (first | ((first | apply Xk.sAny | apply Xk.tAny); (case hok => rfl); (case h => intro C hC; simp (disch := omega) only [w1, ↓reduceIte, Nat.reduceEqDiff, Nat.reduceLeDiff, Nat.reduceAdd, Nat.reduceSub]; with_reducible exact hC); refine gc ?_) | refine gm ?_)
    rfl
  rw [decide_eq_true la]
  repeat (first | ((first | apply Xk.sAny | apply Xk.tAny); (case hok => rfl); (case h => intro C hC; simp (disch := omega) only [w1, ↓reduceIte, Nat.reduceEqDiff, Nat.reduceLeDiff, Nat.reduceAdd, Nat.reduceSub, ga3, gb3]; with_reducible exact hC); refine gc ?_) | refine gm ?_)
  refine light_ev b.k vb b.l b.gets b.num b.text b.s0 b.s1 b.s2 b.s3 H3 ((hvb.mono hle2).mono hle3) hb.tlen hb.flen hb.len _ fun H4 hO4 hle4 => ?_
  have ga4 := hle4 _ _ ga3
  have gb4 := hle4 _ _ gb3
  have hL4 := (hle2.trans hle3).trans hle4
  by_cases lb : b.text.length + wt b.l ≤ 3000
  case neg =>
    rw [decide_eq_false lb]
    repeat (first | ((first | apply Xk.sAny | apply Xk.tAny); (case hok => rfl); (case h => intro C hC; simp (disch := omega) only [w1, ↓reduceIte, Nat.reduceEqDiff, Nat.reduceLeDiff, Nat.reduceAdd, Nat.reduceSub, ga4, gb4]; with_reducible exact hC); refine gc ?_) | refine gm ?_)
    refine ARuns_ev _ _ ?_
    repeat (first | ((first | apply Xk.sAny | apply Xk.tAny); (case hok => rfl); (case h => intro C hC; simp (disch := omega) only [w1, ↓reduceIte, Nat.reduceEqDiff, Nat.reduceLeDiff, Nat.reduceAdd, Nat.reduceSub]; with_reducible exact hC); refine gc ?_) | refine gm ?_)
    rfl
  rw [decide_eq_true lb]
  repeat (first | ((first | apply Xk.sAny | apply Xk.tAny); (case hok => rfl); (case h => intro C hC; simp (disch := omega) only [w1, ↓reduceIte, Nat.reduceEqDiff, Nat.reduceLeDiff, Nat.reduceAdd, Nat.reduceSub, ga4, gb4]; with_reducible exact hC); refine gc ?_) | refine gm ?_)
  repeat (first | ((first | apply Xk.sAny | apply Xk.tAny); (case hok => rfl); (case h => intro C hC; simp (disch := omega) only [w1, ↓reduceIte, Nat.reduceEqDiff, Nat.reduceLeDiff, Nat.reduceAdd, Nat.reduceSub, ga4, gb4]; with_reducible exact hC); refine gc ?_) | refine gm ?_)
  refine Text_ev a.k va a.l a.gets a.num a.text a.s0 a.s1 a.s2 a.s3 H4 (hT.mono hL4) (hva.mono hL4) (by omega) ha.num ha.f ha.h0 ha.h1 ha.h2 ha.h3 _ fun H5 hO5 hle5 => ?_
  have ga5 := hle5 _ _ ga4
  have gb5 := hle5 _ _ gb4
  have hL5 := hL4.trans hle5
  by_cases k1 : a.k < .ofNat 1
  · rw [textB_out _ _ _ _ _ _ (.inl k1)]
    repeat (first | ((first | apply Xk.sAny | apply Xk.tAny); (case hok => rfl); (case h => intro C hC; simp (disch := omega) only [w1, ↓reduceIte, Nat.reduceEqDiff, Nat.reduceLeDiff, Nat.reduceAdd, Nat.reduceSub, ga5, gb5, k1]; with_reducible exact hC); refine gc ?_) | refine gm ?_)
    repeat (first | ((first | apply Xk.sAny | apply Xk.tAny); (case hok => rfl); (case h => intro C hC; simp (disch := omega) only [w1, ↓reduceIte, Nat.reduceEqDiff, Nat.reduceLeDiff, Nat.reduceAdd, Nat.reduceSub, ga5, gb5, k1]; with_reducible exact hC); refine gc ?_) | refine gm ?_)
    refine ARuns_ev _ _ ?_
    repeat (first | ((first | apply Xk.sAny | apply Xk.tAny); (case hok => rfl); (case h => intro C hC; simp (disch := omega) only [w1, ↓reduceIte, Nat.reduceEqDiff, Nat.reduceLeDiff, Nat.reduceAdd, Nat.reduceSub]; with_reducible exact hC); refine gc ?_) | refine gm ?_)
    rfl
  by_cases k2 : .ofNat 15 ≤ a.k
  · rw [textB_out _ _ _ _ _ _ (.inr k2)]
    repeat (first | ((first | apply Xk.sAny | apply Xk.tAny); (case hok => rfl); (case h => intro C hC; simp (disch := omega) only [w1, ↓reduceIte, Nat.reduceEqDiff, Nat.reduceLeDiff, Nat.reduceAdd, Nat.reduceSub, ga5, gb5, k1, k2]; with_reducible exact hC); refine gc ?_) | refine gm ?_)
    repeat (first | ((first | apply Xk.sAny | apply Xk.tAny); (case hok => rfl); (case h => intro C hC; simp (disch := omega) only [w1, ↓reduceIte, Nat.reduceEqDiff, Nat.reduceLeDiff, Nat.reduceAdd, Nat.reduceSub, ga5, gb5, k1, k2]; with_reducible exact hC); refine gc ?_) | refine gm ?_)
    refine ARuns_ev _ _ ?_
    repeat (first | ((first | apply Xk.sAny | apply Xk.tAny); (case hok => rfl); (case h => intro C hC; simp (disch := omega) only [w1, ↓reduceIte, Nat.reduceEqDiff, Nat.reduceLeDiff, Nat.reduceAdd, Nat.reduceSub]; with_reducible exact hC); refine gc ?_) | refine gm ?_)
    rfl
  repeat (first | ((first | apply Xk.sAny | apply Xk.tAny); (case hok => rfl); (case h => intro C hC; simp (disch := omega) only [w1, ↓reduceIte, Nat.reduceEqDiff, Nat.reduceLeDiff, Nat.reduceAdd, Nat.reduceSub, ga5, gb5, k1, k2]; with_reducible exact hC); refine gc ?_) | refine gm ?_)
  repeat (first | ((first | apply Xk.sAny | apply Xk.tAny); (case hok => rfl); (case h => intro C hC; simp (disch := omega) only [w1, ↓reduceIte, Nat.reduceEqDiff, Nat.reduceLeDiff, Nat.reduceAdd, Nat.reduceSub, ga5, gb5, k1, k2]; with_reducible exact hC); refine gc ?_) | refine gm ?_)
  refine Text_ev a.k .nils [] false 0 [] (.ofNat 0) (.ofNat 0) (.ofNat 0) (.ofNat 0) H5 (hT.mono hL5) (.inl ⟨rfl, rfl⟩) (by decide) (by decide) (fun _ h => by cases h) (by decide) (by decide) (by decide) (by decide) _ fun H6 hO6 hle6 => ?_
  have ga6 := hle6 _ _ ga5
  have gb6 := hle6 _ _ gb5
  have hL6 := hL5.trans hle6
  repeat (first | ((first | apply Xk.sAny | apply Xk.tAny); (case hok => rfl); (case h => intro C hC; simp (disch := omega) only [w1, ↓reduceIte, Nat.reduceEqDiff, Nat.reduceLeDiff, Nat.reduceAdd, Nat.reduceSub, ga6, gb6]; with_reducible exact hC); refine gc ?_) | refine gm ?_)
  refine Text_ev b.k .nils [] false 0 [] (.ofNat 0) (.ofNat 0) (.ofNat 0) (.ofNat 0) H6 (hT.mono hL6) (.inl ⟨rfl, rfl⟩) (by decide) (by decide) (fun _ h => by cases h) (by decide) (by decide) (by decide) (by decide) _ fun H7 hO7 hle7 => ?_
  have ga7 := hle7 _ _ ga6
  have gb7 := hle7 _ _ gb6
  repeat (first | ((first | apply Xk.sAny | apply Xk.tAny); (case hok => rfl); (case h => intro C hC; simp (disch := omega) only [w1, ↓reduceIte, Nat.reduceEqDiff, Nat.reduceLeDiff, Nat.reduceAdd, Nat.reduceSub, ga7, gb7]; with_reducible exact hC); refine gc ?_) | refine gm ?_)
  obtain ⟨n, hn⟩ : ∃ n : Nat, a.k = .ofNat n := ⟨a.k.toNat, by
    have e : ¬ a.k < (1 : Int) := k1
    show a.k = ((a.k.toNat : Nat) : Int)
    omega⟩
  have hn1 : 1 ≤ n := by
    rw [hn] at k1
    have e : ¬ ((n : Int) < 1) := k1
    omega
  have hn2 : n < 15 := by
    rw [hn] at k2
    have e : ¬ ((15 : Int) ≤ (n : Int)) := k2
    omega
  obtain ⟨t, ht, ht1⟩ := textB_end n hn1 hn2 a.gets a.l a.num ha.num a.text [a.s0, a.s1, a.s2, a.s3]
  rw [← hn] at ht
  have q0 := textB_len a.k a.gets a.l a.num a.text a.s0 a.s1 a.s2 a.s3 (by omega) ha.num ha.f ha.h0 ha.h1 ha.h2 ha.h3
  rw [ht] at q0 ⊢
  have q1 : 3 ≤ (t ++ [13, 10]).length := by rw [List.length_append]; show 3 ≤ _ + 2; omega
  have q2 : 2 ≤ (t ++ [13, 10]).length := by omega
  have q3 : (t ++ [13, 10]).length - 2 ≤ (t ++ [13, 10]).length := by omega
  have q4 : (t ++ [13, 10]).drop ((t ++ [13, 10]).length - 2) = [13, 10] := by
    rw [List.length_append]
    show (t ++ [13, 10]).drop (t.length + 2 - 2) = _
    rw [Nat.add_sub_cancel, List.drop_left]
  have q5 : (t ++ [13, 10]).length - ((t ++ [13, 10]).length - 2) = 2 := by omega
  generalize t ++ [13, 10] = s at q0 q1 q2 q3 q4 q5 ⊢
  have q6 : s.length - 2 < 9223372036854775808 := by omega
  have q7 : (s.length - 2 ≤ s.length) = True := eq_true q3
  have hE : negIf false (eqv EK.b (AV.bool (decide (a.k = b.k))) (AV.bool (decide (textB a.k false [] 0 [] [Int.ofNat 0, Int.ofNat 0, Int.ofNat 0, Int.ofNat 0] = textB b.k false [] 0 [] [Int.ofNat 0, Int.ofNat 0, Int.ofNat 0, Int.ofNat 0])))) = some (.bool true) := by
    have e : decide (textB a.k false [] 0 [] [Int.ofNat 0, Int.ofNat 0, Int.ofNat 0, Int.ofNat 0] = textB b.k false [] 0 [] [Int.ofNat 0, Int.ofNat 0, Int.ofNat 0, Int.ofNat 0]) = decide (a.k = b.k) := by
      rw [decide_eq_decide]
      refine ⟨fun h => ?_, fun h => by rw [h]⟩
      have h' : kindB a.k = kindB b.k := h
      obtain ⟨t', ht', ht1'⟩ := textB_end n hn1 hn2 false [] 0 (by decide) [] [0, 0, 0, 0]
      by_cases j1 : b.k < .ofNat 1
      · have e : kindB b.k = [] := textB_out _ _ _ _ _ _ (.inl j1)
        rw [e, hn] at h'
        have h2 : kindB (.ofNat n) = t' ++ [13, 10] := ht'
        rw [h2] at h'
        simp at h'
      by_cases j2 : .ofNat 15 ≤ b.k
      · have e : kindB b.k = [] := textB_out _ _ _ _ _ _ (.inr j2)
        rw [e, hn] at h'
        have h2 : kindB (.ofNat n) = t' ++ [13, 10] := ht'
        rw [h2] at h'
        simp at h'
      obtain ⟨m, hm⟩ : ∃ m : Nat, b.k = .ofNat m := ⟨b.k.toNat, by
        have e : ¬ b.k < (1 : Int) := j1
        show b.k = ((b.k.toNat : Nat) : Int)
        omega⟩
      have hm1 : 1 ≤ m := by
        rw [hm] at j1
        have e : ¬ ((m : Int) < 1) := j1
        omega
      have hm2 : m < 15 := by
        rw [hm] at j2
        have e : ¬ ((15 : Int) ≤ (m : Int)) := j2
        omega
      rw [hn, hm] at h' ⊢
      rw [kindB_inj n m hn1 hn2 hm1 hm2 h']
    rw [e]
    cases decide (a.k = b.k) <;> rfl
  repeat (first | ((first | apply Xk.sAny | apply Xk.tAny); (case hok => rfl); (case h => intro C hC; simp (disch := omega) only [w1, ↓reduceIte, Nat.reduceEqDiff, Nat.reduceLeDiff, Nat.reduceAdd, Nat.reduceSub, ga7, gb7, q1, q6, q7, q4, q5, hE]; with_reducible exact hC); refine gc ?_) | refine gm ?_)
  refine ARuns_ev _ _ ?_
  repeat (first | ((first | apply Xk.sAny | apply Xk.tAny); (case hok => rfl); (case h => intro C hC; simp (disch := omega) only [w1, ↓reduceIte, Nat.reduceEqDiff, Nat.reduceLeDiff, Nat.reduceAdd, Nat.reduceSub]; with_reducible exact hC); refine gc ?_) | refine gm ?_)
  rfl
end Go.Proofs.YtkjmelfgopammaaDoor
