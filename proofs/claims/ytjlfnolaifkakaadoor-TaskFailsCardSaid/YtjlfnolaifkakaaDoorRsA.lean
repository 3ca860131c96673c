/- gf.Mul, the code's mix: what a call of each comes to. Conditions: none. -/
import Derived.Test.YtjlfnolaifkakaaDoorRsP
import Derived.Test.YtjlfnolaifkakaaDoorLibF
namespace Go.Proofs.YtjlfnolaifkakaaDoor
open Go.Dp
set_option linter.unusedSimpArgs false
set_option linter.unusedVariables false
set_option maxHeartbeats 400000
set_option maxRecDepth 8000
attribute [local irreducible] Ex.thnK Ex.inK Ret

/-- the tables, from cell o of block p on -/
structure TabAt (H : Heap) (p o : Nat) : Prop where
  at_ : ∃ l w, H.get p = some (.cells l w) ∧ o + 766 ≤ l.length ∧ ∀ i, i < 766 → l[o + i]? = Mk.table[i]?

theorem TabAt.cell {H : Heap} {p o i : Nat} (h : TabAt H p o) (hi : i < 766) : ∃ l w, H.get p = some (.cells l w) ∧ o + i + 1 ≤ l.length ∧ (l.drop (o + i)).take 1 = [.int .u8 (.ofNat (tbN i))] := by
  obtain ⟨l, w, h1, h2, h3⟩ := h.at_
  have := cell1 ((h3 i hi).trans (tb_at hi).1)
  exact ⟨l, w, h1, this.1, this.2⟩

theorem eql_u8 (a b : Nat) : bin .eql (.int .u8 (.ofNat a)) (.int .u8 (.ofNat b)) = some (.bool (decide (a = b))) := by
  show some (AV.bool (ibeq (.ofNat a) (.ofNat b))) = _
  rw [ibeq_eq]
  by_cases h : a = b
  · subst h; simp
  · rw [decide_eq_false h]
    have : (Int.ofNat a == Int.ofNat b) = false := by
      rw [beq_eq_false_iff_ne]
      exact fun e => h (Int.ofNat.inj e)
    rw [this]
theorem c64_u8 (n : Nat) (h : n < 256) : rCint .i64 (.int .u8 (.ofNat n)) = some (.int .i64 (.ofNat n)) := by
  show some (AV.int .i64 (wr .i64 (.ofNat n))) = _
  rw [wrn_i64 _ (by omega)]

theorem Mul_ev (p o x y : Nat) (hx : x < 256) (hy : y < 256) (H : Heap) (ht : TabAt H p o) (Q : AV → Heap → Prop) (hQ : Q (.int .u8 (.ofNat (mulN x y))) H) : Eo lib n_gf_Mul [.ptr p o, .int .u8 (.ofNat x), .int .u8 (.ofNat y)] H Q := by
  refine Eo.ok fun hOk => ?_
  refine Eo.code at_gf_Mul rfl ?_
  have e1 := eql_u8 x 0
  have e2 := eql_u8 y 0
  by_cases h1 : x = 0
  · have d1 : decide (x = 0) = true := decide_eq_true h1
    repeat (first | ((first | apply Xk.sAny | apply Xk.tAny); (case hok => rfl); (case h => intro C hC; simp (disch := omega) only [w1, ↓reduceIte, Nat.reduceEqDiff, Nat.reduceLeDiff, Nat.reduceAdd, Nat.reduceSub, e1, d1]; with_reducible exact hC); refine gc ?_) | refine gm ?_)
    have : mulN x y = 0 := by unfold mulN; rw [if_pos (.inl h1)]
    rw [this] at hQ
    exact hQ
  have d1 : decide (x = 0) = false := decide_eq_false h1
  by_cases h2 : y = 0
  · have d2 : decide (y = 0) = true := decide_eq_true h2
    repeat (first | ((first | apply Xk.sAny | apply Xk.tAny); (case hok => rfl); (case h => intro C hC; simp (disch := omega) only [w1, ↓reduceIte, Nat.reduceEqDiff, Nat.reduceLeDiff, Nat.reduceAdd, Nat.reduceSub, e1, d1, e2, d2]; with_reducible exact hC); refine gc ?_) | refine gm ?_)
    have : mulN x y = 0 := by unfold mulN; rw [if_pos (.inr h2)]
    rw [this] at hQ
    exact hQ
  have d2 : decide (y = 0) = false := decide_eq_false h2
  have l1 := log_le hx
  have l2 := log_le hy
  obtain ⟨l, w, g0, q1, q2⟩ := ht.cell (i := 510 + x) (by omega)
  obtain ⟨l', w', g1, r1, r2⟩ := ht.cell (i := 510 + y) (by omega)
  rw [g0] at g1
  cases g1
  obtain ⟨l', w', g1, s1, s2⟩ := ht.cell (i := tbN (510 + x) + tbN (510 + y)) (by omega)
  rw [g0] at g1
  cases g1
  have hm : mulN x y = tbN (tbN (510 + x) + tbN (510 + y)) := by unfold mulN; rw [if_neg (by omega)]
  rw [hm] at hQ
  rw [show o + (510 + x) = o + 510 + x by omega] at q1 q2
  rw [show o + (510 + y) = o + 510 + y by omega] at r1 r2
  have c1 := c64_u8 (tbN (510 + x)) (by omega)
  have c2 := c64_u8 (tbN (510 + y)) (by omega)
  have hs : tbN (510 + x) + tbN (510 + y) < 510 := by omega
  repeat (first | ((first | apply Xk.sAny | apply Xk.tAny); (case hok => rfl); (case h => intro C hC; simp (disch := omega) only [w1, ↓reduceIte, Nat.reduceEqDiff, Nat.reduceLeDiff, Nat.reduceAdd, Nat.reduceSub, e1, d1, e2, d2, g0, q1, q2, r1, r2, s1, s2, c1, c2, hx, hy, hs, rIaarr]; with_reducible exact hC); refine gc ?_) | refine gm ?_)
  exact hQ

theorem xor_u8 (a b : Nat) (ha : a < 256) (hb : b < 256) : bin .xor (.int .u8 (.ofNat a)) (.int .u8 (.ofNat b)) = some (.int .u8 (.ofNat (Nat.xor a b))) := by
  show some (AV.int .u8 (wr .u8 ((BitVec.ofInt 8 (Int.ofNat a) ^^^ BitVec.ofInt 8 (Int.ofNat b)).toNat : Nat))) = _
  have h1 : BitVec.ofInt 8 (Int.ofNat a) = BitVec.ofNat 8 a := BitVec.ofInt_ofNat ..
  have h2 : BitVec.ofInt 8 (Int.ofNat b) = BitVec.ofNat 8 b := BitVec.ofInt_ofNat ..
  rw [h1, h2, BitVec.toNat_xor, BitVec.toNat_ofNat, BitVec.toNat_ofNat, Nat.mod_eq_of_lt (by omega), Nat.mod_eq_of_lt (by omega)]
  have : a ^^^ b < 256 := xor_lt ha hb
  rw [show ((a ^^^ b : Nat) : Int) = Int.ofNat (a ^^^ b) from rfl, Mk.wr8 this]
  rfl
theorem over_st {l : List AV} {j : Nat} (h : j < l.length) (x : AV) : over l j [x] = l.set j x := by
  unfold over
  rw [List.set_eq_take_append_cons_drop, if_pos h]
  rfl
theorem over_set1 {l : List Nat} {i n : Nat} (h : i < l.length) : over (u8s l) i [.int .u8 (.ofNat n)] = u8s (l.set i n) := by
  rw [over_st (by rw [u8s_len]; exact h)]
  unfold u8s
  rw [List.map_set]

/-- what mix reads: the tables, the row, the data -/
structure MixAt (H : Heap) (p rb ro db ab k size : Nat) (row : List Nat) (all : List Nat) : Prop where
  tab : TabAt H p 2
  rowlen : row.length = k
  rowat : ∃ l w, H.get rb = some (.cells l w) ∧ ∀ j, j < k → l[ro + j]? = some (.int .u8 (.ofNat (row.getD j 0)))
  dat : ∃ l w, H.get db = some (.cells l w) ∧ ∀ j, j < k → l[j]? = some (.sl ab (j * size) size 1)
  all_ : ∃ w, H.get ab = some (.cells (u8s all) w)
  allen : all.length = k * size
  lim : k * size < 1000000
  row8 : Below256 row
  all8 : Below256 all

theorem MixAt.le {H H' : Heap} {p rb ro db ab k size : Nat} {row all : List Nat} (h : MixAt H p rb ro db ab k size row all) (hle : HLe H H') : MixAt H' p rb ro db ab k size row all := by
  obtain ⟨⟨l, w, a1, a2, a3⟩, h2, ⟨l2, w2, b1, b2⟩, ⟨l3, w3, c1, c2⟩, ⟨w4, d1⟩, h6, h7, h8, h9⟩ := h
  exact ⟨⟨l, w, hle _ _ a1, a2, a3⟩, h2, ⟨l2, w2, hle _ _ b1, b2⟩, ⟨l3, w3, hle _ _ c1, c2⟩, ⟨w4, hle _ _ d1⟩, h6, h7, h8, h9⟩

theorem mix_ev (p rb ro db ab k size : Nat) (row all : List Nat) (H : Heap) (h : MixAt H p rb ro db ab k size row all) (hk : 0 < k) (hk1 : k < 1000) (D : Nat → List Nat) (hD : ∀ j i, i < size → (D j).getD i 0 = all.getD (j * size + i) 0) (hD8 : ∀ j, Below256 (D j)) (Q : AV → Heap → Prop)
    (hQ : Q (.sl H.next 0 size 1) (H.new (.cells (u8s (mixJ row D (List.replicate size 0) k)) 3))) :
    Eo lib n_rs_Code_mix [.ptr p 0, .sl rb ro k 1, .sl db 0 k 1, .int .i64 (.ofNat size)] H Q := by
  refine Eo.ok fun hOk => ?_
  refine Eo.code at_rs_Code_mix rfl ?_
  have hsz : size ≤ k * size := Nat.le_mul_of_pos_left _ hk
  have hlim := h.lim
  have hrep : rep size [AV.int .u8 (.ofNat 0)] = u8s (List.replicate size 0) := by
    rw [Fs.rep_one]; unfold u8s; rw [List.map_replicate]
  have hm : nMksl 2 1 1 [AV.int .u8 (.ofNat 0)] (.int .i64 (.ofNat size)) (.int .i64 (.ofNat size)) = some (.cells (u8s (List.replicate size 0)) 3, slTo size 1) := by
    simp only [nMksl, natOf, nble, Nat.le_refl, decide_true, Bool.true_and, Nat.one_mul, decide_eq_true (show size ≤ 140737488355328 by omega), Bool.and_self, cond_true, hrep]
  have hslto : slTo size 1 H.next = .sl H.next 0 size 1 := rfl
  repeat (first | ((first | apply Xk.sAny | apply Xk.tAny); (case hok => rfl); (case h => intro C hC; simp (disch := omega) only [w1, ↓reduceIte, Nat.reduceEqDiff, Nat.reduceLeDiff, Nat.reduceAdd, Nat.reduceSub, hm, hslto]; with_reducible exact hC); refine gc ?_) | refine gm ?_)
  have hz : (List.replicate size 0).length = size := List.length_replicate
  have hz8 := below_rep size
  generalize List.replicate size 0 = z at hQ hz hz8
  refine Xk.iter [0, 2, 9, 16, 17, 18] (fun m kn H' => ∃ j, m = k - j ∧ j ≤ k ∧ kn = [(0, .ptr p 0), (2, .sl db 0 k 1), (9, .sl H.next 0 size 1), (16, .sl rb ro k 1), (17, .int .i64 (.ofNat k)), (18, .int .i64 (.ofNat j))] ∧
      H' = H.new (.cells (u8s (mixJ row D z j)) 3)) rfl ⟨_, 0, rfl, Nat.zero_le _, rfl, rfl⟩ ?_
  rintro m kn H' ⟨j, rfl, hj, rfl, rfl⟩
  unfold l1_rs_Code_mix
  by_cases c : j < k
  · obtain ⟨lr, wr', g1, g2⟩ := h.rowat
    obtain ⟨a1, a2⟩ := cell1 (g2 j c)
    obtain ⟨ld, wd, g3, g4⟩ := h.dat
    obtain ⟨b1, b2⟩ := cell1 (g4 j c)
    obtain ⟨wa, g5⟩ := h.all_
    have hrow := h.row8 j
    have g1' := hOk.lt g1
    have g3' := hOk.lt g3
    have g5' := hOk.lt g5
    have n1 : rb ≠ H.next := by omega
    have n3 : db ≠ H.next := by omega
    have n5 : ab ≠ H.next := by omega
    have hs : mixJ row D z (j + 1) = if row.getD j 0 = 0 then mixJ row D z j else xorI (mixJ row D z j) (D j) (row.getD j 0) size := by
      rw [mixJ, hz]
    have hol : (mixJ row D z j).length = size := by rw [mixJ_len, hz]
    have ho8 : Below256 (mixJ row D z j) := mixJ_lt hz8 h.row8 hD8 j
    generalize mixJ row D z j = o at hs hol ho8
    generalize row.getD j 0 = x at hs a2 hrow
    have e1 := eql_u8 x 0
    by_cases h0 : x = 0
    · have d1 : decide (x = 0) = true := decide_eq_true h0
      rw [if_pos h0] at hs
      repeat (first | ((first | apply Xk.sAny | apply Xk.tAny); (case hok => rfl); (case h => intro C hC; simp (disch := omega) only [w1, ↓reduceIte, Nat.reduceEqDiff, Nat.reduceLeDiff, Nat.reduceAdd, Nat.reduceSub, c, g1, a1, a2, e1, d1, n1]; with_reducible exact hC); refine gc ?_) | refine gm ?_)
      refine ⟨rfl, _, by omega, j + 1, rfl, by omega, rfl, by rw [hs]⟩
    · have d1 : decide (x = 0) = false := decide_eq_false h0
      rw [if_neg h0] at hs
      repeat (first | ((first | apply Xk.sAny | apply Xk.tAny); (case hok => rfl); (case h => intro C hC; simp (disch := omega) only [w1, ↓reduceIte, Nat.reduceEqDiff, Nat.reduceLeDiff, Nat.reduceAdd, Nat.reduceSub, c, g1, a1, a2, e1, d1, n1, g3, b1, b2, n3]; with_reducible exact hC); refine gc ?_) | refine gm ?_)
      have hlen : all.length = k * size := h.allen
      have hjk : j * size + size ≤ k * size := by
        have := Nat.mul_le_mul_right size (show j + 1 ≤ k by omega)
        rw [Nat.add_mul, Nat.one_mul] at this
        exact this
      refine Xk.iter [0, 2, 9, 11, 16, 17, 18, 28, 29, 30] (fun m kn H' => ∃ i, m = size - i ∧ i ≤ size ∧ kn = [(0, .ptr p 0), (2, .sl db 0 k 1), (9, .sl H.next 0 size 1), (11, .int .u8 (.ofNat x)), (16, .sl rb ro k 1), (17, .int .i64 (.ofNat k)), (18, .int .i64 (.ofNat j)),
          (28, .sl ab (j * size) size 1), (29, .int .i64 (.ofNat size)), (30, .int .i64 (.ofNat i))] ∧ H' = H.new (.cells (u8s (xorI o (D j) x i)) 3)) rfl ⟨_, 0, rfl, Nat.zero_le _, rfl, rfl⟩ ?_
      rintro m kn H' ⟨i, rfl, hi, rfl, rfl⟩
      unfold l0_rs_Code_mix
      by_cases c2 : i < size
      · obtain ⟨p1, p2⟩ := cell1 (u8s_at (l := all) (i := j * size + i) (by omega))
        rw [← hD j i c2] at p2
        have hn : (xorI o (D j) x i).length = size := by rw [xorI_len]; exact hol
        have hn8 := xorI_lt ho8 (hD8 j) hrow i
        have hs2 : xorI o (D j) x (i + 1) = (xorI o (D j) x i).set i (Nat.xor ((xorI o (D j) x i).getD i 0) (mulN x ((D j).getD i 0))) := by rw [xorI]
        generalize xorI o (D j) x i = r at hs2 hn hn8
        have hy := hD8 j i
        generalize (D j).getD i 0 = y at hs2 p2 hy
        obtain ⟨q1, q2⟩ := cell1 (u8s_at (l := r) (i := i) (by omega))
        have hb := hn8 i
        generalize r.getD i 0 = b at hs2 q2 hb
        have c2' := c2
        repeat (first | ((first | apply Xk.sAny | apply Xk.tAny); (case hok => rfl); (case h => intro C hC; simp (disch := omega) only [w1, ↓reduceIte, Nat.reduceEqDiff, Nat.reduceLeDiff, Nat.reduceAdd, Nat.reduceSub, c, c2, g5, n5, p1, p2, q1, q2]; with_reducible exact hC); refine gc ?_) | refine gm ?_)
        refine Mul_ev p 2 x y hrow hy _ ?_ _ ?_
        · obtain ⟨l, w, t1, t2, t3⟩ := h.tab
          exact ⟨l, w, by rw [Heap.get_new_ne _ _ (by have := hOk.lt t1; omega)]; exact t1, t2, t3⟩
        have hx1 := xor_u8 b (mulN x y) hb (mulN_lt hrow hy)
        have hov := over_set1 (l := r) (i := i) (n := Nat.xor b (mulN x y)) (by omega)
        repeat (first | ((first | apply Xk.sAny | apply Xk.tAny); (case hok => rfl); (case h => intro C hC; simp (disch := omega) only [w1, ↓reduceIte, Nat.reduceEqDiff, Nat.reduceLeDiff, Nat.reduceAdd, Nat.reduceSub, c, c2, q1, q2, hx1, hov]; with_reducible exact hC); refine gc ?_) | refine gm ?_)
        refine ⟨rfl, _, by omega, i + 1, rfl, by omega, rfl, by rw [hs2]⟩
      · obtain rfl : i = size := by omega
        repeat (first | ((first | apply Xk.sAny | apply Xk.tAny); (case hok => rfl); (case h => intro C hC; simp (disch := omega) only [w1, ↓reduceIte, Nat.reduceEqDiff, Nat.reduceLeDiff, Nat.reduceAdd, Nat.reduceSub, c, c2]; with_reducible exact hC); refine gc ?_) | refine gm ?_)
        refine ⟨rfl, _, by omega, j + 1, rfl, by omega, rfl, by rw [hs]⟩
  · repeat (first | ((first | apply Xk.sAny | apply Xk.tAny); (case hok => rfl); (case h => intro C hC; simp (disch := omega) only [w1, ↓reduceIte, Nat.reduceEqDiff, Nat.reduceLeDiff, Nat.reduceAdd, Nat.reduceSub, c]; with_reducible exact hC); refine gc ?_) | refine gm ?_)
    obtain rfl : j = k := by omega
    exact hQ

end Go.Proofs.YtjlfnolaifkakaaDoor
