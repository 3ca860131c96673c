/- The code's Encode: what a call of it comes to, block by block. Conditions: none. -/
import Derived.Test.YtjlfnolaifkakaaDoorRsB
namespace Go.Proofs.YtjlfnolaifkakaaDoor
open Go.Dp
set_option linter.unusedSimpArgs false
set_option linter.unusedVariables false
set_option maxHeartbeats 400000
set_option maxRecDepth 8000
attribute [local irreducible] Ex.thnK Ex.inK Ret

def dataC (b size k j : Nat) : List AV := (List.range k).map fun i => if i < j then .sl b (i * size) size 1 else .nils
def outC (k : Nat) (rows : List (List Nat)) (value : List UInt8) (n j : Nat) : List AV := (List.range n).map fun i => if i < j then .str (fragS k (rows.getD i []) value) else .str []

theorem range_map_set {n j : Nat} (f g : Nat → AV) (hj : j < n) (hfg : ∀ i, i ≠ j → f i = g i) : ((List.range n).map f).set j (g j) = (List.range n).map g := by
  apply List.ext_getElem?
  intro i
  rw [List.getElem?_set, List.getElem?_map, List.getElem?_map, List.length_map, List.length_range]
  by_cases h : j = i
  · subst h
    rw [if_pos rfl, if_pos hj, List.getElem?_range hj]
    rfl
  · rw [if_neg h]
    by_cases hi : i < n
    · rw [List.getElem?_range hi]; simp [hfg i (fun e => h e.symm)]
    · rw [List.getElem?_eq_none (by simp; omega)]
      rfl
theorem dataC_len (b size k j : Nat) : (dataC b size k j).length = k := by simp [dataC]
theorem dataC_set {b size k j : Nat} (hj : j < k) : over (dataC b size k j) j [.sl b (j * size) size 1] = dataC b size k (j + 1) := by
  rw [over_st (by rw [dataC_len]; exact hj)]
  unfold dataC
  have := range_map_set (n := k) (j := j) (fun i => if i < j then AV.sl b (i * size) size 1 else .nils) (fun i => if i < j + 1 then AV.sl b (i * size) size 1 else .nils) hj (fun i hi => by
    by_cases h : i < j
    · rw [if_pos h, if_pos (by omega)]
    · rw [if_neg h, if_neg (by omega)])
  simp only [if_pos (show j < j + 1 by omega)] at this
  exact this
theorem dataC_at {b size k j i : Nat} (hi : i < k) (hj : i < j) : (dataC b size k j)[i]? = some (.sl b (i * size) size 1) := by
  unfold dataC
  rw [List.getElem?_map, List.getElem?_range hi]
  simp [hj]
theorem dataC_zero (b size k : Nat) : rep k [AV.nils] = dataC b size k 0 := by
  rw [Fs.rep_one]
  unfold dataC
  apply List.ext_getElem?
  intro i
  rw [List.getElem?_replicate, List.getElem?_map]
  by_cases h : i < k
  · rw [if_pos h, List.getElem?_range h]; simp
  · rw [if_neg h, List.getElem?_eq_none (by simp; omega)]; rfl
section
variable {k n j : Nat} {rows : List (List Nat)} {value : List UInt8}
theorem outC_len : (outC k rows value n j).length = n := by simp [outC]
theorem outC_set (hj : j < n) : over (outC k rows value n j) j [.str (fragS k (rows.getD j []) value)] = outC k rows value n (j + 1) := by
  rw [over_st (by rw [outC_len]; exact hj)]
  unfold outC
  have := range_map_set (n := n) (j := j) (fun i => if i < j then AV.str (fragS k (rows.getD i []) value) else .str []) (fun i => if i < j + 1 then AV.str (fragS k (rows.getD i []) value) else .str []) hj (fun i hi => by
    by_cases h : i < j
    · rw [if_pos h, if_pos (by omega)]
    · rw [if_neg h, if_neg (by omega)])
  simp only [if_pos (show j < j + 1 by omega)] at this
  exact this
theorem outC_zero (k : Nat) (rows : List (List Nat)) (value : List UInt8) (n : Nat) : rep n [AV.str []] = outC k rows value n 0 := by
  rw [Fs.rep_one]
  unfold outC
  apply List.ext_getElem?
  intro i
  rw [List.getElem?_replicate, List.getElem?_map]
  by_cases h : i < n
  · rw [if_pos h, List.getElem?_range h]; simp
  · rw [if_neg h, List.getElem?_eq_none (by simp; omega)]; rfl
end

/-- what stands after i rows -/
structure EncI (H H' : Heap) (k n : Nat) (rows : List (List Nat)) (value : List UInt8) (i : Nat) : Prop where
  ok : H'.Ok
  next : H'.next = H.next + (3 + i)
  old : ∀ b, b < H.next → H'.get b = H.get b
  all : H'.get H.next = some (.cells (u8s (allN k value)) 3)
  data : H'.get (H.next + 1) = some (.cells (dataC H.next (sizeN k value.length) k k) 1)
  out : H'.get (H.next + 2) = some (.cells (outC k rows value n i) 1)
  mix : ∀ j, j < i → H'.get (H.next + (3 + j)) = some (.cells (u8s (fragN k (rows.getD j []) value)) 3)

theorem Encode_ev (p rb ro k n : Nat) (rows : List (List Nat)) (value : List UInt8) (hv : k * value.length < 1000000) (H : Heap) (h : CodeAt H p rb ro k n rows) (Q : AV → Heap → Prop)
    (hQ : ∀ H', EncI H H' k n rows value n → Q (.sl (H.next + 2) 0 n 1) H') : Eo lib n_rs_Code_Encode [.ptr p 0, .str value] H Q := by
  refine Eo.ok fun hOk => ?_
  refine Eo.code at_rs_Code_Encode rfl ?_
  have hk := h.k0
  have hk1 := h.k1
  have hn1 := h.n1
  have hvl : value.length ≤ k * value.length := Nat.le_mul_of_pos_left _ hk
  have hsl : k * sizeN k value.length ≤ k * value.length := Nat.mul_le_mul_left k (sizeN_le hk)
  have hfit := sizeN_fit (k := k) (n := value.length) hk
  have hal := allN_len hk value
  have hal8 := allN_lt k value
  obtain ⟨lo, wo, g1, g2, g3, g4, _⟩ := h.obj
  obtain ⟨a1, a2⟩ := cell1 g2
  obtain ⟨b1, b2⟩ := cell1 g3
  obtain ⟨d1, d2⟩ := cell1 g4
  have a1 : 1 ≤ lo.length := by omega
  rw [List.drop_zero] at a2
  have gl := hOk.lt g1
  repeat (first | ((first | apply Xk.sAny | apply Xk.tAny); (case hok => rfl); (case h => intro C hC; simp (disch := omega) only [w1, ↓reduceIte, Nat.reduceEqDiff, Nat.reduceLeDiff, Nat.reduceAdd, Nat.reduceSub]; with_reducible exact hC); refine gc ?_) | refine gm ?_)
  refine Size_ev p rb ro k n value.length rows (by omega) _ h _ ?_
  generalize hS : sizeN k value.length = size at *
  have hm0 := muln_i64 k size (by omega)
  have hrep : rep (k * size) [AV.int .u8 (.ofNat 0)] = u8s (List.replicate (k * size) 0) := by
    rw [Fs.rep_one]; unfold u8s; rw [List.map_replicate]
  have hm1 : nMksl 2 1 1 [AV.int .u8 (.ofNat 0)] (.int .i64 (.ofNat (k * size))) (.int .i64 (.ofNat (k * size))) = some (.cells (u8s (List.replicate (k * size) 0)) 3, slTo (k * size) 1) := by
    simp only [nMksl, natOf, nble, Nat.le_refl, decide_true, Bool.true_and, Nat.one_mul, decide_eq_true (show k * size ≤ 140737488355328 by omega), Bool.and_self, cond_true, hrep]
  have hm2 : nMksl 0 1 24 [AV.nils] (.int .i64 (.ofNat k)) (.int .i64 (.ofNat k)) = some (.cells (dataC H.next size k 0) 1, slTo k 1) := by
    simp only [nMksl, natOf, nble, Nat.le_refl, decide_true, Bool.true_and, decide_eq_true (show 24 * k ≤ 140737488355328 by omega), decide_eq_true (show k ≤ 140737488355328 by omega), Bool.and_self, cond_true, dataC_zero H.next size k]
  have hm3 : nMksl 0 1 16 [AV.str []] (.int .i64 (.ofNat n)) (.int .i64 (.ofNat n)) = some (.cells (outC k rows value n 0) 1, slTo n 1) := by
    simp only [nMksl, natOf, nble, Nat.le_refl, decide_true, Bool.true_and, decide_eq_true (show 16 * n ≤ 140737488355328 by omega), decide_eq_true (show n ≤ 140737488355328 by omega), Bool.and_self, cond_true, outC_zero k rows value n]
  have s1 : slTo (k * size) 1 H.next = .sl H.next 0 (k * size) 1 := rfl
  have s2 : slTo k 1 (H.next + 1) = .sl (H.next + 1) 0 k 1 := rfl
  have s3 : slTo n 1 (H.next + 2) = .sl (H.next + 2) 0 n 1 := rfl
  have hover : over (u8s (List.replicate (k * size) 0)) 0 (ofBytes value) = u8s (allN k value) := by
    have hob : ofBytes value = u8s (value.map UInt8.toNat) := by
      unfold ofBytes u8s; rw [List.map_map]; rfl
    rw [hob]
    unfold over allN u8s
    rw [hS, List.take_zero, List.nil_append, Nat.zero_add, List.map_append, ← List.map_drop, List.drop_replicate, List.length_map, List.length_map]
  have hcp : eCopy (H.new (.cells (u8s (List.replicate (k * size) 0)) 3)) 1 (.sl H.next 0 (k * size) 1) (.str value) = some (.int .i64 (.ofNat value.length), H.new (.cells (u8s (allN k value)) 3)) := by
    have hl : (ofBytes value).length = value.length := by unfold ofBytes; rw [List.length_map]
    have hmin : min value.length (k * size) = value.length := Nat.min_eq_left hfit
    unfold eCopy srcCells
    simp only [nbeq, decide_true, cond_true, hmin, Nat.mul_one]
    rw [show (ofBytes value).take value.length = ofBytes value by rw [← hl, List.take_length]]
    simp only [Heap.st, Heap.get_new, if_true, nble, hl, Nat.zero_add, u8s_len, List.length_replicate, decide_eq_true hfit, cond_true, hover, Heap.new_put]
  repeat (first | ((first | apply Xk.sAny | apply Xk.tAny); (case hok => rfl); (case h => intro C hC; simp (disch := omega) only [w1, ↓reduceIte, Nat.reduceEqDiff, Nat.reduceLeDiff, Nat.reduceAdd, Nat.reduceSub, g1, a1, a2, hm0, hm1, s1, hcp, hm2, s2]; with_reducible exact hC); refine gc ?_) | refine gm ?_)
  refine Xk.iter [0, 5, 6, 7, 32, 33] (fun m kn H' => ∃ j, m = k - j ∧ j ≤ k ∧ kn = [(0, .ptr p 0), (5, .int .i64 (.ofNat size)), (6, .sl H.next 0 (k * size) 1), (7, .sl (H.next + 1) 0 k 1), (32, .int .i64 (.ofNat k)), (33, .int .i64 (.ofNat j))] ∧
      H' = (H.new (.cells (u8s (allN k value)) 3)).new (.cells (dataC H.next size k j) 1)) rfl ⟨_, 0, rfl, Nat.zero_le _, rfl, rfl⟩ ?_
  rintro m kn H' ⟨j, rfl, hj, rfl, rfl⟩
  unfold l0_rs_Code_Encode
  by_cases c : j < k
  · have hmul := Nat.mul_le_mul_right size (show j + 1 ≤ k by omega)
    have hadd : (j + 1) * size = j * size + size := by rw [Nat.add_mul, Nat.one_mul]
    have e1 := muln_i64 j size (by omega)
    have e2 := muln_i64 (j + 1) size (by omega)
    have hsub : (j + 1) * size - j * size = size := by omega
    have hset := dataC_set (b := H.next) (size := size) c
    have hlen : (u8s (allN k value)).length = k * size := by rw [u8s_len, hal]
    have hle1 : j * size ≤ (j + 1) * size := by omega
    have hdl := dataC_len H.next size k j
    have hj1 : j + 1 ≤ k := c
    repeat (first | ((first | apply Xk.sAny | apply Xk.tAny); (case hok => rfl); (case h => intro C hC; simp (disch := omega) only [w1, ↓reduceIte, Nat.reduceEqDiff, Nat.reduceLeDiff, Nat.reduceAdd, Nat.reduceSub, c, e1, e2, hlen, hmul, hle1, hsub, hset, hdl, hj1]; with_reducible exact hC); refine gc ?_) | refine gm ?_)
    refine ⟨rfl, _, by omega, j + 1, rfl, by omega, rfl, rfl⟩
  · obtain rfl : j = k := by omega
    have ng : p ≠ H.next := by omega
    have ng1 : p ≠ H.next + 1 := by omega
    repeat (first | ((first | apply Xk.sAny | apply Xk.tAny); (case hok => rfl); (case h => intro C hC; simp (disch := omega) only [w1, ↓reduceIte, Nat.reduceEqDiff, Nat.reduceLeDiff, Nat.reduceAdd, Nat.reduceSub, c, g1, gl, b1, b2, hm3, s3]; with_reducible exact hC); refine gc ?_) | refine gm ?_)
    generalize hH0 : ((H.new (.cells (u8s (allN j value)) 3)).new (.cells (dataC H.next size j j) 1)).new (.cells (outC j rows value n 0) 1) = H0
    have I0 : EncI H H0 j n rows value 0 := by
      subst hH0
      have e2 : ∀ (A B : Blk), ((H.new A).new B).next = H.next + 2 := fun _ _ => rfl
      have e1 : ∀ (A : Blk), (H.new A).next = H.next + 1 := fun _ => rfl
      refine ⟨((hOk.new _).new _).new _, rfl, fun b hb => ?_, ?_, ?_, ?_, fun j hj => by omega⟩
      · rw [Heap.get_new_ne _ _ (by rw [e2]; omega), Heap.get_new_ne _ _ (by rw [e1]; omega), Heap.get_new_ne _ _ (by omega)]
      · rw [Heap.get_new_ne _ _ (by rw [e2]; omega), Heap.get_new_ne _ _ (by rw [e1]; omega), Heap.get_new_self]
      · rw [hS, Heap.get_new_ne _ _ (by rw [e2]; omega)]
        exact Heap.get_new_self _ _
      · exact Heap.get_new_self _ _
    have g1' : H0.get p = some (.cells lo wo) := by rw [I0.old p gl]; exact g1
    repeat (first | ((first | apply Xk.sAny | apply Xk.tAny); (case hok => rfl); (case h => intro C hC; simp (disch := omega) only [w1, ↓reduceIte, Nat.reduceEqDiff, Nat.reduceLeDiff, Nat.reduceAdd, Nat.reduceSub, g1', d1, d2]; with_reducible exact hC); refine gc ?_) | refine gm ?_)
    refine Xk.iter [0, 5, 7, 9, 57, 58, 59] (fun m kn H' => ∃ i, m = n - i ∧ i ≤ n ∧ kn = [(0, .ptr p 0), (5, .int .i64 (.ofNat size)), (7, .sl (H.next + 1) 0 j 1), (9, .sl (H.next + 1 + 1) 0 n 1), (57, .sl rb ro n 1), (58, .int .i64 (.ofNat n)), (59, .int .i64 (.ofNat i))] ∧
      EncI H H' j n rows value i) rfl ⟨_, 0, rfl, Nat.zero_le _, rfl, I0⟩ ?_
    rintro m kn H' ⟨i, rfl, hi, rfl, I⟩
    unfold l1_rs_Code_Encode
    have hIo := I.ok
    by_cases c3 : i < n
    · obtain ⟨lr, wr', r1, r2⟩ := h.rows_
      obtain ⟨bb, oo, l', w', r3, r4, r5⟩ := r2 i c3
      obtain ⟨q1, q2⟩ := cell1 r3
      have r1' : H'.get rb = some (.cells lr wr') := by rw [I.old rb (hOk.lt r1)]; exact r1
      have r4' : H'.get bb = some (.cells l' w') := by rw [I.old bb (hOk.lt r4)]; exact r4
      repeat (first | ((first | apply Xk.sAny | apply Xk.tAny); (case hok => rfl); (case h => intro C hC; simp (disch := omega) only [w1, ↓reduceIte, Nat.reduceEqDiff, Nat.reduceLeDiff, Nat.reduceAdd, Nat.reduceSub, c3, r1', q1, q2]; with_reducible exact hC); refine gc ?_) | refine gm ?_)
      refine mix_ev p bb oo (H.next + 1) H.next j size (rows.getD i []) (allN j value) _ ?_ hk hk1 (dataN j value) ?_ (dataN_lt j value) _ ?_
      · obtain ⟨tl, tw, t1, t2, t3⟩ := h.tab
        refine ⟨⟨tl, tw, by rw [I.old p (hOk.lt t1)]; exact t1, t2, t3⟩, h.rlen i c3, ⟨l', w', r4', r5⟩, ⟨_, _, I.data, fun x hx => ?_⟩, ⟨_, I.all⟩, hal, by omega, h.row8 i, hal8⟩
        rw [hS]
        exact dataC_at hx hx
      · intro a b hb
        unfold dataN
        rw [hS, List.getD_eq_getElem?_getD, List.getElem?_take, if_pos hb, List.getElem?_drop, List.getD_eq_getElem?_getD]
      have hfr : mixJ (rows.getD i []) (dataN j value) (List.replicate size 0) j = fragN j (rows.getD i []) value := by unfold fragN; rw [hS]
      have hfl : (fragN j (rows.getD i []) value).length = size := by unfold fragN; rw [mixJ_len, List.length_replicate, hS]
      rw [hfr]
      have hstr : rB2s (H'.new (.cells (u8s (fragN j (rows.getD i []) value)) 3)) (.sl H'.next 0 size 1) = some (.str (fragS j (rows.getD i []) value)) := by
        have hlen : (u8s (fragN j (rows.getD i []) value)).length = size := by rw [u8s_len, hfl]
        simp only [rB2s, nbeq, decide_true, cond_true, Heap.ld, Heap.get_new, if_true, nble, Nat.zero_add, hlen, Nat.le_refl, decide_true, List.drop_zero]
        rw [show (u8s (fragN j (rows.getD i []) value)).take size = u8s (fragN j (rows.getD i []) value) by rw [← hlen, List.take_length]]
        simp only [strOf, bytes_u8s]
        rfl
      have hne : H.next + 1 + 1 ≠ H'.next := by rw [I.next]; omega
      have hout := I.out
      have hol : (outC j rows value n i).length = n := outC_len
      have hset := outC_set (k := j) (rows := rows) (value := value) c3
      have hi1 : i + 1 ≤ n := c3
      have hout' : H'.get (H.next + 1 + 1) = some (.cells (outC j rows value n i) 1) := hout
      repeat (first | ((first | apply Xk.sAny | apply Xk.tAny); (case hok => rfl); (case h => intro C hC; simp (disch := omega) only [w1, ↓reduceIte, Nat.reduceEqDiff, Nat.reduceLeDiff, Nat.reduceAdd, Nat.reduceSub, c3, hstr, hne, hout', hol, hset, hi1]; with_reducible exact hC); refine gc ?_) | refine gm ?_)
      have hM : ∀ b, b ≠ H'.next → (H'.new (.cells (u8s (fragN j (rows.getD i []) value)) 3)).get b = H'.get b := fun b hb => Heap.get_new_ne _ _ hb
      have hP : ∀ b (X : Blk), b ≠ H.next + 1 + 1 → ((H'.new (.cells (u8s (fragN j (rows.getD i []) value)) 3)).put (H.next + 1 + 1) X).get b = (H'.new (.cells (u8s (fragN j (rows.getD i []) value)) 3)).get b := fun b X hb => by rw [Heap.get_put, if_neg hb]
      have hnx := I.next
      refine ⟨rfl, _, by omega, i + 1, rfl, by omega, rfl, ?_⟩
      refine ⟨(hIo.new _).put (by rw [hM _ hne]; exact hout') _, by rw [Heap.next_put, Heap.next_new, hnx]; omega, fun b hb => ?_, ?_, ?_, ?_, fun x hx => ?_⟩
      · rw [hP _ _ (by omega), hM _ (by omega), I.old b hb]
      · rw [hP _ _ (by omega), hM _ (by omega), I.all]
      · rw [hP _ _ (by omega), hM _ (by omega), I.data]
      · rw [Heap.get_put, if_pos rfl]
      · rw [hP _ _ (by omega)]
        by_cases hxi : x < i
        · rw [hM _ (by omega), I.mix x hxi]
        · obtain rfl : x = i := by omega
          rw [← hnx]
          exact Heap.get_new_self _ _
    · obtain rfl : i = n := by omega
      repeat (first | ((first | apply Xk.sAny | apply Xk.tAny); (case hok => rfl); (case h => intro C hC; simp (disch := omega) only [w1, ↓reduceIte, Nat.reduceEqDiff, Nat.reduceLeDiff, Nat.reduceAdd, Nat.reduceSub, c3]; with_reducible exact hC); refine gc ?_) | refine gm ?_)
      exact hQ _ I

end Go.Proofs.YtjlfnolaifkakaaDoor
