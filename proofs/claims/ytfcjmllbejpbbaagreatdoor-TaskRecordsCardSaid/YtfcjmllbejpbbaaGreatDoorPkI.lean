/- Layer 21: a text as a record, the reference's. Conditions: none. -/
import Derived.Test.YtfcjmllbejpbbaaGreatDoorPkH
namespace Go.Proofs.YtfcjmllbejpbbaaGreatDoor
open Go.Dp
set_option linter.unusedSimpArgs false
set_option linter.unusedVariables false
set_option maxHeartbeats 400000
set_option maxRecDepth 8000
attribute [local irreducible] Ex.thnK Ex.inK Ret

theorem gGetRecord_ev (ω : Nat) (T : Tags) (H : Heap) (s : List UInt8) (hs : s.length ≤ 1000000) (Q : AV → Heap → Prop)
    (hQ : ∀ T' H', Stp (fun u => u.1 = ω) T H T' H' → Q (.tup [.agg ((gr s).1.map (.int .i64)), .bool (gr s).2]) H') : Eo lib n_depotref21_GetRecord [.str s] H Q := by
  refine Eo.ok fun hOk => ?_
  refine Eo.code at_depotref21_GetRecord rfl ?_
  have hsb := s2b_of s hs
  have hbx : nBox [.sl (H.next + 1) 0 s.length 1, .int .i64 (.ofNat 0), .int .i64 (.ofNat 0)] = some (.cells [.sl (H.next + 1) 0 s.length 1, .int .i64 (.ofNat 0), .int .i64 (.ofNat 0)] 1, ptrTo) := rfl
  repeat (first | ((first | apply Xk.sAny | apply Xk.tAny); (case hok => rfl); (case h => intro C hC; simp (disch := omega) only [w1, ↓reduceIte, Nat.reduceEqDiff, Nat.reduceLeDiff, Nat.reduceAdd, Nat.reduceSub, hsb, hbx]; with_reducible exact hC); refine gc ?_) | refine gm ?_)
  repeat (first | ((first | apply Xk.sAny | apply Xk.tAny); (case hok => rfl); (case h => intro C hC; simp (disch := omega) only [w1, ↓reduceIte, Nat.reduceEqDiff, Nat.reduceLeDiff, Nat.reduceAdd, Nat.reduceSub, hsb, hbx]; with_reducible exact hC); refine gc ?_) | refine gm ?_)
  obtain ⟨T3, s2, a3, b2, r2⟩ := new3 (T := T) hOk (ω, 0, 0) (ω, 5, 0) (ω, 4, 0) (.cells [.int .i64 (.ofNat 0), .int .i64 (.ofNat 0), .int .i64 (.ofNat 0), .int .i64 (.ofNat 0), .int .i64 (.ofNat 0)] 1) (.cells (ofBytes s) 3) (.cells [.sl (H.next + 1) 0 s.length 1, .int .i64 (.ofNat 0), .int .i64 (.ofNat 0)] 1)
  have rd : Rdr T3 (((H.new (.cells [.int .i64 (.ofNat 0), .int .i64 (.ofNat 0), .int .i64 (.ofNat 0), .int .i64 (.ofNat 0), .int .i64 (.ofNat 0)] 1)).new (.cells (ofBytes s) 3)).new (.cells [.sl (H.next + 1) 0 s.length 1, .int .i64 (.ofNat 0), .int .i64 (.ofNat 0)] 1)) (ω, 4, 0) (ω, 5, 0) (H.next + 2) s (0, 0) :=
    ⟨_, r2, .inr ⟨_, _, _, rfl, by rw [pk_len, Nat.mul_one], b2.1, Nat.le_refl _, List.take_length, b2.2⟩⟩
  have st3 : Stp (fun u => u.1 = ω) T H T3 _ := s2.mono fun u h => h.elim
  have hpr : H.next + 1 + 1 = H.next + 2 := rfl
  try rw [hpr]
  have hn3 : (((H.new (.cells [.int .i64 (.ofNat 0), .int .i64 (.ofNat 0), .int .i64 (.ofNat 0), .int .i64 (.ofNat 0), .int .i64 (.ofNat 0)] 1)).new (.cells (ofBytes s) 3)).new (.cells [.sl (H.next + 1) 0 s.length 1, .int .i64 (.ofNat 0), .int .i64 (.ofNat 0)] 1)).next = H.next + 2 + 1 := rfl
  generalize ((H.new (.cells [.int .i64 (.ofNat 0), .int .i64 (.ofNat 0), .int .i64 (.ofNat 0), .int .i64 (.ofNat 0), .int .i64 (.ofNat 0)] 1)).new (.cells (ofBytes s) 3)).new (.cells [.sl (H.next + 1) 0 s.length 1, .int .i64 (.ofNat 0), .int .i64 (.ofNat 0)] 1) = H3 at s2 a3 b2 r2 rd st3 hn3 ⊢
  generalize H.next + 2 = pr at r2 rd hn3 ⊢
  generalize H.next = p2 at a3 ⊢
  clear s2 b2 r2
  rw [← hn3]
  obtain ⟨T5, s5, a5, b5⟩ := new2 (T := T3) st3.ok (ω, 1, 0) (ω, 2, 0) (.cells [.int .i64 (.ofNat 0), .int .i64 (.ofNat 0), .int .i64 (.ofNat 0), .int .i64 (.ofNat 0), .int .i64 (.ofNat 0)] 1) (.cells [.ptr H3.next 0, .ptr H3.next 1, .ptr H3.next 2, .ptr H3.next 3, .ptr H3.next 4] 1)
  have c5 := a3.step s5 (fun h => h)
  have rd5 := rd.step s5 (fun h => h) (fun h => h)
  have st5 := st3.trans (s5.mono fun u h => h.elim)
  generalize (H3.new (.cells [.int .i64 (.ofNat 0), .int .i64 (.ofNat 0), .int .i64 (.ofNat 0), .int .i64 (.ofNat 0), .int .i64 (.ofNat 0)] 1)).new (.cells [.ptr H3.next 0, .ptr H3.next 1, .ptr H3.next 2, .ptr H3.next 3, .ptr H3.next 4] 1) = H5 at s5 a5 b5 c5 rd5 st5 ⊢
  generalize H3.next + 1 = pp at b5 ⊢
  generalize H3.next = px at a5 b5 ⊢
  have hpt := fun (i : Nat) (h : i < 5) => ptr_at px h
  have hptl : ([.ptr px 0, .ptr px 1, .ptr px 2, .ptr px 3, .ptr px 4] : List AV).length = 5 := rfl
  generalize ([.ptr px 0, .ptr px 1, .ptr px 2, .ptr px 3, .ptr px 4] : List AV) = pts at hpt hptl b5
  clear a3 rd st3 s5
  refine Xk.iter [2, 4, 5, 17, 18, 19] (fun m k H' => ∃ i xs st, m = 5 - i ∧ i ≤ 5 ∧ k = [(2, .ptr p2 0), (4, .ptr pr 0), (5, .ptr px 0), (17, .sl pp 0 5 1), (18, .int .i64 (.ofNat 5)), (19, .int .i64 (.ofNat i))] ∧ xs.length = 5 ∧ st.1 ≤ s.length ∧
      rns s 5 (0, 0) = ((rns s (5 - i) st).1, xs.take i ++ (rns s (5 - i) st).2) ∧ Stp (fun u => u.1 = ω) T H T5 H' ∧ At T5 H' (ω, 0, 0) p2 (.cells [.int .i64 (.ofNat 0), .int .i64 (.ofNat 0), .int .i64 (.ofNat 0), .int .i64 (.ofNat 0), .int .i64 (.ofNat 0)] 1) ∧ At T5 H' (ω, 1, 0) px (.cells (xs.map (.int .i64)) 1) ∧ At T5 H' (ω, 2, 0) pp (.cells pts 1) ∧ Rdr T5 H' (ω, 4, 0) (ω, 5, 0) pr s st) rfl
    ⟨_, 0, [0, 0, 0, 0, 0], (0, 0), rfl, by omega, rfl, rfl, Nat.zero_le _, rfl, st5, c5, a5, b5, rd5⟩ ?_
  rintro m k H' ⟨i, xs, st, rfl, hi, rfl, hxs, hst, heq, stp, a0, a1, a2, rd⟩
  unfold l0_depotref21_GetRecord
  by_cases c : i < 5
  · have hgp := a2.1
    have j1 := hpt i c
    have j2 : i + 1 ≤ pts.length := by omega
    repeat (first | ((first | apply Xk.sAny | apply Xk.tAny); (case hok => rfl); (case h => intro C hC; simp (disch := omega) only [w1, ↓reduceIte, Nat.reduceEqDiff, Nat.reduceLeDiff, Nat.reduceAdd, Nat.reduceSub, c, hgp, j1, j2]; with_reducible exact hC); refine gc ?_) | refine gm ?_)
    repeat (first | ((first | apply Xk.sAny | apply Xk.tAny); (case hok => rfl); (case h => intro C hC; simp (disch := omega) only [w1, ↓reduceIte, Nat.reduceEqDiff, Nat.reduceLeDiff, Nat.reduceAdd, Nat.reduceSub, c, hgp, j1, j2]; with_reducible exact hC); refine gc ?_) | refine gm ?_)
    refine gRNum_ev T5 H' (ω, 4, 0) (ω, 5, 0) (tgn (.inl (by decide))) pr s st rd (by omega) hst _ fun H2 s2 rd2 => ?_
    have a1' := a1.step s2 (tgn (.inl (by decide)))
    have hgx := a1'.1
    have j3 : i + 1 ≤ (xs.map (AV.int .i64)).length := by rw [List.length_map]; omega
    have j4 := pk_over (show i < xs.length by omega) (rn s st).2
    repeat (first | ((first | apply Xk.sAny | apply Xk.tAny); (case hok => rfl); (case h => intro C hC; simp (disch := omega) only [w1, ↓reduceIte, Nat.reduceEqDiff, Nat.reduceLeDiff, Nat.reduceAdd, Nat.reduceSub, hgx, j3, j4]; with_reducible exact hC); refine gc ?_) | refine gm ?_)
    repeat (first | ((first | apply Xk.sAny | apply Xk.tAny); (case hok => rfl); (case h => intro C hC; simp (disch := omega) only [w1, ↓reduceIte, Nat.reduceEqDiff, Nat.reduceLeDiff, Nat.reduceAdd, Nat.reduceSub, hgx, j3, j4]; with_reducible exact hC); refine gc ?_) | refine gm ?_)
    have s3 := a1'.stp1 s2.ok (.cells ((xs.set i (rn s st).2).map (.int .i64)) 1)
    have e : 5 - i = (5 - (i + 1)) + 1 := by omega
    rw [e, rns_step] at heq
    refine ⟨rfl, _, by omega, i + 1, xs.set i (rn s st).2, (rn s st).1, rfl, by omega, rfl, by rw [List.length_set]; exact hxs, rn_at hst, ?_, (stp.trans (s2.mono fun u h => by rw [h])).trans (s3.mono fun u h => by rw [h]),
      (a0.step s2 (tgn (.inl (by decide)))).step s3 (tgn (.inl (by decide))), a1'.put _, (a2.step s2 (tgn (.inl (by decide)))).step s3 (tgn (.inl (by decide))), rd2.step s3 (tgn (.inl (by decide))) (tgn (.inl (by decide)))⟩
    rw [set_take (by omega), List.append_assoc]
    exact heq
  · have i5 : i = 5 := by omega
    subst i5
    rw [List.take_of_length_le (by omega)] at heq
    have heq : rns s 5 (0, 0) = (st, xs ++ []) := heq
    rw [List.append_nil] at heq
    obtain ⟨a, e⟩ := st
    have hgr := gr_of heq
    repeat (first | ((first | apply Xk.sAny | apply Xk.tAny); (case hok => rfl); (case h => intro C hC; simp (disch := omega) only [w1, ↓reduceIte, Nat.reduceEqDiff, Nat.reduceLeDiff, Nat.reduceAdd, Nat.reduceSub, c]; with_reducible exact hC); refine gc ?_) | refine gm ?_)
    refine gEnd_ev T5 H' (ω, 4, 0) (ω, 5, 0) (tgn (.inl (by decide))) pr s (a, e) rd (by omega) _ fun H2 s2 => ?_
    have a0' := a0.step s2 (tgn (.inl (by decide)))
    have a1' := a1.step s2 (tgn (.inl (by decide)))
    have stp2 := stp.trans (s2.mono (P := fun u => u.1 = ω) fun u h => by rw [h])
    obtain ⟨x0, x1, x2, x3, x4, rfl⟩ := len5 hxs
    have hg2 := a0'.1
    have hgx : H2.get px = some (.cells [.int .i64 x0, .int .i64 x1, .int .i64 x2, .int .i64 x3, .int .i64 x4] 1) := a1'.1
    have hpx : px ≠ p2 := a1'.ne a0' (tgn (.inl (by decide)))
    clear a0 a1 a2 rd s2 stp heq hi hxs hpt hptl c5 a5 b5 rd5 st5 hst
    have hno : ¬ ((e = 0 ∧ ¬ a < s.length) ∧ Rng [x0, x1, x2, x3, x4]) → Q (.tup [.agg [.int .i64 (.ofNat 0), .int .i64 (.ofNat 0), .int .i64 (.ofNat 0), .int .i64 (.ofNat 0), .int .i64 (.ofNat 0)], .bool false]) (H2.put p2 (.cells [.int .i64 (.ofNat 0), .int .i64 (.ofNat 0), .int .i64 (.ofNat 0), .int .i64 (.ofNat 0), .int .i64 (.ofNat 0)] 1)) := by
      intro h
      rw [if_neg h] at hgr
      rw [hgr] at hQ
      exact hQ _ _ (stp2.trans ((a0'.stp1 stp2.ok (.cells [.int .i64 (.ofNat 0), .int .i64 (.ofNat 0), .int .i64 (.ofNat 0), .int .i64 (.ofNat 0), .int .i64 (.ofNat 0)] 1)).mono fun u h => by rw [h]))
    have hyes : (e = 0 ∧ ¬ a < s.length) ∧ Rng [x0, x1, x2, x3, x4] → Q (.tup [.agg [.int .i64 x0, .int .i64 x1, .int .i64 x2, .int .i64 x3, .int .i64 x4], .bool true]) (H2.put p2 (.cells [.int .i64 x0, .int .i64 x1, .int .i64 x2, .int .i64 x3, .int .i64 x4] 1)) := by
      intro h
      rw [if_pos h] at hgr
      rw [hgr] at hQ
      exact hQ _ _ (stp2.trans ((a0'.stp1 stp2.ok (.cells [.int .i64 x0, .int .i64 x1, .int .i64 x2, .int .i64 x3, .int .i64 x4] 1)).mono fun u h => by rw [h]))
    by_cases hE : e = 0 ∧ ¬ a < s.length
    · have hE1 : (if e = 0 ∧ a < s.length then 5 else e) = 0 := by rw [if_neg (fun h => hE.2 h.2)]; exact hE.1
      rw [hE1]
      by_cases c0 : x0 < Int.ofNat 0
      · have c0' := eq_true c0
        repeat (first | ((first | apply Xk.sAny | apply Xk.tAny); (case hok => rfl); (case h => intro C hC; simp (disch := omega) only [w1, ↓reduceIte, Nat.reduceEqDiff, Nat.reduceLeDiff, Nat.reduceAdd, Nat.reduceSub, hg2, hgx, hpx, c0']; with_reducible exact hC); refine gc ?_) | refine gm ?_)
        refine ret_cell (p := p2) (t1 := 2) (t2 := 3) rfl rfl (load_agg (Heap.get_put_self _ _ _) rfl) rfl rfl ?_
        exact hno fun h => absurd c0 (Int.not_lt.2 h.2.1.1)
      · have n0 := eq_false c0
        by_cases c1 : Int.ofNat 1099511627776 < x0
        · have c1' := eq_true c1
          repeat (first | ((first | apply Xk.sAny | apply Xk.tAny); (case hok => rfl); (case h => intro C hC; simp (disch := omega) only [w1, ↓reduceIte, Nat.reduceEqDiff, Nat.reduceLeDiff, Nat.reduceAdd, Nat.reduceSub, hg2, hgx, hpx, n0, c1']; with_reducible exact hC); refine gc ?_) | refine gm ?_)
          refine ret_cell (p := p2) (t1 := 2) (t2 := 3) rfl rfl (load_agg (Heap.get_put_self _ _ _) rfl) rfl rfl ?_
          exact hno fun h => absurd c1 (Int.not_lt.2 h.2.1.2)
        · have n1 := eq_false c1
          by_cases c2 : x1 < Int.ofNat 0
          · have c2' := eq_true c2
            repeat (first | ((first | apply Xk.sAny | apply Xk.tAny); (case hok => rfl); (case h => intro C hC; simp (disch := omega) only [w1, ↓reduceIte, Nat.reduceEqDiff, Nat.reduceLeDiff, Nat.reduceAdd, Nat.reduceSub, hg2, hgx, hpx, n0, n1, c2']; with_reducible exact hC); refine gc ?_) | refine gm ?_)
            refine ret_cell (p := p2) (t1 := 2) (t2 := 3) rfl rfl (load_agg (Heap.get_put_self _ _ _) rfl) rfl rfl ?_
            exact hno fun h => absurd c2 (Int.not_lt.2 h.2.2.1.1)
          · have n2 := eq_false c2
            by_cases c3 : Int.ofNat 1099511627776 < x1
            · have c3' := eq_true c3
              repeat (first | ((first | apply Xk.sAny | apply Xk.tAny); (case hok => rfl); (case h => intro C hC; simp (disch := omega) only [w1, ↓reduceIte, Nat.reduceEqDiff, Nat.reduceLeDiff, Nat.reduceAdd, Nat.reduceSub, hg2, hgx, hpx, n0, n1, n2, c3']; with_reducible exact hC); refine gc ?_) | refine gm ?_)
              refine ret_cell (p := p2) (t1 := 2) (t2 := 3) rfl rfl (load_agg (Heap.get_put_self _ _ _) rfl) rfl rfl ?_
              exact hno fun h => absurd c3 (Int.not_lt.2 h.2.2.1.2)
            · have n3 := eq_false c3
              by_cases c4 : x2 < Int.ofNat 0
              · have c4' := eq_true c4
                repeat (first | ((first | apply Xk.sAny | apply Xk.tAny); (case hok => rfl); (case h => intro C hC; simp (disch := omega) only [w1, ↓reduceIte, Nat.reduceEqDiff, Nat.reduceLeDiff, Nat.reduceAdd, Nat.reduceSub, hg2, hgx, hpx, n0, n1, n2, n3, c4']; with_reducible exact hC); refine gc ?_) | refine gm ?_)
                refine ret_cell (p := p2) (t1 := 2) (t2 := 3) rfl rfl (load_agg (Heap.get_put_self _ _ _) rfl) rfl rfl ?_
                exact hno fun h => absurd c4 (Int.not_lt.2 h.2.2.2.1.1)
              · have n4 := eq_false c4
                by_cases c5 : Int.ofNat 4294967295 < x2
                · have c5' := eq_true c5
                  repeat (first | ((first | apply Xk.sAny | apply Xk.tAny); (case hok => rfl); (case h => intro C hC; simp (disch := omega) only [w1, ↓reduceIte, Nat.reduceEqDiff, Nat.reduceLeDiff, Nat.reduceAdd, Nat.reduceSub, hg2, hgx, hpx, n0, n1, n2, n3, n4, c5']; with_reducible exact hC); refine gc ?_) | refine gm ?_)
                  refine ret_cell (p := p2) (t1 := 2) (t2 := 3) rfl rfl (load_agg (Heap.get_put_self _ _ _) rfl) rfl rfl ?_
                  exact hno fun h => absurd c5 (Int.not_lt.2 h.2.2.2.1.2)
                · have n5 := eq_false c5
                  by_cases c6 : x3 < Int.negSucc 0
                  · have c6' := eq_true c6
                    repeat (first | ((first | apply Xk.sAny | apply Xk.tAny); (case hok => rfl); (case h => intro C hC; simp (disch := omega) only [w1, ↓reduceIte, Nat.reduceEqDiff, Nat.reduceLeDiff, Nat.reduceAdd, Nat.reduceSub, hg2, hgx, hpx, n0, n1, n2, n3, n4, n5, c6']; with_reducible exact hC); refine gc ?_) | refine gm ?_)
                    refine ret_cell (p := p2) (t1 := 2) (t2 := 3) rfl rfl (load_agg (Heap.get_put_self _ _ _) rfl) rfl rfl ?_
                    exact hno fun h => absurd c6 (Int.not_lt.2 h.2.2.2.2.1.1)
                  · have n6 := eq_false c6
                    by_cases c7 : Int.ofNat 2199023255552 < x3
                    · have c7' := eq_true c7
                      repeat (first | ((first | apply Xk.sAny | apply Xk.tAny); (case hok => rfl); (case h => intro C hC; simp (disch := omega) only [w1, ↓reduceIte, Nat.reduceEqDiff, Nat.reduceLeDiff, Nat.reduceAdd, Nat.reduceSub, hg2, hgx, hpx, n0, n1, n2, n3, n4, n5, n6, c7']; with_reducible exact hC); refine gc ?_) | refine gm ?_)
                      refine ret_cell (p := p2) (t1 := 2) (t2 := 3) rfl rfl (load_agg (Heap.get_put_self _ _ _) rfl) rfl rfl ?_
                      exact hno fun h => absurd c7 (Int.not_lt.2 h.2.2.2.2.1.2)
                    · have n7 := eq_false c7
                      by_cases c8 : x4 < Int.ofNat 0
                      · have c8' := eq_true c8
                        repeat (first | ((first | apply Xk.sAny | apply Xk.tAny); (case hok => rfl); (case h => intro C hC; simp (disch := omega) only [w1, ↓reduceIte, Nat.reduceEqDiff, Nat.reduceLeDiff, Nat.reduceAdd, Nat.reduceSub, hg2, hgx, hpx, n0, n1, n2, n3, n4, n5, n6, n7, c8']; with_reducible exact hC); refine gc ?_) | refine gm ?_)
                        refine ret_cell (p := p2) (t1 := 2) (t2 := 3) rfl rfl (load_agg (Heap.get_put_self _ _ _) rfl) rfl rfl ?_
                        exact hno fun h => absurd c8 (Int.not_lt.2 h.2.2.2.2.2.1)
                      · have n8 := eq_false c8
                        by_cases c9 : Int.ofNat 1048576 < x4
                        · have c9' := eq_true c9
                          repeat (first | ((first | apply Xk.sAny | apply Xk.tAny); (case hok => rfl); (case h => intro C hC; simp (disch := omega) only [w1, ↓reduceIte, Nat.reduceEqDiff, Nat.reduceLeDiff, Nat.reduceAdd, Nat.reduceSub, hg2, hgx, hpx, n0, n1, n2, n3, n4, n5, n6, n7, n8, c9']; with_reducible exact hC); refine gc ?_) | refine gm ?_)
                          refine ret_cell (p := p2) (t1 := 2) (t2 := 3) rfl rfl (load_agg (Heap.get_put_self _ _ _) rfl) rfl rfl ?_
                          exact hno fun h => absurd c9 (Int.not_lt.2 h.2.2.2.2.2.2)
                        · have n9 := eq_false c9
                          repeat (first | ((first | apply Xk.sAny | apply Xk.tAny); (case hok => rfl); (case h => intro C hC; simp (disch := omega) only [w1, ↓reduceIte, Nat.reduceEqDiff, Nat.reduceLeDiff, Nat.reduceAdd, Nat.reduceSub, hg2, hgx, hpx, n0, n1, n2, n3, n4, n5, n6, n7, n8, n9]; with_reducible exact hC); refine gc ?_) | refine gm ?_)
                          refine ret_cell (p := p2) (t1 := 2) (t2 := 3) rfl rfl (load_agg (Heap.get_put_self _ _ _) rfl) rfl rfl ?_
                          exact hyes ⟨hE, ⟨Int.not_lt.1 c0, Int.not_lt.1 c1⟩, ⟨Int.not_lt.1 c2, Int.not_lt.1 c3⟩, ⟨Int.not_lt.1 c4, Int.not_lt.1 c5⟩, ⟨Int.not_lt.1 c6, Int.not_lt.1 c7⟩, ⟨Int.not_lt.1 c8, Int.not_lt.1 c9⟩⟩
    · have hE1 : ¬ (if e = 0 ∧ a < s.length then 5 else e) = 0 := by
        split
        · decide
        · rename_i h
          intro h2
          exact hE ⟨h2, fun h3 => h ⟨h2, h3⟩⟩
      generalize (if e = 0 ∧ a < s.length then 5 else e) = E at hE1 ⊢
      repeat (first | ((first | apply Xk.sAny | apply Xk.tAny); (case hok => rfl); (case h => intro C hC; simp (disch := omega) only [w1, ↓reduceIte, Nat.reduceEqDiff, Nat.reduceLeDiff, Nat.reduceAdd, Nat.reduceSub, hg2, hgx, hpx, hE1]; with_reducible exact hC); refine gc ?_) | refine gm ?_)
      refine ret_cell (p := p2) (t1 := 2) (t2 := 3) rfl rfl (load_agg (Heap.get_put_self _ _ _) rfl) rfl rfl ?_
      exact hno fun h => hE h.1
end Go.Proofs.YtfcjmllbejpbbaaGreatDoor
