/- Layer 21: a text as a record, the program's. Conditions: none. -/
import Derived.Test.YtfcjmllbejpbbaaGreatDoorPkG
namespace Go.Proofs.YtfcjmllbejpbbaaGreatDoor
open Go.Dp
set_option linter.unusedSimpArgs false
set_option linter.unusedVariables false
set_option maxHeartbeats 400000
set_option maxRecDepth 8000
attribute [local irreducible] Ex.thnK Ex.inK Ret

/-- is it a record's? -/
def Rng (x : List Int) : Prop := (0 ≤ x.getD 0 0 ∧ x.getD 0 0 ≤ 1099511627776) ∧ (0 ≤ x.getD 1 0 ∧ x.getD 1 0 ≤ 1099511627776) ∧ (0 ≤ x.getD 2 0 ∧ x.getD 2 0 ≤ 4294967295) ∧ (-1 ≤ x.getD 3 0 ∧ x.getD 3 0 ≤ 2199023255552) ∧ (0 ≤ x.getD 4 0 ∧ x.getD 4 0 ≤ 1048576)
instance (x : List Int) : Decidable (Rng x) := by unfold Rng; infer_instance
/-- the record that a text tells -/
def gr (s : List UInt8) : List Int × Bool := if ((rns s 5 (0, 0)).1.2 = 0 ∧ ¬ (rns s 5 (0, 0)).1.1 < s.length) ∧ Rng (rns s 5 (0, 0)).2 then ((rns s 5 (0, 0)).2, true) else ([0, 0, 0, 0, 0], false)
theorem gr_of {s : List UInt8} {a e : Nat} {x : List Int} (h : rns s 5 (0, 0) = ((a, e), x)) : gr s = if (e = 0 ∧ ¬ a < s.length) ∧ Rng x then (x, true) else ([0, 0, 0, 0, 0], false) := by
  unfold gr; rw [h]

theorem rns_step (b : List UInt8) (k : Nat) (s : Nat × Nat) : rns b (k + 1) s = ((rns b k (rn b s).1).1, (rn b s).2 :: (rns b k (rn b s).1).2) := rfl
theorem pk_over {l : List Int} {i : Nat} (h : i < l.length) (x : Int) : (l.map (AV.int .i64)).take i ++ (AV.int .i64 x :: (l.map (AV.int .i64)).drop (i + 1)) = (l.set i x).map (AV.int .i64) := by
  rw [List.set_eq_take_append_cons_drop, if_pos h, List.map_append, List.map_cons, List.map_take, List.map_drop]
theorem set_take {l : List Int} {i : Nat} (h : i < l.length) (x : Int) : (l.set i x).take (i + 1) = l.take i ++ [x] := by
  rw [List.take_add_one, List.take_set_of_le (Nat.le_refl _), List.getElem?_set_self h]
  rfl
theorem len5 {l : List Int} (h : l.length = 5) : ∃ x0 x1 x2 x3 x4, l = [x0, x1, x2, x3, x4] := by
  match l, h with
  | [x0, x1, x2, x3, x4], _ => exact ⟨x0, x1, x2, x3, x4, rfl⟩
theorem ptr_at (p : Nat) {i : Nat} (h : i < 5) : (([.ptr p 0, .ptr p 1, .ptr p 2, .ptr p 3, .ptr p 4] : List AV).drop i).take 1 = [.ptr p i] := by
  have : i = 0 ∨ i = 1 ∨ i = 2 ∨ i = 3 ∨ i = 4 := by omega
  rcases this with rfl | rfl | rfl | rfl | rfl <;> rfl
theorem s2b_of (s : List UInt8) (h : s.length ≤ 1000000) : nS2b (.str s) = some (.cells (ofBytes s) 3, slTo s.length 1) := by
  unfold nS2b
  simp only [nble]
  rw [decide_eq_true (show s.length ≤ 35184372088832 by omega)]
  rfl


theorem load_agg {H : Heap} {p w n : Nat} {l : List AV} (h : H.get p = some (.cells l w)) (hn : n = l.length) : rLoad H true n (.ptr p 0) = some (.agg l) := by
  subst hn
  unfold rLoad
  simp only [Heap.ld_of h (show 0 + l.length ≤ l.length by omega), List.drop_zero, List.take_length, cond_true]
  rfl
theorem ret_cell {k : Kn} {H : Heap} {t1 t2 n p : Nat} {l : List AV} {b : AV} {Q : AV → Heap → Prop} (h1 : k.get t1 = .ptr p 0) (h2 : k.get t2 = b) (hl : rLoad H true n (.ptr p 0) = some (.agg l)) (ok : okRes [.cell t1 true n, .tmp t2] k.keys = true)
    (hv : resV [.agg l, b] = some (.tup [.agg l, b])) (hQ : Q (.tup [.agg l, b]) H) : Ret [.cell t1 true n, .tmp t2] Q .ret k H := by
  refine Ret.ret (vs := [.agg l, b]) ok ?_ hv hQ
  simp only [resKs, resK, h1, h2, hl]

theorem new1 {T : Tags} {H : Heap} (hO : H.Ok) (t : Tg) (x : Blk) : ∃ T', Stp (fun _ => False) T H T' (H.new x) ∧ At T' (H.new x) t H.next x := ⟨_, Stp.new hO t x, At.new t x⟩
theorem new2 {T : Tags} {H : Heap} (hO : H.Ok) (t1 t2 : Tg) (x y : Blk) : ∃ T', Stp (fun _ => False) T H T' ((H.new x).new y) ∧ At T' ((H.new x).new y) t1 H.next x ∧ At T' ((H.new x).new y) t2 (H.next + 1) y := by
  obtain ⟨T1, s1, a1⟩ := new1 (T := T) hO t1 x
  obtain ⟨T2, s2, a2⟩ := new1 (T := T1) s1.ok t2 y
  exact ⟨T2, s1.trans s2, a1.step s2 (fun h => h), a2⟩
theorem new3 {T : Tags} {H : Heap} (hO : H.Ok) (t1 t2 t3 : Tg) (x y z : Blk) : ∃ T', Stp (fun _ => False) T H T' (((H.new x).new y).new z) ∧ At T' (((H.new x).new y).new z) t1 H.next x ∧ At T' (((H.new x).new y).new z) t2 (H.next + 1) y ∧ At T' (((H.new x).new y).new z) t3 (H.next + 2) z := by
  obtain ⟨T1, s1, a1, b1⟩ := new2 (T := T) hO t1 t2 x y
  obtain ⟨T2, s2, a2⟩ := new1 (T := T1) s1.ok t3 z
  exact ⟨T2, s1.trans s2, a1.step s2 (fun h => h), b1.step s2 (fun h => h), a2⟩

theorem GetRecord_ev (ω : Nat) (T : Tags) (H : Heap) (s : List UInt8) (hs : s.length ≤ 1000000) (Q : AV → Heap → Prop)
    (hQ : ∀ T' H', Stp (fun u => u.1 = ω) T H T' H' → Q (.tup [.agg ((gr s).1.map (.int .i64)), .bool (gr s).2]) H') : Eo lib n_task_GetRecord [.str s] H Q := by
  refine Eo.ok fun hOk => ?_
  refine Eo.code at_task_GetRecord rfl ?_
  have hsb := s2b_of s hs
  repeat (first | ((first | apply Xk.sAny | apply Xk.tAny); (case hok => rfl); (case h => intro C hC; simp (disch := omega) only [w1, ↓reduceIte, Nat.reduceEqDiff, Nat.reduceLeDiff, Nat.reduceAdd, Nat.reduceSub, hsb]; with_reducible exact hC); refine gc ?_) | refine gm ?_)
  repeat (first | ((first | apply Xk.sAny | apply Xk.tAny); (case hok => rfl); (case h => intro C hC; simp (disch := omega) only [w1, ↓reduceIte, Nat.reduceEqDiff, Nat.reduceLeDiff, Nat.reduceAdd, Nat.reduceSub, hsb]; with_reducible exact hC); refine gc ?_) | refine gm ?_)
  obtain ⟨T2, s2, a2, b2⟩ := new2 (T := T) hOk (ω, 0, 0) (ω, 3, 0) (.cells [.int .i64 (.ofNat 0), .int .i64 (.ofNat 0), .int .i64 (.ofNat 0), .int .i64 (.ofNat 0), .int .i64 (.ofNat 0)] 1) (.cells (ofBytes s) 3)
  have hsl : Sl ((H.new (.cells [.int .i64 (.ofNat 0), .int .i64 (.ofNat 0), .int .i64 (.ofNat 0), .int .i64 (.ofNat 0), .int .i64 (.ofNat 0)] 1)).new (.cells (ofBytes s) 3)) 1 (.sl (H.next + 1) 0 s.length 1) (ofBytes s) :=
    .inr ⟨H.next + 1, 0, s.length, ofBytes s, 3, [], rfl, by rw [pk_len, Nat.mul_one], b2.1, Nat.zero_le _, by simp⟩
  generalize (H.new (.cells [.int .i64 (.ofNat 0), .int .i64 (.ofNat 0), .int .i64 (.ofNat 0), .int .i64 (.ofNat 0), .int .i64 (.ofNat 0)] 1)).new (.cells (ofBytes s) 3) = H2 at s2 a2 b2 hsl ⊢
  generalize H.next + 1 = nb at b2 hsl ⊢
  generalize H.next = p2 at a2 ⊢
  refine Read_ev T2 H2 (ω, 4, 0) (ω, 5, 0) (tgn (.inl (by decide))) _ s hsl (by omega) _ fun pr T3 H3 s3 rd => ?_
  have a3 := a2.step s3 (tgn (.inl (by decide)))
  have st3 : Stp (fun u => u.1 = ω) T H T3 H3 := (s2.mono fun u h => h.elim).trans (s3.mono fun u h => by rw [h])
  clear s2 s3 a2 b2 hsl
  repeat (first | ((first | apply Xk.sAny | apply Xk.tAny); (case hok => rfl); (case h => intro C hC; simp (disch := omega) only [w1, ↓reduceIte, Nat.reduceEqDiff, Nat.reduceLeDiff, Nat.reduceAdd, Nat.reduceSub]; with_reducible exact hC); refine gc ?_) | refine gm ?_)
  obtain ⟨T5, s5, a5, b5⟩ := new2 (T := T3) st3.ok (ω, 1, 0) (ω, 2, 0) (.cells [.int .i64 (.ofNat 0), .int .i64 (.ofNat 0), .int .i64 (.ofNat 0), .int .i64 (.ofNat 0), .int .i64 (.ofNat 0)] 1) (.cells [.ptr H3.next 0, .ptr H3.next 1, .ptr H3.next 2, .ptr H3.next 3, .ptr H3.next 4] 1)
  have c5 := a3.step s5 (fun h => h)
  have rd5 := rd.step s5 (fun h => h) (fun h => h)
  have st5 := st3.trans (s5.mono fun u h => h.elim)
  generalize (H3.new (.cells [.int .i64 (.ofNat 0), .int .i64 (.ofNat 0), .int .i64 (.ofNat 0), .int .i64 (.ofNat 0), .int .i64 (.ofNat 0)] 1)).new (.cells [.ptr H3.next 0, .ptr H3.next 1, .ptr H3.next 2, .ptr H3.next 3, .ptr H3.next 4] 1) = H5 at s5 a5 b5 c5 rd5 st5 ⊢
  generalize H3.next + 1 = pp at b5 ⊢
  generalize H3.next = px at a5 b5 ⊢
  have hpt := fun (i : Nat) (h : i < 5) => ptr_at px h
  have hptl : ([.ptr px 0, .ptr px 1, .ptr px 2, .ptr px 3, .ptr px 4] : List AV).length = 5 := rfl
  generalize ([.ptr px 0, .ptr px 1, .ptr px 2, .ptr px 3, .ptr px 4] : List AV) = pts at hpt hptl b5
  clear a3 rd st3 s5
  refine Xk.iter [2, 4, 5, 17, 18, 19] (fun m k H' => ∃ i xs st, m = 5 - i ∧ i ≤ 5 ∧ k = [(2, .ptr p2 0), (4, .ptr pr 0), (5, .ptr px 0), (17, .sl pp 0 5 1), (18, .int .i64 (.ofNat 5)), (19, .int .i64 (.ofNat i))] ∧ xs.length = 5 ∧ st.1 ≤ s.length ∧
      rns s 5 (0, 0) = ((rns s (5 - i) st).1, xs.take i ++ (rns s (5 - i) st).2) ∧ Stp (fun u => u.1 = ω) T H T5 H' ∧ At T5 H' (ω, 0, 0) p2 (.cells [.int .i64 (.ofNat 0), .int .i64 (.ofNat 0), .int .i64 (.ofNat 0), .int .i64 (.ofNat 0), .int .i64 (.ofNat 0)] 1) ∧ At T5 H' (ω, 1, 0) px (.cells (xs.map (.int .i64)) 1) ∧ At T5 H' (ω, 2, 0) pp (.cells pts 1) ∧ Rdr T5 H' (ω, 4, 0) (ω, 5, 0) pr s st) rfl
    ⟨_, 0, [0, 0, 0, 0, 0], (0, 0), rfl, by omega, rfl, rfl, Nat.zero_le _, rfl, st5, c5, a5, b5, rd5⟩ ?_
  rintro m k H' ⟨i, xs, st, rfl, hi, rfl, hxs, hst, heq, stp, a0, a1, a2, rd⟩
  unfold l0_task_GetRecord
  by_cases c : i < 5
  · have hgp := a2.1
    have j1 := hpt i c
    have j2 : i + 1 ≤ pts.length := by omega
    repeat (first | ((first | apply Xk.sAny | apply Xk.tAny); (case hok => rfl); (case h => intro C hC; simp (disch := omega) only [w1, ↓reduceIte, Nat.reduceEqDiff, Nat.reduceLeDiff, Nat.reduceAdd, Nat.reduceSub, c, hgp, j1, j2]; with_reducible exact hC); refine gc ?_) | refine gm ?_)
    repeat (first | ((first | apply Xk.sAny | apply Xk.tAny); (case hok => rfl); (case h => intro C hC; simp (disch := omega) only [w1, ↓reduceIte, Nat.reduceEqDiff, Nat.reduceLeDiff, Nat.reduceAdd, Nat.reduceSub, c, hgp, j1, j2]; with_reducible exact hC); refine gc ?_) | refine gm ?_)
    refine rNum_ev T5 H' (ω, 4, 0) (ω, 5, 0) (tgn (.inl (by decide))) pr s st rd (by omega) hst _ fun H2 s2 rd2 => ?_
    have a1' := a1.step s2 (tgn (.inl (by decide)))
    have hgx := a1'.1
    have j3 : i + 1 ≤ (xs.map (AV.int .i64)).length := by rw [List.length_map]; omega
    have j4 := pk_over (show i < xs.length by omega) (rn s st).2
    repeat (first | ((first | apply Xk.sAny | apply Xk.tAny); (case hok => rfl); (case h => intro C hC; simp (disch := omega) only [w1, ↓reduceIte, Nat.reduceEqDiff, Nat.reduceLeDiff, Nat.reduceAdd, Nat.reduceSub, hgx, j3, j4]; with_reducible exact hC); refine gc ?_) | refine gm ?_)
    repeat (first | ((first | apply Xk.sAny | apply Xk.tAny); (case hok => rfl); (case h => intro C hC; simp (disch := omega) only [w1, ↓reduceIte, Nat.reduceEqDiff, Nat.reduceLeDiff, Nat.reduceAdd, Nat.reduceSub, hgx, j3, j4]; with_reducible exact hC); refine gc ?_) | refine gm ?_)
    have s3 := a1'.stp1 s2.ok (.cells ((xs.set i (rn s st).2).map (.int .i64)) 1)
    have e : 5 - i = (5 - (i + 1)) + 1 := by omega
    rw [e, rns_step] at heq
    refine ⟨rfl, _, by omega, i + 1, xs.set i (rn s st).2, (rn s st).1, rfl, by omega, rfl, by rw [List.length_set]; exact hxs, rn_at hst, ?_, (stp.trans (s2.mono fun u h => by rw [h])).trans (s3.mono fun u h => by rw [h]),
      (a0.step s2 (tgn (.inl (by decide)))).step s3 (tgn (.inl (by decide))), a1'.put _, (a2.step s2 (tgn (.inl (by decide)))).step s3 (tgn (.inl (by decide))), rd2.step s3 (tgn (.inl (by decide))) (tgn (.inl (by decide)))⟩
    rw [set_take (by omega), List.append_assoc]
    exact heq
  · have i5 : i = 5 := by omega
    subst i5
    rw [List.take_of_length_le (by omega)] at heq
    have heq : rns s 5 (0, 0) = (st, xs ++ []) := heq
    rw [List.append_nil] at heq
    obtain ⟨a, e⟩ := st
    have hgr := gr_of heq
    repeat (first | ((first | apply Xk.sAny | apply Xk.tAny); (case hok => rfl); (case h => intro C hC; simp (disch := omega) only [w1, ↓reduceIte, Nat.reduceEqDiff, Nat.reduceLeDiff, Nat.reduceAdd, Nat.reduceSub, c]; with_reducible exact hC); refine gc ?_) | refine gm ?_)
    refine rEnd_ev T5 H' (ω, 4, 0) (ω, 5, 0) (tgn (.inl (by decide))) pr s (a, e) rd (by omega) _ fun H2 s2 => ?_
    have a0' := a0.step s2 (tgn (.inl (by decide)))
    have a1' := a1.step s2 (tgn (.inl (by decide)))
    have stp2 := stp.trans (s2.mono (P := fun u => u.1 = ω) fun u h => by rw [h])
    obtain ⟨x0, x1, x2, x3, x4, rfl⟩ := len5 hxs
    have hg2 := a0'.1
    have hgx : H2.get px = some (.cells [.int .i64 x0, .int .i64 x1, .int .i64 x2, .int .i64 x3, .int .i64 x4] 1) := a1'.1
    have hpx : px ≠ p2 := a1'.ne a0' (tgn (.inl (by decide)))
    clear a0 a1 a2 rd s2 stp heq hi hxs hpt hptl c5 a5 b5 rd5 st5 hst
    have hno : ¬ ((e = 0 ∧ ¬ a < s.length) ∧ Rng [x0, x1, x2, x3, x4]) → Q (.tup [.agg [.int .i64 (.ofNat 0), .int .i64 (.ofNat 0), .int .i64 (.ofNat 0), .int .i64 (.ofNat 0), .int .i64 (.ofNat 0)], .bool false]) (H2.put p2 (.cells [.int .i64 (.ofNat 0), .int .i64 (.ofNat 0), .int .i64 (.ofNat 0), .int .i64 (.ofNat 0), .int .i64 (.ofNat 0)] 1)) := by
      intro h
      rw [if_neg h] at hgr
      rw [hgr] at hQ
      exact hQ _ _ (stp2.trans ((a0'.stp1 stp2.ok (.cells [.int .i64 (.ofNat 0), .int .i64 (.ofNat 0), .int .i64 (.ofNat 0), .int .i64 (.ofNat 0), .int .i64 (.ofNat 0)] 1)).mono fun u h => by rw [h]))
    have hyes : (e = 0 ∧ ¬ a < s.length) ∧ Rng [x0, x1, x2, x3, x4] → Q (.tup [.agg [.int .i64 x0, .int .i64 x1, .int .i64 x2, .int .i64 x3, .int .i64 x4], .bool true]) (H2.put p2 (.cells [.int .i64 x0, .int .i64 x1, .int .i64 x2, .int .i64 x3, .int .i64 x4] 1)) := by
      intro h
      rw [if_pos h] at hgr
      rw [hgr] at hQ
      exact hQ _ _ (stp2.trans ((a0'.stp1 stp2.ok (.cells [.int .i64 x0, .int .i64 x1, .int .i64 x2, .int .i64 x3, .int .i64 x4] 1)).mono fun u h => by rw [h]))
    by_cases hE : e = 0 ∧ ¬ a < s.length
    · have hE1 : (if e = 0 ∧ a < s.length then 5 else e) = 0 := by rw [if_neg (fun h => hE.2 h.2)]; exact hE.1
      rw [hE1]
      repeat (first | ((first | apply Xk.sAny | apply Xk.tAny); (case hok => rfl); (case h => intro C hC; simp (disch := omega) only [w1, ↓reduceIte, Nat.reduceEqDiff, Nat.reduceLeDiff, Nat.reduceAdd, Nat.reduceSub, hg2, hgx, hpx]; with_reducible exact hC); refine gc ?_) | refine gm ?_)
      refine within_ev H2 x0 _ _ _ (fun h0 => ?_) (fun h0 => ?_)
      · skip
        repeat (first | ((first | apply Xk.sAny | apply Xk.tAny); (case hok => rfl); (case h => intro C hC; simp (disch := omega) only [w1, ↓reduceIte, Nat.reduceEqDiff, Nat.reduceLeDiff, Nat.reduceAdd, Nat.reduceSub, hg2, hgx, hpx]; with_reducible exact hC); refine gc ?_) | refine gm ?_)
        refine within_ev H2 x1 _ _ _ (fun h1 => ?_) (fun h1 => ?_)
        · skip
          repeat (first | ((first | apply Xk.sAny | apply Xk.tAny); (case hok => rfl); (case h => intro C hC; simp (disch := omega) only [w1, ↓reduceIte, Nat.reduceEqDiff, Nat.reduceLeDiff, Nat.reduceAdd, Nat.reduceSub, hg2, hgx, hpx]; with_reducible exact hC); refine gc ?_) | refine gm ?_)
          refine within_ev H2 x2 _ _ _ (fun h2 => ?_) (fun h2 => ?_)
          · skip
            repeat (first | ((first | apply Xk.sAny | apply Xk.tAny); (case hok => rfl); (case h => intro C hC; simp (disch := omega) only [w1, ↓reduceIte, Nat.reduceEqDiff, Nat.reduceLeDiff, Nat.reduceAdd, Nat.reduceSub, hg2, hgx, hpx]; with_reducible exact hC); refine gc ?_) | refine gm ?_)
            refine within_ev H2 x3 _ _ _ (fun h3 => ?_) (fun h3 => ?_)
            · skip
              repeat (first | ((first | apply Xk.sAny | apply Xk.tAny); (case hok => rfl); (case h => intro C hC; simp (disch := omega) only [w1, ↓reduceIte, Nat.reduceEqDiff, Nat.reduceLeDiff, Nat.reduceAdd, Nat.reduceSub, hg2, hgx, hpx]; with_reducible exact hC); refine gc ?_) | refine gm ?_)
              refine within_ev H2 x4 _ _ _ (fun h4 => ?_) (fun h4 => ?_)
              · skip
                repeat (first | ((first | apply Xk.sAny | apply Xk.tAny); (case hok => rfl); (case h => intro C hC; simp (disch := omega) only [w1, ↓reduceIte, Nat.reduceEqDiff, Nat.reduceLeDiff, Nat.reduceAdd, Nat.reduceSub, hg2, hgx, hpx]; with_reducible exact hC); refine gc ?_) | refine gm ?_)
                refine ret_cell (p := p2) (t1 := 2) (t2 := 3) rfl rfl (load_agg (Heap.get_put_self _ _ _) rfl) rfl rfl ?_
                exact hyes ⟨hE, h0, h1, h2, h3, h4⟩
              · repeat (first | ((first | apply Xk.sAny | apply Xk.tAny); (case hok => rfl); (case h => intro C hC; simp (disch := omega) only [w1, ↓reduceIte, Nat.reduceEqDiff, Nat.reduceLeDiff, Nat.reduceAdd, Nat.reduceSub, hg2, hgx, hpx]; with_reducible exact hC); refine gc ?_) | refine gm ?_)
                refine ret_cell (p := p2) (t1 := 2) (t2 := 3) rfl rfl (load_agg (Heap.get_put_self _ _ _) rfl) rfl rfl ?_
                exact hno fun h => h4 h.2.2.2.2.2
            · repeat (first | ((first | apply Xk.sAny | apply Xk.tAny); (case hok => rfl); (case h => intro C hC; simp (disch := omega) only [w1, ↓reduceIte, Nat.reduceEqDiff, Nat.reduceLeDiff, Nat.reduceAdd, Nat.reduceSub, hg2, hgx, hpx]; with_reducible exact hC); refine gc ?_) | refine gm ?_)
              refine ret_cell (p := p2) (t1 := 2) (t2 := 3) rfl rfl (load_agg (Heap.get_put_self _ _ _) rfl) rfl rfl ?_
              exact hno fun h => h3 h.2.2.2.2.1
          · repeat (first | ((first | apply Xk.sAny | apply Xk.tAny); (case hok => rfl); (case h => intro C hC; simp (disch := omega) only [w1, ↓reduceIte, Nat.reduceEqDiff, Nat.reduceLeDiff, Nat.reduceAdd, Nat.reduceSub, hg2, hgx, hpx]; with_reducible exact hC); refine gc ?_) | refine gm ?_)
            refine ret_cell (p := p2) (t1 := 2) (t2 := 3) rfl rfl (load_agg (Heap.get_put_self _ _ _) rfl) rfl rfl ?_
            exact hno fun h => h2 h.2.2.2.1
        · repeat (first | ((first | apply Xk.sAny | apply Xk.tAny); (case hok => rfl); (case h => intro C hC; simp (disch := omega) only [w1, ↓reduceIte, Nat.reduceEqDiff, Nat.reduceLeDiff, Nat.reduceAdd, Nat.reduceSub, hg2, hgx, hpx]; with_reducible exact hC); refine gc ?_) | refine gm ?_)
          refine ret_cell (p := p2) (t1 := 2) (t2 := 3) rfl rfl (load_agg (Heap.get_put_self _ _ _) rfl) rfl rfl ?_
          exact hno fun h => h1 h.2.2.1
      · repeat (first | ((first | apply Xk.sAny | apply Xk.tAny); (case hok => rfl); (case h => intro C hC; simp (disch := omega) only [w1, ↓reduceIte, Nat.reduceEqDiff, Nat.reduceLeDiff, Nat.reduceAdd, Nat.reduceSub, hg2, hgx, hpx]; with_reducible exact hC); refine gc ?_) | refine gm ?_)
        refine ret_cell (p := p2) (t1 := 2) (t2 := 3) rfl rfl (load_agg (Heap.get_put_self _ _ _) rfl) rfl rfl ?_
        exact hno fun h => h0 h.2.1
    · have hE1 : ¬ (if e = 0 ∧ a < s.length then 5 else e) = 0 := by
        split
        · decide
        · rename_i h
          intro h2
          exact hE ⟨h2, fun h3 => h ⟨h2, h3⟩⟩
      generalize (if e = 0 ∧ a < s.length then 5 else e) = E at hE1 ⊢
      repeat (first | ((first | apply Xk.sAny | apply Xk.tAny); (case hok => rfl); (case h => intro C hC; simp (disch := omega) only [w1, ↓reduceIte, Nat.reduceEqDiff, Nat.reduceLeDiff, Nat.reduceAdd, Nat.reduceSub, hg2, hgx, hpx, hE1]; with_reducible exact hC); refine gc ?_) | refine gm ?_)
      refine ret_cell (p := p2) (t1 := 2) (t2 := 3) rfl rfl (load_agg (Heap.get_put_self _ _ _) rfl) rfl rfl ?_
      exact hno fun h => hE h.1
end Go.Proofs.YtfcjmllbejpbbaaGreatDoor
