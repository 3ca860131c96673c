/- Layer 19: the law AskPlays, over the clean machine. Conditions: none. -/
import Derived.Test.YtcpcajfmkmgjeaaAkX
namespace Go.Proofs.Ytcpcajfmkmgjeaa
open Go.Dp
set_option linter.unusedSimpArgs false
set_option linter.unusedVariables false
set_option maxHeartbeats 400000
set_option maxRecDepth 8000
attribute [local irreducible] Ex.thnK Ex.inK Ret

/-- what holds between two calls -/
structure Fine (L : List Rq) (last i t : Nat) : Prop where
  len : L.length ≤ i
  last : last ≤ i
  each : ∀ o ∈ L, o.t ≤ t ∧ .ofNat 0 ≤ o.f.slot ∧ o.f.slot ≤ .ofNat 11
theorem Fine.mono {L : List Rq} {last i j t u : Nat} (h : Fine L last i t) (hij : i ≤ j) (htu : t ≤ u) : Fine L last j u := ⟨Nat.le_trans h.len hij, Nat.le_trans h.last hij, fun o ho => ⟨Nat.le_trans (h.each o ho).1 htu, (h.each o ho).2⟩⟩
theorem Fine.sub {L M : List Rq} {last i t : Nat} (h : Fine L last i t) (hs : M.Sublist L) : Fine M last i t := ⟨Nat.le_trans hs.length_le h.len, h.last, fun o ho => h.each o (hs.mem ho)⟩

theorem Plays_law (vl : AV) (l : List Aq) (H : Heap) (hvl : Sl H 11 vl (aqs l)) (hn : l.length < 9223372036854775808) (hf : ∀ x ∈ l, x.f.key.length ≤ 281474976710656 ∧ x.f.data.length ≤ 281474976710656) :
    Eo lib n_depotlaw19_AskPlays [vl] H fun v _ => v = .bool true := by
  refine Eo.ok fun hOk => ?_
  refine Eo.code at_depotlaw19_AskPlays rfl ?_
  repeat (first | ((first | apply Xk.sAny | apply Xk.tAny); (case hok => rfl); (case h => intro C hC; simp (disch := omega) only [w1, ↓reduceIte, Nat.reduceEqDiff, Nat.reduceLeDiff, Nat.reduceAdd, Nat.reduceSub]; with_reducible exact hC); refine gc ?_) | refine gm ?_)
  refine New_ev H H (HLe.refl H) _ fun H1 hO1 hle1 hA1 hin1 => ?_
  have hpq : H.next ≠ H1.next := by
    obtain ⟨_, h1, _⟩ := hA1
    have := Heap.lt_of_get hO1 h1
    omega
  generalize H.next = p at hA1 hin1 hpq ⊢
  have epn : ∀ (H : Heap), negIf false (rEqc H (.ptr p 0) .nilp) = some (.bool false) := fun _ => rfl
  have hbx : nBox [.nils, .int .i64 (.ofNat 0)] = some (.cells [.nils, .int .i64 (.ofNat 0)] 1, ptrTo) := rfl
  repeat (first | ((first | apply Xk.sAny | apply Xk.tAny); (case hok => rfl); (case h => intro C hC; simp (disch := omega) only [w1, ↓reduceIte, Nat.reduceEqDiff, Nat.reduceLeDiff, Nat.reduceAdd, Nat.reduceSub, epn, hbx]; with_reducible exact hC); refine gc ?_) | refine gm ?_)
  have hgq := Heap.get_new_self H1 (.cells [.nils, .int .i64 (.ofNat 0)] 1)
  have hT0 : OT H (H1.new (.cells [.nils, .int .i64 (.ofNat 0)] 1)) p H1.next [] 0 [] 0 := by
    obtain ⟨a1, _, _⟩ := hA1.new hO1 (.cells [.nils, .int .i64 (.ofNat 0)] 1)
    refine ⟨a1, ⟨.nils, hgq, hle1.none (hO1 _ (Nat.le_refl _)), .inl ⟨rfl, rfl⟩, fun _ _ _ h => (by cases h)⟩, hO1.new _, hle1.new_ hO1 _, fun b h1 h2 => ?_⟩
    have e1 : b = p := by
      obtain ⟨v, g, _⟩ := hA1
      exact hin1 b ((InA.same (by rw [HLe.new (hO1 _ (Nat.le_refl _)) _ _ _ g, g])).1 h1)
    rcases h2 with h2 | ⟨v2, n2, w2, g2, o, l, z, rfl⟩
    · exact hpq (e1.symm.trans h2)
    · rw [hgq] at g2
      cases g2
  generalize H1.new (.cells [.nils, .int .i64 (.ofNat 0)] 1) = G0 at hT0 ⊢
  generalize H1.next = q at hT0 hpq ⊢
  clear hgq hA1 hin1 hO1 hle1
  obtain ⟨hal, hasc, _⟩ := Sl.lensG (g := Aq.cells) (fun _ => rfl) hvl (by decide)
  refine Xk.iter [0, 3, 4, 5] (fun m k G => ∃ i L last, m = 50 - i ∧ i ≤ 50 ∧ OT H G p q L last L last ∧ Fine L last i (45 * i) ∧ k = [(0, vl), (3, .ptr p 0), (4, .ptr q 0), (5, .int .i64 (.ofNat i))]) rfl
    ⟨_, 0, [], 0, rfl, Nat.zero_le _, hT0, ⟨Nat.le_refl _, Nat.le_refl _, fun o h => (by cases h)⟩, rfl⟩ ?_
  clear hT0
  rintro m k G ⟨i, L, last, rfl, hi, hT, hF, rfl⟩
  unfold l3_depotlaw19_AskPlays
  by_cases c1 : i < l.length
  case neg =>
    repeat (first | ((first | apply Xk.sAny | apply Xk.tAny); (case hok => rfl); (case h => intro C hC; simp (disch := omega) only [w1, ↓reduceIte, Nat.reduceEqDiff, Nat.reduceLeDiff, Nat.reduceAdd, Nat.reduceSub, c1, hal]; with_reducible exact hC); refine gc ?_) | refine gm ?_)
    refine KRuns_ev _ _ ?_
    repeat (first | ((first | apply Xk.sAny | apply Xk.tAny); (case hok => rfl); (case h => intro C hC; simp (disch := omega) only [w1, ↓reduceIte, Nat.reduceEqDiff, Nat.reduceLeDiff, Nat.reduceAdd, Nat.reduceSub]; with_reducible exact hC); refine gc ?_) | refine gm ?_)
    rfl
  by_cases c2 : i < 50
  case neg =>
    repeat (first | ((first | apply Xk.sAny | apply Xk.tAny); (case hok => rfl); (case h => intro C hC; simp (disch := omega) only [w1, ↓reduceIte, Nat.reduceEqDiff, Nat.reduceLeDiff, Nat.reduceAdd, Nat.reduceSub, c1, hal, c2]; with_reducible exact hC); refine gc ?_) | refine gm ?_)
    refine KRuns_ev _ _ ?_
    repeat (first | ((first | apply Xk.sAny | apply Xk.tAny); (case hok => rfl); (case h => intro C hC; simp (disch := omega) only [w1, ↓reduceIte, Nat.reduceEqDiff, Nat.reduceLeDiff, Nat.reduceAdd, Nat.reduceSub]; with_reducible exact hC); refine gc ?_) | refine gm ?_)
    rfl
  obtain ⟨bs, os, cls, ws, evs, hgs, hrow⟩ := Sl.rowG (g := Aq.cells) (fun _ => rfl) noAq hvl (by omega) (by decide)
  obtain ⟨cb, rest, cr⟩ := hrow i c1
  have hgs' := hT.le _ _ hgs
  rw [evs] at hal ⊢
  have hxm : l.getD i noAq ∈ l := by
    rw [List.getD_eq_getElem?_getD, List.getElem?_eq_getElem c1]
    exact List.getElem_mem c1
  obtain ⟨hxk, hxd⟩ := hf _ hxm
  generalize l.getD i noAq = x at cr hxk hxd
  have d11 : (cls.drop (os + i * 11)).take 11 = x.cells := by rw [cr]; exact List.take_left' rfl
  obtain ⟨hT6, ob6, hb6⟩ := hT.new (.cells x.cells 1)
  have hst := Heap.new_put G (.cells noAq.cells 1) (.cells x.cells 1)
  have hgz := Heap.get_new_self G (.cells noAq.cells 1)
  have hrep8 : rep 8 [AV.int .i64 (.ofNat 0)] = [.int .i64 (.ofNat 0), .int .i64 (.ofNat 0), .int .i64 (.ofNat 0), .int .i64 (.ofNat 0), .int .i64 (.ofNat 0), .int .i64 (.ofNat 0), .int .i64 (.ofNat 0), .int .i64 (.ofNat 0)] := rfl
  have hg6 := hb6.1
  simp only [Aq.cells, noAq, noFr] at hst hgz hg6 d11
  repeat (first | ((first | apply Xk.sAny | apply Xk.tAny); (case hok => rfl); (case h => intro C hC; simp (disch := omega) only [w1, ↓reduceIte, Nat.reduceEqDiff, Nat.reduceLeDiff, Nat.reduceAdd, Nat.reduceSub, c1, hal, c2, hgs', cb, d11, hrep8, hst, hgz, hg6]; with_reducible exact hC); refine gc ?_) | refine gm ?_)
  refine light_ev x.f hxk hxd _ _ fun G7 b hO7 hle7 => ?_
  obtain ⟨hT7, ob7, _⟩ := hT6.mono hO7 hle7
  have hb7 := ob7 _ _ hb6
  clear hst hgz hg6 hT6 hb6 ob6 ob7 hT d11 cr hrow hgs'
  generalize G.next = b6 at hb7 ⊢
  have hg7 := hb7.1
  simp only [Aq.cells] at hg7
  have hF1 := hF.mono (Nat.le_succ i) (show 45 * i ≤ 45 * (i + 1) by omega)
  cases b with
  | false =>
    repeat (first | ((first | apply Xk.sAny | apply Xk.tAny); (case hok => rfl); (case h => intro C hC; simp (disch := omega) only [w1, ↓reduceIte, Nat.reduceEqDiff, Nat.reduceLeDiff, Nat.reduceAdd, Nat.reduceSub, hg7]; with_reducible exact hC); refine gc ?_) | refine gm ?_)
    exact ⟨rfl, _, by omega, i + 1, L, last, rfl, by omega, hT7, hF1, rfl⟩
  | true =>
  ((first | apply Xk.sAny | apply Xk.tAny); (case hok => rfl); (case h => intro C hC; simp (disch := omega) only [w1, ↓reduceIte, Nat.reduceEqDiff, Nat.reduceLeDiff, Nat.reduceAdd, Nat.reduceSub, hg7]; with_reducible exact hC)); refine gc ?_
  refine gm ?_
  refine gm ?_
  refine Xk.cut [0, 3, 4, 5] (fun k' G' => ∃ L' last', k' = [(0, .sl bs os l.length 11), (3, .ptr p 0), (4, .ptr q 0), (5, .int .i64 (.ofNat i))] ∧ OT H G' p q L' last' L' last' ∧ Fine L' last' (i + 1) (45 * (i + 1))) ?_ ?_
  · have hEt : negIf true (eqv EK.b (AV.bool true) (AV.bool true)) = some (.bool false) := rfl
    have hEf : negIf true (eqv EK.b (AV.bool false) (AV.bool false)) = some (.bool false) := rfl
    have hlen := hF.len
    have hlast := hF.last
    by_cases k1 : x.k = .ofNat 1
    · have q1 := decide_eq_true k1
      repeat (first | ((first | apply Xk.sAny | apply Xk.tAny); (case hok => rfl); (case h => intro C hC; simp (disch := omega) only [w1, ↓reduceIte, Nat.reduceEqDiff, Nat.reduceLeDiff, Nat.reduceAdd, Nat.reduceSub, hg7, q1]; with_reducible exact hC); refine gc ?_) | refine gm ?_)
      refine Begin_ev H G7 p L last x.f hT7.le hT7.a (by omega) (by omega) _ fun G8 hO8 hle8 hk8 => ⟨fun hb8 hA8 => ?_, fun hb8 hA8 => ?_⟩
      · skip
        obtain ⟨hT8, ob8, _⟩ := hT7.step hk8 hO8 hle8 hA8
        obtain ⟨hT9, ob9, hb9⟩ := hT8.new (.cells noFr.cells 1)
        have hb6' := ob9 _ _ (ob8 _ _ hb7)
        have hst9 := Heap.new_put G8 (.cells noFr.cells 1) (.cells noFr.cells 1)
        have hgz9 := Heap.get_new_self G8 (.cells noFr.cells 1)
        have hg6' := hb6'.1
        have hsame := agg_same noFr
        have hfine : Fine L last (i + 1) (45 * (i + 1)) := hF1
        simp only [Fr.cells, noFr, Fr.begun, Aq.cells, frK] at hst9 hgz9 hg6' hsame ⊢
        repeat (first | ((first | apply Xk.sAny | apply Xk.tAny); (case hok => rfl); (case h => intro C hC; simp (disch := omega) only [w1, ↓reduceIte, Nat.reduceEqDiff, Nat.reduceLeDiff, Nat.reduceAdd, Nat.reduceSub, hst9, hgz9, hg6']; with_reducible exact hC); refine gc ?_) | refine gm ?_)
        refine refBegin_ev H _ q L last x.f hT9.le hT9.w (by omega) (by omega) _ fun G10 hO10 hle10 hk10 => ⟨fun _ hA10 => ?_, (fun h => by rw [hb8] at h; cases h)⟩
        skip
        obtain ⟨hT10, ob10, _⟩ := hT9.swap.step hk10 hO10 hle10 hA10
        obtain ⟨hT11, ob11, hb11⟩ := hT10.swap.new (.cells noFr.cells 1)
        have hg9' := (ob11 _ _ (ob10 _ _ hb9.swap).swap).1
        have hst11 := Heap.new_put G10 (.cells noFr.cells 1) (.cells noFr.cells 1)
        have hgz11 := Heap.get_new_self G10 (.cells noFr.cells 1)
        have hg11 := hb11.1
        simp only [Fr.cells, noFr, Fr.begun] at hst11 hgz11 hg9' hg11 ⊢
        repeat (first | ((first | apply Xk.sAny | apply Xk.tAny); (case hok => rfl); (case h => intro C hC; simp (disch := omega) only [w1, ↓reduceIte, Nat.reduceEqDiff, Nat.reduceLeDiff, Nat.reduceAdd, Nat.reduceSub, hst11, hgz11]; with_reducible exact hC); refine gc ?_) | refine gm ?_)
        repeat (first | ((first | apply Xk.sAny | apply Xk.tAny); (case hok => rfl); (case h => intro C hC; simp (disch := omega) only [w1, ↓reduceIte, Nat.reduceEqDiff, Nat.reduceLeDiff, Nat.reduceAdd, Nat.reduceSub, hst11, hgz11, hg9', hg11, hsame, hEt, hEf]; with_reducible exact hC); refine gc ?_) | refine gm ?_)
        exact ⟨rfl, L, last, rfl, hT11, hfine⟩
      · generalize hR : x.f.begun (.ofNat (last + 1)) (floorP L x.f.slot (.ofNat (last + 1))) = res at hA8 ⊢
        have hRs : res.slot = x.f.slot := by rw [← hR]; rfl
        obtain ⟨hT8, ob8, _⟩ := hT7.step hk8 hO8 hle8 hA8
        obtain ⟨hT9, ob9, hb9⟩ := hT8.new (.cells res.cells 1)
        have hb6' := ob9 _ _ (ob8 _ _ hb7)
        have hst9 := Heap.new_put G8 (.cells noFr.cells 1) (.cells res.cells 1)
        have hgz9 := Heap.get_new_self G8 (.cells noFr.cells 1)
        have hg6' := hb6'.1
        have hsame := agg_same res
        have hfine : Fine (L ++ [Rq.mk res 0]) (last + 1) (i + 1) (45 * (i + 1)) := by
          refine ⟨by rw [List.length_append, List.length_singleton]; omega, by omega, fun o ho => ?_⟩
          rcases List.mem_append.1 ho with h | h
          · exact hF1.each o h
          · rw [List.mem_singleton] at h
            subst h
            rw [show (Rq.mk res 0).f.slot = x.f.slot from hRs]
            exact ⟨Nat.zero_le _, begB_slot hb8⟩
        simp only [Fr.cells, noFr, Fr.begun, Aq.cells, frK] at hst9 hgz9 hg6' hsame ⊢
        repeat (first | ((first | apply Xk.sAny | apply Xk.tAny); (case hok => rfl); (case h => intro C hC; simp (disch := omega) only [w1, ↓reduceIte, Nat.reduceEqDiff, Nat.reduceLeDiff, Nat.reduceAdd, Nat.reduceSub, hst9, hgz9, hg6']; with_reducible exact hC); refine gc ?_) | refine gm ?_)
        refine refBegin_ev H _ q L last x.f hT9.le hT9.w (by omega) (by omega) _ fun G10 hO10 hle10 hk10 => ⟨(fun h => by rw [hb8] at h; cases h), fun _ hA10 => ?_⟩
        rw [hR] at hA10 ⊢
        obtain ⟨hT10, ob10, _⟩ := hT9.swap.step hk10 hO10 hle10 hA10
        obtain ⟨hT11, ob11, hb11⟩ := hT10.swap.new (.cells res.cells 1)
        have hg9' := (ob11 _ _ (ob10 _ _ hb9.swap).swap).1
        have hst11 := Heap.new_put G10 (.cells noFr.cells 1) (.cells res.cells 1)
        have hgz11 := Heap.get_new_self G10 (.cells noFr.cells 1)
        have hg11 := hb11.1
        simp only [Fr.cells, noFr, Fr.begun] at hst11 hgz11 hg9' hg11 ⊢
        repeat (first | ((first | apply Xk.sAny | apply Xk.tAny); (case hok => rfl); (case h => intro C hC; simp (disch := omega) only [w1, ↓reduceIte, Nat.reduceEqDiff, Nat.reduceLeDiff, Nat.reduceAdd, Nat.reduceSub, hst11, hgz11]; with_reducible exact hC); refine gc ?_) | refine gm ?_)
        repeat (first | ((first | apply Xk.sAny | apply Xk.tAny); (case hok => rfl); (case h => intro C hC; simp (disch := omega) only [w1, ↓reduceIte, Nat.reduceEqDiff, Nat.reduceLeDiff, Nat.reduceAdd, Nat.reduceSub, hst11, hgz11, hg9', hg11, hsame, hEt, hEf]; with_reducible exact hC); refine gc ?_) | refine gm ?_)
        exact ⟨rfl, (L ++ [Rq.mk res 0]), (last + 1), rfl, hT11, hfine⟩
    have q1 := decide_eq_false k1
    by_cases k2 : x.k = .ofNat 2
    · have q2 := decide_eq_true k2
      repeat (first | ((first | apply Xk.sAny | apply Xk.tAny); (case hok => rfl); (case h => intro C hC; simp (disch := omega) only [w1, ↓reduceIte, Nat.reduceEqDiff, Nat.reduceLeDiff, Nat.reduceAdd, Nat.reduceSub, hg7, q1, q2]; with_reducible exact hC); refine gc ?_) | refine gm ?_)
      refine Answer_ev H G7 p L last x.f hT7.le hT7.a (by omega) _ (fun hno G8 hO8 hle8 hk8 hA8 => ?_) (fun hr8 hk8' i' hi' hbef hhit G8 hO8 hle8 hk8 hA8 => ?_)
      · skip
        obtain ⟨hT8, ob8, _⟩ := hT7.step hk8 hO8 hle8 hA8
        obtain ⟨hT9, ob9, hb9⟩ := hT8.new (.cells noFr.cells 1)
        have hb6' := ob9 _ _ (ob8 _ _ hb7)
        have hst9 := Heap.new_put G8 (.cells noFr.cells 1) (.cells noFr.cells 1)
        have hgz9 := Heap.get_new_self G8 (.cells noFr.cells 1)
        have hg6' := hb6'.1
        have hsame := agg_same noFr
        simp only [Fr.cells, noFr, Aq.cells, frK] at hst9 hgz9 hg6' hsame ⊢
        repeat (first | ((first | apply Xk.sAny | apply Xk.tAny); (case hok => rfl); (case h => intro C hC; simp (disch := omega) only [w1, ↓reduceIte, Nat.reduceEqDiff, Nat.reduceLeDiff, Nat.reduceAdd, Nat.reduceSub, hst9, hgz9, hg6']; with_reducible exact hC); refine gc ?_) | refine gm ?_)
        refine refAnswer_ev H _ q L last x.f hT9.le hT9.w (by omega) _ (fun _ G10 hO10 hle10 hk10 hA10 => ?_) (fun hr hk j hj _ hhj G10 _ _ _ _ => ?_)
        case refine_2 =>
          exfalso
          rcases hno with h | h
          · rw [hr, decide_eq_true hk] at h
            cases h
          · have hm : L.getD j noRq ∈ L := by
              rw [List.getD_eq_getElem?_getD, List.getElem?_eq_getElem hj]
              exact List.getElem_mem hj
            rw [h _ hm] at hhj
            cases hhj
        obtain ⟨hT10, ob10, _⟩ := hT9.swap.step hk10 hO10 hle10 hA10
        obtain ⟨hT11, ob11, hb11⟩ := hT10.swap.new (.cells noFr.cells 1)
        have hg9' := (ob11 _ _ (ob10 _ _ hb9.swap).swap).1
        have hst11 := Heap.new_put G10 (.cells noFr.cells 1) (.cells noFr.cells 1)
        have hgz11 := Heap.get_new_self G10 (.cells noFr.cells 1)
        have hg11 := hb11.1
        simp only [Fr.cells, noFr] at hst11 hgz11 hg9' hg11 ⊢
        repeat (first | ((first | apply Xk.sAny | apply Xk.tAny); (case hok => rfl); (case h => intro C hC; simp (disch := omega) only [w1, ↓reduceIte, Nat.reduceEqDiff, Nat.reduceLeDiff, Nat.reduceAdd, Nat.reduceSub, hst11, hgz11]; with_reducible exact hC); refine gc ?_) | refine gm ?_)
        repeat (first | ((first | apply Xk.sAny | apply Xk.tAny); (case hok => rfl); (case h => intro C hC; simp (disch := omega) only [w1, ↓reduceIte, Nat.reduceEqDiff, Nat.reduceLeDiff, Nat.reduceAdd, Nat.reduceSub, hst11, hgz11, hg9', hg11, hsame, hEt, hEf]; with_reducible exact hC); refine gc ?_) | refine gm ?_)
        exact ⟨rfl, L, last, rfl, hT11, hF1⟩
      · generalize hR : (L.getD i' noRq).f = res at hA8 ⊢
        obtain ⟨hT8, ob8, _⟩ := hT7.step hk8 hO8 hle8 hA8
        obtain ⟨hT9, ob9, hb9⟩ := hT8.new (.cells res.cells 1)
        have hb6' := ob9 _ _ (ob8 _ _ hb7)
        have hst9 := Heap.new_put G8 (.cells noFr.cells 1) (.cells res.cells 1)
        have hgz9 := Heap.get_new_self G8 (.cells noFr.cells 1)
        have hg6' := hb6'.1
        have hsame := agg_same res
        simp only [Fr.cells, noFr, Aq.cells, frK] at hst9 hgz9 hg6' hsame ⊢
        repeat (first | ((first | apply Xk.sAny | apply Xk.tAny); (case hok => rfl); (case h => intro C hC; simp (disch := omega) only [w1, ↓reduceIte, Nat.reduceEqDiff, Nat.reduceLeDiff, Nat.reduceAdd, Nat.reduceSub, hst9, hgz9, hg6']; with_reducible exact hC); refine gc ?_) | refine gm ?_)
        refine refAnswer_ev H _ q L last x.f hT9.le hT9.w (by omega) _ (fun hno G10 _ _ _ _ => ?_) (fun _ _ j hj hbefj hhj G10 hO10 hle10 hk10 hA10 => ?_)
        case refine_1 =>
          exfalso
          rcases hno with h | h
          · rw [hr8, decide_eq_true hk8'] at h
            cases h
          · have hm : L.getD i' noRq ∈ L := by
              rw [List.getD_eq_getElem?_getD, List.getElem?_eq_getElem hi']
              exact List.getElem_mem hi'
            rw [h _ hm] at hhit
            cases hhit
        obtain rfl : j = i' := first_hit hj hi' hbefj hbef hhj hhit
        rw [hR]
        obtain ⟨hT10, ob10, _⟩ := hT9.swap.step hk10 hO10 hle10 hA10
        obtain ⟨hT11, ob11, hb11⟩ := hT10.swap.new (.cells res.cells 1)
        have hg9' := (ob11 _ _ (ob10 _ _ hb9.swap).swap).1
        have hst11 := Heap.new_put G10 (.cells noFr.cells 1) (.cells res.cells 1)
        have hgz11 := Heap.get_new_self G10 (.cells noFr.cells 1)
        have hg11 := hb11.1
        simp only [Fr.cells, noFr] at hst11 hgz11 hg9' hg11 ⊢
        repeat (first | ((first | apply Xk.sAny | apply Xk.tAny); (case hok => rfl); (case h => intro C hC; simp (disch := omega) only [w1, ↓reduceIte, Nat.reduceEqDiff, Nat.reduceLeDiff, Nat.reduceAdd, Nat.reduceSub, hst11, hgz11]; with_reducible exact hC); refine gc ?_) | refine gm ?_)
        repeat (first | ((first | apply Xk.sAny | apply Xk.tAny); (case hok => rfl); (case h => intro C hC; simp (disch := omega) only [w1, ↓reduceIte, Nat.reduceEqDiff, Nat.reduceLeDiff, Nat.reduceAdd, Nat.reduceSub, hst11, hgz11, hg9', hg11, hsame, hEt, hEf]; with_reducible exact hC); refine gc ?_) | refine gm ?_)
        exact ⟨rfl, _, last, rfl, hT11, hF1.sub (List.eraseIdx_sublist L _)⟩
    have q2 := decide_eq_false k2
    by_cases k3 : x.k = .ofNat 3
    · have q3 := decide_eq_true k3
      repeat (first | ((first | apply Xk.sAny | apply Xk.tAny); (case hok => rfl); (case h => intro C hC; simp (disch := omega) only [w1, ↓reduceIte, Nat.reduceEqDiff, Nat.reduceLeDiff, Nat.reduceAdd, Nat.reduceSub, hg7, q1, q2, q3]; with_reducible exact hC); refine gc ?_) | refine gm ?_)
      refine Within_ev x.n 1 45 (by decide) (by decide) _ _ fun n hn1 hn2 => ?_
      repeat (first | ((first | apply Xk.sAny | apply Xk.tAny); (case hok => rfl); (case h => intro C hC; simp (disch := omega) only [w1, ↓reduceIte, Nat.reduceEqDiff, Nat.reduceLeDiff, Nat.reduceAdd, Nat.reduceSub]; with_reducible exact hC); refine gc ?_) | refine gm ?_)
      refine Xk.iter [0, 3, 4, 5, 15] (fun m k G => ∃ j L', m = j ∧ j ≤ 45 ∧ OT H G p q L' last L' last ∧ Fine L' last (i + 1) (45 * i + (45 - j)) ∧ k = [(0, .sl bs os l.length 11), (3, .ptr p 0), (4, .ptr q 0), (5, .int .i64 (.ofNat i)), (15, .int .i64 (.ofNat j))]) rfl
        ⟨_, n, L, rfl, hn2, hT7, hF.mono (Nat.le_succ i) (Nat.le_add_right _ _), rfl⟩ ?_
      rintro j k G8 ⟨_, L', rfl, hj, hT8, hF8, rfl⟩
      unfold l0_depotlaw19_AskPlays
      by_cases cj : 0 < j
      case neg =>
        repeat (first | ((first | apply Xk.sAny | apply Xk.tAny); (case hok => rfl); (case h => intro C hC; simp (disch := omega) only [w1, ↓reduceIte, Nat.reduceEqDiff, Nat.reduceLeDiff, Nat.reduceAdd, Nat.reduceSub, cj]; with_reducible exact hC); refine gc ?_) | refine gm ?_)
        exact ⟨rfl, L', last, rfl, hT8, hF8.mono (Nat.le_refl _) (by omega)⟩
      have hlen8 := hF8.len
      have ht8 : ∀ o ∈ L', o.t ≤ 1000000 ∧ .ofNat 0 ≤ o.f.slot ∧ o.f.slot ≤ .ofNat 11 := fun o ho => ⟨by have := (hF8.each o ho).1; omega, (hF8.each o ho).2⟩
      repeat (first | ((first | apply Xk.sAny | apply Xk.tAny); (case hok => rfl); (case h => intro C hC; simp (disch := omega) only [w1, ↓reduceIte, Nat.reduceEqDiff, Nat.reduceLeDiff, Nat.reduceAdd, Nat.reduceSub, cj]; with_reducible exact hC); refine gc ?_) | refine gm ?_)
      refine Tick_ev H G8 p L' last hT8.le hT8.a (by omega) ht8 _ fun G9 again late z hO9 hle9 hk9 hA9 hag hla hs hperm hfr => ?_
      obtain ⟨hT9, _, hin9⟩ := hT8.step hk9 hO9 hle9 hA9
      rw [late_eq hs hperm fun o ho => (ht8 o ho).2] at hla
      repeat (first | ((first | apply Xk.sAny | apply Xk.tAny); (case hok => rfl); (case h => intro C hC; simp (disch := omega) only [w1, ↓reduceIte, Nat.reduceEqDiff, Nat.reduceLeDiff, Nat.reduceAdd, Nat.reduceSub]; with_reducible exact hC); refine gc ?_) | refine gm ?_)
      refine refTick_ev H G9 q L' last hT9.le hT9.w (by omega) ht8 _ fun G10 again2 late2 hO10 hle10 hk10 hA10 hag2 hla2 hfr2 => ?_
      obtain ⟨hT10, _, _⟩ := hT9.swap.step hk10 hO10 hle10 hA10
      have hnq : ∀ b o l z, (again = .sl b o l z ∨ late = .sl b o l z) → ¬ InA G9 q b := fun b o l z e hi => by
        obtain ⟨y, hy⟩ := hT8.w.old ((hin9 b).1 hi)
        rcases e with e | e
        · exact (hfr b y hy).1 _ _ _ e
        · exact (hfr b y hy).2 _ _ _ e
      have hag3 := hag.keep (H' := G10) fun c o l z x hvc hg => (hk10 c x hg (hnq _ _ _ _ (.inl hvc))).1
      have hla3 := hla.keep (H' := G10) fun c o l z x hvc hg => (hk10 c x hg (hnq _ _ _ _ (.inr hvc))).1
      have hlf : (againP L' L').length ≤ 100000 := by
        unfold againP
        rw [List.length_map]
        refine Nat.le_trans (List.length_filter_le _ _) ?_
        rw [List.length_map]
        omega
      have hll := lateR_len L' 12
      repeat (first | ((first | apply Xk.sAny | apply Xk.tAny); (case hok => rfl); (case h => intro C hC; simp (disch := omega) only [w1, ↓reduceIte, Nat.reduceEqDiff, Nat.reduceLeDiff, Nat.reduceAdd, Nat.reduceSub]; with_reducible exact hC); refine gc ?_) | refine gm ?_)
      refine SameF_ev again again2 (againP L' L') G10 hag3.sl hag2.sl hlf _ ?_
      repeat (first | ((first | apply Xk.sAny | apply Xk.tAny); (case hok => rfl); (case h => intro C hC; simp (disch := omega) only [w1, ↓reduceIte, Nat.reduceEqDiff, Nat.reduceLeDiff, Nat.reduceAdd, Nat.reduceSub]; with_reducible exact hC); refine gc ?_) | refine gm ?_)
      refine SameI_ev late late2 (lateR L' 12) G10 hla3.sl hla2.sl (by omega) _ ?_
      repeat (first | ((first | apply Xk.sAny | apply Xk.tAny); (case hok => rfl); (case h => intro C hC; simp (disch := omega) only [w1, ↓reduceIte, Nat.reduceEqDiff, Nat.reduceLeDiff, Nat.reduceAdd, Nat.reduceSub]; with_reducible exact hC); refine gc ?_) | refine gm ?_)
      refine ⟨rfl, _, by omega, j - 1, L'.map inc, rfl, by omega, hT10.swap, ⟨by rw [List.length_map]; exact hF8.len, hF8.last, fun o ho => ?_⟩, rfl⟩
      obtain ⟨o', ho', rfl⟩ := List.mem_map.1 ho
      obtain ⟨r1, r2⟩ := hF8.each o' ho'
      exact ⟨by show o'.t + 1 ≤ _; omega, r2⟩
    have q3 := decide_eq_false k3
    by_cases k4 : x.k = .ofNat 4
    · have q4 := decide_eq_true k4
      repeat (first | ((first | apply Xk.sAny | apply Xk.tAny); (case hok => rfl); (case h => intro C hC; simp (disch := omega) only [w1, ↓reduceIte, Nat.reduceEqDiff, Nat.reduceLeDiff, Nat.reduceAdd, Nat.reduceSub, hg7, q1, q2, q3, q4]; with_reducible exact hC); refine gc ?_) | refine gm ?_)
      refine Cancel_ev H G7 p L last x.n hT7.le hT7.a (by omega) _ fun G8 out hO8 hle8 hk8 hA8 hout hnp => ?_
      obtain ⟨hT8, ob8, hin8⟩ := hT7.step hk8 hO8 hle8 hA8
      have hg8 := (ob8 _ _ hb7).1
      simp only [Aq.cells] at hg8
      repeat (first | ((first | apply Xk.sAny | apply Xk.tAny); (case hok => rfl); (case h => intro C hC; simp (disch := omega) only [w1, ↓reduceIte, Nat.reduceEqDiff, Nat.reduceLeDiff, Nat.reduceAdd, Nat.reduceSub, hg8]; with_reducible exact hC); refine gc ?_) | refine gm ?_)
      refine refCancel_ev H G8 q L last x.n hT8.le hT8.w (by omega) _ fun G9 out2 hO9 hle9 hk9 hA9 hout2 _ => ?_
      obtain ⟨hT9, _, _⟩ := hT8.swap.step hk9 hO9 hle9 hA9
      have hout3 := hout.keep (H' := G9) fun c o l z x hvc hg => (hk9 c x hg (fun hi => by
        obtain ⟨y, hy⟩ := hT7.w.old ((hin8 c).1 hi)
        obtain ⟨_, _, e0⟩ := hout.at hvc
        rw [hy] at e0; cases e0)).1
      repeat (first | ((first | apply Xk.sAny | apply Xk.tAny); (case hok => rfl); (case h => intro C hC; simp (disch := omega) only [w1, ↓reduceIte, Nat.reduceEqDiff, Nat.reduceLeDiff, Nat.reduceAdd, Nat.reduceSub]; with_reducible exact hC); refine gc ?_) | refine gm ?_)
      refine SameF_ev out out2 _ G9 hout3.sl hout2.sl (by rw [List.length_map]; exact Nat.le_trans (List.length_filter_le _ _) (by omega)) _ ?_
      repeat (first | ((first | apply Xk.sAny | apply Xk.tAny); (case hok => rfl); (case h => intro C hC; simp (disch := omega) only [w1, ↓reduceIte, Nat.reduceEqDiff, Nat.reduceLeDiff, Nat.reduceAdd, Nat.reduceSub]; with_reducible exact hC); refine gc ?_) | refine gm ?_)
      exact ⟨rfl, _, last, rfl, hT9.swap, hF1.sub List.filter_sublist⟩
    have q4 := decide_eq_false k4
    repeat (first | ((first | apply Xk.sAny | apply Xk.tAny); (case hok => rfl); (case h => intro C hC; simp (disch := omega) only [w1, ↓reduceIte, Nat.reduceEqDiff, Nat.reduceLeDiff, Nat.reduceAdd, Nat.reduceSub, hg7, q1, q2, q3, q4]; with_reducible exact hC); refine gc ?_) | refine gm ?_)
    exact ⟨rfl, L, last, rfl, hT7, hF1⟩
  · clear hT7 hb7 hg7 hF1 hF hO7 hle7
    rintro k' G2 ⟨L2, last2, rfl, hT, hF⟩
    have hlen := hF.len
    obtain ⟨vw, hq, hq0, hvw, hqv⟩ := hT.w
    have hvl2 := hvw.lens (by decide)
    rw [rqs_len, Nat.mul_div_cancel _ (by decide)] at hvl2
    have hfl : (L2.map Rq.f).length = L2.length := List.length_map ..
    repeat (first | ((first | apply Xk.sAny | apply Xk.tAny); (case hok => rfl); (case h => intro C hC; simp (disch := omega) only [w1, ↓reduceIte, Nat.reduceEqDiff, Nat.reduceLeDiff, Nat.reduceAdd, Nat.reduceSub]; with_reducible exact hC); refine gc ?_) | refine gm ?_)
    refine Xk.iter [0, 3, 4, 5, 20, 21] (fun m k G => ∃ j want, m = L2.length - j ∧ j ≤ L2.length ∧ RV G2 G 0 9 want (frs ((L2.map Rq.f).take j)) ∧ G.Ok ∧ HLe G2 G ∧
        k = [(0, .sl bs os l.length 11), (3, .ptr p 0), (4, .ptr q 0), (5, .int .i64 (.ofNat i)), (20, want), (21, .int .i64 (.ofNat j))]) rfl
      ⟨_, 0, .nils, rfl, Nat.zero_le _, .inl ⟨rfl, rfl⟩, hT.ok, HLe.refl _, rfl⟩ ?_
    rintro m k G3 ⟨j, want, rfl, hj, hrw, hO3, hle3, rfl⟩
    unfold l1_depotlaw19_AskPlays
    have hq3 := hle3 _ _ hq
    by_cases cj : j < L2.length
    · obtain ⟨bb, o, cl, w2, rfl, hg, hrow2⟩ := Sl.rowG (g := Rq.cells) (fun _ => rfl) noRq (hvw.keep fun c o l z x _ hg => hle3 _ _ hg).sl (by omega) (by decide)
      obtain ⟨e1, rest2, e2⟩ := hrow2 j cj
      have hsn : (L2.map Rq.f).take (j + 1) = (L2.map Rq.f).take j ++ [(L2.getD j noRq).f] := by
        rw [List.take_add_one, List.getElem?_map, List.getD_eq_getElem?_getD, List.getElem?_eq_getElem cj]
        rfl
      generalize L2.getD j noRq = r at e2 hsn
      have d9 : (cl.drop (o + j * 10)).take 9 = r.f.cells := by rw [e2]; rfl
      have k9 : o + j * 10 + 9 ≤ cl.length := by omega
      have hln : (frs ((L2.map Rq.f).take j)).length / 9 ≤ 1000 := by
        rw [frs_len, Nat.mul_div_cancel _ (by decide), List.length_take]
        omega
      obtain ⟨want2, G6, ea, hO6, hle6, _, hr6, _⟩ := RV.push (bytes := 88) (w := 1) (row := r.f.cells) hO3 hle3 hrw rfl rfl (by decide) (by omega) (by omega)
      have gb := G3.get_new_self (.cells r.f.cells 1)
      obtain ⟨vc, vs⟩ := hr6.sc
      simp only [Fr.cells] at d9 ea gb
      repeat (first | ((first | apply Xk.sAny | apply Xk.tAny); (case hok => rfl); (case h => intro C hC; simp (disch := omega) only [w1, ↓reduceIte, Nat.reduceEqDiff, Nat.reduceLeDiff, Nat.reduceAdd, Nat.reduceSub, cj, hq3, hvl2, hg, d9, k9, ea, gb, vc, vs]; with_reducible exact hC); refine gc ?_) | refine gm ?_)
      exact ⟨rfl, _, by omega, j + 1, want2, rfl, by omega, by rw [hsn, frs_snoc]; exact hr6, hO6, hle6, rfl⟩
    obtain rfl : j = L2.length := by omega
    rw [show (L2.map Rq.f).take L2.length = L2.map Rq.f from List.take_of_length_le (by rw [hfl]; exact Nat.le_refl _)] at hrw
    obtain ⟨hT3, _⟩ := hT.mono hO3 hle3
    repeat (first | ((first | apply Xk.sAny | apply Xk.tAny); (case hok => rfl); (case h => intro C hC; simp (disch := omega) only [w1, ↓reduceIte, Nat.reduceEqDiff, Nat.reduceLeDiff, Nat.reduceAdd, Nat.reduceSub, cj, hq3, hvl2]; with_reducible exact hC); refine gc ?_) | refine gm ?_)
    refine List_ev H G3 p L2 last2 hT3.a (by omega) _ fun G4 list hO4 hle4 hrl => ?_
    have hdis : ∀ b o l z o' l' z', want = .sl b o l z → list ≠ .sl b o' l' z' := fun b o l z o' l' z' e1 e2 => by
      obtain ⟨x, hx, _⟩ := hrw.at e1
      obtain ⟨_, _, e0⟩ := hrl.at e2
      rw [hx] at e0; cases e0
    have hrw4 := hrw.keep (H' := G4) fun c o l z x _ hg => hle4 _ _ hg
    have hrl4 := hrl.base hle3
    generalize L2.map Rq.f = F at hrw4 hrl4 hfl
    repeat (first | ((first | apply Xk.sAny | apply Xk.tAny); (case hok => rfl); (case h => intro C hC; simp (disch := omega) only [w1, ↓reduceIte, Nat.reduceEqDiff, Nat.reduceLeDiff, Nat.reduceAdd, Nat.reduceSub]; with_reducible exact hC); refine gc ?_) | refine gm ?_)
    refine Xk.iter [0, 3, 4, 5, 20, 22, 23] (fun m k G => ∃ j, m = F.length - j ∧ j ≤ F.length ∧ RV G2 G 0 9 want (frs (zf F j)) ∧ RV G2 G 0 9 list (frs (zf F j)) ∧ G.Ok ∧ HLe G2 G ∧
        k = [(0, .sl bs os l.length 11), (3, .ptr p 0), (4, .ptr q 0), (5, .int .i64 (.ofNat i)), (20, want), (22, list), (23, .int .i64 (.ofNat j))]) rfl
      ⟨_, 0, rfl, Nat.zero_le _, hrw4, hrl4, hO4, hle3.trans hle4, rfl⟩ ?_
    clear hrw4 hrl4 hrw hrl
    rintro m k G5 ⟨j, rfl, hj, hrw, hrl, hO5, hle5, rfl⟩
    unfold l2_depotlaw19_AskPlays
    obtain ⟨hlw, _, _⟩ := Sl.lensG (g := Fr.cells) (fun _ => rfl) hrw.sl (by decide)
    obtain ⟨hll, _, _⟩ := Sl.lensG (g := Fr.cells) (fun _ => rfl) hrl.sl (by decide)
    rw [zf_len] at hlw hll
    by_cases cj2 : j < F.length
    · obtain ⟨cl, ll, ll', el, gl, kl, ol, rl, hOl, hlel, _⟩ := zf_store hO5 hle5 hrl cj2
      have hrw6 := hrw.keep (H' := G5.put cl (.cells ll' 1)) fun c o l z x hvc hg => by
        rw [Heap.get_put_ne _ _ _ (fun e => by subst e; exact hdis _ _ _ _ _ _ _ hvc el)]
        exact hg
      obtain ⟨cw, lw, lw', ew, gw, kw, ow, rw', hOw, hlew, _⟩ := zf_store hOl hlel hrw6 cj2
      have hne : cl ≠ cw := fun e => by subst e; exact hdis _ _ _ _ _ _ _ ew el
      have rl6 := rl.keep (H' := (G5.put cl (.cells ll' 1)).put cw (.cells lw' 1)) fun c o l z x hvc hg => by
        have e1 : cl = c := by
          have := el.symm.trans hvc
          exact (AV.sl.inj this).1
        rw [Heap.get_put_ne _ _ _ (by rw [← e1]; exact hne)]
        exact hg
      subst el ew
      repeat (first | ((first | apply Xk.sAny | apply Xk.tAny); (case hok => rfl); (case h => intro C hC; simp (disch := omega) only [w1, ↓reduceIte, Nat.reduceEqDiff, Nat.reduceLeDiff, Nat.reduceAdd, Nat.reduceSub, cj2, hll, hlw, gl, kl, ol, gw, kw, ow]; with_reducible exact hC); refine gc ?_) | refine gm ?_)
      exact ⟨rfl, _, by omega, j + 1, rfl, by omega, rw', rl6, hOw, hlew, rfl⟩
    obtain rfl : j = F.length := by omega
    obtain ⟨hT5, _⟩ := hT.mono hO5 hle5
    repeat (first | ((first | apply Xk.sAny | apply Xk.tAny); (case hok => rfl); (case h => intro C hC; simp (disch := omega) only [w1, ↓reduceIte, Nat.reduceEqDiff, Nat.reduceLeDiff, Nat.reduceAdd, Nat.reduceSub, cj2, hll, hlw]; with_reducible exact hC); refine gc ?_) | refine gm ?_)
    refine SameF_ev list want (zf F F.length) G5 hrl.sl hrw.sl (by rw [zf_len]; omega) _ ?_
    repeat (first | ((first | apply Xk.sAny | apply Xk.tAny); (case hok => rfl); (case h => intro C hC; simp (disch := omega) only [w1, ↓reduceIte, Nat.reduceEqDiff, Nat.reduceLeDiff, Nat.reduceAdd, Nat.reduceSub]; with_reducible exact hC); refine gc ?_) | refine gm ?_)
    exact ⟨rfl, _, by omega, i + 1, L2, last2, rfl, by omega, hT5, hF, rfl⟩
end Go.Proofs.Ytcpcajfmkmgjeaa
