/- Layer 19: the reference's floor and begin. Conditions: none. -/
import Derived.Test.YtcpcajfmkmgjeaaAkQ
namespace Go.Proofs.Ytcpcajfmkmgjeaa
open Go.Dp
set_option linter.unusedSimpArgs false
set_option linter.unusedVariables false
set_option maxHeartbeats 1000000
set_option maxRecDepth 8000
attribute [local irreducible] Ex.thnK Ex.inK Ret

theorem refFloor_ev (p : Nat) (v n : AV) (w : Nat) (L : List Rq) (slot rid : Int) (H : Heap) (hp : H.get p = some (.cells [v, n] w)) (hv : Sl H 10 v (rqs L)) (hl : L.length ≤ 100000) (Q : AV → Heap → Prop)
    (hQ : ∀ H', H'.Ok → HLe H H' → Q (.int .i64 (floorP L slot rid)) H') : Eo lib n_depotref17_Asks_floor [.ptr p 0, .int .i64 slot, .int .i64 rid] H Q := by
  refine Eo.ok fun hOk => ?_
  refine Eo.code at_depotref17_Asks_floor rfl ?_
  obtain ⟨hv1, hv2, hv3⟩ := Sl.lensG (g := Rq.cells) (fun _ => rfl) hv (by decide)
  repeat (first | ((first | apply Xk.sAny | apply Xk.tAny); (case hok => rfl); (case h => intro C hC; simp (disch := omega) only [w1, ↓reduceIte, Nat.reduceEqDiff, Nat.reduceLeDiff, Nat.reduceAdd, Nat.reduceSub]; with_reducible exact hC); refine gc ?_) | refine gm ?_)
  refine Xk.iter [0, 1, 2, 7] (fun m k H' => ∃ i, m = L.length - i ∧ i ≤ L.length ∧ (∀ o ∈ L.take i, ¬ o.f.slot = slot) ∧ k = [(0, .ptr p 0), (1, .int .i64 slot), (2, .int .i64 rid), (7, .int .i64 (.ofNat i))] ∧ H' = H) rfl
    ⟨_, 0, rfl, Nat.zero_le _, (fun o h => by cases h), rfl, rfl⟩ ?_
  rintro m k H' ⟨i, rfl, hi, hno, rfl, rfl⟩
  unfold l0_depotref17_Asks_floor
  by_cases c : i < L.length
  · obtain ⟨bb, o, cl, w2, rfl, hg, hrow⟩ := Sl.rowG (g := Rq.cells) (fun _ => rfl) noRq hv (by omega) (by decide)
    obtain ⟨c1, rest, c2⟩ := hrow i c
    have hfa := fun h => floorP_at (L := L) (slot := slot) (rid := rid) hno c h
    have hsn : L.take (i + 1) = L.take i ++ [L.getD i noRq] := by
      rw [List.take_add_one, List.getD_eq_getElem?_getD, List.getElem?_eq_getElem c]
      rfl
    generalize L.getD i noRq = r at c2 hfa hsn
    have d1 : (cl.drop (o + i * 10 + 1)).take 1 = [.int .i64 r.f.slot] := by rw [← List.drop_drop, c2]; rfl
    have d3 : (cl.drop (o + i * 10 + 3)).take 1 = [.int .i64 r.f.rid] := by rw [← List.drop_drop, c2]; rfl
    have k1 : o + i * 10 + 1 + 1 ≤ cl.length := by omega
    have k3 : o + i * 10 + 3 + 1 ≤ cl.length := by omega
    by_cases e : r.f.slot = slot
    · have hfa := hfa e
      have he := decide_eq_true e
      by_cases d : r.f.rid < rid
      · have hib : ible rid r.f.rid = false := by rw [ible_eq, decide_eq_false (Int.not_le.2 d)]
        rw [if_pos d] at hfa
        repeat (first | ((first | apply Xk.sAny | apply Xk.tAny); (case hok => rfl); (case h => intro C hC; simp (disch := omega) only [w1, ↓reduceIte, Nat.reduceEqDiff, Nat.reduceLeDiff, Nat.reduceAdd, Nat.reduceSub, c, hp, hv1, hg, d1, d3, k1, k3, he]; with_reducible exact hC); refine gc ?_) | refine gm ?_)
        repeat (first | ((first | apply Xk.sAny | apply Xk.tAny); (case hok => rfl); (case h => intro C hC; simp (disch := omega) only [w1, ↓reduceIte, Nat.reduceEqDiff, Nat.reduceLeDiff, Nat.reduceAdd, Nat.reduceSub, c, hp, hv1, hg, d1, d3, k1, k3, he, rMm, mms, mm, kbeq_eq]; with_reducible exact hC); refine gc ?_) | refine gm ?_)
        have hh := hQ _ hOk (HLe.refl _)
        rw [hfa] at hh
        show Q (.int .i64 (bif ible rid r.f.rid then rid else r.f.rid)) _
        rw [hib]
        exact hh
      · have hib : ible rid r.f.rid = true := by rw [ible_eq, decide_eq_true (Int.not_lt.1 d)]
        rw [if_neg d] at hfa
        repeat (first | ((first | apply Xk.sAny | apply Xk.tAny); (case hok => rfl); (case h => intro C hC; simp (disch := omega) only [w1, ↓reduceIte, Nat.reduceEqDiff, Nat.reduceLeDiff, Nat.reduceAdd, Nat.reduceSub, c, hp, hv1, hg, d1, d3, k1, k3, he]; with_reducible exact hC); refine gc ?_) | refine gm ?_)
        repeat (first | ((first | apply Xk.sAny | apply Xk.tAny); (case hok => rfl); (case h => intro C hC; simp (disch := omega) only [w1, ↓reduceIte, Nat.reduceEqDiff, Nat.reduceLeDiff, Nat.reduceAdd, Nat.reduceSub, c, hp, hv1, hg, d1, d3, k1, k3, he, rMm, mms, mm, kbeq_eq]; with_reducible exact hC); refine gc ?_) | refine gm ?_)
        have hh := hQ _ hOk (HLe.refl _)
        rw [hfa] at hh
        show Q (.int .i64 (bif ible rid r.f.rid then rid else r.f.rid)) _
        rw [hib]
        exact hh
    · have he := decide_eq_false e
      repeat (first | ((first | apply Xk.sAny | apply Xk.tAny); (case hok => rfl); (case h => intro C hC; simp (disch := omega) only [w1, ↓reduceIte, Nat.reduceEqDiff, Nat.reduceLeDiff, Nat.reduceAdd, Nat.reduceSub, c, hp, hv1, hg, d1, d3, k1, k3, he]; with_reducible exact hC); refine gc ?_) | refine gm ?_)
      refine ⟨rfl, _, by omega, i + 1, rfl, by omega, ?_, rfl, rfl⟩
      intro o' ho'
      rw [hsn] at ho'
      rcases List.mem_append.1 ho' with h | h
      · exact hno o' h
      · rw [List.mem_singleton] at h
        rw [h]
        exact e
  · obtain rfl : i = L.length := by omega
    rw [List.take_length] at hno
    rw [floorP_none hno] at hQ
    repeat (first | ((first | apply Xk.sAny | apply Xk.tAny); (case hok => rfl); (case h => intro C hC; simp (disch := omega) only [w1, ↓reduceIte, Nat.reduceEqDiff, Nat.reduceLeDiff, Nat.reduceAdd, Nat.reduceSub, c, hp, hv1]; with_reducible exact hC); refine gc ?_) | refine gm ?_)
    exact hQ _ hOk (HLe.refl _)

theorem refBegin_ev (H0 H : Heap) (p : Nat) (L : List Rq) (last : Nat) (f : Fr) (hle : HLe H0 H) (hA : Ask H0 H p L last) (hl : L.length ≤ 100000) (hlast : last ≤ 100000) (Q : AV → Heap → Prop)
    (hQ : ∀ H', H'.Ok → HLe H0 H' → Keeps H H' p →
      (begB f last = false → Ask H0 H' p L last → Q (.tup [.agg noFr.cells, .bool false]) H') ∧
      (begB f last = true → Ask H0 H' p (L ++ [⟨f.begun (.ofNat (last + 1)) (floorP L f.slot (.ofNat (last + 1))), 0⟩]) (last + 1) → Q (.tup [.agg (f.begun (.ofNat (last + 1)) (floorP L f.slot (.ofNat (last + 1)))).cells, .bool true]) H')) :
    Eo lib n_depotref17_Asks_Begin [.ptr p 0, .agg f.cells] H Q := by
  refine Eo.ok fun hOk => ?_
  refine Eo.code at_depotref17_Asks_Begin rfl ?_
  obtain ⟨v, hp, hp0, hv, hvp⟩ := hA
  have hpn := Heap.lt_of_get hOk hp
  have hbx := box_fr f
  unfold Fr.cells at hbx ⊢
  have hw1 : ∀ o l z, v ≠ .sl H.next o l z := fun o l z h => by
    obtain ⟨x, e, _⟩ := hv.at h
    rw [hOk _ (Nat.le_refl _)] at e; cases e
  have hw2 : ∀ o l z, v ≠ .sl (H.next + 1) o l z := fun o l z h => by
    obtain ⟨x, e, _⟩ := hv.at h
    rw [hOk _ (Nat.le_succ _)] at e; cases e
  repeat (first | ((first | apply Xk.sAny | apply Xk.tAny); (case hok => rfl); (case h => intro C hC; simp (disch := omega) only [w1, ↓reduceIte, Nat.reduceEqDiff, Nat.reduceLeDiff, Nat.reduceAdd, Nat.reduceSub, hbx, hp]; with_reducible exact hC); refine gc ?_) | refine gm ?_)
  obtain ⟨ga, gz, hOG, hleG⟩ := new2_put hOk (.cells f.cells 1) (.cells noFr.cells 1) (.cells (f.begun (.ofNat (last + 1)) (.ofNat 0)).cells 1)
  unfold Fr.cells noFr Fr.begun at ga gz hOG hleG
  refine refRight_ev (f.begun (.ofNat (last + 1)) (.ofNat 0)) _ _ fun H1 hO1 hle1 => ?_
  have hL1 := hleG.trans hle1
  have ga1 := hle1 _ _ ga
  have gz1 := hle1 _ _ gz
  have hp1 := hL1 _ _ hp
  have hv1 := hv.keep fun c o l z x _ hg => hL1 _ _ hg
  have hn0 := hOk H.next (Nat.le_refl _)
  have hn1 := hOk (H.next + 1) (Nat.le_succ _)
  clear ga gz hOG hleG hle1
  by_cases hb : begB f last = true
  case neg =>
    have hb := eq_false_of_ne_true hb
    have fin : ∀ x, H1.get (H.next + 1) = some x → Q (.tup [.agg noFr.cells, .bool false]) (H1.put (H.next + 1) (.cells noFr.cells 1)) := fun x hx =>
      have hL2 := hL1.put_ hn1 (.cells noFr.cells 1)
      (hQ _ (hO1.put hx _) (hle.trans hL2) (Keeps.of_le hp hL2)).1 hb (Ask.mono ⟨v, hp, hp0, hv, hvp⟩ hL2)
    unfold Fr.cells noFr at fin
    have fin := fin _ gz1
    unfold begB at hb
    cases hr : rightB (f.begun (.ofNat (last + 1)) (.ofNat 0)) with
    | false =>
      repeat (first | ((first | apply Xk.sAny | apply Xk.tAny); (case hok => rfl); (case h => intro C hC; simp (disch := omega) only [w1, ↓reduceIte, Nat.reduceEqDiff, Nat.reduceLeDiff, Nat.reduceAdd, Nat.reduceSub, ga1, gz1]; with_reducible exact hC); refine gc ?_) | refine gm ?_)
      repeat (first | ((first | apply Xk.sAny | apply Xk.tAny); (case hok => rfl); (case h => intro C hC; simp (disch := omega) only [w1, ↓reduceIte, Nat.reduceEqDiff, Nat.reduceLeDiff, Nat.reduceAdd, Nat.reduceSub, ga1, gz1]; with_reducible exact hC); refine gc ?_) | refine gm ?_)
      refine Ret.ret rfl (by simp only [resKs, resK, cond_true, w1, ↓reduceIte, Nat.reduceEqDiff, Nat.reduceLeDiff, Nat.reduceAdd, Nat.reduceSub, pf_depotref17_Asks_Begin, Heap.get_put_self]; rfl) rfl ?_
      exact fin
    | true =>
      rw [hr, Bool.true_and] at hb
      have hk : .ofNat 6 ≤ f.kind := by
        cases h : decide (.ofNat 6 ≤ f.kind) with
        | true => exact of_decide_eq_true h
        | false => rw [h] at hb; cases hb
      repeat (first | ((first | apply Xk.sAny | apply Xk.tAny); (case hok => rfl); (case h => intro C hC; simp (disch := omega) only [w1, ↓reduceIte, Nat.reduceEqDiff, Nat.reduceLeDiff, Nat.reduceAdd, Nat.reduceSub, ga1, gz1, hk]; with_reducible exact hC); refine gc ?_) | refine gm ?_)
      repeat (first | ((first | apply Xk.sAny | apply Xk.tAny); (case hok => rfl); (case h => intro C hC; simp (disch := omega) only [w1, ↓reduceIte, Nat.reduceEqDiff, Nat.reduceLeDiff, Nat.reduceAdd, Nat.reduceSub, ga1, gz1, hk]; with_reducible exact hC); refine gc ?_) | refine gm ?_)
      refine Ret.ret rfl (by simp only [resKs, resK, cond_true, w1, ↓reduceIte, Nat.reduceEqDiff, Nat.reduceLeDiff, Nat.reduceAdd, Nat.reduceSub, pf_depotref17_Asks_Begin, Heap.get_put_self]; rfl) rfl ?_
      exact fin
  have hb' := hb
  unfold begB at hb'
  rw [Bool.and_eq_true] at hb'
  obtain ⟨hr, hk'⟩ := hb'
  have hk : ¬ .ofNat 6 ≤ f.kind := fun h => by rw [decide_eq_true h] at hk'; cases hk'
  rw [hr]
  repeat (first | ((first | apply Xk.sAny | apply Xk.tAny); (case hok => rfl); (case h => intro C hC; simp (disch := omega) only [w1, ↓reduceIte, Nat.reduceEqDiff, Nat.reduceLeDiff, Nat.reduceAdd, Nat.reduceSub, ga1, gz1, hk]; with_reducible exact hC); refine gc ?_) | refine gm ?_)
  repeat (first | ((first | apply Xk.sAny | apply Xk.tAny); (case hok => rfl); (case h => intro C hC; simp (disch := omega) only [w1, ↓reduceIte, Nat.reduceEqDiff, Nat.reduceLeDiff, Nat.reduceAdd, Nat.reduceSub, ga1, gz1, hk, hp1]; with_reducible exact hC); refine gc ?_) | refine gm ?_)
  have hL2' : HLe H0 (H1.put p (.cells [v, .int .i64 (.ofNat (last + 1))] 1)) := (hle.trans hL1).put_ hp0 _
  have hO2' := hO1.put hp1 (.cells [v, .int .i64 (.ofNat (last + 1))] 1)
  have hv2' : RV H0 (H1.put p (.cells [v, .int .i64 (.ofNat (last + 1))] 1)) 0 10 v (rqs L) := hv1.keep fun c o l z x hvc hg => by
    rw [Heap.get_put_ne _ _ _ (fun e => by subst e; exact hvp _ _ _ hvc)]
    exact hg
  have hp2' := Heap.get_put_self H1 p (.cells [v, .int .i64 (.ofNat (last + 1))] 1)
  have ga2' : (H1.put p (.cells [v, .int .i64 (.ofNat (last + 1))] 1)).get H.next = _ := (Heap.get_put_ne H1 p _ (by omega)).trans ga1
  have gz2' : (H1.put p (.cells [v, .int .i64 (.ofNat (last + 1))] 1)).get (H.next + 1) = _ := (Heap.get_put_ne H1 p _ (by omega)).trans gz1
  have old2' : ∀ b y, H.get b = some y → b ≠ p → (H1.put p (.cells [v, .int .i64 (.ofNat (last + 1))] 1)).get b = some y := fun b y hb hbp => (Heap.get_put_ne H1 p _ hbp).trans (hL1 b y hb)
  generalize H1.put p (.cells [v, .int .i64 (.ofNat (last + 1))] 1) = G2 at hL2' hO2' hv2' hp2' ga2' gz2' old2' ⊢
  refine refFloor_ev p v _ 1 L f.slot (.ofNat (last + 1)) G2 hp2' hv2'.sl hl _ fun H2 hO2 hle2 => ?_
  have ga2 := hle2 _ _ ga2'
  have gz2 := hle2 _ _ gz2'
  have hp2 := hle2 _ _ hp2'
  have hv2 := hv2'.keep fun c o l z x _ hg => hle2 _ _ hg
  have hL2 := hL2'.trans hle2
  have old2 := fun b y hb hbp => hle2 b y (old2' b y hb hbp)
  clear ga1 gz1 hp1 hv1 hL1 hO1 ga2' gz2' hp2' hv2' hL2' hO2' old2' hle2
  generalize floorP L f.slot (.ofNat (last + 1)) = fl at hQ ⊢
  repeat (first | ((first | apply Xk.sAny | apply Xk.tAny); (case hok => rfl); (case h => intro C hC; simp (disch := omega) only [w1, ↓reduceIte, Nat.reduceEqDiff, Nat.reduceLeDiff, Nat.reduceAdd, Nat.reduceSub, ga2]; with_reducible exact hC); refine gc ?_) | refine gm ?_)
  have hn00 : H0.get H.next = none := hle.none hn0
  have hn01 : H0.get (H.next + 1) = none := hle.none hn1
  have hL3 : HLe H0 (H2.put H.next (.cells (f.begun (.ofNat (last + 1)) fl).cells 1)) := hL2.put_ hn00 _
  have hO3 := hO2.put ga2 (.cells (f.begun (.ofNat (last + 1)) fl).cells 1)
  have hv3 : RV H0 (H2.put H.next (.cells (f.begun (.ofNat (last + 1)) fl).cells 1)) 0 10 v (rqs L) := hv2.keep fun c o l z x hvc hg => by
    rw [Heap.get_put_ne _ _ _ (fun e => by subst e; exact hw1 _ _ _ hvc)]
    exact hg
  have ga3 := Heap.get_put_self H2 H.next (.cells (f.begun (.ofNat (last + 1)) fl).cells 1)
  have gz3 : (H2.put H.next (.cells (f.begun (.ofNat (last + 1)) fl).cells 1)).get (H.next + 1) = _ := (Heap.get_put_ne H2 H.next _ (by omega)).trans gz2
  have hp3 : (H2.put H.next (.cells (f.begun (.ofNat (last + 1)) fl).cells 1)).get p = _ := (Heap.get_put_ne H2 H.next _ (by omega)).trans hp2
  have old3 : ∀ b y, H.get b = some y → b ≠ p → (H2.put H.next (.cells (f.begun (.ofNat (last + 1)) fl).cells 1)).get b = some y := fun b y hb hbp => (Heap.get_put_ne H2 H.next _ (by have := Heap.lt_of_get hOk hb; omega)).trans (old2 b y hb hbp)
  have hlen := rqs_len L
  obtain ⟨v', H4, e4, hO4, hL4, hnx4, hv4, old4⟩ := RV.push (bytes := 96) (w := 1) (row := (Rq.mk (f.begun (.ofNat (last + 1)) fl) 0).cells) hO3 hL3 hv3 rfl rfl (by decide) (by rw [hlen, Nat.mul_div_cancel _ (by decide)]; omega) (by rw [hlen, Nat.mul_div_cancel _ (by decide)]; omega)
  have gr4 := (H2.put H.next (.cells (f.begun (.ofNat (last + 1)) fl).cells 1)).get_new_self (.cells (Rq.mk (f.begun (.ofNat (last + 1)) fl) 0).cells 1)
  have ga4 := (old4 _ _ ga3 hw1).1
  have gz4 := (old4 _ _ gz3 hw2)
  have hp4 := (old4 _ _ hp3 hvp)
  simp only [Fr.cells, Rq.cells, Fr.begun, Heap.next_put] at ga3 gz3 hp3 ga4 e4 gr4
  obtain ⟨vc, vs⟩ := hv4.sc
  repeat (first | ((first | apply Xk.sAny | apply Xk.tAny); (case hok => rfl); (case h => intro C hC; simp (disch := omega) only [w1, ↓reduceIte, Nat.reduceEqDiff, Nat.reduceLeDiff, Nat.reduceAdd, Nat.reduceSub, ga3, gz3, hp3, gr4, e4, vc, vs, hp4.1]; with_reducible exact hC); refine gc ?_) | refine gm ?_)
  have hp5 := hp4.1
  have hp6 := Heap.get_put_self H4 p (.cells [v', .int .i64 (.ofNat (last + 1))] 1)
  have ga6 : (H4.put p (.cells [v', .int .i64 (.ofNat (last + 1))] 1)).get H.next = _ := (Heap.get_put_ne H4 p _ (by omega)).trans ga4
  have gz6 : (H4.put p (.cells [v', .int .i64 (.ofNat (last + 1))] 1)).get (H.next + 1) = _ := (Heap.get_put_ne H4 p _ (by omega)).trans gz4.1
  simp only [noFr] at gz6
  repeat (first | ((first | apply Xk.sAny | apply Xk.tAny); (case hok => rfl); (case h => intro C hC; simp (disch := omega) only [w1, ↓reduceIte, Nat.reduceEqDiff, Nat.reduceLeDiff, Nat.reduceAdd, Nat.reduceSub, ga6, gz6, hp6]; with_reducible exact hC); refine gc ?_) | refine gm ?_)
  repeat (first | ((first | apply Xk.sAny | apply Xk.tAny); (case hok => rfl); (case h => intro C hC; simp (disch := omega) only [w1, ↓reduceIte, Nat.reduceEqDiff, Nat.reduceLeDiff, Nat.reduceAdd, Nat.reduceSub, ga6, gz6, hp6]; with_reducible exact hC); refine gc ?_) | refine gm ?_)
  refine Ret.ret rfl (by simp only [resKs, resK, cond_true, w1, ↓reduceIte, Nat.reduceEqDiff, Nat.reduceLeDiff, Nat.reduceAdd, Nat.reduceSub, pf_depotref17_Asks_Begin, Heap.get_put_self]; rfl) rfl ?_
  refine (hQ _ ((hO4.put hp5 _).put gz6 _) ((hL4.put_ hp0 _).put_ hn01 _) (fun b y hb0 hni => ?_) ).2 hb ⟨v', ?_, hp0, ?_, hp4.2⟩
  · have hbp : b ≠ p := fun e => hni (.inl e)
    have hbn := Heap.lt_of_get hOk hb0
    have hbv : ∀ o l z, v ≠ .sl b o l z := fun o l z e => hni (.inr ⟨v, _, _, hp, o, l, z, e⟩)
    obtain ⟨q1, q2⟩ := old4 b y (old3 b y hb0 hbp) hbv
    refine ⟨by rw [Heap.get_put_ne _ _ _ (by omega), Heap.get_put_ne _ _ _ hbp]; exact q1, fun h => ?_⟩
    rcases h with rfl | ⟨v2, n2, w2, h1, o, l, z, rfl⟩
    · exact hbp rfl
    · rw [Heap.get_put_ne _ _ _ (by omega), Heap.get_put_self] at h1
      cases h1
      exact q2 _ _ _ rfl
  · rw [Heap.get_put_ne _ _ _ (by omega), Heap.get_put_self]
  · have e : rqs (L ++ [⟨f.begun (.ofNat (last + 1)) fl, 0⟩]) = rqs L ++ (Rq.mk (f.begun (.ofNat (last + 1)) fl) 0).cells := by
      unfold rqs
      rw [List.flatMap_append]
      rfl
    rw [e]
    exact hv4.keep fun c o l z x hvc hg => by
      rw [Heap.get_put_ne _ _ _ (fun e => by subst e; exact gz4.2 _ _ _ hvc), Heap.get_put_ne _ _ _ (fun e => by subst e; exact hp4.2 _ _ _ hvc)]
      exact hg
end Go.Proofs.Ytcpcajfmkmgjeaa
