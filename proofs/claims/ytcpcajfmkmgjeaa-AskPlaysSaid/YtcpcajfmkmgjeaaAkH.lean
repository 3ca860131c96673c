/- Layer 19: a tick. Conditions: none. -/
import Derived.Test.YtcpcajfmkmgjeaaAkG
namespace Go.Proofs.Ytcpcajfmkmgjeaa
open Go.Dp
set_option linter.unusedSimpArgs false
set_option linter.unusedVariables false
set_option maxHeartbeats 2000000
set_option maxRecDepth 8000
attribute [local irreducible] Ex.thnK Ex.inK Ret

theorem rq_at (P : List AV) (r : Rq) (S : List AV) : ((P ++ (r.cells ++ S)).drop P.length).take 9 = r.f.cells ∧ ((P ++ (r.cells ++ S)).drop (P.length + 1)).take 1 = [.int .i64 r.f.slot] ∧ ((P ++ (r.cells ++ S)).drop (P.length + 9)).take 1 = [.int .i64 (.ofNat r.t)] ∧
    over (P ++ (r.cells ++ S)) (P.length + 9) [.int .i64 (.ofNat (r.t + 1))] = P ++ ((inc r).cells ++ S) := by
  refine ⟨?_, ?_, ?_, ?_⟩
  · rw [List.drop_left]; rfl
  · rw [← List.drop_drop, List.drop_left]; rfl
  · rw [← List.drop_drop, List.drop_left]; rfl
  · show (P ++ (r.cells ++ S)).take (P.length + 9) ++ ([AV.int .i64 (.ofNat (r.t + 1))] ++ (P ++ (r.cells ++ S)).drop (P.length + 9 + 1)) = _
    rw [List.take_length_add_append, show P.length + 9 + 1 = P.length + 10 from rfl, ← List.drop_drop, List.drop_left, List.append_assoc]
    rfl

theorem Tick_ev (H0 H : Heap) (p : Nat) (L : List Rq) (last : Nat) (hle : HLe H0 H) (hA : Ask H0 H p L last) (hl : L.length ≤ 100000) (ht : ∀ o ∈ L, o.t ≤ 1000000 ∧ .ofNat 0 ≤ o.f.slot ∧ o.f.slot ≤ .ofNat 11) (Q : AV → Heap → Prop)
    (hQ : ∀ H' again late z, H'.Ok → HLe H0 H' → Keeps H H' p → Ask H0 H' p (L.map inc) last → RV H0 H' 0 9 again (frs (againP L L)) → RV H0 H' 0 1 late (ints z) → Srt z → z.Perm (lateP L) →
      (∀ b y, H.get b = some y → (∀ o l z, again ≠ .sl b o l z) ∧ ∀ o l z, late ≠ .sl b o l z) → Q (.tup [again, late]) H') :
    Eo lib n_ask_Asks_Tick [.ptr p 0] H Q := by
  refine Eo.ok fun hOk => ?_
  refine Eo.code at_ask_Asks_Tick rfl ?_
  obtain ⟨v, hp, hp0, hv, hvp⟩ := hA
  have hpn := Heap.lt_of_get hOk hp
  have hvl := hv.lens (by decide)
  rw [rqs_len, Nat.mul_div_cancel _ (by decide)] at hvl
  repeat (first | ((first | apply Xk.sAny | apply Xk.tAny); (case hok => rfl); (case h => intro C hC; simp (disch := omega) only [w1, ↓reduceIte, Nat.reduceEqDiff, Nat.reduceLeDiff, Nat.reduceAdd, Nat.reduceSub, hp, hvl]; with_reducible exact hC); refine gc ?_) | refine gm ?_)
  repeat (first | ((first | apply Xk.sAny | apply Xk.tAny); (case hok => rfl); (case h => intro C hC; simp (disch := omega) only [w1, ↓reduceIte, Nat.reduceEqDiff, Nat.reduceLeDiff, Nat.reduceAdd, Nat.reduceSub, hp, hvl]; with_reducible exact hC); refine gc ?_) | refine gm ?_)
  refine Xk.iter [0, 4, 5, 13, 14] (fun m k G => ∃ i again late, m = L.length - i ∧ i ≤ L.length ∧ G.get p = some (.cells [v, .int .i64 (.ofNat last)] 1) ∧ RV H0 G 0 10 v (rqs (ticked L i)) ∧ (∀ b y, H.get b = some y → (∀ o l z, v ≠ .sl b o l z) → G.get b = some y) ∧
      RV H0 G 0 9 again (frs (againP L (L.take i))) ∧ RV H0 G 0 1 late (ints (lateP (L.take i))) ∧ (∀ b y, H.get b = some y → (∀ o l z, again ≠ .sl b o l z) ∧ ∀ o l z, late ≠ .sl b o l z) ∧ (∀ b o l z o' l' z', again = .sl b o l z → late ≠ .sl b o' l' z') ∧
      k = [(0, .ptr p 0), (4, again), (5, late), (13, .int .i64 (.ofNat L.length)), (14, .int .i64 (.ofNat i))] ∧ G.Ok ∧ HLe H0 G ∧ H.next ≤ G.next) rfl
    ⟨_, 0, .nils, .nils, rfl, Nat.zero_le _, hp, hv, fun b y hb _ => hb, .inl ⟨rfl, rfl⟩, .inl ⟨rfl, rfl⟩, fun b y _ => ⟨fun _ _ _ h => (by cases h), fun _ _ _ h => (by cases h)⟩, fun b o l z o' l' z' h => (by cases h), rfl, hOk, hle, Nat.le_refl _⟩ ?_
  rintro m k G ⟨i, again, late, rfl, hi, hp1, hv1, hold, hag, hla, hfr, hdis, rfl, hO1, hle1, hnx⟩
  unfold l0_ask_Asks_Tick
  by_cases c : i < L.length
  · obtain ⟨tk1, tk2, tk3⟩ := ticked_at L c
    have hrm : L.getD i noRq ∈ L := by
      rw [List.getD_eq_getElem?_getD, List.getElem?_eq_getElem c]
      exact List.getElem_mem c
    obtain ⟨b1, b2, b3⟩ := ht _ hrm
    have hfl1 := fun slot rid => floorP_congr (ticked_f L (i + 1)) slot rid
    have hag1 := againP_snoc L (L.take i) (L.getD i noRq)
    have hla1 := lateP_snoc (L.take i) (L.getD i noRq)
    rw [← tk3] at hag1 hla1
    have htl := ticked_len L i
    have htl1 := ticked_len L (i + 1)
    generalize L.getD i noRq = r at tk1 tk2 tk3 hrm b1 b2 b3 hag1 hla1
    rcases hv1 with ⟨rfl, hz⟩ | ⟨cc, len, l, rfl, h2, h3, h4, h5, h6⟩
    · have : (rqs (ticked L i)).length = 0 := by rw [hz]; rfl
      rw [rqs_len, htl] at this
      omega
    rw [rqs_len, htl] at h2 h4
    have hlen : len = L.length := by omega
    subst hlen
    have hcl : l = rqs (ticked L i) ++ l.drop (L.length * 10) := by
      rw [rqs_len, htl] at h5
      have := List.take_append_drop (L.length * 10) l
      rw [h5] at this
      exact this.symm
    generalize l.drop (L.length * 10) = tl at hcl
    have hAl : (rqs ((L.take i).map inc)).length = i * 10 := by rw [rqs_len, List.length_map, List.length_take, Nat.min_eq_left hi]
    have hsplit : l = rqs ((L.take i).map inc) ++ (r.cells ++ (rqs (L.drop (i + 1)) ++ tl)) := by
      rw [hcl, tk1]
      unfold rqs
      rw [List.flatMap_append, List.flatMap_cons, List.append_assoc, List.append_assoc]
    obtain ⟨_, _, e9, eo⟩ := rq_at (rqs ((L.take i).map inc)) r (rqs (L.drop (i + 1)) ++ tl)
    obtain ⟨f9, f1, f9', _⟩ := rq_at (rqs ((L.take i).map inc)) (inc r) (rqs (L.drop (i + 1)) ++ tl)
    have hl1 : rqs ((L.take i).map inc) ++ ((inc r).cells ++ (rqs (L.drop (i + 1)) ++ tl)) = rqs (ticked L (i + 1)) ++ tl := by
      rw [tk2]
      unfold rqs
      rw [List.flatMap_append, List.flatMap_cons, List.append_assoc, List.append_assoc]
    rw [← hsplit, hAl] at e9 eo
    rw [hl1, hAl] at f9 f1 f9'
    rw [hl1] at eo
    have hbig : i * 10 + 10 ≤ l.length := by omega
    have hll : (rqs (ticked L (i + 1)) ++ tl).length = l.length := by
      rw [hcl, List.length_append, List.length_append, rqs_len, rqs_len, htl, htl1]
    have hccn := Heap.lt_of_get hO1 h3
    have hccp : cc ≠ p := fun e => hvp 0 L.length 10 (by rw [e])
    have q9 : i * 10 + 9 + 1 ≤ l.length := by omega
    have eo' : l.take (i * 10 + 9) ++ AV.int .i64 (.ofNat (r.t + 1)) :: l.drop (i * 10 + 9 + 1) = rqs (ticked L (i + 1)) ++ tl := eo
    clear hsplit hl1
    repeat (first | ((first | apply Xk.sAny | apply Xk.tAny); (case hok => rfl); (case h => intro C hC; simp (disch := omega) only [w1, ↓reduceIte, Nat.reduceEqDiff, Nat.reduceLeDiff, Nat.reduceAdd, Nat.reduceSub, c, hp1]; with_reducible exact hC); refine gc ?_) | refine gm ?_)
    repeat (first | ((first | apply Xk.sAny | apply Xk.tAny); (case hok => rfl); (case h => intro C hC; simp (disch := omega) only [w1, ↓reduceIte, Nat.reduceEqDiff, Nat.reduceLeDiff, Nat.reduceAdd, Nat.reduceSub, c, hp1, h3, e9, q9, eo']; with_reducible exact hC); refine gc ?_) | refine gm ?_)
    have hlo : i * 10 + 9 + 1 ≤ (rqs (ticked L (i + 1)) ++ tl).length := by omega
    have hlo9 : i * 10 + 9 ≤ (rqs (ticked L (i + 1)) ++ tl).length := by omega
    have hlo1 : i * 10 + 1 + 1 ≤ (rqs (ticked L (i + 1)) ++ tl).length := by omega
    have hvo := hv.at (c := cc) (o := 0) (l := L.length) (z := 10) rfl
    obtain ⟨xv, hvo, _⟩ := hvo
    have g1 := Heap.get_put_self G cc (.cells (rqs (ticked L (i + 1)) ++ tl) 1)
    have hp2 : (G.put cc (.cells (rqs (ticked L (i + 1)) ++ tl) 1)).get p = _ := (Heap.get_put_ne G cc _ (Ne.symm hccp)).trans hp1
    have hO2 := hO1.put h3 (.cells (rqs (ticked L (i + 1)) ++ tl) 1)
    have hle2 : HLe H0 (G.put cc (.cells (rqs (ticked L (i + 1)) ++ tl) 1)) := hle1.put_ h6 _
    have hag2 : RV H0 (G.put cc (.cells (rqs (ticked L (i + 1)) ++ tl) 1)) 0 9 again (frs (againP L (L.take i))) := hag.keep fun c o l z x hvc hg => by
      rw [Heap.get_put_ne _ _ _ (fun e => by subst e; exact (hfr _ _ hvo).1 _ _ _ hvc)]
      exact hg
    have hla2 : RV H0 (G.put cc (.cells (rqs (ticked L (i + 1)) ++ tl) 1)) 0 1 late (ints (lateP (L.take i))) := hla.keep fun c o l z x hvc hg => by
      rw [Heap.get_put_ne _ _ _ (fun e => by subst e; exact (hfr _ _ hvo).2 _ _ _ hvc)]
      exact hg
    have hold2 : ∀ b y, H.get b = some y → b ≠ cc → (G.put cc (.cells (rqs (ticked L (i + 1)) ++ tl) 1)).get b = some y := fun b y hb hbc => by
      rw [Heap.get_put_ne _ _ _ hbc]
      exact hold b y hb (fun o l z e => hbc (AV.sl.inj e).1.symm)
    have hv2 : RV H0 (G.put cc (.cells (rqs (ticked L (i + 1)) ++ tl) 1)) 0 10 (.sl cc 0 L.length 10) (rqs (ticked L (i + 1))) :=
      .inr ⟨cc, L.length, _, rfl, by rw [rqs_len, htl1], g1, by rw [List.length_append]; exact Nat.le_add_right _ _, List.take_left, h6⟩
    have hnx2 : H.next ≤ (G.put cc (.cells (rqs (ticked L (i + 1)) ++ tl) 1)).next := hnx
    generalize rqs (ticked L (i + 1)) ++ tl = l1 at f9 f1 f9' hll hlo hlo9 hlo1 g1 hp2 hO2 hle2 hag2 hla2 hold2 hv2 hnx2 eo' ⊢
    generalize G.put cc (.cells l1 1) = G1 at g1 hp2 hO2 hle2 hag2 hla2 hold2 hv2 hnx2 ⊢
    simp only [Fr.cells, inc] at f9 f1 f9'
    by_cases c4 : (r.t + 1) % 4 = 0
    · rw [if_pos c4] at hag1
      have hgz := Heap.get_new_self G1 (.cells noFr.cells 1)
      have hst : (G1.new (.cells noFr.cells 1)).put G1.next (.cells r.f.cells 1) = G1.new (.cells r.f.cells 1) := Heap.new_put _ _ _
      have hgr := Heap.get_new_self G1 (.cells r.f.cells 1)
      have hstep := HLe.new (hO2 _ (Nat.le_refl _)) (.cells r.f.cells 1)
      have hO3 := hO2.new (.cells r.f.cells 1)
      have hn1 : H.get G1.next = none := hOk _ hnx2
      have hn0 : H0.get G1.next = none := hle.none hn1
      simp only [Fr.cells, noFr] at hgz hst hgr hstep hO3
      repeat (first | ((first | apply Xk.sAny | apply Xk.tAny); (case hok => rfl); (case h => intro C hC; simp (disch := omega) only [w1, ↓reduceIte, Nat.reduceEqDiff, Nat.reduceLeDiff, Nat.reduceAdd, Nat.reduceSub, g1, f9', hlo, c4, f9, hlo9, hgz, hst, hgr]; with_reducible exact hC); refine gc ?_) | refine gm ?_)
      repeat (first | ((first | apply Xk.sAny | apply Xk.tAny); (case hok => rfl); (case h => intro C hC; simp (disch := omega) only [w1, ↓reduceIte, Nat.reduceEqDiff, Nat.reduceLeDiff, Nat.reduceAdd, Nat.reduceSub, hgr]; with_reducible exact hC); refine gc ?_) | refine gm ?_)
      repeat (first | ((first | apply Xk.sAny | apply Xk.tAny); (case hok => rfl); (case h => intro C hC; simp (disch := omega) only [w1, ↓reduceIte, Nat.reduceEqDiff, Nat.reduceLeDiff, Nat.reduceAdd, Nat.reduceSub, hgr]; with_reducible exact hC); refine gc ?_) | refine gm ?_)
      refine floor_ev p (.sl cc 0 L.length 10) _ 1 (ticked L (i + 1)) r.f.slot r.f.rid _ (hstep _ _ hp2) (hv2.keep fun c o l z x _ hg => hstep _ _ hg).sl (by omega) _ fun G3 hO4 hle3 => ?_
      rw [hfl1]
      have hs3 := hstep.trans hle3
      have hgr3 := hle3 _ _ hgr
      have hle4 := hle2.trans hs3
      clear hgz hst hgr hstep hO3 hle3
      generalize floorP L r.f.slot r.f.rid = fl at hag1 ⊢
      repeat (first | ((first | apply Xk.sAny | apply Xk.tAny); (case hok => rfl); (case h => intro C hC; simp (disch := omega) only [w1, ↓reduceIte, Nat.reduceEqDiff, Nat.reduceLeDiff, Nat.reduceAdd, Nat.reduceSub, hgr3]; with_reducible exact hC); refine gc ?_) | refine gm ?_)
      have hO5 := hO4.put hgr3 (.cells (r.f.fl fl).cells 1)
      have hle5 : HLe H0 (G3.put G1.next (.cells (r.f.fl fl).cells 1)) := hle4.put_ hn0 _
      have keep5 : ∀ b y, G1.get b = some y → (G3.put G1.next (.cells (r.f.fl fl).cells 1)).get b = some y := fun b y hb => by
        rw [Heap.get_put_ne _ _ _ (fun e => by subst e; rw [hO2 _ (Nat.le_refl _)] at hb; cases hb)]
        exact hs3 b y hb
      have hg5 := Heap.get_put_self G3 G1.next (.cells (r.f.fl fl).cells 1)
      have hag5 := hag2.keep fun c o l z x _ hg => keep5 _ _ hg
      have hlen5 : (frs (againP L (L.take i))).length ≤ i * 9 := by
        rw [frs_len]
        refine Nat.mul_le_mul_right _ ?_
        unfold againP
        rw [List.length_map]
        refine Nat.le_trans (List.length_filter_le _ _) ?_
        rw [List.length_map, List.length_take]
        exact Nat.min_le_left _ _
      have hlen5' : (frs (againP L (L.take i))).length / 9 ≤ i := by omega
      obtain ⟨again2, G6, ea, hO6, hle6, hnx6, hag6, old6⟩ := RV.push (bytes := 88) (w := 1) (row := (r.f.fl fl).cells) hO5 hle5 hag5 rfl rfl (by decide) (by omega) (by omega)
      have gb5 := (G3.put G1.next (.cells (r.f.fl fl).cells 1)).get_new_self (.cells (r.f.fl fl).cells 1)
      simp only [Fr.cells, Fr.fl, Heap.next_put] at hg5 ea gb5
      have nag : ∀ {b : Nat} {y : Blk}, H.get b = some y → ∀ o l z, again ≠ .sl b o l z := fun hb => (hfr _ _ hb).1
      have hcc6 := old6 _ _ (keep5 _ _ g1) (nag hvo)
      have hp6 := old6 _ _ (keep5 _ _ hp2) (nag hp)
      obtain ⟨vc6, vs6⟩ := hag6.sc
      repeat (first | ((first | apply Xk.sAny | apply Xk.tAny); (case hok => rfl); (case h => intro C hC; simp (disch := omega) only [w1, ↓reduceIte, Nat.reduceEqDiff, Nat.reduceLeDiff, Nat.reduceAdd, Nat.reduceSub, hg5, ea, gb5, vc6, vs6]; with_reducible exact hC); refine gc ?_) | refine gm ?_)
      have hag6' : RV H0 G6 0 9 again2 (frs (againP L (L.take (i + 1)))) := by
        rw [hag1]
        unfold frs at hag6 ⊢
        rw [List.flatMap_append]
        exact hag6
      have hv6 := hv2.keep fun c o l z x hvc hg => (old6 _ _ (keep5 _ _ hg) (nag (y := xv) (by rw [← (AV.sl.inj hvc).1]; exact hvo))).1
      have hla6 := hla2.keep fun c o l z x hvc hg => (old6 _ _ (keep5 _ _ hg) (fun o' l' z' e => hdis _ _ _ _ _ _ _ e hvc)).1
      have hold6 : ∀ b y, H.get b = some y → b ≠ cc → G6.get b = some y := fun b y hb hbc => (old6 _ _ (keep5 _ _ (hold2 b y hb hbc)) (nag hb)).1
      have hfr6 : ∀ b y, H.get b = some y → ∀ o l z, again2 ≠ .sl b o l z := fun b y hb => by
        have : ∃ y', G1.get b = some y' := by
          by_cases e : b = cc
          · exact ⟨_, e ▸ g1⟩
          · exact ⟨_, hold2 b y hb e⟩
        obtain ⟨y', hy'⟩ := this
        exact (old6 _ _ (keep5 _ _ hy') (nag hb)).2
      have hdis6 : ∀ b o l z o' l' z', again2 = .sl b o l z → late ≠ .sl b o' l' z' := fun b o l z o' l' z' e1 e2 => by
        obtain ⟨x, hx, _⟩ := hla2.at e2
        exact (old6 _ _ (keep5 _ _ hx) (fun o'' l'' z'' e3 => hdis _ _ _ _ _ _ _ e3 e2)).2 _ _ _ e1
      have hnx6' : H.next ≤ G6.next := by
        have := Heap.lt_of_get hO6 hcc6.1
        rcases Nat.lt_or_ge G6.next H.next with h | h
        · exfalso
          have e1 := Heap.lt_of_get hOk hp
          have h7 : G1.next < (G3.put G1.next (.cells (r.f.fl fl).cells 1)).next := Heap.lt_of_get hO5 (Heap.get_put_self _ _ _)
          omega
        · exact h
      have hcc7 := hcc6.1
      have hp7 := hp6.1
      clear old6 keep5 hag5 hag6 hO5 hle5 hlen5 hlen5' hg5 ea gb5 hs3 hgr3 hle4 hn1 hn0 hag2 hla2 hold2 hv2 hO2 hle2 g1 hp2 hcc6 hp6
      have hg7 := hcc7
      have hv7 := hv6
      have hag7 := hag6'
      have hla7 := hla6
      have hold7 := hold6
      have hfr7 := hfr6
      have hdis7 := hdis6
      have hO7 := hO6
      have hle7 := hle6
      have hnx7 := hnx6'
      clear hcc7 hv6 hag6' hla6 hold6 hfr6 hdis6 hO6 hle6 hnx6' hnx6
      have hlb : (lateP (L.take i)).length ≤ 12 := late_len fun o ho => (ht o (List.mem_of_mem_take ho)).2
      have hcc7at : ∀ b y, H.get b = some y → (∀ o l z, (AV.sl cc 0 L.length 10) ≠ .sl b o l z) → G6.get b = some y := fun b y hb hn => hold7 b y hb (fun e => hn 0 L.length 10 (by rw [e]))
      by_cases c40 : 40 ≤ r.t + 1
      case neg =>
        repeat (first | ((first | apply Xk.sAny | apply Xk.tAny); (case hok => rfl); (case h => intro C hC; simp (disch := omega) only [w1, ↓reduceIte, Nat.reduceEqDiff, Nat.reduceLeDiff, Nat.reduceAdd, Nat.reduceSub, hg7, f9', hlo, c40]; with_reducible exact hC); refine gc ?_) | refine gm ?_)
        repeat (first | ((first | apply Xk.sAny | apply Xk.tAny); (case hok => rfl); (case h => intro C hC; simp (disch := omega) only [w1, ↓reduceIte, Nat.reduceEqDiff, Nat.reduceLeDiff, Nat.reduceAdd, Nat.reduceSub, hg7, f9', hlo, c40]; with_reducible exact hC); refine gc ?_) | refine gm ?_)
        exact ⟨rfl, _, by omega, i + 1, again2, late, rfl, by omega, hp7, hv7, hcc7at, hag7, by rw [hla1]; unfold lateStep; rw [if_neg (fun h => c40 h.1)]; exact hla7, fun b y hb => ⟨hfr7 b y hb, (hfr b y hb).2⟩, hdis7, rfl, hO7, hle7, hnx7⟩
      repeat (first | ((first | apply Xk.sAny | apply Xk.tAny); (case hok => rfl); (case h => intro C hC; simp (disch := omega) only [w1, ↓reduceIte, Nat.reduceEqDiff, Nat.reduceLeDiff, Nat.reduceAdd, Nat.reduceSub, hg7, f9', hlo, c40, f1, hlo1]; with_reducible exact hC); refine gc ?_) | refine gm ?_)
      refine Contains_ev H0 _ late (lateP (L.take i)) r.f.slot hla7 (by omega) _ ?_
      cases hc : (lateP (L.take i)).contains r.f.slot with
      | true =>
        repeat (first | ((first | apply Xk.sAny | apply Xk.tAny); (case hok => rfl); (case h => intro C hC; simp (disch := omega) only [w1, ↓reduceIte, Nat.reduceEqDiff, Nat.reduceLeDiff, Nat.reduceAdd, Nat.reduceSub, hg7]; with_reducible exact hC); refine gc ?_) | refine gm ?_)
        repeat (first | ((first | apply Xk.sAny | apply Xk.tAny); (case hok => rfl); (case h => intro C hC; simp (disch := omega) only [w1, ↓reduceIte, Nat.reduceEqDiff, Nat.reduceLeDiff, Nat.reduceAdd, Nat.reduceSub, hg7]; with_reducible exact hC); refine gc ?_) | refine gm ?_)
        exact ⟨rfl, _, by omega, i + 1, again2, late, rfl, by omega, hp7, hv7, hcc7at, hag7, by rw [hla1]; unfold lateStep; rw [if_neg (fun h => by rw [hc] at h; cases h.2)]; exact hla7, fun b y hb => ⟨hfr7 b y hb, (hfr b y hb).2⟩, hdis7, rfl, hO7, hle7, hnx7⟩
      | false =>
        have hil : (ints (lateP (L.take i))).length / 1 ≤ 12 := by rw [ints_len, Nat.div_one]; exact hlb
        obtain ⟨late2, G8, ea8, hO8, hle8, hnx8, hla8, old8⟩ := RV.push (bytes := 8) (w := 1) (row := [.int .i64 r.f.slot]) hO7 hle7 hla7 rfl rfl (by decide) (by omega) (by omega)
        have gb8 := G6.get_new_self (.cells [.int .i64 r.f.slot] 1)
        obtain ⟨vc8, vs8⟩ := hla8.sc
        have nla : ∀ {b : Nat} {y : Blk}, H.get b = some y → ∀ o l z, late ≠ .sl b o l z := fun hb => (hfr _ _ hb).2
        repeat (first | ((first | apply Xk.sAny | apply Xk.tAny); (case hok => rfl); (case h => intro C hC; simp (disch := omega) only [w1, ↓reduceIte, Nat.reduceEqDiff, Nat.reduceLeDiff, Nat.reduceAdd, Nat.reduceSub, hg7, f1, hlo1]; with_reducible exact hC); refine gc ?_) | refine gm ?_)
        repeat (first | ((first | apply Xk.sAny | apply Xk.tAny); (case hok => rfl); (case h => intro C hC; simp (disch := omega) only [w1, ↓reduceIte, Nat.reduceEqDiff, Nat.reduceLeDiff, Nat.reduceAdd, Nat.reduceSub, hg7, f1, hlo1, ea8, gb8, vc8, vs8]; with_reducible exact hC); refine gc ?_) | refine gm ?_)
        repeat (first | ((first | apply Xk.sAny | apply Xk.tAny); (case hok => rfl); (case h => intro C hC; simp (disch := omega) only [w1, ↓reduceIte, Nat.reduceEqDiff, Nat.reduceLeDiff, Nat.reduceAdd, Nat.reduceSub, hg7, f1, hlo1, ea8, gb8, vc8, vs8]; with_reducible exact hC); refine gc ?_) | refine gm ?_)
        refine ⟨rfl, _, by omega, i + 1, again2, late2, rfl, by omega, (old8 _ _ hp7 (nla hp)).1, hv7.keep fun c o l z x hvc hg => (old8 _ _ hg (nla (y := xv) (by rw [← (AV.sl.inj hvc).1]; exact hvo))).1, fun b y hb hn => (old8 _ _ (hcc7at b y hb hn) (nla hb)).1,
          hag7.keep fun c o l z x hvc hg => (old8 _ _ hg (fun o' l' z' e => hdis7 _ _ _ _ _ _ _ hvc e)).1, ?_, fun b y hb => ⟨hfr7 b y hb, ?_⟩, fun b o l z o' l' z' e1 => ?_, rfl, hO8, hle8, Nat.le_trans hnx7 hnx8⟩
        · rw [hla1]
          unfold lateStep
          rw [if_pos ⟨c40, hc⟩]
          unfold ints at hla8 ⊢
          rw [List.map_append]
          exact hla8
        · by_cases e : b = cc
          · exact (old8 _ _ (e ▸ hg7) (nla hb)).2
          · exact (old8 _ _ (hold7 b y hb e) (nla hb)).2
        · obtain ⟨x, hx, _⟩ := hag7.at e1
          exact (old8 _ _ hx (fun o'' l'' z'' e3 => hdis7 _ _ _ _ _ _ _ e1 e3)).2 _ _ _
    · rw [if_neg c4] at hag1
      repeat (first | ((first | apply Xk.sAny | apply Xk.tAny); (case hok => rfl); (case h => intro C hC; simp (disch := omega) only [w1, ↓reduceIte, Nat.reduceEqDiff, Nat.reduceLeDiff, Nat.reduceAdd, Nat.reduceSub, g1, f9', hlo, c4]; with_reducible exact hC); refine gc ?_) | refine gm ?_)
      have hg7 := g1
      have hp7 := hp2
      have hv7 := hv2
      have hag7 : RV H0 G1 0 9 again (frs (againP L (L.take (i + 1)))) := by rw [hag1]; exact hag2
      have hla7 := hla2
      have hold7 := hold2
      have hfr7 : ∀ b y, H.get b = some y → ∀ o l z, again ≠ .sl b o l z := fun b y hb => (hfr b y hb).1
      have hdis7 := hdis
      have hO7 := hO2
      have hle7 := hle2
      have hnx7 := hnx2
      have hlb : (lateP (L.take i)).length ≤ 12 := late_len fun o ho => (ht o (List.mem_of_mem_take ho)).2
      have hcc7at : ∀ b y, H.get b = some y → (∀ o l z, (AV.sl cc 0 L.length 10) ≠ .sl b o l z) → G1.get b = some y := fun b y hb hn => hold7 b y hb (fun e => hn 0 L.length 10 (by rw [e]))
      by_cases c40 : 40 ≤ r.t + 1
      case neg =>
        repeat (first | ((first | apply Xk.sAny | apply Xk.tAny); (case hok => rfl); (case h => intro C hC; simp (disch := omega) only [w1, ↓reduceIte, Nat.reduceEqDiff, Nat.reduceLeDiff, Nat.reduceAdd, Nat.reduceSub, hg7, f9', hlo, c40]; with_reducible exact hC); refine gc ?_) | refine gm ?_)
        repeat (first | ((first | apply Xk.sAny | apply Xk.tAny); (case hok => rfl); (case h => intro C hC; simp (disch := omega) only [w1, ↓reduceIte, Nat.reduceEqDiff, Nat.reduceLeDiff, Nat.reduceAdd, Nat.reduceSub, hg7, f9', hlo, c40]; with_reducible exact hC); refine gc ?_) | refine gm ?_)
        exact ⟨rfl, _, by omega, i + 1, again, late, rfl, by omega, hp7, hv7, hcc7at, hag7, by rw [hla1]; unfold lateStep; rw [if_neg (fun h => c40 h.1)]; exact hla7, fun b y hb => ⟨hfr7 b y hb, (hfr b y hb).2⟩, hdis7, rfl, hO7, hle7, hnx7⟩
      repeat (first | ((first | apply Xk.sAny | apply Xk.tAny); (case hok => rfl); (case h => intro C hC; simp (disch := omega) only [w1, ↓reduceIte, Nat.reduceEqDiff, Nat.reduceLeDiff, Nat.reduceAdd, Nat.reduceSub, hg7, f9', hlo, c40, f1, hlo1]; with_reducible exact hC); refine gc ?_) | refine gm ?_)
      refine Contains_ev H0 _ late (lateP (L.take i)) r.f.slot hla7 (by omega) _ ?_
      cases hc : (lateP (L.take i)).contains r.f.slot with
      | true =>
        repeat (first | ((first | apply Xk.sAny | apply Xk.tAny); (case hok => rfl); (case h => intro C hC; simp (disch := omega) only [w1, ↓reduceIte, Nat.reduceEqDiff, Nat.reduceLeDiff, Nat.reduceAdd, Nat.reduceSub, hg7]; with_reducible exact hC); refine gc ?_) | refine gm ?_)
        repeat (first | ((first | apply Xk.sAny | apply Xk.tAny); (case hok => rfl); (case h => intro C hC; simp (disch := omega) only [w1, ↓reduceIte, Nat.reduceEqDiff, Nat.reduceLeDiff, Nat.reduceAdd, Nat.reduceSub, hg7]; with_reducible exact hC); refine gc ?_) | refine gm ?_)
        exact ⟨rfl, _, by omega, i + 1, again, late, rfl, by omega, hp7, hv7, hcc7at, hag7, by rw [hla1]; unfold lateStep; rw [if_neg (fun h => by rw [hc] at h; cases h.2)]; exact hla7, fun b y hb => ⟨hfr7 b y hb, (hfr b y hb).2⟩, hdis7, rfl, hO7, hle7, hnx7⟩
      | false =>
        have hil : (ints (lateP (L.take i))).length / 1 ≤ 12 := by rw [ints_len, Nat.div_one]; exact hlb
        obtain ⟨late2, G8, ea8, hO8, hle8, hnx8, hla8, old8⟩ := RV.push (bytes := 8) (w := 1) (row := [.int .i64 r.f.slot]) hO7 hle7 hla7 rfl rfl (by decide) (by omega) (by omega)
        have gb8 := G1.get_new_self (.cells [.int .i64 r.f.slot] 1)
        obtain ⟨vc8, vs8⟩ := hla8.sc
        have nla : ∀ {b : Nat} {y : Blk}, H.get b = some y → ∀ o l z, late ≠ .sl b o l z := fun hb => (hfr _ _ hb).2
        repeat (first | ((first | apply Xk.sAny | apply Xk.tAny); (case hok => rfl); (case h => intro C hC; simp (disch := omega) only [w1, ↓reduceIte, Nat.reduceEqDiff, Nat.reduceLeDiff, Nat.reduceAdd, Nat.reduceSub, hg7, f1, hlo1]; with_reducible exact hC); refine gc ?_) | refine gm ?_)
        repeat (first | ((first | apply Xk.sAny | apply Xk.tAny); (case hok => rfl); (case h => intro C hC; simp (disch := omega) only [w1, ↓reduceIte, Nat.reduceEqDiff, Nat.reduceLeDiff, Nat.reduceAdd, Nat.reduceSub, hg7, f1, hlo1, ea8, gb8, vc8, vs8]; with_reducible exact hC); refine gc ?_) | refine gm ?_)
        repeat (first | ((first | apply Xk.sAny | apply Xk.tAny); (case hok => rfl); (case h => intro C hC; simp (disch := omega) only [w1, ↓reduceIte, Nat.reduceEqDiff, Nat.reduceLeDiff, Nat.reduceAdd, Nat.reduceSub, hg7, f1, hlo1, ea8, gb8, vc8, vs8]; with_reducible exact hC); refine gc ?_) | refine gm ?_)
        refine ⟨rfl, _, by omega, i + 1, again, late2, rfl, by omega, (old8 _ _ hp7 (nla hp)).1, hv7.keep fun c o l z x hvc hg => (old8 _ _ hg (nla (y := xv) (by rw [← (AV.sl.inj hvc).1]; exact hvo))).1, fun b y hb hn => (old8 _ _ (hcc7at b y hb hn) (nla hb)).1,
          hag7.keep fun c o l z x hvc hg => (old8 _ _ hg (fun o' l' z' e => hdis7 _ _ _ _ _ _ _ hvc e)).1, ?_, fun b y hb => ⟨hfr7 b y hb, ?_⟩, fun b o l z o' l' z' e1 => ?_, rfl, hO8, hle8, Nat.le_trans hnx7 hnx8⟩
        · rw [hla1]
          unfold lateStep
          rw [if_pos ⟨c40, hc⟩]
          unfold ints at hla8 ⊢
          rw [List.map_append]
          exact hla8
        · by_cases e : b = cc
          · exact (old8 _ _ (e ▸ hg7) (nla hb)).2
          · exact (old8 _ _ (hold7 b y hb e) (nla hb)).2
        · obtain ⟨x, hx, _⟩ := hag7.at e1
          exact (old8 _ _ hx (fun o'' l'' z'' e3 => hdis7 _ _ _ _ _ _ _ e1 e3)).2 _ _ _
  · obtain rfl : i = L.length := by omega
    have etk : ticked L L.length = L.map inc := by unfold ticked; rw [List.take_length, List.drop_length, List.append_nil]
    rw [etk] at hv1
    rw [List.take_length] at hag hla
    repeat (first | ((first | apply Xk.sAny | apply Xk.tAny); (case hok => rfl); (case h => intro C hC; simp (disch := omega) only [w1, ↓reduceIte, Nat.reduceEqDiff, Nat.reduceLeDiff, Nat.reduceAdd, Nat.reduceSub, c]; with_reducible exact hC); refine gc ?_) | refine gm ?_)
    repeat (first | ((first | apply Xk.sAny | apply Xk.tAny); (case hok => rfl); (case h => intro C hC; simp (disch := omega) only [w1, ↓reduceIte, Nat.reduceEqDiff, Nat.reduceLeDiff, Nat.reduceAdd, Nat.reduceSub, c]; with_reducible exact hC); refine gc ?_) | refine gm ?_)
    have hlb : (lateP L).length ≤ 12 := late_len fun o ho => (ht o ho).2
    refine Sort_ev H0 G late (lateP L) hla hlb _ fun H' z' hO' hr hsame hs hperm => ?_
    repeat (first | ((first | apply Xk.sAny | apply Xk.tAny); (case hok => rfl); (case h => intro C hC; simp (disch := omega) only [w1, ↓reduceIte, Nat.reduceEqDiff, Nat.reduceLeDiff, Nat.reduceAdd, Nat.reduceSub]; with_reducible exact hC); refine gc ?_) | refine gm ?_)
    repeat (first | ((first | apply Xk.sAny | apply Xk.tAny); (case hok => rfl); (case h => intro C hC; simp (disch := omega) only [w1, ↓reduceIte, Nat.reduceEqDiff, Nat.reduceLeDiff, Nat.reduceAdd, Nat.reduceSub]; with_reducible exact hC); refine gc ?_) | refine gm ?_)
    have hrv : resV [again, late] = some (.tup [again, late]) := by
      have n1 : again.noT = true := by rcases hag with ⟨rfl, _⟩ | ⟨_, _, _, rfl, _⟩ <;> rfl
      have n2 : late.noT = true := by rcases hla with ⟨rfl, _⟩ | ⟨_, _, _, rfl, _⟩ <;> rfl
      show (bif (again.noT && (late.noT && true)) then some (AV.tup [again, late]) else none) = _
      rw [n1, n2]
      rfl
    refine Ret.ret rfl (by simp only [resKs, resK, cond_true, w1, ↓reduceIte, Nat.reduceEqDiff, pf_ask_Asks_Tick]) hrv ?_
    have nla : ∀ {b : Nat} {y : Blk}, H.get b = some y → ∀ o l z, late ≠ .sl b o l z := fun hb => (hfr _ _ hb).2
    have hp' : H'.get p = some (.cells [v, .int .i64 (.ofNat last)] 1) := by rw [hsame p (nla hp)]; exact hp1
    refine hQ H' again late z' hO' ?_ ?_ ⟨v, hp', hp0, ?_, hvp⟩ ?_ hr hs hperm hfr
    · intro b y hb
      rw [hsame b (fun o l z e => by
        obtain ⟨_, _, e0⟩ := hla.at e
        rw [hb] at e0; cases e0)]
      exact hle1 b y hb
    · intro b y hb hni
      have hnv : ∀ o l z, v ≠ .sl b o l z := fun o l z e => hni (.inr ⟨v, _, _, hp, o, l, z, e⟩)
      refine ⟨by rw [hsame b (nla hb)]; exact hold b y hb hnv, fun h => ?_⟩
      rcases h with h | ⟨v2, n2, w2, h1, o, l, z, h2⟩
      · exact hni (.inl h)
      · rw [hp'] at h1
        cases h1
        exact hnv _ _ _ h2
    · exact hv1.keep fun cc o l z x hvc hg => by
        obtain ⟨xv, hvo, _⟩ := hv.at hvc
        rw [hsame cc (nla hvo)]
        exact hg
    · exact hag.keep fun cc o l z x hvc hg => by
        rw [hsame cc (fun o' l' z' e => hdis _ _ _ _ _ _ _ hvc e)]
        exact hg
end Go.Proofs.Ytcpcajfmkmgjeaa
