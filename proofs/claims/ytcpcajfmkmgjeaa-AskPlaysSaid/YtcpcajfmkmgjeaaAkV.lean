/- Layer 19: the reference's tick. Conditions: none. -/
import Derived.Test.YtcpcajfmkmgjeaaAkU
namespace Go.Proofs.Ytcpcajfmkmgjeaa
open Go.Dp
set_option linter.unusedSimpArgs false
set_option linter.unusedVariables false
set_option maxHeartbeats 1000000
set_option maxRecDepth 8000
attribute [local irreducible] Ex.thnK Ex.inK Ret

/-- is slot k late, of M? -/
def lateB (M : List Rq) (k : Nat) : Bool := M.any fun o => decide (o.f.slot = .ofNat k) && decide (40 ≤ o.t + 1)
theorem lateB_iff (M : List Rq) (k : Nat) : lateB M k = true ↔ ∃ o ∈ M, o.f.slot = .ofNat k ∧ 40 ≤ o.t + 1 := by
  unfold lateB
  rw [List.any_eq_true]
  constructor
  · rintro ⟨o, h1, h2⟩
    rw [Bool.and_eq_true, decide_eq_true_eq, decide_eq_true_eq] at h2
    exact ⟨o, h1, h2⟩
  · rintro ⟨o, h1, h2, h3⟩
    exact ⟨o, h1, by rw [decide_eq_true h2, decide_eq_true h3]; rfl⟩
theorem lateB_snoc (M : List Rq) (r : Rq) (k : Nat) : lateB (M ++ [r]) k = (lateB M k || (decide (r.f.slot = .ofNat k) && decide (40 ≤ r.t + 1))) := by
  unfold lateB
  rw [List.any_append]
  simp
/-- the marks -/
def Mk (fl : List Int) (M : List Rq) : Prop := fl.length = 12 ∧ ∀ k, k < 12 → fl.getD k 0 = if lateB M k = true then 1 else 0
theorem Mk.keep {fl : List Int} {M : List Rq} {r : Rq} (h : Mk fl M) (hr : ¬ 40 ≤ r.t + 1) : Mk fl (M ++ [r]) := by
  refine ⟨h.1, fun k hk => ?_⟩
  rw [h.2 k hk, lateB_snoc, decide_eq_false hr, Bool.and_false, Bool.or_false]
theorem Mk.set {fl : List Int} {M : List Rq} {r : Rq} {s : Nat} (h : Mk fl M) (hs : r.f.slot = .ofNat s) (hs12 : s < 12) (hr : 40 ≤ r.t + 1) : Mk (fl.set s 1) (M ++ [r]) := by
  refine ⟨by rw [List.length_set]; exact h.1, fun k hk => ?_⟩
  rw [lateB_snoc, decide_eq_true hr, Bool.and_true, hs, List.getD_eq_getElem?_getD, List.getElem?_set]
  by_cases e : s = k
  · subst e
    rw [if_pos rfl, if_pos (by rw [h.1]; exact hs12), decide_eq_true rfl, Bool.or_true]
    rfl
  · rw [if_neg e, ← List.getD_eq_getElem?_getD, h.2 k hk, decide_eq_false (fun q => e (Int.ofNat.inj q)), Bool.or_false]
def lateR (M : List Rq) (n : Nat) : List Int := ((List.range n).filter fun k => lateB M k).map Int.ofNat
theorem lateR_succ (M : List Rq) (n : Nat) : lateR M (n + 1) = if lateB M n = true then lateR M n ++ [.ofNat n] else lateR M n := by
  unfold lateR
  rw [List.range_succ, List.filter_append, List.map_append]
  cases h : lateB M n with
  | true =>
    rw [if_pos rfl]
    simp [h]
  | false =>
    rw [if_neg (by decide)]
    simp [h]
theorem lateR_len (M : List Rq) (n : Nat) : (lateR M n).length ≤ n := by
  unfold lateR
  rw [List.length_map]
  exact Nat.le_trans (List.length_filter_le _ _) (Nat.le_of_eq List.length_range)

theorem refTick_ev (H0 H : Heap) (p : Nat) (L : List Rq) (last : Nat) (hle : HLe H0 H) (hA : Ask H0 H p L last) (hl : L.length ≤ 100000) (ht : ∀ o ∈ L, o.t ≤ 1000000 ∧ .ofNat 0 ≤ o.f.slot ∧ o.f.slot ≤ .ofNat 11) (Q : AV → Heap → Prop)
    (hQ : ∀ H' again late, H'.Ok → HLe H0 H' → Keeps H H' p → Ask H0 H' p (L.map inc) last → RV H0 H' 0 9 again (frs (againP L L)) → RV H0 H' 0 1 late (ints (lateR L 12)) →
      (∀ b y, H.get b = some y → (∀ o l z, again ≠ .sl b o l z) ∧ ∀ o l z, late ≠ .sl b o l z) → Q (.tup [again, late]) H') :
    Eo lib n_depotref17_Asks_Tick [.ptr p 0] H Q := by
  refine Eo.ok fun hOk => ?_
  refine Eo.code at_depotref17_Asks_Tick rfl ?_
  obtain ⟨v, hp, hp0, hv, hvp⟩ := hA
  have hpn := Heap.lt_of_get hOk hp
  have hvl := hv.lens (by decide)
  rw [rqs_len, Nat.mul_div_cancel _ (by decide)] at hvl
  repeat (first | ((first | apply Xk.sAny | apply Xk.tAny); (case hok => rfl); (case h => intro C hC; simp (disch := omega) only [w1, ↓reduceIte, Nat.reduceEqDiff, Nat.reduceLeDiff, Nat.reduceAdd, Nat.reduceSub]; with_reducible exact hC); refine gc ?_) | refine gm ?_)
  have hrp : rep 12 [AV.int .i64 (.ofNat 0)] = ints (List.replicate 12 0) := rfl
  rw [hrp]
  have hvl := hv.lens (by decide)
  rw [rqs_len, Nat.mul_div_cancel _ (by decide)] at hvl
  have hn := HLe.new (hOk _ (Nat.le_refl _)) (.cells (ints (List.replicate 12 0)) 1)
  have hMk0 : Mk (List.replicate 12 0) [] := ⟨rfl, fun k hk => by
    rw [List.getD_eq_getElem?_getD, List.getElem?_replicate, if_pos hk]
    rfl⟩
  have hlb0 := Heap.get_new_self H (.cells (ints (List.replicate 12 0)) 1)
  have hlbp : H.next ≠ p := by omega
  have hlb00 : H0.get H.next = none := hle.none (hOk _ (Nat.le_refl _))
  refine Xk.iter [0, 4, 5, 6] (fun m k G => ∃ i again fl, m = L.length - i ∧ i ≤ L.length ∧ G.get p = some (.cells [v, .int .i64 (.ofNat last)] 1) ∧ RV H0 G 0 10 v (rqs (ticked L i)) ∧ (∀ b y, H.get b = some y → (∀ o l z, v ≠ .sl b o l z) → G.get b = some y) ∧
      RV H0 G 0 9 again (frs (againP L (L.take i))) ∧ G.get H.next = some (.cells (ints fl) 1) ∧ Mk fl (L.take i) ∧ (∀ b y, H.get b = some y → (∀ o l z, again ≠ .sl b o l z)) ∧ (∀ o l z, again ≠ .sl H.next o l z) ∧
      k = [(0, .ptr p 0), (4, again), (5, .sl H.next 0 12 1), (6, .int .i64 (.ofNat i))] ∧ G.Ok ∧ HLe H0 G ∧ H.next ≤ G.next) rfl
    ⟨_, 0, .nils, List.replicate 12 0, rfl, Nat.zero_le _, hn _ _ hp, hv.keep fun c o l z x _ hg => hn _ _ hg, fun b y hb _ => hn _ _ hb, .inl ⟨rfl, rfl⟩, hlb0, hMk0, fun b y _ _ _ _ h => (by cases h), fun _ _ _ h => (by cases h), rfl, hOk.new _, hle.new_ hOk _, Nat.le_succ _⟩ ?_
  rintro m k G ⟨i, again, fl, rfl, hi, hp1, hv1, hold, hag, hlb, hmk, hfr, hnlb, rfl, hO1, hle1, hnx⟩
  unfold l0_depotref17_Asks_Tick
  by_cases c : i < L.length
  · obtain ⟨tk1, tk2, tk3⟩ := ticked_at L c
    have hrm : L.getD i noRq ∈ L := by
      rw [List.getD_eq_getElem?_getD, List.getElem?_eq_getElem c]
      exact List.getElem_mem c
    obtain ⟨b1, b2, b3⟩ := ht _ hrm
    have hfl1 := fun slot rid => floorP_congr (ticked_f L (i + 1)) slot rid
    have hag1 := againP_snoc L (L.take i) (L.getD i noRq)
    rw [← tk3] at hag1
    have htl := ticked_len L i
    have htl1 := ticked_len L (i + 1)
    generalize L.getD i noRq = r at tk1 tk2 tk3 hrm b1 b2 b3 hag1
    rcases hv1 with ⟨rfl, hz⟩ | ⟨cc, len, l, rfl, h2, h3, h4, h5, h6⟩
    · have : (rqs (ticked L i)).length = 0 := by rw [hz]; rfl
      rw [rqs_len, htl] at this
      omega
    rw [rqs_len, htl] at h2 h4
    have hlen : len = L.length := by omega
    subst hlen
    have hcl : l = rqs (ticked L i) ++ l.drop (L.length * 10) := by
      rw [rqs_len, htl] at h5
      have := List.take_append_drop (L.length * 10) l
      rw [h5] at this
      exact this.symm
    generalize l.drop (L.length * 10) = tl at hcl
    have hAl : (rqs ((L.take i).map inc)).length = i * 10 := by rw [rqs_len, List.length_map, List.length_take, Nat.min_eq_left hi]
    have hsplit : l = rqs ((L.take i).map inc) ++ (r.cells ++ (rqs (L.drop (i + 1)) ++ tl)) := by
      rw [hcl, tk1]
      unfold rqs
      rw [List.flatMap_append, List.flatMap_cons, List.append_assoc, List.append_assoc]
    obtain ⟨_, _, e9, eo⟩ := rq_at (rqs ((L.take i).map inc)) r (rqs (L.drop (i + 1)) ++ tl)
    obtain ⟨f9, f1, f9', _⟩ := rq_at (rqs ((L.take i).map inc)) (inc r) (rqs (L.drop (i + 1)) ++ tl)
    have hl1 : rqs ((L.take i).map inc) ++ ((inc r).cells ++ (rqs (L.drop (i + 1)) ++ tl)) = rqs (ticked L (i + 1)) ++ tl := by
      rw [tk2]
      unfold rqs
      rw [List.flatMap_append, List.flatMap_cons, List.append_assoc, List.append_assoc]
    rw [← hsplit, hAl] at e9 eo
    rw [hl1, hAl] at f9 f1 f9'
    rw [hl1] at eo
    have hbig : i * 10 + 10 ≤ l.length := by omega
    have hll : (rqs (ticked L (i + 1)) ++ tl).length = l.length := by
      rw [hcl, List.length_append, List.length_append, rqs_len, rqs_len, htl, htl1]
    have hccn := Heap.lt_of_get hO1 h3
    have hccp : cc ≠ p := fun e => hvp 0 L.length 10 (by rw [e])
    have q9 : i * 10 + 9 + 1 ≤ l.length := by omega
    have eo' : l.take (i * 10 + 9) ++ AV.int .i64 (.ofNat (r.t + 1)) :: l.drop (i * 10 + 9 + 1) = rqs (ticked L (i + 1)) ++ tl := eo
    clear hsplit hl1
    repeat (first | ((first | apply Xk.sAny | apply Xk.tAny); (case hok => rfl); (case h => intro C hC; simp (disch := omega) only [w1, ↓reduceIte, Nat.reduceEqDiff, Nat.reduceLeDiff, Nat.reduceAdd, Nat.reduceSub, c, hp1, hvl]; with_reducible exact hC); refine gc ?_) | refine gm ?_)
    repeat (first | ((first | apply Xk.sAny | apply Xk.tAny); (case hok => rfl); (case h => intro C hC; simp (disch := omega) only [w1, ↓reduceIte, Nat.reduceEqDiff, Nat.reduceLeDiff, Nat.reduceAdd, Nat.reduceSub, c, hp1, h3, e9, q9, eo']; with_reducible exact hC); refine gc ?_) | refine gm ?_)
    have hlo : i * 10 + 9 + 1 ≤ (rqs (ticked L (i + 1)) ++ tl).length := by omega
    have hlo9 : i * 10 + 9 ≤ (rqs (ticked L (i + 1)) ++ tl).length := by omega
    have hlo1 : i * 10 + 1 + 1 ≤ (rqs (ticked L (i + 1)) ++ tl).length := by omega
    have hvo := hv.at (c := cc) (o := 0) (l := L.length) (z := 10) rfl
    obtain ⟨xv, hvo, _⟩ := hvo
    have g1 := Heap.get_put_self G cc (.cells (rqs (ticked L (i + 1)) ++ tl) 1)
    have hp2 : (G.put cc (.cells (rqs (ticked L (i + 1)) ++ tl) 1)).get p = _ := (Heap.get_put_ne G cc _ (Ne.symm hccp)).trans hp1
    have hO2 := hO1.put h3 (.cells (rqs (ticked L (i + 1)) ++ tl) 1)
    have hle2 : HLe H0 (G.put cc (.cells (rqs (ticked L (i + 1)) ++ tl) 1)) := hle1.put_ h6 _
    have hag2 : RV H0 (G.put cc (.cells (rqs (ticked L (i + 1)) ++ tl) 1)) 0 9 again (frs (againP L (L.take i))) := hag.keep fun c o l z x hvc hg => by
      rw [Heap.get_put_ne _ _ _ (fun e => by subst e; exact hfr _ _ hvo _ _ _ hvc)]
      exact hg
    have hlbc : H.next ≠ cc := fun e => by rw [← e, hOk _ (Nat.le_refl _)] at hvo; cases hvo
    have hla2 : (G.put cc (.cells (rqs (ticked L (i + 1)) ++ tl) 1)).get H.next = some (.cells (ints fl) 1) := (Heap.get_put_ne G cc _ hlbc).trans hlb
    have hold2 : ∀ b y, H.get b = some y → b ≠ cc → (G.put cc (.cells (rqs (ticked L (i + 1)) ++ tl) 1)).get b = some y := fun b y hb hbc => by
      rw [Heap.get_put_ne _ _ _ hbc]
      exact hold b y hb (fun o l z e => hbc (AV.sl.inj e).1.symm)
    have hv2 : RV H0 (G.put cc (.cells (rqs (ticked L (i + 1)) ++ tl) 1)) 0 10 (.sl cc 0 L.length 10) (rqs (ticked L (i + 1))) :=
      .inr ⟨cc, L.length, _, rfl, by rw [rqs_len, htl1], g1, by rw [List.length_append]; exact Nat.le_add_right _ _, List.take_left, h6⟩
    have hnx2 : H.next ≤ (G.put cc (.cells (rqs (ticked L (i + 1)) ++ tl) 1)).next := hnx
    generalize rqs (ticked L (i + 1)) ++ tl = l1 at f9 f1 f9' hll hlo hlo9 hlo1 g1 hp2 hO2 hle2 hag2 hla2 hold2 hv2 hnx2 eo' ⊢
    generalize G.put cc (.cells l1 1) = G1 at g1 hp2 hO2 hle2 hag2 hla2 hold2 hv2 hnx2 ⊢
    simp only [Fr.cells, inc] at f9 f1 f9'
    obtain ⟨s, hs⟩ : ∃ s : Nat, r.f.slot = .ofNat s := ⟨r.f.slot.toNat, by
      have e : (0 : Int) ≤ r.f.slot := b2
      show r.f.slot = ((r.f.slot.toNat : Nat) : Int)
      omega⟩
    have hs12 : s < 12 := by
      rw [hs] at b3
      have e : ((s : Nat) : Int) ≤ 11 := b3
      omega
    refine Xk.cut2 [0, 4, 5, 6, 7] (fun k' G' => ∃ fl2, k' = [(0, .ptr p 0), (4, again), (5, .sl H.next 0 12 1), (6, .int .i64 (.ofNat i)), (7, .ptr cc (i * 10))] ∧ G'.Ok ∧ HLe H0 G' ∧ G'.get cc = some (.cells l1 1) ∧ G'.get p = some (.cells [.sl cc 0 L.length 10, .int .i64 (.ofNat last)] 1) ∧
        RV H0 G' 0 10 (.sl cc 0 L.length 10) (rqs (ticked L (i + 1))) ∧ RV H0 G' 0 9 again (frs (againP L (L.take i))) ∧ (∀ b y, H.get b = some y → b ≠ cc → G'.get b = some y) ∧ G'.get H.next = some (.cells (ints fl2) 1) ∧ Mk fl2 (L.take (i + 1)) ∧ H.next ≤ G'.next) ?_ ?_
    · by_cases c40 : 40 ≤ r.t + 1
      · have hmk2 := hmk.set hs hs12 c40
        rw [← tk3] at hmk2
        rw [hs] at f1
        have hlt : s < fl.length := by rw [hmk.1]; exact hs12
        have hsplit : fl = fl.take s ++ fl.getD s 0 :: fl.drop (s + 1) := by
          have hd : fl.drop s = fl.getD s 0 :: fl.drop (s + 1) := by
            rw [List.drop_eq_getElem_cons hlt, List.getD_eq_getElem?_getD, List.getElem?_eq_getElem hlt]
            rfl
          rw [← hd, List.take_append_drop]
        have htl2 : (fl.take s).length = s := by rw [List.length_take, Nat.min_eq_left (by omega)]
        have o1 : (ints fl).take s ++ AV.int .i64 (.ofNat 1) :: (ints fl).drop (s + 1) = ints (fl.set s 1) := by
          have := ints_over (fl.take s) (fl.getD s 0) 1 (fl.drop (s + 1)) []
          rw [htl2, ← hsplit, List.append_nil, List.append_nil] at this
          refine Eq.trans this ?_
          rw [List.set_eq_take_append_cons_drop, if_pos hlt]
        have kcl : s + 1 ≤ (ints fl).length := by rw [ints_len]; omega
        repeat (first | ((first | apply Xk.sAny | apply Xk.tAny); (case hok => rfl); (case h => intro C hC; simp (disch := omega) only [w1, ↓reduceIte, Nat.reduceEqDiff, Nat.reduceLeDiff, Nat.reduceAdd, Nat.reduceSub, g1, f9', hlo, c40]; with_reducible exact hC); refine gc ?_) | refine gm ?_)
        repeat (first | ((first | apply Xk.sAny | apply Xk.tAny); (case hok => rfl); (case h => intro C hC; simp (disch := omega) only [w1, ↓reduceIte, Nat.reduceEqDiff, Nat.reduceLeDiff, Nat.reduceAdd, Nat.reduceSub, g1, f9', hlo, c40, f1, hlo1, hs12, hla2, kcl, o1]; with_reducible exact hC); refine gc ?_) | refine gm ?_)
        have hncc : cc ≠ H.next := Ne.symm hlbc
        refine ⟨rfl, fl.set s 1, rfl, hO2.put hla2 _, hle2.put_ hlb00 _, (Heap.get_put_ne _ _ _ hncc).trans g1, (Heap.get_put_ne _ _ _ (Ne.symm hlbp)).trans hp2, hv2.keep fun c o l z x hvc hg => ?_, hag2.keep fun c o l z x hvc hg => ?_, fun b y hb hbc => ?_, Heap.get_put_self _ _ _, hmk2, hnx2⟩
        · rw [Heap.get_put_ne _ _ _ (by rw [← (AV.sl.inj hvc).1]; exact hncc)]
          exact hg
        · rw [Heap.get_put_ne _ _ _ (fun e => by subst e; exact hnlb _ _ _ hvc)]
          exact hg
        · rw [Heap.get_put_ne _ _ _ (fun e => by rw [e, hOk _ (Nat.le_refl _)] at hb; cases hb)]
          exact hold2 b y hb hbc
      · have hmk2 := hmk.keep c40
        rw [← tk3] at hmk2
        repeat (first | ((first | apply Xk.sAny | apply Xk.tAny); (case hok => rfl); (case h => intro C hC; simp (disch := omega) only [w1, ↓reduceIte, Nat.reduceEqDiff, Nat.reduceLeDiff, Nat.reduceAdd, Nat.reduceSub, g1, f9', hlo, c40]; with_reducible exact hC); refine gc ?_) | refine gm ?_)
        exact ⟨rfl, fl, rfl, hO2, hle2, g1, hp2, hv2, hag2, hold2, hla2, hmk2, hnx2⟩
    clear hO2 hle2 g1 hp2 hv2 hag2 hold2 hla2 hnx2 hmk hlb
    clear fl
    rintro k' G1 ⟨flm, rfl, hO2, hle2, g1, hp2, hv2, hag2, hold2, hla2, hmk2, hnx2⟩
    by_cases c4 : (r.t + 1) % 4 = 0
    · rw [if_pos c4] at hag1
      have hgz := Heap.get_new_self G1 (.cells noFr.cells 1)
      have hst : (G1.new (.cells noFr.cells 1)).put G1.next (.cells r.f.cells 1) = G1.new (.cells r.f.cells 1) := Heap.new_put _ _ _
      have hgr := Heap.get_new_self G1 (.cells r.f.cells 1)
      have hstep := HLe.new (hO2 _ (Nat.le_refl _)) (.cells r.f.cells 1)
      have hO3 := hO2.new (.cells r.f.cells 1)
      have hn1 : H.get G1.next = none := hOk _ hnx2
      have hn0 : H0.get G1.next = none := hle.none hn1
      simp only [Fr.cells, noFr] at hgz hst hgr hstep hO3
      repeat (first | ((first | apply Xk.sAny | apply Xk.tAny); (case hok => rfl); (case h => intro C hC; simp (disch := omega) only [w1, ↓reduceIte, Nat.reduceEqDiff, Nat.reduceLeDiff, Nat.reduceAdd, Nat.reduceSub, g1, f9', hlo, c4, f9, hlo9, hgz, hst, hgr]; with_reducible exact hC); refine gc ?_) | refine gm ?_)
      repeat (first | ((first | apply Xk.sAny | apply Xk.tAny); (case hok => rfl); (case h => intro C hC; simp (disch := omega) only [w1, ↓reduceIte, Nat.reduceEqDiff, Nat.reduceLeDiff, Nat.reduceAdd, Nat.reduceSub, hgr]; with_reducible exact hC); refine gc ?_) | refine gm ?_)
      repeat (first | ((first | apply Xk.sAny | apply Xk.tAny); (case hok => rfl); (case h => intro C hC; simp (disch := omega) only [w1, ↓reduceIte, Nat.reduceEqDiff, Nat.reduceLeDiff, Nat.reduceAdd, Nat.reduceSub, hgr]; with_reducible exact hC); refine gc ?_) | refine gm ?_)
      refine refFloor_ev p (.sl cc 0 L.length 10) _ 1 (ticked L (i + 1)) r.f.slot r.f.rid _ (hstep _ _ hp2) (hv2.keep fun c o l z x _ hg => hstep _ _ hg).sl (by omega) _ fun G3 hO4 hle3 => ?_
      rw [hfl1]
      have hs3 := hstep.trans hle3
      have hgr3 := hle3 _ _ hgr
      have hle4 := hle2.trans hs3
      clear hgz hst hgr hstep hO3 hle3
      generalize floorP L r.f.slot r.f.rid = fl at hag1 ⊢
      repeat (first | ((first | apply Xk.sAny | apply Xk.tAny); (case hok => rfl); (case h => intro C hC; simp (disch := omega) only [w1, ↓reduceIte, Nat.reduceEqDiff, Nat.reduceLeDiff, Nat.reduceAdd, Nat.reduceSub, hgr3]; with_reducible exact hC); refine gc ?_) | refine gm ?_)
      have hO5 := hO4.put hgr3 (.cells (r.f.fl fl).cells 1)
      have hle5 : HLe H0 (G3.put G1.next (.cells (r.f.fl fl).cells 1)) := hle4.put_ hn0 _
      have keep5 : ∀ b y, G1.get b = some y → (G3.put G1.next (.cells (r.f.fl fl).cells 1)).get b = some y := fun b y hb => by
        rw [Heap.get_put_ne _ _ _ (fun e => by subst e; rw [hO2 _ (Nat.le_refl _)] at hb; cases hb)]
        exact hs3 b y hb
      have hg5 := Heap.get_put_self G3 G1.next (.cells (r.f.fl fl).cells 1)
      have hag5 := hag2.keep fun c o l z x _ hg => keep5 _ _ hg
      have hlen5 : (frs (againP L (L.take i))).length ≤ i * 9 := by
        rw [frs_len]
        refine Nat.mul_le_mul_right _ ?_
        unfold againP
        rw [List.length_map]
        refine Nat.le_trans (List.length_filter_le _ _) ?_
        rw [List.length_map, List.length_take]
        exact Nat.min_le_left _ _
      have hlen5' : (frs (againP L (L.take i))).length / 9 ≤ i := by omega
      obtain ⟨again2, G6, ea, hO6, hle6, hnx6, hag6, old6⟩ := RV.push (bytes := 88) (w := 1) (row := (r.f.fl fl).cells) hO5 hle5 hag5 rfl rfl (by decide) (by omega) (by omega)
      have gb5 := (G3.put G1.next (.cells (r.f.fl fl).cells 1)).get_new_self (.cells (r.f.fl fl).cells 1)
      simp only [Fr.cells, Fr.fl, Heap.next_put] at hg5 ea gb5
      have nag : ∀ {b : Nat} {y : Blk}, H.get b = some y → ∀ o l z, again ≠ .sl b o l z := fun hb => hfr _ _ hb
      have hcc6 := old6 _ _ (keep5 _ _ g1) (nag hvo)
      have hp6 := old6 _ _ (keep5 _ _ hp2) (nag hp)
      obtain ⟨vc6, vs6⟩ := hag6.sc
      repeat (first | ((first | apply Xk.sAny | apply Xk.tAny); (case hok => rfl); (case h => intro C hC; simp (disch := omega) only [w1, ↓reduceIte, Nat.reduceEqDiff, Nat.reduceLeDiff, Nat.reduceAdd, Nat.reduceSub, hg5, ea, gb5, vc6, vs6]; with_reducible exact hC); refine gc ?_) | refine gm ?_)
      have hag6' : RV H0 G6 0 9 again2 (frs (againP L (L.take (i + 1)))) := by
        rw [hag1]
        unfold frs at hag6 ⊢
        rw [List.flatMap_append]
        exact hag6
      have hv6 := hv2.keep fun c o l z x hvc hg => (old6 _ _ (keep5 _ _ hg) (nag (y := xv) (by rw [← (AV.sl.inj hvc).1]; exact hvo))).1
      have hla6 := old6 _ _ (keep5 _ _ hla2) hnlb
      have hold6 : ∀ b y, H.get b = some y → b ≠ cc → G6.get b = some y := fun b y hb hbc => (old6 _ _ (keep5 _ _ (hold2 b y hb hbc)) (nag hb)).1
      have hfr6 : ∀ b y, H.get b = some y → ∀ o l z, again2 ≠ .sl b o l z := fun b y hb => by
        have : ∃ y', G1.get b = some y' := by
          by_cases e : b = cc
          · exact ⟨_, e ▸ g1⟩
          · exact ⟨_, hold2 b y hb e⟩
        obtain ⟨y', hy'⟩ := this
        exact (old6 _ _ (keep5 _ _ hy') (nag hb)).2
      have hnx6' : H.next ≤ G6.next := by
        have := Heap.lt_of_get hO6 hcc6.1
        rcases Nat.lt_or_ge G6.next H.next with h | h
        · exfalso
          have e1 := Heap.lt_of_get hOk hp
          have h7 : G1.next < (G3.put G1.next (.cells (r.f.fl fl).cells 1)).next := Heap.lt_of_get hO5 (Heap.get_put_self _ _ _)
          omega
        · exact h
      exact ⟨rfl, _, by omega, i + 1, again2, flm, rfl, by omega, hp6.1, hv6, fun b y hb hn => hold6 b y hb (fun e => hn 0 L.length 10 (by rw [e])), hag6', hla6.1, hmk2, hfr6, hla6.2, rfl, hO6, hle6, hnx6'⟩
    · rw [if_neg c4] at hag1
      repeat (first | ((first | apply Xk.sAny | apply Xk.tAny); (case hok => rfl); (case h => intro C hC; simp (disch := omega) only [w1, ↓reduceIte, Nat.reduceEqDiff, Nat.reduceLeDiff, Nat.reduceAdd, Nat.reduceSub, g1, f9', hlo, c4]; with_reducible exact hC); refine gc ?_) | refine gm ?_)
      exact ⟨rfl, _, by omega, i + 1, again, flm, rfl, by omega, hp2, hv2, fun b y hb hn => hold2 b y hb (fun e => hn 0 L.length 10 (by rw [e])), by rw [hag1]; exact hag2, hla2, hmk2, hfr, hnlb, rfl, hO2, hle2, hnx2⟩
  · obtain rfl : i = L.length := by omega
    have etk : ticked L L.length = L.map inc := by unfold ticked; rw [List.take_length, List.drop_length, List.append_nil]
    rw [etk] at hv1
    rw [List.take_length] at hag hmk
    repeat (first | ((first | apply Xk.sAny | apply Xk.tAny); (case hok => rfl); (case h => intro C hC; simp (disch := omega) only [w1, ↓reduceIte, Nat.reduceEqDiff, Nat.reduceLeDiff, Nat.reduceAdd, Nat.reduceSub, c, hp1, hvl]; with_reducible exact hC); refine gc ?_) | refine gm ?_)
    refine Xk.iter [4, 5, 10, 9] (fun m k G2 => ∃ j late, m = 12 - j ∧ j ≤ 12 ∧ RV H0 G2 0 1 late (ints (lateR L j)) ∧ (∀ b y, G.get b = some y → G2.get b = some y ∧ ∀ o l z, late ≠ .sl b o l z) ∧ k = [(4, again), (5, .sl H.next 0 12 1), (10, .int .i64 (.ofNat j)), (9, late)] ∧ G2.Ok ∧ HLe H0 G2) rfl
      ⟨_, 0, .nils, rfl, Nat.zero_le _, .inl ⟨rfl, rfl⟩, fun b y hb => ⟨hb, fun _ _ _ h => (by cases h)⟩, rfl, hO1, hle1⟩ ?_
    rintro m k G2 ⟨j, late, rfl, hj, hr, hkeep, rfl, hO2, hle2⟩
    unfold l1_depotref17_Asks_Tick
    have hlb2 := (hkeep _ _ hlb).1
    by_cases cj : j < 12
    · have hlt : j < fl.length := by rw [hmk.1]; exact cj
      have hmkj := hmk.2 j cj
      have hsc := lateR_succ L j
      have k1 : ((ints fl).drop j).take 1 = [.int .i64 (fl.getD j 0)] := by
        have hd : fl.drop j = fl.getD j 0 :: fl.drop (j + 1) := by
          rw [List.drop_eq_getElem_cons hlt, List.getD_eq_getElem?_getD, List.getElem?_eq_getElem hlt]
          rfl
        unfold ints
        rw [← List.map_drop, hd]
        rfl
      have k2 : j + 1 ≤ (ints fl).length := by rw [ints_len]; omega
      rw [hmkj] at k1
      cases hb : lateB L j with
      | false =>
        rw [hb, if_neg (by decide)] at k1 hsc
        have k1 : ((ints fl).drop j).take 1 = [.int .i64 (.ofNat 0)] := k1
        repeat (first | ((first | apply Xk.sAny | apply Xk.tAny); (case hok => rfl); (case h => intro C hC; simp (disch := omega) only [w1, ↓reduceIte, Nat.reduceEqDiff, Nat.reduceLeDiff, Nat.reduceAdd, Nat.reduceSub, cj, hlb2, k1, k2, Nat.lt_irrefl]; with_reducible exact hC); refine gc ?_) | refine gm ?_)
        exact ⟨rfl, _, by omega, j + 1, late, rfl, by omega, by rw [hsc]; exact hr, hkeep, rfl, hO2, hle2⟩
      | true =>
        rw [hb, if_pos rfl] at k1 hsc
        have k1 : ((ints fl).drop j).take 1 = [.int .i64 (.ofNat 1)] := k1
        have h01 : (0 < 1) = True := eq_true Nat.zero_lt_one
        have hln : (ints (lateR L j)).length / 1 ≤ 12 := by rw [ints_len, Nat.div_one]; exact Nat.le_trans (lateR_len L j) (Nat.le_of_lt cj)
        obtain ⟨late2, G6, ea, hO6, hle6, hnx6, hr6, old6⟩ := RV.push (bytes := 8) (w := 1) (row := [.int .i64 (.ofNat j)]) hO2 hle2 hr rfl rfl (by decide) (by omega) (by omega)
        have gb := G2.get_new_self (.cells [.int .i64 (.ofNat j)] 1)
        obtain ⟨vc, vs⟩ := hr6.sc
        repeat (first | ((first | apply Xk.sAny | apply Xk.tAny); (case hok => rfl); (case h => intro C hC; simp (disch := omega) only [w1, ↓reduceIte, Nat.reduceEqDiff, Nat.reduceLeDiff, Nat.reduceAdd, Nat.reduceSub, cj, hlb2, k1, k2, h01, ea, gb, vc, vs]; with_reducible exact hC); refine gc ?_) | refine gm ?_)
        refine ⟨rfl, _, by omega, j + 1, late2, rfl, by omega, ?_, fun b y hb => old6 _ _ (hkeep b y hb).1 (hkeep b y hb).2, rfl, hO6, hle6⟩
        rw [hsc]
        unfold ints at hr6 ⊢
        rw [List.map_append]
        exact hr6
    · obtain rfl : j = 12 := by omega
      repeat (first | ((first | apply Xk.sAny | apply Xk.tAny); (case hok => rfl); (case h => intro C hC; simp (disch := omega) only [w1, ↓reduceIte, Nat.reduceEqDiff, Nat.reduceLeDiff, Nat.reduceAdd, Nat.reduceSub, cj]; with_reducible exact hC); refine gc ?_) | refine gm ?_)
      have hrv : resV [again, late] = some (.tup [again, late]) := by
        have n1 : again.noT = true := by rcases hag with ⟨rfl, _⟩ | ⟨_, _, _, rfl, _⟩ <;> rfl
        have n2 : late.noT = true := by rcases hr with ⟨rfl, _⟩ | ⟨_, _, _, rfl, _⟩ <;> rfl
        show (bif (again.noT && (late.noT && true)) then some (AV.tup [again, late]) else none) = _
        rw [n1, n2]
        rfl
      refine Ret.ret rfl (by simp only [resKs, resK, cond_true, w1, ↓reduceIte, Nat.reduceEqDiff, pf_depotref17_Asks_Tick]) hrv ?_
      have hp' := (hkeep _ _ hp1).1
      have hex : ∀ b y, H.get b = some y → ∃ y', G.get b = some y' := fun b y hb => by
        by_cases e : ∃ o l z, v = .sl b o l z
        · obtain ⟨o, l, z, e⟩ := e
          obtain ⟨x, hx, _⟩ := hv1.at e
          exact ⟨x, hx⟩
        · exact ⟨y, hold b y hb (fun o l z h => e ⟨o, l, z, h⟩)⟩
      refine hQ G2 again late hO2 hle2 ?_ ⟨v, hp', hp0, ?_, hvp⟩ ?_ hr (fun b y hb => ?_)
      · intro b y hb hni
        have hnv : ∀ o l z, v ≠ .sl b o l z := fun o l z e => hni (.inr ⟨v, _, _, hp, o, l, z, e⟩)
        refine ⟨(hkeep _ _ (hold b y hb hnv)).1, fun h => ?_⟩
        rcases h with h | ⟨v2, n2, w2, h1, o, l, z, h2⟩
        · exact hni (.inl h)
        · rw [hp'] at h1
          cases h1
          exact hnv _ _ _ h2
      · exact hv1.keep fun cc o l z x hvc hg => (hkeep _ _ hg).1
      · exact hag.keep fun cc o l z x hvc hg => (hkeep _ _ hg).1
      · obtain ⟨y', hy'⟩ := hex b y hb
        exact ⟨hfr b y hb, (hkeep _ _ hy').2⟩
end Go.Proofs.Ytcpcajfmkmgjeaa
