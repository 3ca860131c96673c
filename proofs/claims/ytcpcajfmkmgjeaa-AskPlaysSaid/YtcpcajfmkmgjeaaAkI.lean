/- Layer 19: list, cancel. Conditions: none. -/
import Derived.Test.YtcpcajfmkmgjeaaAkH
import Derived.Test.YtcpcajfmkmgjeaaWdU
namespace Go.Proofs.Ytcpcajfmkmgjeaa
open Go.Dp
set_option linter.unusedSimpArgs false
set_option linter.unusedVariables false
set_option maxHeartbeats 2000000
set_option maxRecDepth 8000
attribute [local irreducible] Ex.thnK Ex.inK Ret

theorem RV.base {H0 H1 H : Heap} {k sz : Nat} {v : AV} {cs : List AV} (hle : HLe H0 H1) (h : RV H1 H k sz v cs) : RV H0 H k sz v cs := by
  rcases h with h | ⟨c, len, l, h1, h2, h3, h4, h5, h6⟩
  · exact .inl h
  · exact .inr ⟨c, len, l, h1, h2, h3, h4, h5, hle.none h6⟩
theorem frs_snoc (l : List Fr) (f : Fr) : frs (l ++ [f]) = frs l ++ f.cells := by
  unfold frs
  rw [List.flatMap_append]
  simp
theorem rqs_snoc (l : List Rq) (f : Rq) : rqs (l ++ [f]) = rqs l ++ f.cells := by
  unfold rqs
  rw [List.flatMap_append]
  simp

theorem List_ev (H0 H : Heap) (p : Nat) (L : List Rq) (last : Nat) (hA : Ask H0 H p L last) (hl : L.length ≤ 100000) (Q : AV → Heap → Prop)
    (hQ : ∀ H' out, H'.Ok → HLe H H' → RV H H' 0 9 out (frs (L.map Rq.f)) → Q out H') : Eo lib n_ask_Asks_List [.ptr p 0] H Q := by
  refine Eo.ok fun hOk => ?_
  refine Eo.code at_ask_Asks_List rfl ?_
  obtain ⟨v, hp, hp0, hv, hvp⟩ := hA
  have hvl := hv.lens (by decide)
  rw [rqs_len, Nat.mul_div_cancel _ (by decide)] at hvl
  repeat (first | ((first | apply Xk.sAny | apply Xk.tAny); (case hok => rfl); (case h => intro C hC; simp (disch := omega) only [w1, ↓reduceIte, Nat.reduceEqDiff, Nat.reduceLeDiff, Nat.reduceAdd, Nat.reduceSub, hp, hvl]; with_reducible exact hC); refine gc ?_) | refine gm ?_)
  repeat (first | ((first | apply Xk.sAny | apply Xk.tAny); (case hok => rfl); (case h => intro C hC; simp (disch := omega) only [w1, ↓reduceIte, Nat.reduceEqDiff, Nat.reduceLeDiff, Nat.reduceAdd, Nat.reduceSub, hp, hvl]; with_reducible exact hC); refine gc ?_) | refine gm ?_)
  refine Xk.iter [3, 9, 10, 11] (fun m k G => ∃ i out, m = L.length - i ∧ i ≤ L.length ∧ RV H G 0 9 out (frs ((L.take i).map Rq.f)) ∧ k = [(3, out), (9, v), (10, .int .i64 (.ofNat L.length)), (11, .int .i64 (.ofNat i))] ∧ G.Ok ∧ HLe H G) rfl
    ⟨_, 0, .nils, rfl, Nat.zero_le _, .inl ⟨rfl, rfl⟩, rfl, hOk, HLe.refl _⟩ ?_
  rintro m k G ⟨i, out, rfl, hi, hr, rfl, hO', hle'⟩
  unfold l0_ask_Asks_List
  by_cases c : i < L.length
  · obtain ⟨bb, o, cl, w2, rfl, hg, hrow⟩ := Sl.rowG (g := Rq.cells) (fun _ => rfl) noRq (hv.keep fun c o l z x _ hg => hle' _ _ hg).sl (by omega) (by decide)
    obtain ⟨c1, rest, c2⟩ := hrow i c
    have hsn : L.take (i + 1) = L.take i ++ [L.getD i noRq] := by
      rw [List.take_add_one, List.getD_eq_getElem?_getD, List.getElem?_eq_getElem c]
      rfl
    generalize L.getD i noRq = r at c2 hsn
    have d4 : (cl.drop (o + i * 10)).take 10 = r.cells := by rw [c2]; exact List.take_left' rfl
    have hgz := Heap.get_new_self G (.cells noRq.cells 1)
    have hst : (G.new (.cells noRq.cells 1)).put G.next (.cells r.cells 1) = G.new (.cells r.cells 1) := Heap.new_put _ _ _
    have hgr := Heap.get_new_self G (.cells r.cells 1)
    have hO2 := hO'.new (.cells r.cells 1)
    have hle2 := hle'.new_ hO' (.cells r.cells 1)
    have hstep := HLe.new (hO' _ (Nat.le_refl _)) (.cells r.cells 1)
    have hr2 := hr.keep fun c o l z x _ hg => hstep _ _ hg
    have hlen : (frs ((L.take i).map Rq.f)).length / 9 ≤ i := by
      rw [frs_len, List.length_map, List.length_take, Nat.min_eq_left hi, Nat.mul_div_cancel _ (by decide)]
      exact Nat.le_refl _
    obtain ⟨out2, G6, ea, hO6, hle6, _, hr6, _⟩ := RV.push (bytes := 88) (w := 1) (row := r.f.cells) hO2 hle2 hr2 rfl rfl (by decide) (by omega) (by omega)
    have gb := (G.new (.cells r.cells 1)).get_new_self (.cells r.f.cells 1)
    simp only [Rq.cells, Fr.cells, noRq, noFr, Heap.next_new] at d4 hgz hst hgr ea gb
    obtain ⟨vc, vs⟩ := hr6.sc
    repeat (first | ((first | apply Xk.sAny | apply Xk.tAny); (case hok => rfl); (case h => intro C hC; simp (disch := omega) only [w1, ↓reduceIte, Nat.reduceEqDiff, Nat.reduceLeDiff, Nat.reduceAdd, Nat.reduceSub, c, hg, c1, d4, hgz, hst, hgr]; with_reducible exact hC); refine gc ?_) | refine gm ?_)
    repeat (first | ((first | apply Xk.sAny | apply Xk.tAny); (case hok => rfl); (case h => intro C hC; simp (disch := omega) only [w1, ↓reduceIte, Nat.reduceEqDiff, Nat.reduceLeDiff, Nat.reduceAdd, Nat.reduceSub, c, hg, c1, d4, hgz, hst, hgr, ea, gb, vc, vs]; with_reducible exact hC); refine gc ?_) | refine gm ?_)
    repeat (first | ((first | apply Xk.sAny | apply Xk.tAny); (case hok => rfl); (case h => intro C hC; simp (disch := omega) only [w1, ↓reduceIte, Nat.reduceEqDiff, Nat.reduceLeDiff, Nat.reduceAdd, Nat.reduceSub, hgr, ea, gb, vc, vs]; with_reducible exact hC); refine gc ?_) | refine gm ?_)
    refine ⟨rfl, _, by omega, i + 1, out2, rfl, by omega, ?_, rfl, hO6, hle6⟩
    rw [hsn, List.map_append]
    show RV H G6 0 9 out2 (frs ((L.take i).map Rq.f ++ [r.f]))
    rw [frs_snoc]
    exact hr6
  · repeat (first | ((first | apply Xk.sAny | apply Xk.tAny); (case hok => rfl); (case h => intro C hC; simp (disch := omega) only [w1, ↓reduceIte, Nat.reduceEqDiff, Nat.reduceLeDiff, Nat.reduceAdd, Nat.reduceSub, c]; with_reducible exact hC); refine gc ?_) | refine gm ?_)
    obtain rfl : i = L.length := by omega
    rw [List.take_length] at hr
    repeat (first | ((first | apply Xk.sAny | apply Xk.tAny); (case hok => rfl); (case h => intro C hC; simp (disch := omega) only [w1, ↓reduceIte, Nat.reduceEqDiff, Nat.reduceLeDiff, Nat.reduceAdd, Nat.reduceSub, c]; with_reducible exact hC); refine gc ?_) | refine gm ?_)
    repeat (first | ((first | apply Xk.sAny | apply Xk.tAny); (case hok => rfl); (case h => intro C hC; simp (disch := omega) only [w1, ↓reduceIte, Nat.reduceEqDiff, Nat.reduceLeDiff, Nat.reduceAdd, Nat.reduceSub, c]; with_reducible exact hC); refine gc ?_) | refine gm ?_)
    exact hQ _ _ hO' hle' hr

theorem Cancel_ev (H0 H : Heap) (p : Nat) (L : List Rq) (last : Nat) (slot : Int) (hle : HLe H0 H) (hA : Ask H0 H p L last) (hl : L.length ≤ 100000) (Q : AV → Heap → Prop)
    (hQ : ∀ H' out, H'.Ok → HLe H0 H' → Keeps H H' p → Ask H0 H' p (L.filter fun o => !decide (o.f.slot = slot)) last → RV H H' 0 9 out (frs ((L.filter fun o => decide (o.f.slot = slot)).map Rq.f)) → ¬ (∃ b o l z, out = .sl b o l z ∧ InA H' p b) → Q out H') :
    Eo lib n_ask_Asks_Cancel [.ptr p 0, .int .i64 slot] H Q := by
  refine Eo.ok fun hOk => ?_
  refine Eo.code at_ask_Asks_Cancel rfl ?_
  obtain ⟨v, hp, hp0, hv, hvp⟩ := hA
  have hvl := hv.lens (by decide)
  rw [rqs_len, Nat.mul_div_cancel _ (by decide)] at hvl
  repeat (first | ((first | apply Xk.sAny | apply Xk.tAny); (case hok => rfl); (case h => intro C hC; simp (disch := omega) only [w1, ↓reduceIte, Nat.reduceEqDiff, Nat.reduceLeDiff, Nat.reduceAdd, Nat.reduceSub, hp, hvl]; with_reducible exact hC); refine gc ?_) | refine gm ?_)
  repeat (first | ((first | apply Xk.sAny | apply Xk.tAny); (case hok => rfl); (case h => intro C hC; simp (disch := omega) only [w1, ↓reduceIte, Nat.reduceEqDiff, Nat.reduceLeDiff, Nat.reduceAdd, Nat.reduceSub, hp, hvl]; with_reducible exact hC); refine gc ?_) | refine gm ?_)
  refine Xk.iter [0, 1, 5, 6, 12, 13, 14] (fun m k G => ∃ i out left, m = L.length - i ∧ i ≤ L.length ∧ RV H G 0 9 out (frs (((L.take i).filter fun o => decide (o.f.slot = slot)).map Rq.f)) ∧ RV H G 0 10 left (rqs ((L.take i).filter fun o => !decide (o.f.slot = slot))) ∧
      (∀ b o l z o' l' z', out = .sl b o l z → left ≠ .sl b o' l' z') ∧ k = [(0, .ptr p 0), (1, .int .i64 slot), (5, out), (6, left), (12, v), (13, .int .i64 (.ofNat L.length)), (14, .int .i64 (.ofNat i))] ∧ G.Ok ∧ HLe H G) rfl
    ⟨_, 0, .nils, .nils, rfl, Nat.zero_le _, .inl ⟨rfl, rfl⟩, .inl ⟨rfl, rfl⟩, fun b o l z o' l' z' h => (by cases h), rfl, hOk, HLe.refl _⟩ ?_
  rintro m k G ⟨i, out, left, rfl, hi, hr, hlf, hdis, rfl, hO', hle'⟩
  unfold l0_ask_Asks_Cancel
  by_cases c : i < L.length
  · obtain ⟨bb, o, cl, w2, rfl, hg, hrow⟩ := Sl.rowG (g := Rq.cells) (fun _ => rfl) noRq (hv.keep fun c o l z x _ hg => hle' _ _ hg).sl (by omega) (by decide)
    obtain ⟨c1, rest, c2⟩ := hrow i c
    have hsn : L.take (i + 1) = L.take i ++ [L.getD i noRq] := by
      rw [List.take_add_one, List.getD_eq_getElem?_getD, List.getElem?_eq_getElem c]
      rfl
    generalize L.getD i noRq = r at c2 hsn
    have d4 : (cl.drop (o + i * 10)).take 10 = r.cells := by rw [c2]; exact List.take_left' rfl
    have hgz := Heap.get_new_self G (.cells noRq.cells 1)
    have hst : (G.new (.cells noRq.cells 1)).put G.next (.cells r.cells 1) = G.new (.cells r.cells 1) := Heap.new_put _ _ _
    have hgr := Heap.get_new_self G (.cells r.cells 1)
    have hO2 := hO'.new (.cells r.cells 1)
    have hle2 := hle'.new_ hO' (.cells r.cells 1)
    have hstep := HLe.new (hO' _ (Nat.le_refl _)) (.cells r.cells 1)
    have hr2 := hr.keep fun c o l z x _ hg => hstep _ _ hg
    have hlf2 := hlf.keep fun c o l z x _ hg => hstep _ _ hg
    have hlt : (L.take i).length = i := by rw [List.length_take, Nat.min_eq_left hi]
    by_cases e : r.f.slot = slot
    · have q := decide_eq_true e
      have hlen : (frs (((L.take i).filter fun o => decide (o.f.slot = slot)).map Rq.f)).length / 9 ≤ i := by
        rw [frs_len, List.length_map, Nat.mul_div_cancel _ (by decide)]
        exact Nat.le_trans (List.length_filter_le _ _) (Nat.le_of_eq hlt)
      obtain ⟨out2, G6, ea, hO6, hle6, _, hr6, old6⟩ := RV.push (bytes := 88) (w := 1) (row := r.f.cells) hO2 hle2 hr2 rfl rfl (by decide) (by omega) (by omega)
      have gb := (G.new (.cells r.cells 1)).get_new_self (.cells r.f.cells 1)
      simp only [Rq.cells, Fr.cells, noRq, noFr, Heap.next_new] at d4 hgz hst hgr ea gb
      obtain ⟨vc, vs⟩ := hr6.sc
      repeat (first | ((first | apply Xk.sAny | apply Xk.tAny); (case hok => rfl); (case h => intro C hC; simp (disch := omega) only [w1, ↓reduceIte, Nat.reduceEqDiff, Nat.reduceLeDiff, Nat.reduceAdd, Nat.reduceSub, c, hg, c1, d4, hgz, hst, hgr, q]; with_reducible exact hC); refine gc ?_) | refine gm ?_)
      repeat (first | ((first | apply Xk.sAny | apply Xk.tAny); (case hok => rfl); (case h => intro C hC; simp (disch := omega) only [w1, ↓reduceIte, Nat.reduceEqDiff, Nat.reduceLeDiff, Nat.reduceAdd, Nat.reduceSub, c, hg, c1, d4, hgz, hst, hgr, q]; with_reducible exact hC); refine gc ?_) | refine gm ?_)
      repeat (first | ((first | apply Xk.sAny | apply Xk.tAny); (case hok => rfl); (case h => intro C hC; simp (disch := omega) only [w1, ↓reduceIte, Nat.reduceEqDiff, Nat.reduceLeDiff, Nat.reduceAdd, Nat.reduceSub, hgr, ea, gb, vc, vs]; with_reducible exact hC); refine gc ?_) | refine gm ?_)
      repeat (first | ((first | apply Xk.sAny | apply Xk.tAny); (case hok => rfl); (case h => intro C hC; simp (disch := omega) only [w1, ↓reduceIte, Nat.reduceEqDiff, Nat.reduceLeDiff, Nat.reduceAdd, Nat.reduceSub, hgr, ea, gb, vc, vs]; with_reducible exact hC); refine gc ?_) | refine gm ?_)
      refine ⟨rfl, _, by omega, i + 1, out2, left, rfl, by omega, ?_, ?_, fun b o l z o' l' z' e1 e2 => ?_, rfl, hO6, hle6⟩
      · rw [hsn, List.filter_append, List.map_append]
        have : [r].filter (fun o => decide (o.f.slot = slot)) = [r] := by simp [e]
        rw [this]
        show RV H G6 0 9 out2 (frs (((L.take i).filter fun o => decide (o.f.slot = slot)).map Rq.f ++ [r.f]))
        rw [frs_snoc]
        exact hr6
      · rw [hsn, List.filter_append]
        have : [r].filter (fun o => !decide (o.f.slot = slot)) = [] := by simp [e]
        rw [this, List.append_nil]
        exact hlf2.keep fun c o l z x hvc hg => (old6 _ _ hg (fun o' l' z' e' => hdis _ _ _ _ _ _ _ e' hvc)).1
      · obtain ⟨x, hx, _⟩ := hlf2.at e2
        exact (old6 _ _ hx (fun o'' l'' z'' e3 => hdis _ _ _ _ _ _ _ e3 e2)).2 _ _ _ e1
    · have q := decide_eq_false e
      have hlen : (rqs ((L.take i).filter fun o => !decide (o.f.slot = slot))).length / 10 ≤ i := by
        rw [rqs_len, Nat.mul_div_cancel _ (by decide)]
        exact Nat.le_trans (List.length_filter_le _ _) (Nat.le_of_eq hlt)
      obtain ⟨left2, G6, ea, hO6, hle6, _, hlf6, old6⟩ := RV.push (bytes := 96) (w := 1) (row := r.cells) hO2 hle2 hlf2 rfl rfl (by decide) (by omega) (by omega)
      have gb := (G.new (.cells r.cells 1)).get_new_self (.cells r.cells 1)
      simp only [Rq.cells, Fr.cells, noRq, noFr, Heap.next_new] at d4 hgz hst hgr ea gb
      obtain ⟨vc, vs⟩ := hlf6.sc
      repeat (first | ((first | apply Xk.sAny | apply Xk.tAny); (case hok => rfl); (case h => intro C hC; simp (disch := omega) only [w1, ↓reduceIte, Nat.reduceEqDiff, Nat.reduceLeDiff, Nat.reduceAdd, Nat.reduceSub, c, hg, c1, d4, hgz, hst, hgr, q]; with_reducible exact hC); refine gc ?_) | refine gm ?_)
      repeat (first | ((first | apply Xk.sAny | apply Xk.tAny); (case hok => rfl); (case h => intro C hC; simp (disch := omega) only [w1, ↓reduceIte, Nat.reduceEqDiff, Nat.reduceLeDiff, Nat.reduceAdd, Nat.reduceSub, c, hg, c1, d4, hgz, hst, hgr, q]; with_reducible exact hC); refine gc ?_) | refine gm ?_)
      repeat (first | ((first | apply Xk.sAny | apply Xk.tAny); (case hok => rfl); (case h => intro C hC; simp (disch := omega) only [w1, ↓reduceIte, Nat.reduceEqDiff, Nat.reduceLeDiff, Nat.reduceAdd, Nat.reduceSub, hgr, ea, gb, vc, vs]; with_reducible exact hC); refine gc ?_) | refine gm ?_)
      repeat (first | ((first | apply Xk.sAny | apply Xk.tAny); (case hok => rfl); (case h => intro C hC; simp (disch := omega) only [w1, ↓reduceIte, Nat.reduceEqDiff, Nat.reduceLeDiff, Nat.reduceAdd, Nat.reduceSub, hgr, ea, gb, vc, vs]; with_reducible exact hC); refine gc ?_) | refine gm ?_)
      refine ⟨rfl, _, by omega, i + 1, out, left2, rfl, by omega, ?_, ?_, fun b o l z o' l' z' e1 => ?_, rfl, hO6, hle6⟩
      · rw [hsn, List.filter_append]
        have : [r].filter (fun o => decide (o.f.slot = slot)) = [] := by simp [e]
        rw [this, List.append_nil]
        exact hr2.keep fun c o l z x hvc hg => (old6 _ _ hg (fun o' l' z' e' => hdis _ _ _ _ _ _ _ hvc e')).1
      · rw [hsn, List.filter_append]
        have : [r].filter (fun o => !decide (o.f.slot = slot)) = [r] := by simp [e]
        rw [this, rqs_snoc]
        exact hlf6
      · obtain ⟨x, hx, _⟩ := hr2.at e1
        exact (old6 _ _ hx (fun o'' l'' z'' e3 => hdis _ _ _ _ _ _ _ e1 e3)).2 _ _ _
  · obtain rfl : i = L.length := by omega
    rw [List.take_length] at hr hlf
    have hpG := hle' _ _ hp
    obtain ⟨vc, vs⟩ := hlf.sc
    have hpnone : ∀ {o l z : Nat}, left ≠ .sl p o l z := fun {o l z} e1 => by
      obtain ⟨x, _, e2⟩ := hlf.at e1
      rw [hp] at e2; cases e2
    have hpo : ∀ {o l z : Nat}, out ≠ .sl p o l z := fun {o l z} e1 => by
      obtain ⟨x, _, e2⟩ := hr.at e1
      rw [hp] at e2; cases e2
    repeat (first | ((first | apply Xk.sAny | apply Xk.tAny); (case hok => rfl); (case h => intro C hC; simp (disch := omega) only [w1, ↓reduceIte, Nat.reduceEqDiff, Nat.reduceLeDiff, Nat.reduceAdd, Nat.reduceSub, c]; with_reducible exact hC); refine gc ?_) | refine gm ?_)
    repeat (first | ((first | apply Xk.sAny | apply Xk.tAny); (case hok => rfl); (case h => intro C hC; simp (disch := omega) only [w1, ↓reduceIte, Nat.reduceEqDiff, Nat.reduceLeDiff, Nat.reduceAdd, Nat.reduceSub, c, hpG, vc, vs]; with_reducible exact hC); refine gc ?_) | refine gm ?_)
    repeat (first | ((first | apply Xk.sAny | apply Xk.tAny); (case hok => rfl); (case h => intro C hC; simp (disch := omega) only [w1, ↓reduceIte, Nat.reduceEqDiff, Nat.reduceLeDiff, Nat.reduceAdd, Nat.reduceSub, c]; with_reducible exact hC); refine gc ?_) | refine gm ?_)
    have hpp := Heap.get_put_self G p (.cells [left, .int .i64 (.ofNat last)] 1)
    refine hQ _ _ (hO'.put hpG _) ((hle.trans hle').put_ hp0 _) (fun b y hb hni => ?_) ⟨left, hpp, hp0, ?_, fun _ _ _ => hpnone⟩ ?_ ?_
    · have n2 : b ≠ p := fun e => hni (.inl e)
      refine ⟨by rw [Heap.get_put_ne _ _ _ n2]; exact hle' b y hb, fun h => ?_⟩
      rcases h with h | ⟨v2, n2', w2, h1, o, l, z, rfl⟩
      · exact n2 h
      · rw [hpp] at h1
        cases h1
        obtain ⟨x, _, e2⟩ := hlf.at rfl
        rw [hb] at e2; cases e2
    · exact (hlf.base hle).keep fun c o l z x hvc hg => by
        rw [Heap.get_put_ne _ _ _ (fun e => by subst e; exact hpnone hvc)]
        exact hg
    · exact hr.keep fun c o l z x hvc hg => by
        rw [Heap.get_put_ne _ _ _ (fun e => by subst e; exact hpo hvc)]
        exact hg
    · rintro ⟨b, o, l, z, e1, h⟩
      rcases h with h | ⟨v2, n2', w2, h1, o', l', z', rfl⟩
      · subst h
        exact hpo e1
      · rw [hpp] at h1
        cases h1
        exact hdis _ _ _ _ _ _ _ e1 rfl
end Go.Proofs.Ytcpcajfmkmgjeaa
