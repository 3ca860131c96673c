/- Layer 19: requests under way, as a heap holds them; new, floor. Conditions: none. -/
import Derived.Test.YtcpcajfmkmgjeaaAkB
namespace Go.Proofs.Ytcpcajfmkmgjeaa
open Go.Dp
set_option linter.unusedSimpArgs false
set_option linter.unusedVariables false
set_option maxHeartbeats 2000000
set_option maxRecDepth 8000
attribute [local irreducible] Ex.thnK Ex.inK Ret

/-- rows of a slice -/
theorem Sl.rowG {α : Type} {g : α → List AV} {n : Nat} (hg : ∀ a, (g a).length = n) (d : α) {H : Heap} {v : AV} {l : List α} (h : Sl H n v (l.flatMap g)) (hl : 0 < l.length) (hn : 0 < n) :
    ∃ b o cl w, v = .sl b o l.length n ∧ H.get b = some (.cells cl w) ∧ ∀ i, i < l.length → o + i * n + n ≤ cl.length ∧ ∃ rest, cl.drop (o + i * n) = g (l.getD i d) ++ rest := by
  have hr := fm_len hg l
  rcases h with ⟨rfl, h2⟩ | ⟨b, o, len, cl, w, rest, rfl, h2, h3, h4, h5⟩
  · rw [h2, List.length_nil] at hr
    have := Nat.mul_pos hl hn
    omega
  · have he : len = l.length := Nat.eq_of_mul_eq_mul_right hn (by rw [← h2, hr])
    subst he
    have hl2 : cl.length - o = (l.flatMap g).length + rest.length := by rw [← List.length_drop, h5, List.length_append]
    refine ⟨b, o, cl, w, rfl, h3, fun i hi => ⟨?_, (l.drop (i + 1)).flatMap g ++ rest, ?_⟩⟩
    · have : (i + 1) * n ≤ l.length * n := Nat.mul_le_mul_right _ hi
      rw [Nat.add_mul, Nat.one_mul] at this
      omega
    · have : i * n ≤ l.length * n := Nat.mul_le_mul_right _ (Nat.le_of_lt hi)
      rw [← List.drop_drop, h5, List.drop_append_of_le_length (by omega), fm_drop hg d l i hi, List.append_assoc]
theorem Sl.lensG {α : Type} {g : α → List AV} {n : Nat} (hg : ∀ a, (g a).length = n) {H : Heap} {v : AV} {l : List α} (h : Sl H n v (l.flatMap g)) (hn : 0 < n) : rLensl v = some (.int .i64 (.ofNat l.length)) ∧ v.isSc = true ∧ v.cells = [v] := by
  have hr := fm_len hg l
  rcases h with ⟨rfl, h2⟩ | ⟨b, o, len, cl, w, rest, rfl, h2, h3, h4, h5⟩
  · rw [h2, List.length_nil] at hr
    have : l.length = 0 := by
      rcases Nat.eq_zero_or_pos l.length with h | h
      · exact h
      · have := Nat.mul_pos h hn; omega
    rw [this]
    exact ⟨rfl, rfl, rfl⟩
  · have he : len = l.length := Nat.eq_of_mul_eq_mul_right hn (by rw [← h2, hr])
    subst he
    exact ⟨rfl, rfl, rfl⟩

/-- the blocks of the requests under way -/
def InA (H : Heap) (p b : Nat) : Prop := b = p ∨ ∃ v n w, H.get p = some (.cells [v, n] w) ∧ ∃ o l z, v = .sl b o l z
theorem InA.same {H H' : Heap} {p b : Nat} (h : H'.get p = H.get p) : InA H' p b ↔ InA H p b := by
  unfold InA
  rw [h]
/-- all other blocks are as they were -/
def Keeps (H H' : Heap) (p : Nat) : Prop := ∀ b y, H.get b = some y → ¬ InA H p b → H'.get b = some y ∧ ¬ InA H' p b
theorem Keeps.trans {A B C : Heap} {p : Nat} (h : Keeps A B p) (k : Keeps B C p) : Keeps A C p := fun b y hb hn => let ⟨q1, q2⟩ := h b y hb hn; k b y q1 q2
theorem Keeps.of_le {H H' : Heap} {p : Nat} {x : Blk} (hp : H.get p = some x) (hle : HLe H H') : Keeps H H' p := fun b y hb hn => ⟨hle b y hb, fun h => hn ((InA.same (by rw [hle p x hp, hp])).1 h)⟩

/-- requests under way at p: l, the last number -/
def Ask (H0 H : Heap) (p : Nat) (L : List Rq) (last : Nat) : Prop :=
  ∃ v, H.get p = some (.cells [v, .int .i64 (.ofNat last)] 1) ∧ H0.get p = none ∧ RV H0 H 0 10 v (rqs L) ∧ ∀ o l z, v ≠ .sl p o l z
theorem Ask.mono {H0 H H' : Heap} {p : Nat} {L : List Rq} {last : Nat} (h : Ask H0 H p L last) (hle : HLe H H') : Ask H0 H' p L last := by
  obtain ⟨v, h1, h2, h3, h4⟩ := h
  exact ⟨v, hle _ _ h1, h2, h3.keep fun c o l z x _ hg => hle _ _ hg, h4⟩
theorem Ask.keeps {H0 H H' : Heap} {p : Nat} {L : List Rq} {last : Nat} (h : Ask H0 H p L last) (hle : HLe H H') : Keeps H H' p := by
  obtain ⟨v, h1, _⟩ := h
  exact Keeps.of_le h1 hle
/-- a write elsewhere -/
theorem Ask.keep {H0 H H' : Heap} {p : Nat} {L : List Rq} {last : Nat} (h : Ask H0 H p L last) (hk : ∀ b y, H.get b = some y → InA H p b → H'.get b = some y) : Ask H0 H' p L last ∧ ∀ b, InA H' p b ↔ InA H p b := by
  obtain ⟨v, h1, h2, h3, h4⟩ := h
  have e := hk _ _ h1 (.inl rfl)
  exact ⟨⟨v, e, h2, h3.keep fun c o l z x hv hg => hk c x hg (.inr ⟨v, _, _, h1, o, l, z, hv⟩), h4⟩, fun b => InA.same (by rw [e, h1])⟩
theorem Ask.put {H0 H : Heap} {p : Nat} {L : List Rq} {last : Nat} (h : Ask H0 H p L last) {b : Nat} (hb : ¬ InA H p b) (x : Blk) : Ask H0 (H.put b x) p L last ∧ ∀ c, InA (H.put b x) p c ↔ InA H p c :=
  h.keep fun c y hc hi => by
    have : c ≠ b := fun e => hb (e ▸ hi)
    rw [Heap.get_put_ne _ _ _ this]
    exact hc

theorem New_ev (H0 H : Heap) (hle : HLe H0 H) (Q : AV → Heap → Prop) (hQ : ∀ H', H'.Ok → HLe H H' → Ask H0 H' H.next [] 0 → (∀ b, InA H' H.next b → b = H.next) → Q (.ptr H.next 0) H') : Eo lib n_ask_New [] H Q := by
  refine Eo.ok fun hOk => ?_
  refine Eo.code at_ask_New rfl ?_
  have hbx : nBox [.nils, .int .i64 (.ofNat 0)] = some (.cells [.nils, .int .i64 (.ofNat 0)] 1, ptrTo) := rfl
  repeat (first | ((first | apply Xk.sAny | apply Xk.tAny); (case hok => rfl); (case h => intro C hC; simp (disch := omega) only [w1, ↓reduceIte, Nat.reduceEqDiff, Nat.reduceLeDiff, Nat.reduceAdd, Nat.reduceSub, hbx]; with_reducible exact hC); refine gc ?_) | refine gm ?_)
  repeat (first | ((first | apply Xk.sAny | apply Xk.tAny); (case hok => rfl); (case h => intro C hC; simp (disch := omega) only [w1, ↓reduceIte, Nat.reduceEqDiff, Nat.reduceLeDiff, Nat.reduceAdd, Nat.reduceSub, hbx]; with_reducible exact hC); refine gc ?_) | refine gm ?_)
  have hg := Heap.get_new_self H (.cells [.nils, .int .i64 (.ofNat 0)] 1)
  refine hQ _ (hOk.new _) (HLe.new (hOk _ (Nat.le_refl _)) _) ⟨.nils, hg, hle.none (hOk _ (Nat.le_refl _)), .inl ⟨rfl, rfl⟩, fun _ _ _ h => by cases h⟩ fun b hb => ?_
  rcases hb with rfl | ⟨v, n, w, h1, o, l, z, rfl⟩
  · rfl
  · rw [hg] at h1
    cases h1

theorem floorP_none {L : List Rq} {slot rid : Int} (h : ∀ o ∈ L, ¬ o.f.slot = slot) : floorP L slot rid = rid := by
  unfold floorP
  have : L.find? (fun o => decide (o.f.slot = slot)) = none := List.find?_eq_none.2 fun o ho => by
    have := h o ho
    simpa using this
  rw [this]
theorem floorP_at {L : List Rq} {slot rid : Int} {i : Nat} (h : ∀ o ∈ L.take i, ¬ o.f.slot = slot) (hi : i < L.length) (hs : (L.getD i noRq).f.slot = slot) : floorP L slot rid = if (L.getD i noRq).f.rid < rid then (L.getD i noRq).f.rid else rid := by
  have hd : L.drop i = L.getD i noRq :: L.drop (i + 1) := by
    rw [List.drop_eq_getElem_cons hi, List.getD_eq_getElem?_getD, List.getElem?_eq_getElem hi]
    rfl
  have : L.find? (fun o => decide (o.f.slot = slot)) = some (L.getD i noRq) := by
    rw [← List.take_append_drop i L, List.find?_append, hd, List.find?_cons]
    have h1 : (L.take i).find? (fun o => decide (o.f.slot = slot)) = none := List.find?_eq_none.2 fun o ho => by
      have := h o ho
      simpa using this
    rw [h1, ← hd, List.take_append_drop, decide_eq_true hs]
    rfl
  unfold floorP
  rw [this]

theorem floor_ev (p : Nat) (v n : AV) (w : Nat) (L : List Rq) (slot rid : Int) (H : Heap) (hp : H.get p = some (.cells [v, n] w)) (hv : Sl H 10 v (rqs L)) (hl : L.length ≤ 100000) (Q : AV → Heap → Prop)
    (hQ : ∀ H', H'.Ok → HLe H H' → Q (.int .i64 (floorP L slot rid)) H') : Eo lib n_ask_Asks_floor [.ptr p 0, .int .i64 slot, .int .i64 rid] H Q := by
  refine Eo.ok fun hOk => ?_
  refine Eo.code at_ask_Asks_floor rfl ?_
  obtain ⟨hv1, hv2, hv3⟩ := Sl.lensG (g := Rq.cells) (fun _ => rfl) hv (by decide)
  repeat (first | ((first | apply Xk.sAny | apply Xk.tAny); (case hok => rfl); (case h => intro C hC; simp (disch := omega) only [w1, ↓reduceIte, Nat.reduceEqDiff, Nat.reduceLeDiff, Nat.reduceAdd, Nat.reduceSub, hp, hv1]; with_reducible exact hC); refine gc ?_) | refine gm ?_)
  repeat (first | ((first | apply Xk.sAny | apply Xk.tAny); (case hok => rfl); (case h => intro C hC; simp (disch := omega) only [w1, ↓reduceIte, Nat.reduceEqDiff, Nat.reduceLeDiff, Nat.reduceAdd, Nat.reduceSub, hp, hv1]; with_reducible exact hC); refine gc ?_) | refine gm ?_)
  refine Xk.iter [1, 7, 14, 15, 16] (fun m k H' => ∃ i, m = L.length - i ∧ i ≤ L.length ∧ (∀ o ∈ L.take i, ¬ o.f.slot = slot) ∧ k = [(1, .int .i64 slot), (7, .int .i64 rid), (14, v), (15, .int .i64 (.ofNat L.length)), (16, .int .i64 (.ofNat i))] ∧ H'.Ok ∧ HLe H H') rfl
    ⟨_, 0, rfl, Nat.zero_le _, (fun o h => by cases h), rfl, hOk, HLe.refl _⟩ ?_
  rintro m k H' ⟨i, rfl, hi, hno, rfl, hO', hle'⟩
  unfold l0_ask_Asks_floor
  by_cases c : i < L.length
  · obtain ⟨bb, o, cl, w2, rfl, hg, hrow⟩ := Sl.rowG (g := Rq.cells) (fun _ => rfl) noRq (hv.mono hle') (by omega) (by decide)
    obtain ⟨c1, rest, c2⟩ := hrow i c
    have hfa := fun h => floorP_at (L := L) (slot := slot) (rid := rid) hno c h
    have hsn : L.take (i + 1) = L.take i ++ [L.getD i noRq] := by
      rw [List.take_add_one, List.getD_eq_getElem?_getD, List.getElem?_eq_getElem c]
      rfl
    generalize L.getD i noRq = r at c2 hfa hsn
    have d4 : (cl.drop (o + i * 10)).take 10 = r.cells := by rw [c2]; exact List.take_left' rfl
    have hgz := Heap.get_new_self H' (.cells noRq.cells 1)
    have hst : (H'.new (.cells noRq.cells 1)).put H'.next (.cells r.cells 1) = H'.new (.cells r.cells 1) := Heap.new_put _ _ _
    have hgr := Heap.get_new_self H' (.cells r.cells 1)
    have hO2 := hO'.new (.cells r.cells 1)
    have hl2 := hle'.new_ hO' (.cells r.cells 1)
    unfold Rq.cells noRq noFr at hgz hst
    unfold Rq.cells at d4 hgr hO2 hl2
    by_cases e : r.f.slot = slot
    · have hfa := hfa e
      have he := decide_eq_true e
      have hnb : (!true) = false := rfl
      by_cases d : r.f.rid < rid
      · have hib : ible rid r.f.rid = false := by rw [ible_eq, decide_eq_false (Int.not_le.2 d)]
        rw [if_pos d] at hfa
        repeat (first | ((first | apply Xk.sAny | apply Xk.tAny); (case hok => rfl); (case h => intro C hC; simp (disch := omega) only [w1, ↓reduceIte, Nat.reduceEqDiff, Nat.reduceLeDiff, Nat.reduceAdd, Nat.reduceSub, c, hg, c1, d4, hgz, hst, hgr, he, hnb]; with_reducible exact hC); refine gc ?_) | refine gm ?_)
        repeat (first | ((first | apply Xk.sAny | apply Xk.tAny); (case hok => rfl); (case h => intro C hC; simp (disch := omega) only [w1, ↓reduceIte, Nat.reduceEqDiff, Nat.reduceLeDiff, Nat.reduceAdd, Nat.reduceSub, c, hg, c1, d4, hgz, hst, hgr, he, hnb]; with_reducible exact hC); refine gc ?_) | refine gm ?_)
        repeat (first | ((first | apply Xk.sAny | apply Xk.tAny); (case hok => rfl); (case h => intro C hC; simp (disch := omega) only [w1, ↓reduceIte, Nat.reduceEqDiff, Nat.reduceLeDiff, Nat.reduceAdd, Nat.reduceSub, hgr, rMm, mms, mm, kbeq_eq]; with_reducible exact hC); refine gc ?_) | refine gm ?_)
        repeat (first | ((first | apply Xk.sAny | apply Xk.tAny); (case hok => rfl); (case h => intro C hC; simp (disch := omega) only [w1, ↓reduceIte, Nat.reduceEqDiff, Nat.reduceLeDiff, Nat.reduceAdd, Nat.reduceSub, hgr, rMm, mms, mm, kbeq_eq]; with_reducible exact hC); refine gc ?_) | refine gm ?_)
        have hh := hQ _ hO2 hl2
        rw [hfa] at hh
        show Q (.int .i64 (bif ible rid r.f.rid then rid else r.f.rid)) _
        rw [hib]
        exact hh
      · have hib : ible rid r.f.rid = true := by rw [ible_eq, decide_eq_true (Int.not_lt.1 d)]
        rw [if_neg d] at hfa
        repeat (first | ((first | apply Xk.sAny | apply Xk.tAny); (case hok => rfl); (case h => intro C hC; simp (disch := omega) only [w1, ↓reduceIte, Nat.reduceEqDiff, Nat.reduceLeDiff, Nat.reduceAdd, Nat.reduceSub, c, hg, c1, d4, hgz, hst, hgr, he, hnb]; with_reducible exact hC); refine gc ?_) | refine gm ?_)
        repeat (first | ((first | apply Xk.sAny | apply Xk.tAny); (case hok => rfl); (case h => intro C hC; simp (disch := omega) only [w1, ↓reduceIte, Nat.reduceEqDiff, Nat.reduceLeDiff, Nat.reduceAdd, Nat.reduceSub, c, hg, c1, d4, hgz, hst, hgr, he, hnb]; with_reducible exact hC); refine gc ?_) | refine gm ?_)
        repeat (first | ((first | apply Xk.sAny | apply Xk.tAny); (case hok => rfl); (case h => intro C hC; simp (disch := omega) only [w1, ↓reduceIte, Nat.reduceEqDiff, Nat.reduceLeDiff, Nat.reduceAdd, Nat.reduceSub, hgr, rMm, mms, mm, kbeq_eq]; with_reducible exact hC); refine gc ?_) | refine gm ?_)
        repeat (first | ((first | apply Xk.sAny | apply Xk.tAny); (case hok => rfl); (case h => intro C hC; simp (disch := omega) only [w1, ↓reduceIte, Nat.reduceEqDiff, Nat.reduceLeDiff, Nat.reduceAdd, Nat.reduceSub, hgr, rMm, mms, mm, kbeq_eq]; with_reducible exact hC); refine gc ?_) | refine gm ?_)
        have hh := hQ _ hO2 hl2
        rw [hfa] at hh
        show Q (.int .i64 (bif ible rid r.f.rid then rid else r.f.rid)) _
        rw [hib]
        exact hh
    · have he := decide_eq_false e
      have hnb : (!false) = true := rfl
      repeat (first | ((first | apply Xk.sAny | apply Xk.tAny); (case hok => rfl); (case h => intro C hC; simp (disch := omega) only [w1, ↓reduceIte, Nat.reduceEqDiff, Nat.reduceLeDiff, Nat.reduceAdd, Nat.reduceSub, c, hg, c1, d4, hgz, hst, hgr, he, hnb]; with_reducible exact hC); refine gc ?_) | refine gm ?_)
      repeat (first | ((first | apply Xk.sAny | apply Xk.tAny); (case hok => rfl); (case h => intro C hC; simp (disch := omega) only [w1, ↓reduceIte, Nat.reduceEqDiff, Nat.reduceLeDiff, Nat.reduceAdd, Nat.reduceSub, c, hg, c1, d4, hgz, hst, hgr, he, hnb]; with_reducible exact hC); refine gc ?_) | refine gm ?_)
      repeat (first | ((first | apply Xk.sAny | apply Xk.tAny); (case hok => rfl); (case h => intro C hC; simp (disch := omega) only [w1, ↓reduceIte, Nat.reduceEqDiff, Nat.reduceLeDiff, Nat.reduceAdd, Nat.reduceSub, hgr]; with_reducible exact hC); refine gc ?_) | refine gm ?_)
      refine ⟨rfl, _, by omega, i + 1, rfl, by omega, ?_, rfl, hO2, hl2⟩
      intro o' ho'
      rw [hsn] at ho'
      rcases List.mem_append.1 ho' with h | h
      · exact hno o' h
      · rw [List.mem_singleton] at h
        rw [h]
        exact e
  · repeat (first | ((first | apply Xk.sAny | apply Xk.tAny); (case hok => rfl); (case h => intro C hC; simp (disch := omega) only [w1, ↓reduceIte, Nat.reduceEqDiff, Nat.reduceLeDiff, Nat.reduceAdd, Nat.reduceSub, c]; with_reducible exact hC); refine gc ?_) | refine gm ?_)
    obtain rfl : i = L.length := by omega
    rw [List.take_length] at hno
    rw [floorP_none hno] at hQ
    repeat (first | ((first | apply Xk.sAny | apply Xk.tAny); (case hok => rfl); (case h => intro C hC; simp (disch := omega) only [w1, ↓reduceIte, Nat.reduceEqDiff, Nat.reduceLeDiff, Nat.reduceAdd, Nat.reduceSub, c]; with_reducible exact hC); refine gc ?_) | refine gm ?_)
    exact hQ _ hO' hle'
end Go.Proofs.Ytcpcajfmkmgjeaa
