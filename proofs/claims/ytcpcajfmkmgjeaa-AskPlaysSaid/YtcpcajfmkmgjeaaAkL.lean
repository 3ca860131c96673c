/- Layer 19: the fence, plainly. Conditions: none. -/
import Derived.Test.YtcpcajfmkmgjeaaAkJ
namespace Go.Proofs.Ytcpcajfmkmgjeaa
open Go.Dp
set_option linter.unusedSimpArgs false
set_option linter.unusedVariables false
set_option maxHeartbeats 400000
set_option maxRecDepth 8000
attribute [local irreducible] Ex.thnK Ex.inK Ret

abbrev Ris (L : List Rq) : Prop := L.Pairwise fun a b => a.f.rid < b.f.rid
theorem floor_le_rid (L : List Rq) (slot rid : Int) : floorP L slot rid ≤ rid := by
  unfold floorP
  split
  · split <;> omega
  · exact Int.le_refl _
theorem floor_le {L : List Rq} (h : Ris L) {o : Rq} (ho : o ∈ L) (rid : Int) : floorP L o.f.slot rid ≤ o.f.rid := by
  unfold floorP
  cases hf : L.find? (fun o' => decide (o'.f.slot = o.f.slot)) with
  | none =>
    have := List.find?_eq_none.1 hf o ho
    simp at this
  | some a =>
    have hle : a.f.rid ≤ o.f.rid := by
      obtain ⟨_, xs, bs, rfl, hno⟩ := List.find?_eq_some_iff_append.1 hf
      rcases List.mem_append.1 ho with h1 | h1
      · have := hno o h1
        simp at this
      · rcases List.mem_cons.1 h1 with rfl | h1
        · exact Int.le_refl _
        · exact Int.le_of_lt ((List.pairwise_cons.1 (List.pairwise_append.1 h).2.1).1 o h1)
    show (if a.f.rid < rid then a.f.rid else rid) ≤ o.f.rid
    split <;> omega

/-- what a slot's floor becomes -/
def seeL (fl : List Int) (f : Fr) : List Int := fl.set f.slot.toNat (if f.floor ≤ fl.getD f.slot.toNat 0 then fl.getD f.slot.toNat 0 else f.floor)
theorem seeL_len (fl : List Int) (f : Fr) : (seeL fl f).length = fl.length := List.length_set ..
theorem seeL_at (fl : List Int) (f : Fr) (k : Nat) : (seeL fl f).getD k 0 ≤ (if f.floor ≤ fl.getD k 0 then fl.getD k 0 else f.floor) ∧ (k ≠ f.slot.toNat → (seeL fl f).getD k 0 = fl.getD k 0) := by
  unfold seeL
  constructor
  · rw [List.getD_eq_getElem?_getD, List.getElem?_set]
    by_cases e : f.slot.toNat = k
    · subst e
      rw [if_pos rfl]
      split
      · exact Int.le_refl _
      · rename_i h
        rw [List.getD_eq_getElem?_getD, List.getElem?_eq_none (by omega)]
        show (0 : Int) ≤ if f.floor ≤ 0 then 0 else f.floor
        split <;> omega
    · rw [if_neg e, ← List.getD_eq_getElem?_getD]
      split <;> omega
  · intro h
    rw [List.getD_eq_getElem?_getD, List.getElem?_set, if_neg (fun e => h e.symm), ← List.getD_eq_getElem?_getD]

/-- the fence -/
structure Fen (fl : List Int) (L : List Rq) (i : Nat) : Prop where
  len : fl.length = 12
  rng : ∀ o ∈ L, ∃ s r : Nat, o.f.slot = .ofNat s ∧ s ≤ 2 ∧ o.f.rid = .ofNat r ∧ 1 ≤ r ∧ r ≤ i ∧ o.f.inc = .ofNat 0
  ris : Ris L
  fen : ∀ o ∈ L, fl.getD o.f.slot.toNat 0 ≤ o.f.rid
  bnd : ∀ k, fl.getD k 0 ≤ (i : Int)
  cnt : L.length ≤ i
theorem Fen.see {fl : List Int} {L : List Rq} {i : Nat} (h : Fen fl L i) (f : Fr) {sf : Nat} (hsf : f.slot = .ofNat sf) (h1 : ∀ o ∈ L, o.f.slot = f.slot → f.floor ≤ o.f.rid) (h2 : f.floor ≤ (i : Int)) : Fen (seeL fl f) L i := by
  refine ⟨by rw [seeL_len]; exact h.len, h.rng, h.ris, fun o ho => ?_, fun k => ?_, h.cnt⟩
  · obtain ⟨s, r, q1, _⟩ := h.rng o ho
    have h3 := h.fen o ho
    obtain ⟨a1, a2⟩ := seeL_at fl f o.f.slot.toNat
    by_cases e : o.f.slot.toNat = f.slot.toNat
    · have e2 : o.f.slot = f.slot := by
        rw [q1, hsf] at e ⊢
        rw [show s = sf from e]
      have := h1 o ho e2
      refine Int.le_trans a1 ?_
      split <;> omega
    · rw [a2 e]
      exact h3
  · obtain ⟨a1, _⟩ := seeL_at fl f k
    have := h.bnd k
    refine Int.le_trans a1 ?_
    split <;> omega

theorem Fen.mono {fl : List Int} {L : List Rq} {i j : Nat} (h : Fen fl L i) (hij : i ≤ j) : Fen fl L j :=
  ⟨h.len, fun o ho => let ⟨s, r, a, b, c, d, e, f⟩ := h.rng o ho; ⟨s, r, a, b, c, d, Nat.le_trans e hij, f⟩, h.ris, h.fen, fun k => by have := h.bnd k; omega, Nat.le_trans h.cnt hij⟩
theorem Fen.begin {fl : List Int} {L : List Rq} {i s : Nat} (h : Fen fl L i) (hs : s ≤ 2) :
    Fen (seeL fl ((scanF s).begun (.ofNat (i + 1)) (floorP L (scanF s).slot (.ofNat (i + 1))))) (L ++ [Rq.mk ((scanF s).begun (.ofNat (i + 1)) (floorP L (scanF s).slot (.ofNat (i + 1)))) 0]) (i + 1) := by
  have hfl := floor_le_rid L (scanF s).slot (.ofNat (i + 1))
  have hfo := fun o (ho : o ∈ L) => floor_le h.ris ho (.ofNat (i + 1))
  generalize hfv : floorP L (scanF s).slot (.ofNat (i + 1)) = fv at hfl ⊢
  have h0 : Fen fl (L ++ [Rq.mk ((scanF s).begun (.ofNat (i + 1)) fv) 0]) (i + 1) := by
    refine ⟨h.len, fun o ho => ?_, ?_, fun o ho => ?_, fun k => by have := h.bnd k; omega, by rw [List.length_append]; exact Nat.add_le_add_right h.cnt 1⟩
    · rcases List.mem_append.1 ho with q | q
      · obtain ⟨s', r, a, b, c, d, e, f⟩ := h.rng o q
        exact ⟨s', r, a, b, c, d, Nat.le_succ_of_le e, f⟩
      · rw [List.mem_singleton] at q
        subst q
        exact ⟨s, i + 1, rfl, hs, rfl, Nat.succ_le_succ (Nat.zero_le _), Nat.le_refl _, rfl⟩
    · refine List.pairwise_append.2 ⟨h.ris, List.pairwise_singleton _ _, fun a ha b hb => ?_⟩
      rw [List.mem_singleton] at hb
      subst hb
      obtain ⟨s', r, _, _, c, d, e, _⟩ := h.rng a ha
      rw [c]
      show (r : Int) < ((i + 1 : Nat) : Int)
      omega
    · rcases List.mem_append.1 ho with q | q
      · exact h.fen o q
      · rw [List.mem_singleton] at q
        subst q
        have := h.bnd (Rq.mk ((scanF s).begun (.ofNat (i + 1)) fv) 0).f.slot.toNat
        show _ ≤ ((i + 1 : Nat) : Int)
        omega
  refine h0.see _ (sf := s) rfl (fun o ho e => ?_) hfl
  rcases List.mem_append.1 ho with q | q
  · have := hfo o q
    rw [show o.f.slot = (scanF s).slot from e, hfv] at this
    exact this
  · rw [List.mem_singleton] at q
    subst q
    exact hfl
theorem Fen.erase {fl : List Int} {L : List Rq} {i : Nat} (h : Fen fl L i) (k : Nat) : Fen fl (L.eraseIdx k) i := by
  have hs := List.eraseIdx_sublist L k
  exact ⟨h.len, fun o ho => h.rng o (hs.mem ho), h.ris.sublist hs, fun o ho => h.fen o (hs.mem ho), h.bnd, Nat.le_trans hs.length_le h.cnt⟩
theorem Fen.tick {fl : List Int} {L : List Rq} {i : Nat} (h : Fen fl L i) : Fen fl (L.map inc) i := by
  refine ⟨h.len, fun o ho => ?_, ?_, fun o ho => ?_, h.bnd, by rw [List.length_map]; exact h.cnt⟩
  · obtain ⟨o', ho', rfl⟩ := List.mem_map.1 ho
    exact h.rng o' ho'
  · exact List.pairwise_map.2 h.ris
  · obtain ⟨o', ho', rfl⟩ := List.mem_map.1 ho
    exact h.fen o' ho'
theorem ris_inj {L : List Rq} (h : Ris L) {i j : Nat} (hi : i < L.length) (hj : j < L.length) (e : (L.getD i noRq).f.rid = (L.getD j noRq).f.rid) : i = j := by
  rw [List.getD_eq_getElem?_getD, List.getD_eq_getElem?_getD, List.getElem?_eq_getElem hi, List.getElem?_eq_getElem hj] at e
  have e : L[i].f.rid = L[j].f.rid := e
  rcases Nat.lt_trichotomy i j with q | q | q
  · have := List.pairwise_iff_getElem.1 h i j hi hj q
    omega
  · exact q
  · have := List.pairwise_iff_getElem.1 h j i hj hi q
    omega
theorem ris_erase {L : List Rq} (h : Ris L) {k : Nat} (hk : k < L.length) {o : Rq} (ho : o ∈ L.eraseIdx k) : o.f.rid ≠ (L.getD k noRq).f.rid := by
  obtain ⟨j, hj1, hj2⟩ := List.mem_eraseIdx_iff_getElem?.1 ho
  obtain ⟨hj, rfl⟩ := List.getElem?_eq_some_iff.1 hj2
  intro e
  exact hj1 (ris_inj h hj hk (by rw [List.getD_eq_getElem?_getD (i := j), List.getElem?_eq_getElem hj]; exact e))

theorem See_ev (f : Fr) (sf : Nat) (hsf : f.slot = .ofNat sf) (hs : sf < 12) (fl : List Int) (hl : fl.length = 12) (fb : Nat) (H : Heap) (hg : H.get fb = some (.cells (ints fl) 1)) (Q : AV → Heap → Prop)
    (hQ : ∀ H', H'.Ok → H'.get fb = some (.cells (ints (seeL fl f)) 1) → (∀ b y, H.get b = some y → b ≠ fb → H'.get b = some y) → H.next ≤ H'.next → Q (.tup []) H') : Eo lib n_depotlaw19_AskOnce_1 [.agg f.cells, .ptr fb 0] H Q := by
  refine Eo.ok fun hOk => ?_
  refine Eo.code at_depotlaw19_AskOnce_1 rfl ?_
  have hbx := box_fr f
  have ha := Heap.get_new_self H (.cells f.cells 1)
  have hO := hOk.new (.cells f.cells 1)
  have hle := HLe.new (hOk _ (Nat.le_refl _)) (.cells f.cells 1)
  have hg1 := hle _ _ hg
  have hnf : H.next ≠ fb := fun e => by rw [← e, hOk _ (Nat.le_refl _)] at hg; cases hg
  have hlt : sf < fl.length := by omega
  have hsplit : fl = fl.take sf ++ fl.getD sf 0 :: fl.drop (sf + 1) := by
    have hd : fl.drop sf = fl.getD sf 0 :: fl.drop (sf + 1) := by
      rw [List.drop_eq_getElem_cons hlt, List.getD_eq_getElem?_getD, List.getElem?_eq_getElem hlt]
      rfl
    rw [← hd, List.take_append_drop]
  have htl : (fl.take sf).length = sf := by rw [List.length_take, Nat.min_eq_left (by omega)]
  have k1 : ((ints fl).drop sf).take 1 = [.int .i64 (fl.getD sf 0)] := by
    have := ints_at (fl.take sf) (fl.getD sf 0) (fl.drop (sf + 1)) []
    rw [htl, ← hsplit, List.append_nil] at this
    exact this
  have o1 : ∀ x, over (ints fl) sf [.int .i64 x] = ints (fl.set sf x) := fun x => by
    have := ints_over (fl.take sf) (fl.getD sf 0) x (fl.drop (sf + 1)) []
    rw [htl, ← hsplit, List.append_nil, List.append_nil] at this
    rw [this, List.set_eq_take_append_cons_drop, if_pos hlt]
  have hcl : sf + 1 ≤ (ints fl).length := by rw [ints_len]; omega
  have hsee : seeL fl f = fl.set sf (if f.floor ≤ fl.getD sf 0 then fl.getD sf 0 else f.floor) := by
    unfold seeL
    rw [hsf]
    rfl
  rw [hsee] at hQ
  simp only [Fr.cells] at hbx ha hO hle hg1 ⊢
  rw [hsf] at hbx ha hO hle hg1 ⊢
  generalize hx : fl.getD sf 0 = x at k1 hQ
  have o1' : (ints fl).take sf ++ AV.int .i64 (if f.floor ≤ x then x else f.floor) :: (ints fl).drop (sf + 1) = ints (fl.set sf (if f.floor ≤ x then x else f.floor)) := o1 _
  by_cases c : f.floor ≤ x
  · have hib : ible f.floor x = true := by rw [ible_eq]; exact decide_eq_true c
    rw [if_pos c] at o1' hQ
    repeat (first | ((first | apply Xk.sAny | apply Xk.tAny); (case hok => rfl); (case h => intro C hC; simp (disch := omega) only [w1, ↓reduceIte, Nat.reduceEqDiff, Nat.reduceLeDiff, Nat.reduceAdd, Nat.reduceSub, hbx]; with_reducible exact hC); refine gc ?_) | refine gm ?_)
    repeat (first | ((first | apply Xk.sAny | apply Xk.tAny); (case hok => rfl); (case h => intro C hC; simp (disch := omega) only [w1, ↓reduceIte, Nat.reduceEqDiff, Nat.reduceLeDiff, Nat.reduceAdd, Nat.reduceSub, ha, hg1, k1, hcl, hs, rIaarr, rMm, mms, mm, hib, kbeq_eq, o1']; with_reducible exact hC); refine gc ?_) | refine gm ?_)
    refine hQ _ (hO.put hg1 _) (Heap.get_put_self _ _ _) (fun b y hb hbf => ?_) (Nat.le_succ _)
    rw [Heap.get_put_ne _ _ _ hbf]
    exact hle b y hb
  · have hib : ible f.floor x = false := by rw [ible_eq]; exact decide_eq_false c
    rw [if_neg c] at o1' hQ
    repeat (first | ((first | apply Xk.sAny | apply Xk.tAny); (case hok => rfl); (case h => intro C hC; simp (disch := omega) only [w1, ↓reduceIte, Nat.reduceEqDiff, Nat.reduceLeDiff, Nat.reduceAdd, Nat.reduceSub, hbx]; with_reducible exact hC); refine gc ?_) | refine gm ?_)
    repeat (first | ((first | apply Xk.sAny | apply Xk.tAny); (case hok => rfl); (case h => intro C hC; simp (disch := omega) only [w1, ↓reduceIte, Nat.reduceEqDiff, Nat.reduceLeDiff, Nat.reduceAdd, Nat.reduceSub, ha, hg1, k1, hcl, hs, rIaarr, rMm, mms, mm, hib, kbeq_eq, o1']; with_reducible exact hC); refine gc ?_) | refine gm ?_)
    refine hQ _ (hO.put hg1 _) (Heap.get_put_self _ _ _) (fun b y hb hbf => ?_) (Nat.le_succ _)
    rw [Heap.get_put_ne _ _ _ hbf]
    exact hle b y hb
end Go.Proofs.Ytcpcajfmkmgjeaa
