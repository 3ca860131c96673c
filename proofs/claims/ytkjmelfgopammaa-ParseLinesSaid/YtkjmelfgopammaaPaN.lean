/- The law ParseLines, over the clean machine. Conditions: none. -/
import Derived.Test.YtkjmelfgopammaaPaM
namespace Go.Proofs.Ytkjmelfgopammaa
open Go.Dp Go.Wd
set_option linter.unusedSimpArgs false
set_option linter.unusedVariables false
set_option maxHeartbeats 2000000
set_option maxRecDepth 4000
attribute [local irreducible] Ex.thnK Ex.inK Ret

def okCh (c : UInt8) : Bool := !decide (c.toNat = 10) && !decide (c.toNat = 13)
def pS : PS := ⟨0, [], 0, noReq, true⟩
def lineEv (t : List UInt8) : List Ev × PS :=
  if (lineOf t).2 = 4 then ([evAns 12 []], p0) else if (lineOf t).2 ≠ 0 then ([evAns 13 badLine], p0) else if (lineOf t).1.verb = 17 then ([evAns 15 []], pS) else ([evReq (lineOf t).1], p0)
theorem upTo_none : ∀ (t : List UInt8), t.all okCh = true → upTo 10 t = t.length
  | [], _ => rfl
  | c :: r, h => by
    rw [List.all_cons, Bool.and_eq_true] at h
    unfold upTo
    have hc : c ≠ 10 := by
      intro e; subst e; exact absurd h.1 (by decide)
    rw [if_neg hc, upTo_none r h.2, List.length_cons]
theorem run_p0 : runP p0 = ([], p0) := rfl
theorem feed_line {t : List UInt8} (h : t.all okCh = true) (hl : t.length ≤ 500) (hst : storing (lineOf t).1.verb = false) : feed p0 (t ++ [13, 10]) = lineEv t := by
  have hs : p0.shut = false := rfl
  rw [feed_eq hs]
  have hu := upTo_app_none 10 t [13, 10] (upTo_none t h)
  have hu2 : upTo 10 [13, 10] = 1 := rfl
  rw [hu2] at hu
  have hlen : (t ++ [13, 10]).length = t.length + 2 := by rw [List.length_append]; rfl
  have htk : (t ++ [13, 10]).take (t.length + 1) = t ++ [13] := by
    rw [List.take_append]
    rw [List.take_of_length_le (by omega)]
    have : t.length + 1 - t.length = 1 := by omega
    rw [this]; rfl
  have hdr : (t ++ [13, 10]).drop (t.length + 1 + 1) = [] := List.drop_eq_nil_of_le (by omega)
  have htr : trimCR (t ++ [13]) = t := by
    unfold trimCR
    rw [List.length_append]
    simp
  have hq : PS.Ok { p0 with left := p0.left ++ (t ++ [13, 10]) } := okM (by decide) (fun h => nomatch h) (fun _ => rfl) (by decide) (fun h => nomatch h) (fun _ => rfl)
  have hstep : stepP { p0 with left := p0.left ++ (t ++ [13, 10]) } = (true, (lineEv t).2, (lineEv t).1) := by
    show lineStep ⟨0, t ++ [13, 10], 0, noReq, false⟩ = _
    unfold lineStep
    simp only [hu]
    rw [if_neg (by omega), if_neg (by omega), htk, htr, hdr, doLine_eq]
    unfold lineEv
    split
    · rfl
    split
    · rfl
    split
    · rfl
    rw [if_neg (by rw [hst]; simp), if_neg (by rw [hst]; simp)]
    rfl
  rw [runP_go hq hstep rfl]
  have : runP (lineEv t).2 = ([], (lineEv t).2) := by
    unfold lineEv
    split
    · exact run_p0
    split
    · exact run_p0
    split
    · rfl
    · exact run_p0
  rw [this]
  simp

theorem all_take {t : List UInt8} {j : Nat} (h : j < t.length) : (t.take (j + 1)).all okCh = ((t.take j).all okCh && okCh (t.getD j 0)) := by
  rw [List.take_add_one, List.getElem?_eq_getElem h, List.all_append, List.getD_eq_getElem?_getD, List.getElem?_eq_getElem h]
  simp
theorem evs_one {H : Heap} {kv : AV} {e : Ev} (h : Own noHeap H 0 1 kv (strs e.r.keys)) (hO : H.Ok) : Evs (H.new (.cells (evC kv e) 1)) (.sl H.next 0 1 18) [e] :=
  ⟨evC kv e, .inr ⟨H.next, 1, rfl, rfl, Heap.get_new_self _ _, rfl⟩, kv, [], (List.append_nil _).symm, h.mono (HLe.new (hO _ (Nat.le_refl _)) _), rfl⟩
theorem shut_p0 : p0.shut = false := rfl
theorem shut_pS : pS.shut = true := rfl
theorem left_p0 : p0.left.length = 0 := rfl
theorem left_pS : pS.left.length = 0 := rfl
theorem pS_ok : pS.Ok := okM (by decide) (fun h => nomatch h) (fun _ => rfl) (by decide) (fun h => nomatch h) (fun _ => rfl)

theorem PLines_law (va : AV) (l : List (List UInt8)) (H : Heap) (ha : Sl H 1 va (strs l)) (hl : l.length < 9223372036854775808) : Eo lib n_depotlaw13_ParseLines [va] H fun v _ => v = .bool true := by
  refine Eo.ok fun hOk => ?_
  have la := ha.lens
  refine Eo.code at_depotlaw13_ParseLines rfl ?_
  repeat (first | ((first | apply Xk.sAny | apply Xk.tAny); (case hok => rfl); (case h => intro C hC; simp (disch := omega) only [w1, ↓reduceIte, Nat.reduceEqDiff, Nat.reduceLeDiff, Nat.reduceAdd, Nat.reduceSub]; with_reducible exact hC); refine gc ?_) | refine gm ?_)
  refine New_ev _ _ fun H1 hO1 hle1 hn1 hp1 => ?_
  have AP : AtP H1 H.next p0 := ⟨.nils, hp1, .inl ⟨rfl, rfl⟩, .inl rfl⟩
  have hbp0 : H.get H.next = none := hOk _ (Nat.le_refl _)
  repeat (first | ((first | apply Xk.sAny | apply Xk.tAny); (case hok => rfl); (case h => intro C hC; simp (disch := omega) only [w1, ↓reduceIte, Nat.reduceEqDiff, Nat.reduceLeDiff, Nat.reduceAdd, Nat.reduceSub, eqc_nilp]; with_reducible exact hC); refine gc ?_) | refine gm ?_)
  generalize H.next = bp at *
  refine Xk.iter [0, 3, 5, 6] (fun m k H' => ∃ i sh, m = 20 - i ∧ i ≤ 20 ∧ k = [(0, va), (3, .ptr bp 0), (5, .bool sh), (6, .int .i64 (.ofNat i))] ∧ H'.Ok ∧ HLe H H' ∧ AtP H' bp (if sh = true then pS else p0)) rfl
    ⟨_, 0, false, rfl, by omega, rfl, hO1, hle1, AP⟩ ?_
  clear AP hle1 hO1 hp1 hn1
  rintro m k H' ⟨i, sh, rfl, hi, rfl, hO', hle, AP⟩
  unfold l1_depotlaw13_ParseLines
  by_cases h : i < l.length
  case neg =>
    repeat (first | ((first | apply Xk.sAny | apply Xk.tAny); (case hok => rfl); (case h => intro C hC; simp (disch := omega) only [w1, ↓reduceIte, Nat.reduceEqDiff, Nat.reduceLeDiff, Nat.reduceAdd, Nat.reduceSub, la, h]; with_reducible exact hC); refine gc ?_) | refine gm ?_)
    refine PRuns_ev _ _ ?_
    repeat (first | ((first | apply Xk.sAny | apply Xk.tAny); (case hok => rfl); (case h => intro C hC; simp (disch := omega) only [w1, ↓reduceIte, Nat.reduceEqDiff, Nat.reduceLeDiff, Nat.reduceAdd, Nat.reduceSub]; with_reducible exact hC); refine gm ?_) | refine gm ?_)
    rfl
  by_cases h30 : i < 20
  case neg =>
    repeat (first | ((first | apply Xk.sAny | apply Xk.tAny); (case hok => rfl); (case h => intro C hC; simp (disch := omega) only [w1, ↓reduceIte, Nat.reduceEqDiff, Nat.reduceLeDiff, Nat.reduceAdd, Nat.reduceSub, la, h, h30]; with_reducible exact hC); refine gc ?_) | refine gm ?_)
    refine PRuns_ev _ _ ?_
    repeat (first | ((first | apply Xk.sAny | apply Xk.tAny); (case hok => rfl); (case h => intro C hC; simp (disch := omega) only [w1, ↓reduceIte, Nat.reduceEqDiff, Nat.reduceLeDiff, Nat.reduceAdd, Nat.reduceSub]; with_reducible exact hC); refine gm ?_) | refine gm ?_)
    rfl
  obtain ⟨bl, ol, cl, wl, rfl, T⟩ := (ha.mono hle).txt (by omega)
  obtain ⟨a1, a2⟩ := T.cell h
  have ga := T.at_
  obtain ⟨t, ht, hcase⟩ : ∃ t : List UInt8, t.length ≤ 500 ∧ ((¬ 500 < (l.getD i []).length ∧ t = l.getD i []) ∨ (500 < (l.getD i []).length ∧ t = (l.getD i []).take 500)) := by
    by_cases hc : 500 < (l.getD i []).length
    · exact ⟨_, by rw [List.length_take]; omega, .inr ⟨hc, rfl⟩⟩
    · exact ⟨_, by omega, .inl ⟨hc, rfl⟩⟩
  rcases hcase with ⟨hc, hse⟩ | ⟨hc, hse⟩
  case' inl =>
    repeat (first | ((first | apply Xk.sAny | apply Xk.tAny); (case hok => rfl); (case h => intro C hC; simp (disch := omega) only [w1, ↓reduceIte, Nat.reduceEqDiff, Nat.reduceLeDiff, Nat.reduceAdd, Nat.reduceSub, la, h, h30, a1, a2, ga, hc]; with_reducible exact hC); refine gc ?_) | refine gm ?_)
    rw [← hse]
  case' inr =>
    have hc' : 500 ≤ (l.getD i []).length := by omega
    repeat (first | ((first | apply Xk.sAny | apply Xk.tAny); (case hok => rfl); (case h => intro C hC; simp (disch := omega) only [w1, ↓reduceIte, Nat.reduceEqDiff, Nat.reduceLeDiff, Nat.reduceAdd, Nat.reduceSub, la, h, h30, a1, a2, ga, hc, hc']; with_reducible exact hC); refine gc ?_) | refine gm ?_)
    rw [← hse]
  all_goals
    clear hse hc a1 a2 ga
    refine Xk.iter [0, 3, 5, 6, 7, 8, 9] (fun m k H2 => ∃ j, m = t.length - j ∧ j ≤ t.length ∧ H2 = H' ∧ k = [(0, .sl bl ol l.length 1), (3, .ptr bp 0), (5, .bool sh), (6, .int .i64 (.ofNat i)), (7, .str t), (8, .bool ((t.take j).all okCh)), (9, .int .i64 (.ofNat j))]) rfl
      ⟨_, 0, rfl, by omega, rfl, by rw [List.take_zero]; rfl⟩ ?_
    rintro m k H2 ⟨j, rfl, hj, rfl, rfl⟩
    unfold l0_depotlaw13_ParseLines
    by_cases hjl : j < t.length
    · have hjt := eq_true hjl
      have hall := all_take hjl
      cases hb : (t.take j).all okCh with
      | false =>
        rw [hb, Bool.false_and] at hall
        repeat (first | ((first | apply Xk.sAny | apply Xk.tAny); (case hok => rfl); (case h => intro C hC; simp (disch := omega) only [w1, ↓reduceIte, Nat.reduceEqDiff, Nat.reduceLeDiff, Nat.reduceAdd, Nat.reduceSub, hjt]; with_reducible exact hC); refine gc ?_) | refine gm ?_)
        exact ⟨rfl, _, by omega, j + 1, rfl, by omega, rfl, by rw [hall]; rfl⟩
      | true =>
        rw [hb, Bool.true_and] at hall
        unfold okCh at hall
        by_cases c10 : (t.getD j 0).toNat = 10
        · have c10' := eq_true c10
          rw [decide_eq_true c10] at hall
          repeat (first | ((first | apply Xk.sAny | apply Xk.tAny); (case hok => rfl); (case h => intro C hC; simp (disch := omega) only [w1, ↓reduceIte, Nat.reduceEqDiff, Nat.reduceLeDiff, Nat.reduceAdd, Nat.reduceSub, hjt, c10']; with_reducible exact hC); refine gc ?_) | refine gm ?_)
          exact ⟨rfl, _, by omega, j + 1, rfl, by omega, rfl, by unfold okCh; rw [hall]; rfl⟩
        · have c10' := eq_false c10
          rw [decide_eq_false c10] at hall
          by_cases c13 : (t.getD j 0).toNat = 13
          · have c13' := eq_true c13
            rw [decide_eq_true c13] at hall
            repeat (first | ((first | apply Xk.sAny | apply Xk.tAny); (case hok => rfl); (case h => intro C hC; simp (disch := omega) only [w1, ↓reduceIte, Nat.reduceEqDiff, Nat.reduceLeDiff, Nat.reduceAdd, Nat.reduceSub, hjt, c10', c13']; with_reducible exact hC); refine gc ?_) | refine gm ?_)
            exact ⟨rfl, _, by omega, j + 1, rfl, by omega, rfl, by unfold okCh; rw [hall]; rfl⟩
          · have c13' := eq_false c13
            rw [decide_eq_false c13] at hall
            repeat (first | ((first | apply Xk.sAny | apply Xk.tAny); (case hok => rfl); (case h => intro C hC; simp (disch := omega) only [w1, ↓reduceIte, Nat.reduceEqDiff, Nat.reduceLeDiff, Nat.reduceAdd, Nat.reduceSub, hjt, c10', c13']; with_reducible exact hC); refine gc ?_) | refine gm ?_)
            exact ⟨rfl, _, by omega, j + 1, rfl, by omega, rfl, by unfold okCh; rw [hall]; rfl⟩
    · have hjf := eq_false hjl
      have hje : t.take j = t := List.take_of_length_le (by omega)
      rw [hje]
      repeat (first | ((first | apply Xk.sAny | apply Xk.tAny); (case hok => rfl); (case h => intro C hC; simp (disch := omega) only [w1, ↓reduceIte, Nat.reduceEqDiff, Nat.reduceLeDiff, Nat.reduceAdd, Nat.reduceSub, hjf]; with_reducible exact hC); refine gc ?_) | refine gm ?_)
      refine Line_evO t (by omega) _ _ fun H3 cells hO3 hle3 hrep => ?_
      obtain ⟨kq, rfl, hkq⟩ := hrep
      obtain ⟨q1, q2⟩ := hkq.sc
      have hnew := HLe.new (hO3 _ (Nat.le_refl _)) (.cells (reqC (lineOf t).1.verb kq (lineOf t).1.flags (lineOf t).1.exp (lineOf t).1.bytes (lineOf t).1.cas (lineOf t).1.delta (lineOf t).1.noReply (lineOf t).1.data) 1)
      have hO4 := hO3.new (.cells (reqC (lineOf t).1.verb kq (lineOf t).1.flags (lineOf t).1.exp (lineOf t).1.bytes (lineOf t).1.cas (lineOf t).1.delta (lineOf t).1.noReply (lineOf t).1.data) 1)
      have hgn := Heap.get_new_self H3 (.cells (reqC (lineOf t).1.verb kq (lineOf t).1.flags (lineOf t).1.exp (lineOf t).1.bytes (lineOf t).1.cas (lineOf t).1.delta (lineOf t).1.noReply (lineOf t).1.data) 1)
      have AP4 := (AP.mono hle3).mono hnew
      have hle4 := (hle.trans hle3).trans hnew
      have hkq4 := own_any (hkq.mono hnew)
      have hne : H3.next ≠ bp := by
        obtain ⟨kp, hp, _⟩ := AP.mono hle3
        have := hO3.lt hp
        omega
      have hkeys := lineOf_keys t
      unfold reqC at hnew hO4 hgn AP4 hle4 hkq4 ⊢
      cases hok : t.all okCh with
      | false =>
        repeat (first | ((first | apply Xk.sAny | apply Xk.tAny); (case hok => rfl); (case h => intro C hC; simp (disch := omega) only [w1, ↓reduceIte, Nat.reduceEqDiff, Nat.reduceLeDiff, Nat.reduceAdd, Nat.reduceSub, q1, q2]; with_reducible exact hC); refine gc ?_) | refine gm ?_)
        exact ⟨rfl, _, by omega, i + 1, sh, rfl, by omega, rfl, hO4, hle4, AP4⟩
      | true =>
        repeat (first | ((first | apply Xk.sAny | apply Xk.tAny); (case hok => rfl); (case h => intro C hC; simp (disch := omega) only [w1, ↓reduceIte, Nat.reduceEqDiff, Nat.reduceLeDiff, Nat.reduceAdd, Nat.reduceSub, q1, q2]; with_reducible exact hC); refine gc ?_) | refine gm ?_)
        refine Storing_ev _ _ _ ?_
        by_cases hst : 3 ≤ (lineOf t).1.verb ∧ (lineOf t).1.verb ≤ 8
        · rw [decide_eq_true hst]
          repeat (first | ((first | apply Xk.sAny | apply Xk.tAny); (case hok => rfl); (case h => intro C hC; simp (disch := omega) only [w1, ↓reduceIte, Nat.reduceEqDiff, Nat.reduceLeDiff, Nat.reduceAdd, Nat.reduceSub, q1, q2]; with_reducible exact hC); refine gc ?_) | refine gm ?_)
          exact ⟨rfl, _, by omega, i + 1, sh, rfl, by omega, rfl, hO4, hle4, AP4⟩
        · rw [decide_eq_false hst]
          have hst' : storing (lineOf t).1.verb = false := decide_eq_false hst
          have hfl := feed_line hok ht hst'
          have had : t.length + ([13, 10] : List UInt8).length ≤ 4611686018427387904 := by simp; omega
          repeat (first | ((first | apply Xk.sAny | apply Xk.tAny); (case hok => rfl); (case h => intro C hC; simp (disch := omega) only [w1, ↓reduceIte, Nat.reduceEqDiff, Nat.reduceLeDiff, Nat.reduceAdd, Nat.reduceSub, q1, q2, adds _ _ had]; with_reducible exact hC); refine gc ?_) | refine gm ?_)
          cases sh with
          | true =>
            refine Feed_ev _ bp pS _ AP4 pS_ok (by rw [left_pS, List.length_append]; simp; omega) _ fun H5 ev cs hO5 hk5 AP5 hev5 hrow5 => ?_
            have hle5 := hle_keepB hle4 hbp0 hk5
            rw [feed_shut shut_pS] at AP5 hrow5
            have EV : Evs H5 ev [] := ⟨cs, own_any hev5, hrow5⟩
            repeat (first | ((first | apply Xk.sAny | apply Xk.tAny); (case hok => rfl); (case h => intro C hC; simp (disch := omega) only [w1, ↓reduceIte, Nat.reduceEqDiff, Nat.reduceLeDiff, Nat.reduceAdd, Nat.reduceSub]; with_reducible exact hC); refine gc ?_) | refine gm ?_)
            refine same_ev _ _ _ _ EV ⟨[], .inl ⟨rfl, rfl⟩, rfl⟩ (by decide) (fun e he => by cases he) _ fun H6 hO6 hle6 => ?_
            repeat (first | ((first | apply Xk.sAny | apply Xk.tAny); (case hok => rfl); (case h => intro C hC; simp (disch := omega) only [w1, ↓reduceIte, Nat.reduceEqDiff, Nat.reduceLeDiff, Nat.reduceAdd, Nat.reduceSub]; with_reducible exact hC); refine gc ?_) | refine gm ?_)
            refine Shut_ev _ bp _ (AP5.mono (hle6)) _ ?_
            repeat (first | ((first | apply Xk.sAny | apply Xk.tAny); (case hok => rfl); (case h => intro C hC; simp (disch := omega) only [w1, ↓reduceIte, Nat.reduceEqDiff, Nat.reduceLeDiff, Nat.reduceAdd, Nat.reduceSub, neqb, shut_p0, shut_pS]; with_reducible exact hC); refine gc ?_) | refine gm ?_)
            refine Left_ev _ bp _ (AP5.mono (hle6)) _ ?_
            repeat (first | ((first | apply Xk.sAny | apply Xk.tAny); (case hok => rfl); (case h => intro C hC; simp (disch := omega) only [w1, ↓reduceIte, Nat.reduceEqDiff, Nat.reduceLeDiff, Nat.reduceAdd, Nat.reduceSub, left_p0, left_pS]; with_reducible exact hC); refine gc ?_) | refine gm ?_)
            exact ⟨rfl, _, by omega, i + 1, true, rfl, by omega, rfl, hO6, (hle5).trans hle6, AP5.mono (hle6)⟩
          | false =>
            refine Feed_ev _ bp p0 _ AP4 p0_ok (by rw [left_p0, List.length_append]; simp; omega) _ fun H5 ev cs hO5 hk5 AP5 hev5 hrow5 => ?_
            have hle5 := hle_keepB hle4 hbp0 hk5
            rw [hfl] at AP5 hrow5
            have EV : Evs H5 ev (lineEv t).1 := ⟨cs, own_any hev5, hrow5⟩
            have hg5 := hk5 _ _ hne hgn
            unfold lineEv at AP5 EV
            by_cases c4 : (lineOf t).2 = 4
            · rw [if_pos c4] at AP5 EV
              have c4' := eq_true c4
              repeat (first | ((first | apply Xk.sAny | apply Xk.tAny); (case hok => rfl); (case h => intro C hC; simp (disch := omega) only [w1, ↓reduceIte, Nat.reduceEqDiff, Nat.reduceLeDiff, Nat.reduceAdd, Nat.reduceSub, hg5, c4']; with_reducible exact hC); refine gc ?_) | refine gm ?_)
              have hn5 := HLe.new (hO5 _ (Nat.le_refl _)) (.cells (evC .nils (evAns 12 [])) 1)
              have EW := evs_one (e := (evAns 12 [])) (.inl ⟨rfl, rfl⟩) hO5
              refine same_ev _ _ _ _ (EV.mono hn5) EW (by decide) (fun e he => by rw [List.mem_singleton] at he; subst he; decide) _ fun H6 hO6 hle6 => ?_
              repeat (first | ((first | apply Xk.sAny | apply Xk.tAny); (case hok => rfl); (case h => intro C hC; simp (disch := omega) only [w1, ↓reduceIte, Nat.reduceEqDiff, Nat.reduceLeDiff, Nat.reduceAdd, Nat.reduceSub]; with_reducible exact hC); refine gc ?_) | refine gm ?_)
              refine Shut_ev _ bp _ (AP5.mono (hn5.trans hle6)) _ ?_
              repeat (first | ((first | apply Xk.sAny | apply Xk.tAny); (case hok => rfl); (case h => intro C hC; simp (disch := omega) only [w1, ↓reduceIte, Nat.reduceEqDiff, Nat.reduceLeDiff, Nat.reduceAdd, Nat.reduceSub, neqb, shut_p0, shut_pS]; with_reducible exact hC); refine gc ?_) | refine gm ?_)
              refine Left_ev _ bp _ (AP5.mono (hn5.trans hle6)) _ ?_
              repeat (first | ((first | apply Xk.sAny | apply Xk.tAny); (case hok => rfl); (case h => intro C hC; simp (disch := omega) only [w1, ↓reduceIte, Nat.reduceEqDiff, Nat.reduceLeDiff, Nat.reduceAdd, Nat.reduceSub, left_p0, left_pS]; with_reducible exact hC); refine gc ?_) | refine gm ?_)
              exact ⟨rfl, _, by omega, i + 1, false, rfl, by omega, rfl, hO6, (hle5.trans hn5).trans hle6, AP5.mono (hn5.trans hle6)⟩
            rw [if_neg c4] at AP5 EV
            have c4' := eq_false c4
            by_cases c0 : (lineOf t).2 = 0
            case neg =>
              rw [if_pos c0] at AP5 EV
              have c0' := eq_false c0
              repeat (first | ((first | apply Xk.sAny | apply Xk.tAny); (case hok => rfl); (case h => intro C hC; simp (disch := omega) only [w1, ↓reduceIte, Nat.reduceEqDiff, Nat.reduceLeDiff, Nat.reduceAdd, Nat.reduceSub, hg5, c4', c0']; with_reducible exact hC); refine gc ?_) | refine gm ?_)
              have hn5 := HLe.new (hO5 _ (Nat.le_refl _)) (.cells (evC .nils (evAns 13 badLine)) 1)
              have EW := evs_one (e := (evAns 13 badLine)) (.inl ⟨rfl, rfl⟩) hO5
              refine same_ev _ _ _ _ (EV.mono hn5) EW (by decide) (fun e he => by rw [List.mem_singleton] at he; subst he; decide) _ fun H6 hO6 hle6 => ?_
              repeat (first | ((first | apply Xk.sAny | apply Xk.tAny); (case hok => rfl); (case h => intro C hC; simp (disch := omega) only [w1, ↓reduceIte, Nat.reduceEqDiff, Nat.reduceLeDiff, Nat.reduceAdd, Nat.reduceSub]; with_reducible exact hC); refine gc ?_) | refine gm ?_)
              refine Shut_ev _ bp _ (AP5.mono (hn5.trans hle6)) _ ?_
              repeat (first | ((first | apply Xk.sAny | apply Xk.tAny); (case hok => rfl); (case h => intro C hC; simp (disch := omega) only [w1, ↓reduceIte, Nat.reduceEqDiff, Nat.reduceLeDiff, Nat.reduceAdd, Nat.reduceSub, neqb, shut_p0, shut_pS]; with_reducible exact hC); refine gc ?_) | refine gm ?_)
              refine Left_ev _ bp _ (AP5.mono (hn5.trans hle6)) _ ?_
              repeat (first | ((first | apply Xk.sAny | apply Xk.tAny); (case hok => rfl); (case h => intro C hC; simp (disch := omega) only [w1, ↓reduceIte, Nat.reduceEqDiff, Nat.reduceLeDiff, Nat.reduceAdd, Nat.reduceSub, left_p0, left_pS]; with_reducible exact hC); refine gc ?_) | refine gm ?_)
              exact ⟨rfl, _, by omega, i + 1, false, rfl, by omega, rfl, hO6, (hle5.trans hn5).trans hle6, AP5.mono (hn5.trans hle6)⟩
            have c0' := eq_true c0
            rw [if_neg (by omega)] at AP5 EV
            by_cases c17 : (lineOf t).1.verb = 17
            · rw [if_pos c17] at AP5 EV
              have c17' := eq_true c17
              repeat (first | ((first | apply Xk.sAny | apply Xk.tAny); (case hok => rfl); (case h => intro C hC; simp (disch := omega) only [w1, ↓reduceIte, Nat.reduceEqDiff, Nat.reduceLeDiff, Nat.reduceAdd, Nat.reduceSub, hg5, c4', c0', c17']; with_reducible exact hC); refine gc ?_) | refine gm ?_)
              have hn5 := HLe.new (hO5 _ (Nat.le_refl _)) (.cells (evC .nils (evAns 15 [])) 1)
              have EW := evs_one (e := (evAns 15 [])) (.inl ⟨rfl, rfl⟩) hO5
              refine same_ev _ _ _ _ (EV.mono hn5) EW (by decide) (fun e he => by rw [List.mem_singleton] at he; subst he; decide) _ fun H6 hO6 hle6 => ?_
              repeat (first | ((first | apply Xk.sAny | apply Xk.tAny); (case hok => rfl); (case h => intro C hC; simp (disch := omega) only [w1, ↓reduceIte, Nat.reduceEqDiff, Nat.reduceLeDiff, Nat.reduceAdd, Nat.reduceSub]; with_reducible exact hC); refine gc ?_) | refine gm ?_)
              refine Shut_ev _ bp _ (AP5.mono (hn5.trans hle6)) _ ?_
              repeat (first | ((first | apply Xk.sAny | apply Xk.tAny); (case hok => rfl); (case h => intro C hC; simp (disch := omega) only [w1, ↓reduceIte, Nat.reduceEqDiff, Nat.reduceLeDiff, Nat.reduceAdd, Nat.reduceSub, neqb, shut_p0, shut_pS]; with_reducible exact hC); refine gc ?_) | refine gm ?_)
              refine Left_ev _ bp _ (AP5.mono (hn5.trans hle6)) _ ?_
              repeat (first | ((first | apply Xk.sAny | apply Xk.tAny); (case hok => rfl); (case h => intro C hC; simp (disch := omega) only [w1, ↓reduceIte, Nat.reduceEqDiff, Nat.reduceLeDiff, Nat.reduceAdd, Nat.reduceSub, left_p0, left_pS]; with_reducible exact hC); refine gc ?_) | refine gm ?_)
              exact ⟨rfl, _, by omega, i + 1, true, rfl, by omega, rfl, hO6, (hle5.trans hn5).trans hle6, AP5.mono (hn5.trans hle6)⟩
            rw [if_neg c17] at AP5 EV
            have c17' := eq_false c17
            have hkq5 : Own noHeap H5 0 1 kq (strs (evReq (lineOf t).1).r.keys) := by
              obtain ⟨kp, hp, _⟩ := AP4
              exact key_keepb hkq4 hp (psC_keys _ _ _) hk5
            repeat (first | ((first | apply Xk.sAny | apply Xk.tAny); (case hok => rfl); (case h => intro C hC; simp (disch := omega) only [w1, ↓reduceIte, Nat.reduceEqDiff, Nat.reduceLeDiff, Nat.reduceAdd, Nat.reduceSub, hg5, c4', c0', c17', q1, q2]; with_reducible exact hC); refine gc ?_) | refine gm ?_)
            have hn5 := HLe.new (hO5 _ (Nat.le_refl _)) (.cells (evC kq (evReq (lineOf t).1)) 1)
            have EW := evs_one (e := (evReq (lineOf t).1)) hkq5 hO5
            refine same_ev _ _ _ _ (EV.mono hn5) EW (show (1 : Nat) < _ by decide) (fun e he => by rw [List.mem_singleton] at he; subst he; show (lineOf t).1.keys.length < _; omega) _ fun H6 hO6 hle6 => ?_
            repeat (first | ((first | apply Xk.sAny | apply Xk.tAny); (case hok => rfl); (case h => intro C hC; simp (disch := omega) only [w1, ↓reduceIte, Nat.reduceEqDiff, Nat.reduceLeDiff, Nat.reduceAdd, Nat.reduceSub]; with_reducible exact hC); refine gc ?_) | refine gm ?_)
            refine Shut_ev _ bp _ (AP5.mono (hn5.trans hle6)) _ ?_
            repeat (first | ((first | apply Xk.sAny | apply Xk.tAny); (case hok => rfl); (case h => intro C hC; simp (disch := omega) only [w1, ↓reduceIte, Nat.reduceEqDiff, Nat.reduceLeDiff, Nat.reduceAdd, Nat.reduceSub, neqb, shut_p0, shut_pS]; with_reducible exact hC); refine gc ?_) | refine gm ?_)
            refine Left_ev _ bp _ (AP5.mono (hn5.trans hle6)) _ ?_
            repeat (first | ((first | apply Xk.sAny | apply Xk.tAny); (case hok => rfl); (case h => intro C hC; simp (disch := omega) only [w1, ↓reduceIte, Nat.reduceEqDiff, Nat.reduceLeDiff, Nat.reduceAdd, Nat.reduceSub, left_p0, left_pS]; with_reducible exact hC); refine gc ?_) | refine gm ?_)
            exact ⟨rfl, _, by omega, i + 1, false, rfl, by omega, rfl, hO6, (hle5.trans hn5).trans hle6, AP5.mono (hn5.trans hle6)⟩
end Go.Proofs.Ytkjmelfgopammaa
