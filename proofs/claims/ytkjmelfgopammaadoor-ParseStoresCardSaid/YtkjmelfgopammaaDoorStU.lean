/- The law ParseStores, over the clean machine. Conditions: none. -/
import Derived.Test.YtkjmelfgopammaaDoorStS
import Derived.Test.YtkjmelfgopammaaDoorStD
import Derived.Test.YtkjmelfgopammaaDoorWdX
import Derived.Test.YtkjmelfgopammaaDoorWdU
namespace Go.Proofs.YtkjmelfgopammaaDoor
open Go.Dp Go.Wd
set_option linter.unusedSimpArgs false
set_option linter.unusedVariables false
set_option maxHeartbeats 2000000
set_option maxRecDepth 8000
set_option linter.constructorNameAsVariable false
attribute [local irreducible] Ex.thnK Ex.inK Ret

theorem PRuns_ev (H : Heap) (Q : AV → Heap → Prop) (hQ : Q (.bool true) H) : Eo lib n_depotlaw13_ParseRuns [] H Q := Eo.runs rfl hQ

theorem left_p0 : p0.left.length = 0 := rfl
theorem ys_all : ∀ n, n ≤ 50 → List.take n ([121, 121, 121, 121, 121, 121, 121, 121, 121, 121, 121, 121, 121, 121, 121, 121, 121, 121, 121, 121, 121, 121, 121, 121, 121, 121, 121, 121, 121, 121, 121, 121, 121, 121, 121, 121, 121, 121, 121, 121, 121, 121, 121, 121, 121, 121, 121, 121, 121, 121] : List UInt8) = List.replicate n 121 := by decide +kernel

theorem Stores_law (va vb : AV) (ks ds : List (List UInt8)) (x : Int) (H : Heap) (hT : Tab H) (ha : Sl H 1 va (strs ks)) (hb : Sl H 1 vb (strs ds)) (hka : ks.length < 9223372036854775808) (hdb : ds.length < 9223372036854775808) (hkb : ∀ s ∈ ks, s.length < 9223372036854775808) : Eo lib n_depotlaw13_ParseStores [va, vb, .int .i64 x] H fun v _ => v = .bool true := by
  refine Eo.ok fun hOk => ?_
  have la := ha.lens
  have lb := hb.lens
  refine Eo.code at_depotlaw13_ParseStores rfl ?_
  repeat (first | ((first | apply Xk.sAny | apply Xk.tAny); (case hok => rfl); (case h => intro C hC; simp (disch := omega) only [w1, ↓reduceIte, Nat.reduceEqDiff, Nat.reduceLeDiff, Nat.reduceAdd, Nat.reduceSub]; with_reducible exact hC); refine gc ?_) | refine gm ?_)
  refine Xk.loopCut [2, 7, 8] (fun k H' => ∃ l vw, k = [(2, .int .i64 x), (7, .str (setsOf l)), (8, vw)] ∧ H'.Ok ∧ HLe H H' ∧ l.length ≤ 10 ∧ (∀ y ∈ l, keyOk y.1 = true ∧ y.2.length ≤ 200) ∧ Own H H' 0 1 vw (strs (l.map Prod.snd))) (Xk.iter [0, 1, 2, 7, 8, 9] (fun m k H' => ∃ i l vw, m = 10 - i ∧ i ≤ 10 ∧ k = [(0, va), (1, vb), (2, .int .i64 x), (7, .str (setsOf l)), (8, vw), (9, .int .i64 (.ofNat i))] ∧ H'.Ok ∧ HLe H H' ∧ l.length ≤ i ∧ (∀ y ∈ l, keyOk y.1 = true ∧ y.2.length ≤ 200) ∧ Own H H' 0 1 vw (strs (l.map Prod.snd))) rfl
    ⟨_, 0, [], .nils, rfl, by omega, rfl, hOk, HLe.refl _, Nat.le_refl _, (fun y h => by cases h), .inl ⟨rfl, rfl⟩⟩ ?_) ?_
  · rintro m k H' ⟨i, l, vw, rfl, hi, rfl, hO', hle, hll, hal, hw⟩
    unfold l0_depotlaw13_ParseStores
    by_cases hc : i < ks.length ∧ i < ds.length ∧ i < 10
    case neg =>
      have hor : (¬ i < ks.length) ∨ (i < ks.length ∧ ¬ i < ds.length) ∨ (i < ks.length ∧ i < ds.length ∧ ¬ i < 10) := by omega
      rcases hor with h1 | ⟨h1, h2⟩ | ⟨h1, h2, h3⟩
      case' inl => repeat (first | ((first | apply Xk.sAny | apply Xk.tAny); (case hok => rfl); (case h => intro C hC; simp (disch := omega) only [w1, ↓reduceIte, Nat.reduceEqDiff, Nat.reduceLeDiff, Nat.reduceAdd, Nat.reduceSub, la, lb, h1]; with_reducible exact hC); refine gc ?_) | refine gm ?_)
      case' inr.inl => repeat (first | ((first | apply Xk.sAny | apply Xk.tAny); (case hok => rfl); (case h => intro C hC; simp (disch := omega) only [w1, ↓reduceIte, Nat.reduceEqDiff, Nat.reduceLeDiff, Nat.reduceAdd, Nat.reduceSub, la, lb, h1, h2]; with_reducible exact hC); refine gc ?_) | refine gm ?_)
      case' inr.inr => repeat (first | ((first | apply Xk.sAny | apply Xk.tAny); (case hok => rfl); (case h => intro C hC; simp (disch := omega) only [w1, ↓reduceIte, Nat.reduceEqDiff, Nat.reduceLeDiff, Nat.reduceAdd, Nat.reduceSub, la, lb, h1, h2, h3]; with_reducible exact hC); refine gc ?_) | refine gm ?_)
      all_goals exact ⟨rfl, rfl, l, vw, rfl, hO', hle, by omega, hal, hw⟩
    obtain ⟨c1, c2, c3⟩ := hc
    obtain ⟨ba, oa, ca, wa, rfl, Ta⟩ := (ha.mono hle).txt (by omega)
    obtain ⟨bb, ob, cb, wb, rfl, Tb⟩ := (hb.mono hle).txt (by omega)
    obtain ⟨a1, a2⟩ := Ta.cell c1
    obtain ⟨b1, b2⟩ := Tb.cell c2
    have ga := Ta.at_
    have gb := Tb.at_
    obtain ⟨d, hd, hcase⟩ : ∃ d : List UInt8, d.length ≤ 200 ∧ ((¬ 200 < (ds.getD i []).length ∧ d = ds.getD i []) ∨ (200 < (ds.getD i []).length ∧ d = (ds.getD i []).take 200)) := by
      by_cases hc : 200 < (ds.getD i []).length
      · exact ⟨_, by rw [List.length_take]; omega, .inr ⟨hc, rfl⟩⟩
      · exact ⟨_, by omega, .inl ⟨hc, rfl⟩⟩
    rcases hcase with ⟨hc, hse⟩ | ⟨hc, hse⟩
    case' inl =>
      repeat (first | ((first | apply Xk.sAny | apply Xk.tAny); (case hok => rfl); (case h => intro C hC; simp (disch := omega) only [w1, ↓reduceIte, Nat.reduceEqDiff, Nat.reduceLeDiff, Nat.reduceAdd, Nat.reduceSub, c1, c2, c3, a1, a2, b1, b2, ga, gb, hc]; with_reducible exact hC); refine gc ?_) | refine gm ?_)
      rw [← hse]
    case' inr =>
      have hc' : 200 ≤ (ds.getD i []).length := by omega
      repeat (first | ((first | apply Xk.sAny | apply Xk.tAny); (case hok => rfl); (case h => intro C hC; simp (disch := omega) only [w1, ↓reduceIte, Nat.reduceEqDiff, Nat.reduceLeDiff, Nat.reduceAdd, Nat.reduceSub, c1, c2, c3, a1, a2, b1, b2, ga, gb, hc, hc']; with_reducible exact hC); refine gc ?_) | refine gm ?_)
      rw [← hse]
    all_goals
      clear hse hc a1 a2 b1 b2
      have hmem : ks.getD i [] ∈ ks := by
        rw [List.getD_eq_getElem?_getD, List.getElem?_eq_getElem c1]
        exact List.getElem_mem c1
      refine rKey_ev _ (hkb _ hmem) _ _ ?_
      generalize ks.getD i [] = k at *
      cases hk : keyOk k with
      | false =>
        repeat (first | ((first | apply Xk.sAny | apply Xk.tAny); (case hok => rfl); (case h => intro C hC; simp (disch := omega) only [w1, ↓reduceIte, Nat.reduceEqDiff, Nat.reduceLeDiff, Nat.reduceAdd, Nat.reduceSub]; with_reducible exact hC); refine gc ?_) | refine gm ?_)
        exact ⟨rfl, _, by omega, i + 1, l, vw, rfl, by omega, rfl, hO', hle, by omega, hal, hw⟩
      | true =>
        obtain ⟨kw1, kw2, kw3, kw4⟩ := key_words hk
        have hsl := setsOf_len l hal
        obtain ⟨_, dl, _, _⟩ := dec_facts (u := d.length) (by omega)
        have n1 : (setsOf l).length + ([115, 101, 116, 32] : List UInt8).length ≤ 4611686018427387904 := by simp; omega
        have n2 : (setsOf l ++ [115, 101, 116, 32]).length + k.length ≤ 4611686018427387904 := by simp; omega
        have n3 : (setsOf l ++ [115, 101, 116, 32] ++ k).length + ([32, 55, 32, 48, 32] : List UInt8).length ≤ 4611686018427387904 := by simp; omega
        have n4 : (setsOf l ++ [115, 101, 116, 32] ++ k ++ [32, 55, 32, 48, 32]).length + (dec d.length).length ≤ 4611686018427387904 := by simp; omega
        have n5 : (setsOf l ++ [115, 101, 116, 32] ++ k ++ [32, 55, 32, 48, 32] ++ dec d.length).length + ([13, 10] : List UInt8).length ≤ 4611686018427387904 := by simp; omega
        have n6 : (setsOf l ++ [115, 101, 116, 32] ++ k ++ [32, 55, 32, 48, 32] ++ dec d.length ++ [13, 10]).length + d.length ≤ 4611686018427387904 := by simp; omega
        have n7 : (setsOf l ++ [115, 101, 116, 32] ++ k ++ [32, 55, 32, 48, 32] ++ dec d.length ++ [13, 10] ++ d).length + ([13, 10] : List UInt8).length ≤ 4611686018427387904 := by simp; omega
        have e7 : setsOf l ++ [115, 101, 116, 32] ++ k ++ [32, 55, 32, 48, 32] ++ dec d.length ++ [13, 10] ++ d ++ [13, 10] = setsOf (l ++ [(k, d)]) := by
          rw [setsOf_snoc]
          simp [setLine, setS]
        repeat (first | ((first | apply Xk.sAny | apply Xk.tAny); (case hok => rfl); (case h => intro C hC; simp (disch := omega) only [w1, ↓reduceIte, Nat.reduceEqDiff, Nat.reduceLeDiff, Nat.reduceAdd, Nat.reduceSub, adds _ _ n1, adds _ _ n2, adds _ _ n3]; with_reducible exact hC); refine gc ?_) | refine gm ?_)
        refine Itoa_ev d.length (by omega) _ (hT.mono hle) _ fun H2 hO2 hle2 => ?_
        have hw2 := hw.mono hle2
        obtain ⟨v', H3, g1, hO3, hle3, hn3, hown3, hkeep3⟩ := Own.push (w := 1) (bytes := 16) (row := [.str d]) hO2 (hle.trans hle2) hw2 rfl rfl (by decide) (by rw [strs_len, List.length_map]; omega) (by rw [strs_len, List.length_map]; omega)
        repeat (first | ((first | apply Xk.sAny | apply Xk.tAny); (case hok => rfl); (case h => intro C hC; simp (disch := omega) only [w1, ↓reduceIte, Nat.reduceEqDiff, Nat.reduceLeDiff, Nat.reduceAdd, Nat.reduceSub, adds _ _ n4, adds _ _ n5, adds _ _ n6, adds _ _ n7, g1]; with_reducible exact hC); refine gc ?_) | refine gm ?_)
        rw [e7]
        refine ⟨rfl, _, by omega, i + 1, l ++ [(k, d)], v', rfl, by omega, rfl, hO3, hle3, by rw [List.length_append]; simp; omega, ?_, ?_⟩
        · intro y hy
          rcases List.mem_append.1 hy with hy | hy
          · exact hal y hy
          · rw [List.mem_singleton] at hy; subst hy; exact ⟨hk, hd⟩
        · rw [List.map_append, strs_app]
          exact hown3
  rintro k H' ⟨l, vw, rfl, hO', hle, hll, hal, hw⟩
  repeat (first | ((first | apply Xk.sAny | apply Xk.tAny); (case hok => rfl); (case h => intro C hC; simp (disch := omega) only [w1, ↓reduceIte, Nat.reduceEqDiff, Nat.reduceLeDiff, Nat.reduceAdd, Nat.reduceSub]; with_reducible exact hC); refine gc ?_) | refine gm ?_)
  refine New_ev _ _ fun H1 hO1 hle1 hn1 hp1 => ?_
  have hbp0 : H.get H'.next = none := by
    cases e : H.get H'.next with
    | none => rfl
    | some y => have := hle _ _ e; rw [hO' _ (Nat.le_refl _)] at this; cases this
  have hlt1 := hO1.lt hp1
  have hbpn : H'.get H'.next = none := hO' _ (Nat.le_refl _)
  have AP : AtP H1 H'.next p0 := ⟨.nils, hp1, .inl ⟨rfl, rfl⟩, .inl rfl⟩
  generalize H'.next = bp at *
  have hsl := setsOf_len l hal
  repeat (first | ((first | apply Xk.sAny | apply Xk.tAny); (case hok => rfl); (case h => intro C hC; simp (disch := omega) only [w1, ↓reduceIte, Nat.reduceEqDiff, Nat.reduceLeDiff, Nat.reduceAdd, Nat.reduceSub, eqc_nilp]; with_reducible exact hC); refine gc ?_) | refine gm ?_)
  refine Feed_ev H1 bp p0 _ AP p0_ok (by show 0 + (setsOf l).length < _; omega) _ fun H2 ev cs hO2 hk2 AP2 hev hrow => ?_
  rw [sets_fed l hal] at AP2 hrow
  have EV : Evs H2 ev (setEvs l) := ⟨cs, own_any hev, hrow⟩
  have hw2 : Own H H2 0 1 vw (strs (l.map Prod.snd)) := by
    rcases hw with hw | ⟨c, len, w1, w2, w3, w4⟩
    · exact .inl hw
    · refine .inr ⟨c, len, w1, w2, hk2 _ _ ?_ (hle1 _ _ w3), w4⟩
      intro e; subst e; rw [hbpn] at w3; cases w3
  have hle2 : HLe H H2 := hle_keepB (hle.trans hle1) hbp0 hk2
  have lE := EV.lens
  rw [setEvs_len] at lE
  have lW := hw2.sl.lens
  rw [List.length_map] at lW
  repeat (first | ((first | apply Xk.sAny | apply Xk.tAny); (case hok => rfl); (case h => intro C hC; simp (disch := omega) only [w1, ↓reduceIte, Nat.reduceEqDiff, Nat.reduceLeDiff, Nat.reduceAdd, Nat.reduceSub, lE, lW]; with_reducible exact hC); refine gc ?_) | refine gm ?_)
  refine Xk.iter [2, 8, 12, 13, 14] (fun m k H3 => ∃ i, m = l.length - i ∧ i ≤ l.length ∧ k = [(2, .int .i64 x), (8, vw), (12, .ptr bp 0), (13, ev), (14, .int .i64 (.ofNat i))] ∧ H3 = H2) rfl ⟨_, 0, rfl, by omega, rfl, rfl⟩ ?_
  rintro m k H3 ⟨i, rfl, hi2, rfl, rfl⟩
  unfold l1_depotlaw13_ParseStores
  by_cases hil : i < l.length
  · have hil' := eq_true hil
    obtain ⟨kk, hkk⟩ := setEvs_at l i hil
    obtain ⟨kv, rest, r1, _⟩ := EvRows.at_ i hrow (by rw [setEvs_len]; exact hil)
    rw [hkk] at r1
    have hcl := hrow.len
    rw [setEvs_len] at hcl
    have r2 : (cs.drop (i * 18)).take 1 = [.int .i64 (.ofNat 3)] := by rw [r1]; rfl
    have r3 : (cs.drop (i * 18 + 8)).take 1 = [.str ((l.map Prod.snd).getD i [])] := by rw [← List.drop_drop, r1]; rfl
    have r4 : (cs.drop (i * 18 + 2)).take 1 = [.int .i64 (.ofNat 7)] := by rw [← List.drop_drop, r1]; rfl
    have r5 : i * 18 + 1 ≤ cs.length := by omega
    have r6 : i * 18 + 8 + 1 ≤ cs.length := by omega
    have r7 : i * 18 + 2 + 1 ≤ cs.length := by omega
    rcases hev with ⟨_, hc0⟩ | ⟨ce, len, rfl, d2, d3, d4⟩
    · rw [hc0] at hcl; simp at hcl; omega
    obtain rfl : len = l.length := by omega
    obtain ⟨bw, ow, cw, ww, rfl, Tw⟩ := hw2.sl.txt (by rw [List.length_map]; omega)
    obtain ⟨t1, t2⟩ := Tw.cell (j := i) (by rw [List.length_map]; exact hil)
    have tg := Tw.at_
    rw [List.length_map] at *
    repeat (first | ((first | apply Xk.sAny | apply Xk.tAny); (case hok => rfl); (case h => intro C hC; simp (disch := omega) only [w1, ↓reduceIte, Nat.reduceEqDiff, Nat.reduceLeDiff, Nat.reduceAdd, Nat.reduceSub, lE, hil', d3, r2, r3, r4, r5, r6, r7, tg, t1, t2]; with_reducible exact hC); refine gc ?_) | refine gm ?_)
    exact ⟨rfl, _, by omega, i + 1, rfl, by omega, rfl, rfl⟩
  · have hil' := eq_false hil
    repeat (first | ((first | apply Xk.sAny | apply Xk.tAny); (case hok => rfl); (case h => intro C hC; simp (disch := omega) only [w1, ↓reduceIte, Nat.reduceEqDiff, Nat.reduceLeDiff, Nat.reduceAdd, Nat.reduceSub, lE, hil']; with_reducible exact hC); refine gc ?_) | refine gm ?_)
    refine Within_ev x 1 50 (by decide) (by decide) _ _ fun n n1 n2 => ?_
    have y1 := ys_all n n2
    have y2 : ([115, 101, 116, 32, 107, 32, 48, 32, 48, 32, 49, 13, 10, 120] : List UInt8).length + (List.replicate n (121 : UInt8)).length ≤ 4611686018427387904 := by simp; omega
    have y3 : ([115, 101, 116, 32, 107, 32, 48, 32, 48, 32, 49, 13, 10, 120] ++ List.replicate n (121 : UInt8)).length + ([13, 10, 118, 101, 114, 115, 105, 111, 110, 13, 10] : List UInt8).length ≤ 4611686018427387904 := by simp; omega
    have y4 : (115 :: 101 :: 116 :: 32 :: 107 :: 32 :: 48 :: 32 :: 48 :: 32 :: 49 :: 13 :: 10 :: 120 :: List.replicate n (121 : UInt8)).length + ([13, 10, 118, 101, 114, 115, 105, 111, 110, 13, 10] : List UInt8).length ≤ 4611686018427387904 := y3
    repeat (first | ((first | apply Xk.sAny | apply Xk.tAny); (case hok => rfl); (case h => intro C hC; simp (disch := omega) only [w1, ↓reduceIte, Nat.reduceEqDiff, Nat.reduceLeDiff, Nat.reduceAdd, Nat.reduceSub, y1, n2, adds _ _ y2, adds _ _ y4]; with_reducible exact hC); refine gc ?_) | refine gm ?_)
    refine Feed_ev H3 bp p0 (broken n) AP2 p0_ok (by show 0 + (broken n).length < _; simp [broken]; omega) _ fun H4 ev4 cs4 hO4 hk4 AP4 hev4 hrow4 => ?_
    rw [broken_fed n1] at AP4 hrow4
    have EV4 : Evs H4 ev4 [evAns 13 badData, versEv] := ⟨cs4, own_any hev4, hrow4⟩
    have l4 := EV4.lens
    obtain ⟨kv0, rest0, z1, _⟩ := EvRows.at_ 0 hrow4 (by decide)
    obtain ⟨kv1, rest1, z2, _⟩ := EvRows.at_ 1 hrow4 (by decide)
    have z3 := hrow4.len
    rcases hev4 with ⟨_, hc0⟩ | ⟨c4, len4, rfl, d2, d3, d4⟩
    · rw [hc0] at z3; cases z3
    have z5 : (cs4.drop 9).take 1 = [.int .i64 (.ofNat 13)] := by
      have : cs4.drop 9 = (cs4.drop (0 * 18)).drop 9 := by simp
      rw [this, z1]; rfl
    have z6 : (cs4.drop 18).take 1 = [.int .i64 (.ofNat 14)] := by
      have : cs4.drop 18 = cs4.drop (1 * 18) := rfl
      rw [this, z2]; rfl
    have z7 : cs4.length = 36 := z3
    obtain rfl : len4 = 2 := by omega
    have lt02 : (0 < 2) = True := by decide
    have lt12 : (1 < 2) = True := by decide
    repeat (first | ((first | apply Xk.sAny | apply Xk.tAny); (case hok => rfl); (case h => intro C hC; simp (disch := omega) only [w1, ↓reduceIte, Nat.reduceEqDiff, Nat.reduceLeDiff, Nat.reduceAdd, Nat.reduceSub, d3, z5, z6, z7, Nat.reduceMul, lt02, lt12]; with_reducible exact hC); refine gc ?_) | refine gm ?_)
    refine Left_ev _ bp _ AP4 _ ?_
    repeat (first | ((first | apply Xk.sAny | apply Xk.tAny); (case hok => rfl); (case h => intro C hC; simp (disch := omega) only [w1, ↓reduceIte, Nat.reduceEqDiff, Nat.reduceLeDiff, Nat.reduceAdd, Nat.reduceSub, left_p0]; with_reducible exact hC); refine gc ?_) | refine gm ?_)
    refine PRuns_ev _ _ ?_
    repeat (first | ((first | apply Xk.sAny | apply Xk.tAny); (case hok => rfl); (case h => intro C hC; simp (disch := omega) only [w1, ↓reduceIte, Nat.reduceEqDiff, Nat.reduceLeDiff, Nat.reduceAdd, Nat.reduceSub]; with_reducible exact hC); refine gm ?_) | refine gm ?_)
    rfl
end Go.Proofs.YtkjmelfgopammaaDoor
