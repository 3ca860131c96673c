/- The law ParseLarge, over the clean machine. Conditions: none. -/
import Derived.Test.YtkjmelfgopammaaDoorStS
import Derived.Test.YtkjmelfgopammaaDoorStD
import Derived.Test.YtkjmelfgopammaaDoorWdU
namespace Go.Proofs.YtkjmelfgopammaaDoor
open Go.Dp Go.Wd
set_option linter.unusedSimpArgs false
set_option linter.unusedVariables false
set_option maxHeartbeats 2000000
set_option maxRecDepth 8000
attribute [local irreducible] Ex.thnK Ex.inK Ret

theorem LRuns_ev (H : Heap) (Q : AV → Heap → Prop) (hQ : Q (.bool true) H) : Eo lib n_depotlaw13_ParseRuns [] H Q := Eo.runs rfl hQ
/-- so many bytes are to be gone past -/
def pL (c : Nat) : PS := if c = 0 then p0 else ⟨2, [], c, noReq, false⟩
theorem pL_ok (c : Nat) (h : c ≤ 2147483649) : (pL c).Ok := by
  unfold pL
  split
  · exact p0_ok
  · exact okM (by decide) (fun _ => by omega) (fun h => absurd rfl h) h (fun h => nomatch h) (fun _ => rfl)
theorem pL_run (c : Nat) : runP (pL c) = ([], pL c) := by
  unfold pL
  split
  · exact run_p0
  · refine runP_stop (es := []) ?_ rfl
    unfold stepP
    rw [if_neg (show ¬ ((2 : Nat) = 0) by decide), if_neg (show ¬ ((2 : Nat) = 1) by decide), if_pos rfl]
    unfold pastStep
    rw [if_pos rfl]
theorem pL_left (c : Nat) : (pL c).left = [] := by unfold pL; split <;> rfl
theorem pL_asked (c : Nat) : (pL c).asked = noReq := by unfold pL; split <;> rfl
theorem pL_shut (c : Nat) : (pL c).shut = false := by unfold pL; split <;> rfl
theorem past_fed {c : Nat} {b : List UInt8} (h1 : 0 < b.length) (h2 : b.length ≤ c) (h3 : c ≤ 2147483649) : feed (pL c) b = ([], pL (c - b.length)) := by
  have hc : pL c = ⟨2, [], c, noReq, false⟩ := if_neg (by omega)
  rw [hc, feed_eq rfl]
  have hq : PS.Ok ⟨2, b, c, noReq, false⟩ := okM (by decide) (fun _ => by omega) (fun h => absurd rfl h) h3 (fun h => nomatch h) (fun _ => rfl)
  have hb : b ≠ [] := by intro e; subst e; simp at h1
  have s1 : stepP ⟨2, b, c, noReq, false⟩ = (true, pL (c - b.length), []) := by
    unfold stepP
    rw [if_neg (show ¬ ((2 : Nat) = 0) by decide), if_neg (show ¬ ((2 : Nat) = 1) by decide), if_pos rfl]
    unfold pastStep
    rw [if_neg hb]
    have e1 : min c b.length = b.length := Nat.min_eq_right h2
    simp only [e1, List.drop_length]
    unfold pL
    by_cases hz : c - b.length = 0
    · rw [if_pos hz, if_pos hz, hz]; rfl
    · rw [if_neg hz, if_neg hz]
  show runP ⟨2, b, c, noReq, false⟩ = _
  rw [runP_go hq s1 rfl, pL_run]
  rfl
def largeLine (n : Nat) (quiet : Bool) : List UInt8 := if quiet = true then setLine [107] [48] (dec n) ++ noreplyS else setLine [107] [48] (dec n)
theorem large_fed {n : Nat} (quiet : Bool) (h1 : 1048576 < n) (h2 : n ≤ 2147483647) : feed p0 (largeLine n quiet ++ [13, 10]) = (if quiet = true then [] else [evAns 14 tooLarge], pL (n + 2)) := by
  have hline := set_line (k := [107]) (fl := [48]) (f := 0) (n := n) (by decide) (by decide) (by decide) (num_zero _) h2
  have hq2 := quiet_line (s := setLine [107] [48] (dec n)) (by rw [hline]) (by rw [hline]) (by rw [hline]; show ¬ ((3 : Nat) = 1); decide) (by rw [hline]; show ¬ ((3 : Nat) = 2); decide) (by rw [hline]; show ¬ ((3 : Nat) = 14); decide) (by rw [hline]; show ¬ ((3 : Nat) = 16); decide) (by rw [hline]; show ¬ ((3 : Nat) = 17); decide)
  have hl : lineOf (largeLine n quiet) = (⟨3, [[107]], 0, 0, n, 0, 0, quiet, []⟩, 0) := by
    unfold largeLine
    cases quiet with
    | false => rw [if_neg (by decide)]; exact hline
    | true => rw [if_pos rfl, hq2.1, hline]
  obtain ⟨d1, d2, d3, d4⟩ := dec_facts (u := n) (by omega)
  have dw := dig_words d3
  have hnr : ∀ c ∈ noreplyS, c ≠ 10 := by decide
  have hno : ∀ c ∈ largeLine n quiet, c ≠ 10 := by
    have hs : ∀ c ∈ setLine [107] [48] (dec n), c ≠ 10 := by
      intro c hc
      unfold setLine setS at hc
      simp only [List.mem_append, List.mem_cons, List.not_mem_nil, or_false] at hc
      rcases hc with (rfl | rfl | rfl) | rfl | rfl | rfl | rfl | rfl | rfl | rfl | h
      all_goals first
        | decide
        | exact (dw.2 c h).1
    intro c hc
    unfold largeLine at hc
    split at hc
    · rcases List.mem_append.1 hc with h | h
      · exact hs c h
      · exact hnr c h
    · exact hs c hc
  have hlen : (largeLine n quiet).length ≤ 2000 := by
    unfold largeLine setLine setS noreplyS
    split <;> simp only [List.length_append, List.length_cons, List.length_nil] <;> omega
  rw [feed_eq rfl]
  have hq : PS.Ok ⟨0, largeLine n quiet ++ [13, 10], 0, noReq, false⟩ := okM (by decide) (fun h => nomatch h) (fun _ => rfl) (by decide) (fun h => nomatch h) (fun _ => rfl)
  have hpl : pL (n + 2) = ⟨2, [], n + 2, noReq, false⟩ := if_neg (by omega)
  have s1 : stepP ⟨0, largeLine n quiet ++ [13, 10], 0, noReq, false⟩ = (true, pL (n + 2), if quiet = true then [] else [evAns 14 tooLarge]) := by
    rw [step_line rfl, line_fed hno hlen, doLine_eq, hl, hpl]
    simp only []
    rw [if_neg (by decide), if_neg (by decide), if_neg (by decide), if_pos ⟨by decide, h1⟩]
  show runP ⟨0, largeLine n quiet ++ [13, 10], 0, noReq, false⟩ = _
  rw [runP_go hq s1 rfl, pL_run]
  simp
def getEv : Ev := evReq ⟨1, [[97]], 0, 0, 0, 0, 0, false, []⟩
theorem get_fed : feed p0 [103, 101, 116, 32, 97, 13, 10] = ([getEv], p0) := by
  have hl : lineOf [103, 101, 116, 32, 97] = (⟨1, [[97]], 0, 0, 0, 0, 0, false, []⟩, 0) := by rfl
  rw [feed_eq rfl]
  have hq : PS.Ok ⟨0, [103, 101, 116, 32, 97, 13, 10], 0, noReq, false⟩ := okM (by decide) (fun h => nomatch h) (fun _ => rfl) (by decide) (fun h => nomatch h) (fun _ => rfl)
  have s1 : stepP ⟨0, [103, 101, 116, 32, 97, 13, 10], 0, noReq, false⟩ = (true, p0, [getEv]) := by
    rw [step_line rfl]
    have := line_fed (t := [103, 101, 116, 32, 97]) (rest := []) (by decide) (by decide)
    rw [doLine_eq, hl] at this
    exact this
  show runP ⟨0, [103, 101, 116, 32, 97, 13, 10], 0, noReq, false⟩ = _
  rw [runP_go hq s1 rfl, run_p0]
  rfl

theorem atp_nil {H : Heap} {b : Nat} {p : PS} (hp : p.asked = noReq) (h : H.get b = some (.cells (psC p .nils .nils) 1)) : AtP H b p := ⟨.nils, h, .inl ⟨rfl, by rw [hp]; rfl⟩, .inl rfl⟩
theorem atp_get {H : Heap} {b : Nat} {p : PS} (hp : p.asked = noReq) (h : AtP H b p) : H.get b = some (.cells (psC p .nils .nils) 1) := by
  obtain ⟨kv, h1, h2, h3⟩ := h
  rcases h3 with rfl | h3
  · exact h1
  · rw [hp] at h3; exact absurd rfl h3

theorem mksl_eq (N : Nat) (h : N ≤ 540000) : nMksl 2 1 1 [.int .u8 (.ofNat 0)] (.int .i64 (.ofNat N)) (.int .i64 (.ofNat N)) = some (.cells (rep N [.int .u8 (.ofNat 0)]) 3, slTo N 1) := by
  unfold nMksl
  have h1 : natOf (.int .i64 (.ofNat N)) = some N := rfl
  have h2 : 1 * N ≤ 140737488355328 := by omega
  have h3 : N ≤ 140737488355328 := by omega
  simp only [h1, nble, Nat.le_refl, decide_eq_true h2, decide_eq_true h3, decide_true, Bool.and_self, cond_true]
theorem rep_len : ∀ (N : Nat) (v : AV), (rep N [v]).length = N
  | 0, _ => rfl
  | N + 1, v => by
    show ([v] ++ rep N [v]).length = _
    rw [List.length_append, rep_len N v, List.length_cons, List.length_nil]; omega

theorem Large_law (x y : Int) (quiet : Bool) (f : Nat) (hf : f < 256) (H : Heap) (hT : Tab H) : Eo lib n_depotlaw13_ParseLarge [.int .i64 x, .int .i64 y, .bool quiet, .int .u8 (.ofNat f)] H fun v _ => v = .bool true := by
  refine Eo.ok fun hOk => ?_
  refine Eo.code at_depotlaw13_ParseLarge rfl ?_
  repeat (first | ((first | apply Xk.sAny | apply Xk.tAny); (case hok => rfl); (case h => intro C hC; simp (disch := omega) only [w1, ↓reduceIte, Nat.reduceEqDiff, Nat.reduceLeDiff, Nat.reduceAdd, Nat.reduceSub]; with_reducible exact hC); refine gc ?_) | refine gm ?_)
  refine New_ev _ _ fun H1 hO1 hle1 hn1 hp1 => ?_
  have AP1 : AtP H1 H.next p0 := ⟨.nils, hp1, .inl ⟨rfl, rfl⟩, .inl rfl⟩
  have hbp0 : H.get H.next = none := hOk _ (Nat.le_refl _)
  repeat (first | ((first | apply Xk.sAny | apply Xk.tAny); (case hok => rfl); (case h => intro C hC; simp (disch := omega) only [w1, ↓reduceIte, Nat.reduceEqDiff, Nat.reduceLeDiff, Nat.reduceAdd, Nat.reduceSub, eqc_nilp]; with_reducible exact hC); refine gc ?_) | refine gm ?_)
  generalize H.next = bp at *
  refine Within_ev x 1 3000 (by decide) (by decide) _ _ fun o ho1 ho2 => ?_
  repeat (first | ((first | apply Xk.sAny | apply Xk.tAny); (case hok => rfl); (case h => intro C hC; simp (disch := omega) only [w1, ↓reduceIte, Nat.reduceEqDiff, Nat.reduceLeDiff, Nat.reduceAdd, Nat.reduceSub]; with_reducible exact hC); refine gc ?_) | refine gm ?_)
  refine Itoa_ev (1048576 + o) (by omega) _ (hT.mono hle1) _ fun H2 hO2 hle2 => ?_
  have AP2 := AP1.mono hle2
  obtain ⟨_, dl, _, _⟩ := dec_facts (u := 1048576 + o) (by omega)
  have hH2 := hle1.trans hle2
  have m1 : ([115, 101, 116, 32, 107, 32, 48, 32, 48, 32] : List UInt8).length + (dec (1048576 + o)).length ≤ 4611686018427387904 := by simp; omega
  have m2 : (115 :: 101 :: 116 :: 32 :: 107 :: 32 :: 48 :: 32 :: 48 :: 32 :: dec (1048576 + o)).length + ([32, 110, 111, 114, 101, 112, 108, 121] : List UInt8).length ≤ 4611686018427387904 := by simp; omega
  have m3 : (115 :: 101 :: 116 :: 32 :: 107 :: 32 :: 48 :: 32 :: 48 :: 32 :: dec (1048576 + o)).length + ([13, 10] : List UInt8).length ≤ 4611686018427387904 := by simp; omega
  have m4 : (115 :: 101 :: 116 :: 32 :: 107 :: 32 :: 48 :: 32 :: 48 :: 32 :: (dec (1048576 + o) ++ [32, 110, 111, 114, 101, 112, 108, 121])).length + ([13, 10] : List UInt8).length ≤ 4611686018427387904 := by simp; omega
  have hfed := large_fed (n := 1048576 + o) quiet (by omega) (by omega)
  have hlt : (largeLine (1048576 + o) quiet ++ [13, 10]).length < 1000 := by
    unfold largeLine setLine setS noreplyS
    split <;> simp <;> omega
  have lt01 : (0 < 1) = True := by decide
  cases quiet
  case' true =>
    repeat (first | ((first | apply Xk.sAny | apply Xk.tAny); (case hok => rfl); (case h => intro C hC; simp (disch := omega) only [w1, ↓reduceIte, Nat.reduceEqDiff, Nat.reduceLeDiff, Nat.reduceAdd, Nat.reduceSub, adds _ _ m1, adds _ _ m2, adds _ _ m4]; with_reducible exact hC); refine gc ?_) | refine gm ?_)
    refine Feed_ev H2 bp p0 (largeLine (1048576 + o) true ++ [13, 10]) AP2 p0_ok (by show 0 + _ < _; omega) _ fun H3 ev cs hO3 hk3 AP3 hev hrow => ?_
    rw [hfed] at AP3 hrow
    have EV : Evs H3 ev [] := ⟨cs, own_any hev, hrow⟩
    have lE : rLensl ev = some (.int .i64 (.ofNat 0)) := EV.lens
    have hle3 := hle_keepB hH2 hbp0 hk3
    repeat (first | ((first | apply Xk.sAny | apply Xk.tAny); (case hok => rfl); (case h => intro C hC; simp (disch := omega) only [w1, ↓reduceIte, Nat.reduceEqDiff, Nat.reduceLeDiff, Nat.reduceAdd, Nat.reduceSub, lE]; with_reducible exact hC); refine gc ?_) | refine gm ?_)
  case' false =>
    repeat (first | ((first | apply Xk.sAny | apply Xk.tAny); (case hok => rfl); (case h => intro C hC; simp (disch := omega) only [w1, ↓reduceIte, Nat.reduceEqDiff, Nat.reduceLeDiff, Nat.reduceAdd, Nat.reduceSub, adds _ _ m1, adds _ _ m3]; with_reducible exact hC); refine gc ?_) | refine gm ?_)
    refine Feed_ev H2 bp p0 (largeLine (1048576 + o) false ++ [13, 10]) AP2 p0_ok (by show 0 + _ < _; omega) _ fun H3 ev cs hO3 hk3 AP3 hev hrow => ?_
    rw [hfed] at AP3 hrow
    have hle3 := hle_keepB hH2 hbp0 hk3
    have z3 := hrow.len
    obtain ⟨kv0, rest0, z1, _⟩ := EvRows.at_ 0 hrow (show 0 < 1 by decide)
    rcases hev with ⟨_, hc0⟩ | ⟨c4, len4, rfl, d2, d3, d4⟩
    · rw [hc0] at z3; cases z3
    have z5 : (cs.drop 9).take 1 = [.int .i64 (.ofNat 14)] := by
      have : cs.drop 9 = (cs.drop (0 * 18)).drop 9 := by simp
      rw [this, z1]; rfl
    have z7 : cs.length = 18 := z3
    obtain rfl : len4 = 1 := by omega
    repeat (first | ((first | apply Xk.sAny | apply Xk.tAny); (case hok => rfl); (case h => intro C hC; simp (disch := omega) only [w1, ↓reduceIte, Nat.reduceEqDiff, Nat.reduceLeDiff, Nat.reduceAdd, Nat.reduceSub, d3, z5, z7, Nat.reduceMul, lt01]; with_reducible exact hC); refine gc ?_) | refine gm ?_)
  all_goals
    refine Within_ev y 1 9 (by decide) (by decide) _ _ fun q hq1 hq2 => ?_
    have hmk : nMksl 2 1 1 [.int .u8 (.ofNat 0)] (.int .i64 (.ofNat (q * 60000))) (.int .i64 (.ofNat (q * 60000))) = some (.cells (rep (q * 60000) [.int .u8 (.ofNat 0)]) 3, slTo (q * 60000) 1) := mksl_eq _ (by omega)
    have hN1 : 0 < q * 60000 := by omega
    have hN2 : q * 60000 ≤ 540000 := by omega
    have hmul := muln_i64 q 60000 (by omega)
    generalize q * 60000 = N at *
    have hrl := rep_len N (.int .u8 (.ofNat 0))
    have hbb : H3.next ≠ bp := by
      obtain ⟨_, hg, _⟩ := AP3
      have := hO3.lt hg
      omega
    have hnew := HLe.new (hO3 _ (Nat.le_refl _)) (.cells (rep N [.int .u8 (.ofNat 0)]) 3)
    have hgb := Heap.get_new_self H3 (.cells (rep N [.int .u8 (.ofNat 0)]) 3)
    have hOn := hO3.new (.cells (rep N [.int .u8 (.ofNat 0)]) 3)
    have APn := atp_get (pL_asked _) (AP3.mono hnew)
    repeat (first | ((first | apply Xk.sAny | apply Xk.tAny); (case hok => rfl); (case h => intro C hC; simp (disch := omega) only [w1, ↓reduceIte, Nat.reduceEqDiff, Nat.reduceLeDiff, Nat.reduceAdd, Nat.reduceSub, hmul, hmk]; with_reducible exact hC); refine gc ?_) | refine gm ?_)
    generalize H3.next = bb at *
    generalize H3.new (.cells (rep N [.int .u8 (.ofNat 0)]) 3) = Hn at *
    refine Xk.iter [3, 9, 10, 13, 14] (fun m k H' => ∃ i l, m = N - i ∧ i ≤ N ∧ k = [(3, .int .u8 (.ofNat f)), (9, .ptr bp 0), (10, .int .i64 (.ofNat (1048576 + o))), (13, .sl bb 0 N 1), (14, .int .i64 (.ofNat i))] ∧ Sb bb Hn H' ∧ H'.get bb = some (.cells l 3) ∧ l.length = N ∧ l.take i = List.replicate i (.int .u8 (.ofNat f))) rfl
      ⟨_, 0, rep N [.int .u8 (.ofNat 0)], rfl, by omega, rfl, ⟨hOn, rfl, fun _ _ => rfl⟩, hgb, hrl, rfl⟩ ?_
    rintro m k H' ⟨i, l, rfl, hi, rfl, hS, hlb, hll, hlt2⟩
    unfold l0_depotlaw13_ParseLarge
    by_cases hiN : i < N
    · have hiN' := eq_true hiN
      have j1 : i + 1 ≤ l.length := by omega
      repeat (first | ((first | apply Xk.sAny | apply Xk.tAny); (case hok => rfl); (case h => intro C hC; simp (disch := omega) only [w1, ↓reduceIte, Nat.reduceEqDiff, Nat.reduceLeDiff, Nat.reduceAdd, Nat.reduceSub, hiN', hlb, j1]; with_reducible exact hC); refine gc ?_) | refine gm ?_)
      refine ⟨rfl, _, by omega, i + 1, _, rfl, by omega, rfl, hS.put hlb _, Heap.get_put_self _ _ _, by rw [over_len l i j1]; exact hll, ?_⟩
      have hti : (l.take i).length = i := by rw [List.length_take]; omega
      rw [List.take_append, List.take_of_length_le (by omega), hti, show i + 1 - i = 1 by omega, hlt2, List.replicate_succ']
      rfl
    · have hiN' := eq_false hiN
      obtain rfl : i = N := by omega
      have hlr : l = List.replicate i (.int .u8 (.ofNat f)) := by rw [← hlt2, List.take_of_length_le (by omega)]
      subst hlr
      clear hlt2 hll
      have APl : AtP H' bp (pL (1048576 + o + 2)) := atp_nil (pL_asked _) (by rw [hS.keep bp hbb.symm]; exact APn)
      repeat (first | ((first | apply Xk.sAny | apply Xk.tAny); (case hok => rfl); (case h => intro C hC; simp (disch := omega) only [w1, ↓reduceIte, Nat.reduceEqDiff, Nat.reduceLeDiff, Nat.reduceAdd, Nat.reduceSub, Nat.lt_irrefl]; with_reducible exact hC); refine gc ?_) | refine gm ?_)
      refine Xk.iter [9, 13, 15] (fun m k H5 => k = [(9, .ptr bp 0), (13, .sl bb 0 i 1), (15, .int .i64 (.ofNat m))] ∧ H5.Ok ∧ H5.get bb = some (.cells (List.replicate i (.int .u8 (.ofNat f))) 3) ∧ AtP H5 bp (pL m) ∧ m ≤ 1100000) rfl
        ⟨_, rfl, hS.ok, hlb, APl, by omega⟩ ?_
      rintro m k H5 ⟨rfl, hO5, hb5, A5, hm⟩
      unfold l1_depotlaw13_ParseLarge
      by_cases hm0 : 0 < m
      · have hm0' := eq_true hm0
        have k1 : min m i ≤ i := Nat.min_le_right _ _
        have k2 : min m i ≤ m := Nat.min_le_left _ _
        have k3 : 0 < min m i := by omega
        have hmm := mm_min .i64 m i
        generalize min m i = kk at *
        have tk : List.take kk (List.replicate i (AV.int .u8 (.ofNat f))) = ofBytes (List.replicate kk (UInt8.ofNat f)) := by
          rw [List.take_replicate, Nat.min_eq_left k1]
          unfold ofBytes
          rw [List.map_replicate, UInt8.toNat_ofNat', Nat.mod_eq_of_lt hf]
        have hfl := past_fed (c := m) (b := List.replicate kk (UInt8.ofNat f)) (by rw [List.length_replicate]; exact k3) (by rw [List.length_replicate]; exact k2) (by omega)
        rw [List.length_replicate] at hfl
        repeat (first | ((first | apply Xk.sAny | apply Xk.tAny); (case hok => rfl); (case h => intro C hC; simp (disch := omega) only [w1, ↓reduceIte, Nat.reduceEqDiff, Nat.reduceLeDiff, Nat.reduceAdd, Nat.reduceSub, hm0', rMm, mms, hmm, hb5, List.length_replicate, k1, rB2s, tk, strOf_of]; with_reducible exact hC); refine gc ?_) | refine gm ?_)
        refine Feed_ev H5 bp (pL m) (List.replicate kk (UInt8.ofNat f)) A5 (pL_ok m (by omega)) (by rw [pL_left, List.length_replicate]; show 0 + kk < _; omega) _ fun H6 ev6 cs6 hO6 hk6 AP6 hev6 hrow6 => ?_
        rw [hfl] at AP6 hrow6
        have EV6 : Evs H6 ev6 [] := ⟨cs6, own_any hev6, hrow6⟩
        have lE6 : rLensl ev6 = some (.int .i64 (.ofNat 0)) := EV6.lens
        repeat (first | ((first | apply Xk.sAny | apply Xk.tAny); (case hok => rfl); (case h => intro C hC; simp (disch := omega) only [w1, ↓reduceIte, Nat.reduceEqDiff, Nat.reduceLeDiff, Nat.reduceAdd, Nat.reduceSub, lE6]; with_reducible exact hC); refine gc ?_) | refine gm ?_)
        refine Left_ev _ bp _ AP6 _ ?_
        have hll6 : (pL (m - kk)).left.length = 0 := by rw [pL_left]; rfl
        repeat (first | ((first | apply Xk.sAny | apply Xk.tAny); (case hok => rfl); (case h => intro C hC; simp (disch := omega) only [w1, ↓reduceIte, Nat.reduceEqDiff, Nat.reduceLeDiff, Nat.reduceAdd, Nat.reduceSub, hll6, k2]; with_reducible exact hC); refine gc ?_) | refine gm ?_)
        exact ⟨rfl, m - kk, by omega, rfl, hO6, hk6 _ _ hbb hb5, AP6, by omega⟩
      · have hm0' := eq_false hm0
        obtain rfl : m = 0 := by omega
        repeat (first | ((first | apply Xk.sAny | apply Xk.tAny); (case hok => rfl); (case h => intro C hC; simp (disch := omega) only [w1, ↓reduceIte, Nat.reduceEqDiff, Nat.reduceLeDiff, Nat.reduceAdd, Nat.reduceSub, hm0']; with_reducible exact hC); refine gc ?_) | refine gm ?_)
        refine Feed_ev H5 bp p0 _ A5 p0_ok (by decide) _ fun H6 ev6 cs6 hO6 hk6 AP6 hev6 hrow6 => ?_
        rw [get_fed] at AP6 hrow6
        have z3 := hrow6.len
        obtain ⟨kv0, rest0, z1, _⟩ := EvRows.at_ 0 hrow6 (show 0 < 1 by decide)
        rcases hev6 with ⟨_, hc0⟩ | ⟨c4, len4, rfl, d2, d3, d4⟩
        · rw [hc0] at z3; cases z3
        have z5 : (cs6.drop 0).take 1 = [.int .i64 (.ofNat 1)] := by
          have : cs6.drop 0 = cs6.drop (0 * 18) := by simp
          rw [this, z1]; rfl
        rw [List.drop_zero] at z5
        have z7 : cs6.length = 18 := z3
        obtain rfl : len4 = 1 := by omega
        repeat (first | ((first | apply Xk.sAny | apply Xk.tAny); (case hok => rfl); (case h => intro C hC; simp (disch := omega) only [w1, ↓reduceIte, Nat.reduceEqDiff, Nat.reduceLeDiff, Nat.reduceAdd, Nat.reduceSub, d3, z5, z7, Nat.reduceMul, lt01]; with_reducible exact hC); refine gc ?_) | refine gm ?_)
        refine LRuns_ev _ _ ?_
        repeat (first | ((first | apply Xk.sAny | apply Xk.tAny); (case hok => rfl); (case h => intro C hC; simp (disch := omega) only [w1, ↓reduceIte, Nat.reduceEqDiff, Nat.reduceLeDiff, Nat.reduceAdd, Nat.reduceSub]; with_reducible exact hC); refine gm ?_) | refine gm ?_)
        rfl
end Go.Proofs.YtkjmelfgopammaaDoor
