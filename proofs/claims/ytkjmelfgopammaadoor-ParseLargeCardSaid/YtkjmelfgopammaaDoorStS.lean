/- Layer 13: whole requests with data, fed: plain laws. Conditions: none. -/
import Derived.Test.YtkjmelfgopammaaDoorPaL
import Derived.Test.YtkjmelfgopammaaDoorStP
namespace Go.Proofs.YtkjmelfgopammaaDoor
open Go.Dp Go.Wd
set_option linter.unusedSimpArgs false
set_option linter.unusedVariables false
set_option maxHeartbeats 2000000
set_option maxRecDepth 8000

/-- a word: no blank, not empty -/
theorem splitGo_word : ∀ (w cur : List UInt8), (∀ c ∈ w, c.toNat ≠ 32) → splitGo cur w = if (cur ++ w).length = 0 then [] else [cur ++ w]
  | [], cur, _ => by
    unfold splitGo
    simp
  | c :: r, cur, h => by
    have hc := h c (List.mem_cons_self ..)
    rw [splitGo, if_neg hc, splitGo_word r (cur ++ [c]) (fun x hx => h x (List.mem_cons_of_mem _ hx))]
    simp
theorem splitW_word {w : List UInt8} (h : ∀ c ∈ w, c.toNat ≠ 32) (h2 : w ≠ []) : splitW w = [w] := by
  unfold splitW
  rw [splitGo_word w [] h, if_neg (by simpa using h2)]
  rfl
theorem key_words {k : List UInt8} (h : keyOk k = true) : (∀ c ∈ k, c.toNat ≠ 32) ∧ k ≠ [] ∧ (∀ c ∈ k, c ≠ 10 ∧ c ≠ 13) ∧ k.length ≤ 250 := by
  unfold keyOk at h
  simp only [Bool.and_eq_true, decide_eq_true_eq, List.all_eq_true] at h
  obtain ⟨h1, h2, h3⟩ := h
  have hc : ∀ c ∈ k, 32 < c.toNat := by
    intro c hc
    have := h3 c hc
    unfold keyCh at this
    simp only [Bool.and_eq_true, decide_eq_true_eq] at this
    exact this.1
  refine ⟨fun c h => by have := hc c h; omega, by intro e; subst e; simp at h1, fun c h => ⟨?_, ?_⟩, h2⟩
  · intro e; have := hc c h; subst e; exact absurd this (by decide)
  · intro e; have := hc c h; subst e; exact absurd this (by decide)
theorem dig_words {s : List UInt8} (h : s.all dig = true) : (∀ c ∈ s, c.toNat ≠ 32) ∧ (∀ c ∈ s, c ≠ 10 ∧ c ≠ 13) := by
  rw [List.all_eq_true] at h
  have hc : ∀ c ∈ s, 48 ≤ c.toNat := by
    intro c hc
    have := h c hc
    unfold dig at this
    simp only [Bool.and_eq_true, decide_eq_true_eq] at this
    exact this.1
  refine ⟨fun c h => by have := hc c h; omega, fun c h => ⟨?_, ?_⟩⟩
  · intro e; have := hc c h; subst e; exact absurd this (by decide)
  · intro e; have := hc c h; subst e; exact absurd this (by decide)

theorem num_zero (most : Nat) : num [48] most = some 0 := by
  have := num_dec (u := 0) (by decide) most
  rw [if_pos (Nat.zero_le _)] at this
  exact this
theorem sgn_zero (most : Nat) : sgn [48] most = (0, true) := by
  show (if (48 : UInt8).toNat = 45 then (-(Int.ofNat ((num [] most).getD 0)), (num [] most).isSome) else (Int.ofNat ((num [48] most).getD 0), (num [48] most).isSome)) = _
  rw [if_neg (by decide), num_zero]
  rfl
def setS : List UInt8 := [115, 101, 116]
/-- the line of a set: flags and time as given words -/
def setLine (k fl n : List UInt8) : List UInt8 := setS ++ 32 :: (k ++ 32 :: (fl ++ 32 :: ([48] ++ 32 :: n)))
theorem setLine_words {k fl n : List UInt8} (hk : ∀ c ∈ k, c.toNat ≠ 32) (hk2 : k ≠ []) (hf : ∀ c ∈ fl, c.toNat ≠ 32) (hf2 : fl ≠ []) (hn : ∀ c ∈ n, c.toNat ≠ 32) (hn2 : n ≠ []) : splitW (setLine k fl n) = [setS, k, fl, [48], n] := by
  unfold setLine
  rw [splitW_app, splitW_app, splitW_app, splitW_app, splitW_word hk hk2, splitW_word hf hf2, splitW_word hn hn2]
  rfl
theorem set_line {k fl : List UInt8} {f n : Nat} (hk : keyOk k = true) (hf : ∀ c ∈ fl, c.toNat ≠ 32) (hf2 : fl ≠ []) (hfn : num fl 4294967295 = some f) (hn : n ≤ 2147483647) :
    lineOf (setLine k fl (dec n)) = (⟨3, [k], f, 0, n, 0, 0, false, []⟩, 0) := by
  obtain ⟨k1, k2, _, _⟩ := key_words hk
  obtain ⟨d1, d2, d3, d4⟩ := dec_facts (u := n) (by omega)
  have dw := dig_words d3
  have hne : dec n ≠ [] := by intro e; rw [e] at d1; simp at d1
  have hv : verbOf setS = some (3, 4, 4, true) := by decide
  have hnr : dec n ≠ noreply := by
    intro e
    have := d3
    rw [e] at this
    exact absurd this (by decide)
  unfold lineOf
  rw [setLine_words k1 k2 hf hf2 dw.1 hne]
  have hq : quietOf (3, 4, 4, true) [k, fl, [48], dec n] = ([k, fl, [48], dec n], false) := by
    unfold quietOf
    rw [if_neg (by simp)]
  rw [wordsOf_args hv (by rw [hq]; show ¬ ((4 : Nat) < 4 ∨ (4 : Nat) < 4); omega), hq]
  have hnum : num (dec n) 2147483647 = some n := by rw [num_dec (by omega), if_pos hn]
  have hs : sgn [48] 1099511627776 = (0, true) := sgn_zero 1099511627776
  have ha : argsOf ⟨3, [], 0, 0, 0, 0, 0, false, []⟩ [k, fl, [48], dec n] = some ⟨3, [k], f, 0, n, 0, 0, false, []⟩ := by
    unfold argsOf
    simp only []
    rw [if_neg (by decide), if_neg (by decide), if_neg (by decide), if_neg (by decide), if_pos (show keyOk ([k, fl, [48], dec n].getD 0 []) = true from hk)]
    unfold argsB
    simp only []
    have g0 : [k, fl, [48], dec n].getD 0 [] = k := rfl
    have g1 : [k, fl, [48], dec n].getD 1 [] = fl := rfl
    have g2 : [k, fl, [48], dec n].getD 2 [] = [48] := rfl
    have g3 : [k, fl, [48], dec n].getD 3 [] = dec n := rfl
    have hst : storeOk 3 [k, fl, [48], dec n] = true := by
      unfold storeOk
      rw [g1, g2, g3, hfn, hs, hnum]
      rfl
    rw [if_pos (by decide), if_pos hst, g0, g1, g2, g3, hfn, hs, hnum]
    rfl
  simp only []
  rw [ha]

theorem trim_cr (t : List UInt8) : trimCR (t ++ [13]) = t := by
  unfold trimCR
  rw [List.length_append]
  simp
/-- one line, fed to a parser at the beginning of one -/
theorem line_fed {t rest : List UInt8} (h : ∀ c ∈ t, c ≠ 10) (hl : t.length ≤ 2000) : lineStep ⟨0, t ++ (13 :: 10 :: rest), 0, noReq, false⟩ = (true, doLine ⟨0, rest, 0, noReq, false⟩ t) := by
  have hu : ∀ t : List UInt8, (∀ c ∈ t, c ≠ 10) → upTo 10 t = t.length := by
    intro t
    induction t with
    | nil => intro _; rfl
    | cons c r ih =>
      intro h
      unfold upTo
      rw [if_neg (h c (List.mem_cons_self ..)), ih (fun x hx => h x (List.mem_cons_of_mem _ hx)), List.length_cons]
  have h1 := upTo_app_none 10 t (13 :: 10 :: rest) (hu t h)
  have h2 : upTo 10 (13 :: 10 :: rest) = 1 := rfl
  rw [h2] at h1
  have htk : (t ++ (13 :: 10 :: rest)).take (t.length + 1) = t ++ [13] := by
    rw [List.take_append, List.take_of_length_le (by omega)]
    have : t.length + 1 - t.length = 1 := by omega
    rw [this]; rfl
  have hdr : (t ++ (13 :: 10 :: rest)).drop (t.length + 1 + 1) = rest := by
    rw [Nat.add_assoc, ← List.drop_drop, List.drop_left]; rfl
  unfold lineStep
  simp only [h1]
  rw [if_neg (by omega), if_neg (by rw [List.length_append]; simp), htk, hdr, trim_cr]
/-- one request with its data, fed to a parser at the beginning of a line -/
theorem set_fed {k fl d : List UInt8} {f : Nat} (hk : keyOk k = true) (hf : fl.all dig = true) (hf2 : fl ≠ []) (hf3 : fl.length ≤ 20) (hfn : num fl 4294967295 = some f) (hd : d.length ≤ 1048576) :
    feed p0 (setLine k fl (dec d.length) ++ (13 :: 10 :: (d ++ [13, 10]))) = ([evReq ⟨3, [k], f, 0, d.length, 0, 0, false, d⟩], p0) := by
  obtain ⟨k1, k2, k3, k4⟩ := key_words hk
  obtain ⟨d1, d2, d3, d4⟩ := dec_facts (u := d.length) (by omega)
  have dw := dig_words d3
  have fw := dig_words hf
  have hline := set_line hk fw.1 hf2 hfn (show d.length ≤ 2147483647 by omega)
  have hno : ∀ c ∈ setLine k fl (dec d.length), c ≠ 10 := by
    intro c hc
    unfold setLine at hc
    simp only [List.mem_append, List.mem_cons, List.not_mem_nil, or_false, setS] at hc
    rcases hc with (rfl | rfl | rfl) | rfl | h | rfl | h | rfl | rfl | rfl | h
    · decide
    · decide
    · decide
    · decide
    · exact (k3 c h).1
    · decide
    · exact (fw.2 c h).1
    · decide
    · decide
    · decide
    · exact (dw.2 c h).1
  have hlen : (setLine k fl (dec d.length)).length ≤ 2000 := by
    unfold setLine setS
    simp only [List.length_append, List.length_cons, List.length_nil]
    omega
  rw [feed_eq rfl]
  have hq : PS.Ok ⟨0, setLine k fl (dec d.length) ++ (13 :: 10 :: (d ++ [13, 10])), 0, noReq, false⟩ := okM (by decide) (fun h => nomatch h) (fun _ => rfl) (by decide) (fun h => nomatch h) (fun _ => rfl)
  have s1 : stepP ⟨0, setLine k fl (dec d.length) ++ (13 :: 10 :: (d ++ [13, 10])), 0, noReq, false⟩ = (true, ⟨1, d ++ [13, 10], 0, ⟨3, [k], f, 0, d.length, 0, 0, false, []⟩, false⟩, []) := by
    show lineStep _ = _
    rw [line_fed hno hlen, doLine_eq, hline]
    simp only []
    rw [if_neg (by decide), if_neg (by decide), if_neg (by decide), if_neg (by simp [storing]; omega), if_pos (by decide)]
  have hq1 := (step_ok hq rfl).1
  rw [s1] at hq1
  have s2 : stepP ⟨1, d ++ [13, 10], 0, ⟨3, [k], f, 0, d.length, 0, 0, false, []⟩, false⟩ = (true, p0, [evReq ⟨3, [k], f, 0, d.length, 0, 0, false, d⟩]) := by
    show dataStep _ = _
    unfold dataStep
    simp only [List.drop_left, List.take_left]
    rw [if_neg (by rw [List.length_append]; simp), if_neg (by decide), if_pos (show List.take 2 ([13, 10] : List UInt8) = [13, 10] from rfl)]
    rfl
  show runP ⟨0, setLine k fl (dec d.length) ++ (13 :: 10 :: (d ++ [13, 10])), 0, noReq, false⟩ = _
  rw [runP_go hq s1 rfl, runP_go hq1 s2 rfl, run_p0]
  rfl

/-- requests one behind the other -/
def setsOf : List (List UInt8 × List UInt8) → List UInt8
  | [] => []
  | (k, d) :: r => (setLine k [55] (dec d.length) ++ (13 :: 10 :: (d ++ [13, 10]))) ++ setsOf r
def setEvs : List (List UInt8 × List UInt8) → List Ev
  | [] => []
  | (k, d) :: r => evReq ⟨3, [k], 7, 0, d.length, 0, 0, false, d⟩ :: setEvs r
theorem num_seven : num [55] 4294967295 = some 7 := by
  have := num_dec (u := 7) (by decide) 4294967295
  rw [if_pos (by decide)] at this
  exact this
theorem sets_fed : ∀ (l : List (List UInt8 × List UInt8)), (∀ x ∈ l, keyOk x.1 = true ∧ x.2.length ≤ 200) → feed p0 (setsOf l) = (setEvs l, p0)
  | [], _ => rfl
  | (k, d) :: r, h => by
    obtain ⟨h1, h2⟩ := h (k, d) (List.mem_cons_self ..)
    show feed p0 ((setLine k [55] (dec d.length) ++ (13 :: 10 :: (d ++ [13, 10]))) ++ setsOf r) = _
    rw [feed_app p0_ok, set_fed h1 (by decide) (by decide) (by decide) num_seven (show d.length ≤ 1048576 by simp only at h2; omega), sets_fed r (fun x hx => h x (List.mem_cons_of_mem _ hx))]
    rfl
theorem setsOf_snoc : ∀ (l : List (List UInt8 × List UInt8)) (k d : List UInt8), setsOf (l ++ [(k, d)]) = setsOf l ++ (setLine k [55] (dec d.length) ++ (13 :: 10 :: (d ++ [13, 10])))
  | [], k, d => by simp [setsOf]
  | (a, b) :: r, k, d => by
    show (_ ++ setsOf (r ++ [(k, d)])) = _
    rw [setsOf_snoc r k d, ← List.append_assoc]
    rfl
theorem setEvs_len : ∀ (l : List (List UInt8 × List UInt8)), (setEvs l).length = l.length
  | [] => rfl
  | (a, b) :: r => by
    show (setEvs r).length + 1 = _
    rw [setEvs_len r]; rfl
theorem setEvs_at : ∀ (l : List (List UInt8 × List UInt8)) (i : Nat), i < l.length → ∃ k, (setEvs l).getD i noEv = evReq ⟨3, [k], 7, 0, ((l.map Prod.snd).getD i []).length, 0, 0, false, (l.map Prod.snd).getD i []⟩
  | [], i, h => by cases h
  | (a, b) :: r, 0, _ => ⟨a, rfl⟩
  | (a, b) :: r, i + 1, h => setEvs_at r i (by simpa using h)
theorem setsOf_len : ∀ (l : List (List UInt8 × List UInt8)), (∀ x ∈ l, keyOk x.1 = true ∧ x.2.length ≤ 200) → (setsOf l).length ≤ 600 * l.length
  | [], _ => Nat.le_refl _
  | (k, d) :: r, h => by
    obtain ⟨h1, h2⟩ := h (k, d) (List.mem_cons_self ..)
    simp only at h1 h2
    have ih := setsOf_len r (fun x hx => h x (List.mem_cons_of_mem _ hx))
    obtain ⟨_, _, _, k4⟩ := key_words h1
    obtain ⟨_, d2, _, _⟩ := dec_facts (u := d.length) (by omega)
    show ((setLine k [55] (dec d.length) ++ (13 :: 10 :: (d ++ [13, 10]))) ++ setsOf r).length ≤ _
    unfold setLine setS
    simp only [List.length_append, List.length_cons, List.length_nil]
    omega

/-- a set with more bytes than it said, and a line behind the one that is lost -/
def broken (n : Nat) : List UInt8 := ([115, 101, 116, 32, 107, 32, 48, 32, 48, 32, 49, 13, 10, 120] ++ List.replicate n 121) ++ [13, 10, 118, 101, 114, 115, 105, 111, 110, 13, 10]
def versS : List UInt8 := [118, 101, 114, 115, 105, 111, 110]
def versEv : Ev := evReq ⟨14, [], 0, 0, 0, 0, 0, false, []⟩
theorem step_line {p : PS} (h : p.at_ = 0) : stepP p = lineStep p := by unfold stepP; rw [if_pos h]
theorem step_data {p : PS} (h : p.at_ = 1) : stepP p = dataStep p := by unfold stepP; rw [if_neg (by omega), if_pos h]
theorem step_broken {p : PS} (h : p.at_ = 3) : stepP p = brokenStep p := by unfold stepP; rw [if_neg (by omega), if_neg (by omega), if_neg (by omega)]
theorem broken_fed {n : Nat} (h : 1 ≤ n) : feed p0 (broken n) = ([evAns 13 badData, versEv], p0) := by
  have hline := set_line (k := [107]) (fl := [48]) (f := 0) (n := 1) (by decide) (by decide) (by decide) (num_zero _) (by decide)
  have e1 : dec 1 = [49] := by decide
  rw [e1] at hline
  obtain ⟨m, rfl⟩ : ∃ m, n = m + 1 := ⟨n - 1, by omega⟩
  have hb : broken (m + 1) = setLine [107] [48] [49] ++ (13 :: 10 :: (120 :: 121 :: (List.replicate m 121 ++ (13 :: 10 :: (versS ++ [13, 10]))))) := by
    simp [broken, setLine, setS, versS, List.replicate_succ]
  rw [hb, feed_eq rfl]
  generalize hR : List.replicate m (121 : UInt8) ++ (13 :: 10 :: (versS ++ [13, 10])) = R
  have hq : PS.Ok ⟨0, setLine [107] [48] [49] ++ (13 :: 10 :: (120 :: 121 :: R)), 0, noReq, false⟩ := okM (by decide) (fun h => nomatch h) (fun _ => rfl) (by decide) (fun h => nomatch h) (fun _ => rfl)
  have s1 : stepP ⟨0, setLine [107] [48] [49] ++ (13 :: 10 :: (120 :: 121 :: R)), 0, noReq, false⟩ = (true, ⟨1, 120 :: 121 :: R, 0, ⟨3, [[107]], 0, 0, 1, 0, 0, false, []⟩, false⟩, []) := by
    rw [step_line rfl, line_fed (by decide) (by decide), doLine_eq, hline]
    rfl
  have q1 := (step_ok hq rfl).1
  rw [s1] at q1
  have s2 : stepP ⟨1, 120 :: 121 :: R, 0, ⟨3, [[107]], 0, 0, 1, 0, 0, false, []⟩, false⟩ = (true, ⟨3, 121 :: R, 0, noReq, false⟩, [evAns 13 badData]) := by
    rw [step_data rfl]
    unfold dataStep
    simp only [List.drop_succ_cons, List.drop_zero]
    rw [if_neg (by simp), if_neg (by intro h; cases h), if_neg (by intro h; cases R <;> cases h)]
  have q2 := (step_ok q1 rfl).1
  rw [s2] at q2
  have hu : upTo 10 (121 :: R) = m + 2 := by
    have h1 : ∀ m : Nat, upTo 10 (List.replicate m (121 : UInt8)) = (List.replicate m (121 : UInt8)).length := by
      intro m
      induction m with
      | zero => rfl
      | succ m ih =>
        rw [List.replicate_succ]
        unfold upTo
        rw [if_neg (by decide), ih, List.length_cons]
    have h2 := upTo_app_none 10 (List.replicate (m + 1) (121 : UInt8)) (13 :: 10 :: (versS ++ [13, 10])) (h1 _)
    rw [List.replicate_succ, List.cons_append, hR] at h2
    rw [h2]
    have h3 : upTo 10 (13 :: 10 :: (versS ++ [13, 10])) = 1 := rfl
    rw [h3, List.length_cons, List.length_replicate]
  have hRl : R.length = m + 11 := by rw [← hR]; simp [versS]
  have hdr : (121 :: R).drop (m + 2 + 1) = versS ++ [13, 10] := by
    have : 121 :: R = List.replicate (m + 1) 121 ++ (13 :: 10 :: (versS ++ [13, 10])) := by rw [List.replicate_succ, List.cons_append, hR]
    rw [this, show m + 2 + 1 = (m + 1) + 2 by omega, ← List.drop_drop]
    have hl : (List.replicate (m + 1) (121 : UInt8)).length = m + 1 := List.length_replicate
    have h4 : (List.replicate (m + 1) (121 : UInt8) ++ (13 :: 10 :: (versS ++ [13, 10]))).drop (m + 1) = 13 :: 10 :: (versS ++ [13, 10]) := by
      rw [List.drop_append_of_le_length (by omega), List.drop_eq_nil_of_le (by omega)]
      rfl
    rw [h4]
    rfl
  have s3 : stepP ⟨3, 121 :: R, 0, noReq, false⟩ = (true, ⟨0, versS ++ [13, 10], 0, noReq, false⟩, []) := by
    rw [step_broken rfl]
    unfold brokenStep
    simp only [hu]
    rw [if_neg (by rw [List.length_cons, hRl]; omega), hdr]
  have q3 := (step_ok q2 rfl).1
  rw [s3] at q3
  have s4 : stepP ⟨0, versS ++ [13, 10], 0, noReq, false⟩ = (true, p0, [versEv]) := by
    rw [step_line rfl, line_fed (t := versS) (rest := []) (by decide) (by decide), doLine_eq]
    rfl
  show runP ⟨0, setLine [107] [48] [49] ++ (13 :: 10 :: (120 :: 121 :: R)), 0, noReq, false⟩ = _
  rw [runP_go hq s1 rfl, runP_go q1 s2 rfl, runP_go q2 s3 rfl, runP_go q3 s4 rfl, run_p0]
  rfl
end Go.Proofs.YtkjmelfgopammaaDoor
