/- Layer 12: the reference's args and Line: what a call of each comes to. Conditions: none. -/
import Derived.Test.YtkjmelfgopammaaWdE
namespace Go.Proofs.Ytkjmelfgopammaa
open Go.Dp Go.Wd
set_option linter.unusedSimpArgs false
set_option linter.unusedVariables false
set_option maxHeartbeats 2000000
attribute [local irreducible] Ex.thnK Ex.inK Ret

theorem rargs_ev (H : Heap) (b bl o w verb : Nat) (cl : List AV) (l : List (List UInt8)) (q : Bool) (hb : H.get b = some (.cells (reqC verb .nils 0 0 0 0 0 q []) 1)) (T : Txt H bl o cl w l) (hne : bl ≠ b)
    (m1 : verb ≤ 2 → 1 ≤ l.length) (m2 : 3 ≤ verb → verb ≤ 8 → 4 ≤ l.length) (m3 : verb = 8 → 5 ≤ l.length) (m4 : verb = 9 → 1 ≤ l.length) (m5 : 10 ≤ verb → verb ≤ 12 → 2 ≤ l.length) (m6 : verb = 15 → 1 ≤ l.length) (hv : 1 ≤ verb ∧ verb ≤ 17)
    (hmax : l.length ≤ 64) (hkey : ∀ w ∈ l, w.length < 1000000000) (Q : AV → Heap → Prop)
    (hQ : ∀ H', H'.Ok → (∀ c y, c ≠ b → H.get c = some y → H'.get c = some y) → H.next ≤ H'.next →
      (∀ r', argsOf ⟨verb, [], 0, 0, 0, 0, 0, q, []⟩ l = some r' → ∃ cells, H'.get b = some (.cells cells 1) ∧ RepO H H' cells r') → (∃ cells, H'.get b = some (.cells cells 1) ∧ cells.length = 9) → Q (.bool (argsOf ⟨verb, [], 0, 0, 0, 0, 0, q, []⟩ l).isSome) H') :
    Eo lib n_depotref9_args [.ptr b 0, .sl bl o l.length 1] H Q := by
  refine Eo.ok fun hOk => ?_
  have hl := T.at_
  have hbb := hb
  -- nothing is turned
  have still : ∀ r', argsOf ⟨verb, [], 0, 0, 0, 0, 0, q, []⟩ l = some r' → r' = ⟨verb, [], 0, 0, 0, 0, 0, q, []⟩ → Q (.bool true) H := by
    intro r' e1 e2
    have := hQ H hOk (fun _ _ _ h => h) (Nat.le_refl _) (fun r2 e3 => by rw [e1] at e3; cases e3; subst e2; exact ⟨_, hbb, .nils, rfl, .inl ⟨rfl, rfl⟩⟩) ⟨_, hbb, rfl⟩
    rw [e1] at this
    exact this
  have none_ : argsOf ⟨verb, [], 0, 0, 0, 0, 0, q, []⟩ l = none → Q (.bool false) H := by
    intro e1
    have := hQ H hOk (fun _ _ _ h => h) (Nat.le_refl _) (fun r2 e3 => by rw [e1] at e3; cases e3) ⟨_, hbb, rfl⟩
    rw [e1] at this
    exact this
  -- the keys are laid in
  have keys : ∀ ks : List (List UInt8), ks.length ≤ 64 → ∀ x (H1 : Heap), H1.Ok → HLe H H1 → H.next ≤ H1.next → srcCells (H1.new (.cells [] 1)) 1 x = some (ks.length, strs ks) → ∃ v' H2, evalApp 0 1 16 (H1.new (.cells [] 1)) (.sl H1.next 0 0 1) x = some (v', H2) ∧ H2.get b = some (.cells (reqC verb .nils 0 0 0 0 0 q []) 1) ∧ H2.Ok ∧ HLe H H2 ∧ H.next ≤ H2.next ∧ Own H H2 0 1 v' (strs ks) := by
    intro ks hks x H1 hO1 hle1 hn1 hx
    have hfr : H.get H1.next = none := by
      cases h : H.get H1.next with
      | none => rfl
      | some y => have := hle1 _ _ h; rw [hO1 _ (Nat.le_refl _)] at this; cases this
    obtain ⟨v', H2, e1, e2, e3, e4, e5, e6⟩ := Own.app (H0 := H) (H := H1.new (.cells [] 1)) (k := 0) (sz := 1) (bytes := 16) (v := .sl H1.next 0 0 1) (cs := []) (hO1.new _) (hle1.new_ hO1 _) (.inr ⟨H1.next, 0, rfl, rfl, Heap.get_new_self _ _, hfr⟩) hx (by rw [strs_len]; omega) (by omega) (by simp; omega) (by simp; omega)
    rw [Heap.next_new] at e4
    exact ⟨v', H2, e1, e3 _ _ hbb, e2, e3, by omega, e5⟩
  -- the end behind the keys
  have done_ : ∀ (H2 : Heap) (v' : AV) (cells : List AV) (r' : Req), H2.Ok → HLe H H2 → H.next ≤ H2.next → Own H H2 0 1 v' (strs r'.keys) → argsOf ⟨verb, [], 0, 0, 0, 0, 0, q, []⟩ l = some r' → H2.get b = some (.cells (reqC verb .nils 0 0 0 0 0 q []) 1) → cells = reqC r'.verb v' r'.flags r'.exp r'.bytes r'.cas r'.delta r'.noReply r'.data → Q (.bool true) (H2.put b (.cells cells 1)) := by
    intro H2 v' cells r' hO2 hle2 hn2 hown e hg hc
    have := hQ (H2.put b (.cells cells 1)) (hO2.put hg _) (fun c y hc h => by rw [Heap.get_put_ne _ _ _ hc]; exact hle2 c y h) hn2 (fun r2 e3 => by rw [e] at e3; cases e3; exact ⟨_, Heap.get_put_self _ _ _, v', hc, hown.put hbb _⟩) ⟨_, Heap.get_put_self _ _ _, by rw [hc]; rfl⟩
    rw [e] at this
    exact this
  have fail_ : ∀ (H2 : Heap) (cells : List AV), cells.length = 9 → H2.Ok → HLe H H2 → H.next ≤ H2.next → argsOf ⟨verb, [], 0, 0, 0, 0, 0, q, []⟩ l = none → H2.get b = some (.cells (reqC verb .nils 0 0 0 0 0 q []) 1) → Q (.bool false) (H2.put b (.cells cells 1)) := by
    intro H2 cells hc hO2 hle2 hn2 e hg
    have := hQ (H2.put b (.cells cells 1)) (hO2.put hg _) (fun c y hc h => by rw [Heap.get_put_ne _ _ _ hc]; exact hle2 c y h) hn2 (fun r2 e3 => by rw [e] at e3; cases e3) ⟨_, Heap.get_put_self _ _ _, hc⟩
    rw [e] at this
    exact this
  unfold reqC at hb
  refine Eo.code at_depotref9_args rfl ?_
  by_cases h12 : verb = 1 ∨ verb = 2
  · have hspec : argsOf ⟨verb, [], 0, 0, 0, 0, 0, q, []⟩ l = if l.all keyOk = true then some ⟨verb, l, 0, 0, 0, 0, 0, q, []⟩ else none := if_pos h12
    rcases h12 with h | h
    all_goals
      subst h
      repeat (first | ((first | apply Xk.sAny | apply Xk.tAny); (case hok => rfl); (case h => intro C hC; simp (disch := omega) only [w1, ↓reduceIte, Nat.reduceEqDiff, Nat.reduceLeDiff, Nat.reduceAdd, Nat.reduceSub, hb]; with_reducible exact hC); refine gm ?_) | refine gm ?_)
      refine Xk.iter [0, 1, 5, 6] (fun m k H' => ∃ i ok, m = l.length - i ∧ i ≤ l.length ∧ l.all keyOk = (ok && (l.drop i).all keyOk) ∧ k = [(0, .ptr b 0), (1, .sl bl o l.length 1), (5, .bool ok), (6, .int .i64 (.ofNat i))] ∧ H' = H) rfl ⟨_, 0, true, rfl, by omega, rfl, rfl, rfl⟩ ?_
      rintro m k H' ⟨i, ok, hm, hi, ha, rfl, rfl⟩
      by_cases hil : i < l.length
      · obtain ⟨a1, a2⟩ := T.cell hil
        rw [drop_getD [] hil, List.all_cons] at ha
        have hkl := hkey (l.getD i []) (by rw [List.getD_eq_getElem?_getD, List.getElem?_eq_getElem hil]; exact List.getElem_mem hil)
        cases ok
        · repeat (first | ((first | apply Xk.sAny | apply Xk.tAny); (case hok => rfl); (case h => intro C hC; simp (disch := omega) only [w1, ↓reduceIte, Nat.reduceEqDiff, Nat.reduceLeDiff, Nat.reduceAdd, Nat.reduceSub, hil]; with_reducible exact hC); refine gm ?_) | refine gm ?_)
          exact ⟨rfl, _, by omega, i + 1, false, rfl, by omega, by rw [ha]; rfl, rfl, rfl⟩
        · repeat (first | ((first | apply Xk.sAny | apply Xk.tAny); (case hok => rfl); (case h => intro C hC; simp (disch := omega) only [w1, ↓reduceIte, Nat.reduceEqDiff, Nat.reduceLeDiff, Nat.reduceAdd, Nat.reduceSub, hl, hil, a1, a2]; with_reducible exact hC); refine gc ?_) | refine gm ?_)
          refine rKey_ev _ hkl _ _ ?_
          repeat (first | ((first | apply Xk.sAny | apply Xk.tAny); (case hok => rfl); (case h => intro C hC; simp (disch := omega) only [w1, ↓reduceIte, Nat.reduceEqDiff, Nat.reduceLeDiff, Nat.reduceAdd, Nat.reduceSub]; with_reducible exact hC); refine gm ?_) | refine gm ?_)
          exact ⟨rfl, _, by omega, i + 1, _, rfl, by omega, by rw [ha, Bool.true_and], rfl, rfl⟩
      · rw [List.drop_eq_nil_of_le (by omega), List.all_nil, Bool.and_true] at ha
        obtain ⟨v', H2, e1, e2, e3, e4, e5, e6⟩ := keys l hmax (.sl bl o l.length 1) H' hOk (HLe.refl _) (Nat.le_refl _) (by have := (T.mono (HLe.new (hOk _ (Nat.le_refl _)) (.cells [] 1))).sl.src (strs_sc l) (by omega); rw [strs_len, Nat.div_one] at this; exact this)
        have e2' := e2
        unfold reqC at e2
        obtain ⟨s1, s2⟩ := e6.sc
        repeat (first | ((first | apply Xk.sAny | apply Xk.tAny); (case hok => rfl); (case h => intro C hC; simp (disch := omega) only [w1, ↓reduceIte, Nat.reduceEqDiff, Nat.reduceLeDiff, Nat.reduceAdd, Nat.reduceSub, hil, hb, e1, e2, s1, s2]; with_reducible exact hC); refine gm ?_) | refine gm ?_)
        cases ok
        · exact fail_ H2 _ rfl e3 e4 e5 (by rw [hspec, ha]; rfl) e2'
        · exact done_ H2 v' _ ⟨_, l, 0, 0, 0, 0, 0, q, []⟩ e3 e4 e5 e6 (by rw [hspec, ha]; rfl) e2' rfl
  have n1 : ¬ verb = 1 := fun h => h12 (.inl h)
  have n2 : ¬ verb = 2 := fun h => h12 (.inr h)
  by_cases h13 : verb = 13
  · have hspec : argsOf ⟨verb, [], 0, 0, 0, 0, 0, q, []⟩ l = if l = [] ∨ l.getD 0 [] = [48] then some ⟨verb, [], 0, 0, 0, 0, 0, q, []⟩ else none := by unfold argsOf; rw [if_neg h12, if_pos h13]
    by_cases hz : l.length = 0
    · have : l = [] := List.eq_nil_of_length_eq_zero hz
      repeat (first | ((first | apply Xk.sAny | apply Xk.tAny); (case hok => rfl); (case h => intro C hC; simp (disch := omega) only [w1, ↓reduceIte, Nat.reduceEqDiff, Nat.reduceLeDiff, Nat.reduceAdd, Nat.reduceSub, hb, n1, n2, h13, hz]; with_reducible exact hC); refine gm ?_) | refine gm ?_)
      exact still _ (by rw [hspec, if_pos (.inl this)]) rfl
    · obtain ⟨a1, a2⟩ := T.cell (j := 0) (by omega)
      have hz' : 0 < l.length := by omega
      rw [Nat.add_zero] at a1 a2
      have hn : ¬ l = [] := fun e => hz (by rw [e]; rfl)
      repeat (first | ((first | apply Xk.sAny | apply Xk.tAny); (case hok => rfl); (case h => intro C hC; simp (disch := omega) only [w1, ↓reduceIte, Nat.reduceEqDiff, Nat.reduceLeDiff, Nat.reduceAdd, Nat.reduceSub, hb, hl, n1, n2, h13, hz, hz', a1, a2]; with_reducible exact hC); refine gm ?_) | refine gm ?_)
      by_cases h0 : l.getD 0 [] = [48]
      · have := still _ (by rw [hspec, if_pos (.inr h0)]) rfl
        rw [← decide_eq_true h0] at this
        exact this
      · have := none_ (by rw [hspec, if_neg (fun e => e.elim hn h0)])
        rw [← decide_eq_false h0] at this
        exact this
  by_cases h15 : verb = 15
  · have hspec : argsOf ⟨verb, [], 0, 0, 0, 0, 0, q, []⟩ l = if (num (l.getD 0 []) 4294967295).isSome = true then some ⟨verb, [], 0, 0, 0, 0, 0, q, []⟩ else none := by unfold argsOf; rw [if_neg h12, if_neg h13, if_pos h15]
    have hz' : 0 < l.length := m6 h15
    obtain ⟨a1, a2⟩ := T.cell (j := 0) hz'
    rw [Nat.add_zero] at a1 a2
    repeat (first | ((first | apply Xk.sAny | apply Xk.tAny); (case hok => rfl); (case h => intro C hC; simp (disch := omega) only [w1, ↓reduceIte, Nat.reduceEqDiff, Nat.reduceLeDiff, Nat.reduceAdd, Nat.reduceSub, hb, hl, n1, n2, h13, h15, hz', a1, a2]; with_reducible exact hC); refine gc ?_) | refine gm ?_)
    refine rNumber_ev _ 4294967295 (by decide) _ _ ?_
    repeat (first | ((first | apply Xk.sAny | apply Xk.tAny); (case hok => rfl); (case h => intro C hC; simp (disch := omega) only [w1, ↓reduceIte, Nat.reduceEqDiff, Nat.reduceLeDiff, Nat.reduceAdd, Nat.reduceSub]; with_reducible exact hC); refine gm ?_) | refine gm ?_)
    cases hk : (num (l.getD 0 []) 4294967295).isSome
    · exact none_ (by rw [hspec, hk]; rfl)
    · exact still _ (by rw [hspec, hk]; rfl) rfl
  by_cases h146 : verb = 14 ∨ verb = 16 ∨ verb = 17
  · have hspec : argsOf ⟨verb, [], 0, 0, 0, 0, 0, q, []⟩ l = some ⟨verb, [], 0, 0, 0, 0, 0, q, []⟩ := by unfold argsOf; rw [if_neg h12, if_neg h13, if_neg h15, if_pos h146]
    rcases h146 with h | h | h
    all_goals
      subst h
      repeat (first | ((first | apply Xk.sAny | apply Xk.tAny); (case hok => rfl); (case h => intro C hC; simp (disch := omega) only [w1, ↓reduceIte, Nat.reduceEqDiff, Nat.reduceLeDiff, Nat.reduceAdd, Nat.reduceSub, hb]; with_reducible exact hC); refine gm ?_) | refine gm ?_)
      exact still _ hspec rfl
  have n14 : ¬ verb = 14 := fun h => h146 (.inl h)
  have n16 : ¬ verb = 16 := fun h => h146 (.inr (.inl h))
  have n17 : ¬ verb = 17 := fun h => h146 (.inr (.inr h))
  have hspec : argsOf ⟨verb, [], 0, 0, 0, 0, 0, q, []⟩ l = if keyOk (l.getD 0 []) = true then argsB ⟨verb, [l.getD 0 []], 0, 0, 0, 0, 0, q, []⟩ l else none := by
    unfold argsOf; rw [if_neg h12, if_neg h13, if_neg h15, if_neg h146]
  have hz' : 0 < l.length := by omega
  obtain ⟨a1, a2⟩ := T.cell (j := 0) hz'
  rw [Nat.add_zero] at a1 a2
  repeat (first | ((first | apply Xk.sAny | apply Xk.tAny); (case hok => rfl); (case h => intro C hC; simp (disch := omega) only [w1, ↓reduceIte, Nat.reduceEqDiff, Nat.reduceLeDiff, Nat.reduceAdd, Nat.reduceSub, hb, hl, n1, n2, h13, h15, n14, n16, n17, hz', a1, a2]; with_reducible exact hC); refine gc ?_) | refine gm ?_)
  have hk0 := hkey (l.getD 0 []) (by rw [List.getD_eq_getElem?_getD, List.getElem?_eq_getElem hz']; exact List.getElem_mem hz')
  refine rKey_ev _ hk0 _ _ ?_
  cases hk : keyOk (l.getD 0 [])
  · repeat (first | ((first | apply Xk.sAny | apply Xk.tAny); (case hok => rfl); (case h => intro C hC; simp (disch := omega) only [w1, ↓reduceIte, Nat.reduceEqDiff, Nat.reduceLeDiff, Nat.reduceAdd, Nat.reduceSub]; with_reducible exact hC); refine gm ?_) | refine gm ?_)
    exact none_ (by rw [hspec, hk]; rfl)
  rw [hk, if_pos rfl] at hspec
  have hltb := hOk.lt hbb
  have e2' : (H.new (.cells [.str (l.getD 0 [])] 1)).get b = some (.cells (reqC verb .nils 0 0 0 0 0 q []) 1) := HLe.new (hOk _ (Nat.le_refl _)) _ _ _ hbb
  have e3 : (H.new (.cells [.str (l.getD 0 [])] 1)).Ok := hOk.new _
  have e4 : HLe H (H.new (.cells [.str (l.getD 0 [])] 1)) := HLe.new (hOk _ (Nat.le_refl _)) _
  have e5 : H.next ≤ (H.new (.cells [.str (l.getD 0 [])] 1)).next := Nat.le_succ _
  have e6 : Own H (H.new (.cells [.str (l.getD 0 [])] 1)) 0 1 (.sl H.next 0 1 1) (strs [l.getD 0 []]) := .inr ⟨H.next, 1, rfl, rfl, Heap.get_new_self _ _, hOk _ (Nat.le_refl _)⟩
  have hl2 := (T.mono e4).at_
  generalize hH2 : H.new (.cells [.str (l.getD 0 [])] 1) = H2 at *
  have e2 := e2'
  unfold reqC at e2
  by_cases h1011 : verb = 10 ∨ verb = 11
  · have hspec2 : argsB ⟨verb, [l.getD 0 []], 0, 0, 0, 0, 0, q, []⟩ l = if (num (l.getD 1 []) 18446744073709551615).isSome = true then some ⟨verb, [l.getD 0 []], 0, 0, 0, 0, (num (l.getD 1 []) 18446744073709551615).getD 0, q, []⟩ else none := by unfold argsB; rw [if_neg (by simp only; omega), if_pos h1011]
    rw [hspec2] at hspec
    have hz1 : 1 < l.length := by omega
    obtain ⟨b1, b2⟩ := T.cell (j := 1) hz1
    rcases h1011 with h | h
    all_goals
      subst h
      repeat (first | ((first | apply Xk.sAny | apply Xk.tAny); (case hok => rfl); (case h => intro C hC; simp (disch := omega) only [w1, ↓reduceIte, Nat.reduceEqDiff, Nat.reduceLeDiff, Nat.reduceAdd, Nat.reduceSub, hb, hl, hz', a1, a2, hH2, hl2, hz1, b1, b2, e2]; with_reducible exact hC); refine gc ?_) | refine gm ?_)
      refine rNumber_ev _ 18446744073709551615 (by decide) _ _ ?_
      cases hst : (num (l.getD 1 []) 18446744073709551615).isSome
      · repeat (first | ((first | apply Xk.sAny | apply Xk.tAny); (case hok => rfl); (case h => intro C hC; simp (disch := omega) only [w1, ↓reduceIte, Nat.reduceEqDiff, Nat.reduceLeDiff, Nat.reduceAdd, Nat.reduceSub, e2]; with_reducible exact hC); refine gm ?_) | refine gm ?_)
        exact fail_ H2 _ rfl e3 e4 e5 (by rw [hspec, hst]; rfl) e2'
      · repeat (first | ((first | apply Xk.sAny | apply Xk.tAny); (case hok => rfl); (case h => intro C hC; simp (disch := omega) only [w1, ↓reduceIte, Nat.reduceEqDiff, Nat.reduceLeDiff, Nat.reduceAdd, Nat.reduceSub, e2]; with_reducible exact hC); refine gm ?_) | refine gm ?_)
        exact done_ H2 _ _ _ e3 e4 e5 e6 (by rw [hspec, hst]; rfl) e2' rfl
  have n10 : ¬ verb = 10 := fun h => h1011 (.inl h)
  have n11 : ¬ verb = 11 := fun h => h1011 (.inr h)
  by_cases h12' : verb = 12
  · have hspec2 : argsB ⟨verb, [l.getD 0 []], 0, 0, 0, 0, 0, q, []⟩ l = if (sgn (l.getD 1 []) 1099511627776).2 = true then some ⟨verb, [l.getD 0 []], 0, (sgn (l.getD 1 []) 1099511627776).1, 0, 0, 0, q, []⟩ else none := by unfold argsB; rw [if_neg (by simp only; omega), if_neg h1011, if_pos h12']
    rw [hspec2] at hspec
    have hz1 : 1 < l.length := by omega
    obtain ⟨b1, b2⟩ := T.cell (j := 1) hz1
    subst h12'
    repeat (first | ((first | apply Xk.sAny | apply Xk.tAny); (case hok => rfl); (case h => intro C hC; simp (disch := omega) only [w1, ↓reduceIte, Nat.reduceEqDiff, Nat.reduceLeDiff, Nat.reduceAdd, Nat.reduceSub, hb, hl, hz', a1, a2, hH2, hl2, hz1, b1, b2, e2]; with_reducible exact hC); refine gc ?_) | refine gm ?_)
    refine rSigned_ev _ 1099511627776 (by decide) _ _ ?_
    cases hst : (sgn (l.getD 1 []) 1099511627776).2
    · repeat (first | ((first | apply Xk.sAny | apply Xk.tAny); (case hok => rfl); (case h => intro C hC; simp (disch := omega) only [w1, ↓reduceIte, Nat.reduceEqDiff, Nat.reduceLeDiff, Nat.reduceAdd, Nat.reduceSub, e2]; with_reducible exact hC); refine gm ?_) | refine gm ?_)
      exact fail_ H2 _ rfl e3 e4 e5 (by rw [hspec, hst]; rfl) e2'
    · repeat (first | ((first | apply Xk.sAny | apply Xk.tAny); (case hok => rfl); (case h => intro C hC; simp (disch := omega) only [w1, ↓reduceIte, Nat.reduceEqDiff, Nat.reduceLeDiff, Nat.reduceAdd, Nat.reduceSub, e2]; with_reducible exact hC); refine gm ?_) | refine gm ?_)
      exact done_ H2 _ _ _ e3 e4 e5 e6 (by rw [hspec, hst]; rfl) e2' rfl
  by_cases h38 : 3 ≤ verb ∧ verb ≤ 8
  · have hspec2 : argsB ⟨verb, [l.getD 0 []], 0, 0, 0, 0, 0, q, []⟩ l = if storeOk verb l = true then some ⟨verb, [l.getD 0 []], (num (l.getD 1 []) 4294967295).getD 0, (sgn (l.getD 2 []) 1099511627776).1, (num (l.getD 3 []) 2147483647).getD 0, if verb = 8 then (num (l.getD 4 []) 1099511627776).getD 0 else 0, 0, q, []⟩ else none := if_pos h38
    rw [hspec2] at hspec
    have l4 := m2 h38.1 h38.2
    obtain ⟨b1, b2⟩ := T.cell (j := 1) (by omega)
    obtain ⟨c1, c2⟩ := T.cell (j := 2) (by omega)
    obtain ⟨d1, d2⟩ := T.cell (j := 3) (by omega)
    have l1 : 1 < l.length := by omega
    have l2 : 2 < l.length := by omega
    have l3 : 3 < l.length := by omega
    have x1 := num_getD (l.getD 1 []) 4294967295
    have x3 := num_getD (l.getD 3 []) 2147483647
    have x4 := num_getD (l.getD 4 []) 1099511627776
    unfold storeOk at hspec
    have hcase : verb = 3 ∨ verb = 4 ∨ verb = 5 ∨ verb = 6 ∨ verb = 7 ∨ verb = 8 := by omega
    rcases hcase with h | h | h | h | h | h
    all_goals
      subst h
      repeat (first | ((first | apply Xk.sAny | apply Xk.tAny); (case hok => rfl); (case h => intro C hC; simp (disch := omega) only [w1, ↓reduceIte, Nat.reduceEqDiff, Nat.reduceLeDiff, Nat.reduceAdd, Nat.reduceSub, hb, hl, hz', a1, a2, hH2, hl2, l1, b1, b2, e2]; with_reducible exact hC); refine gc ?_) | refine gm ?_)
      refine rNumber_ev _ 4294967295 (by decide) _ _ ?_
      cases hA : (num (l.getD 1 []) 4294967295).isSome
      · rw [hA] at hspec
        repeat (first | ((first | apply Xk.sAny | apply Xk.tAny); (case hok => rfl); (case h => intro C hC; simp (disch := omega) only [w1, ↓reduceIte, Nat.reduceEqDiff, Nat.reduceLeDiff, Nat.reduceAdd, Nat.reduceSub, e2]; with_reducible exact hC); refine gm ?_) | refine gm ?_)
        exact fail_ H2 _ rfl e3 e4 e5 hspec e2'
      rw [hA] at hspec
      repeat (first | ((first | apply Xk.sAny | apply Xk.tAny); (case hok => rfl); (case h => intro C hC; simp (disch := omega) only [w1, ↓reduceIte, Nat.reduceEqDiff, Nat.reduceLeDiff, Nat.reduceAdd, Nat.reduceSub, e2, hl2, l2, c1, c2]; with_reducible exact hC); refine gc ?_) | refine gm ?_)
      refine rSigned_ev _ 1099511627776 (by decide) _ _ ?_
      cases hB : (sgn (l.getD 2 []) 1099511627776).2
      · rw [hB] at hspec
        repeat (first | ((first | apply Xk.sAny | apply Xk.tAny); (case hok => rfl); (case h => intro C hC; simp (disch := omega) only [w1, ↓reduceIte, Nat.reduceEqDiff, Nat.reduceLeDiff, Nat.reduceAdd, Nat.reduceSub, e2]; with_reducible exact hC); refine gm ?_) | refine gm ?_)
        exact fail_ H2 _ rfl e3 e4 e5 hspec e2'
      rw [hB] at hspec
      repeat (first | ((first | apply Xk.sAny | apply Xk.tAny); (case hok => rfl); (case h => intro C hC; simp (disch := omega) only [w1, ↓reduceIte, Nat.reduceEqDiff, Nat.reduceLeDiff, Nat.reduceAdd, Nat.reduceSub, e2, hl2, l3, d1, d2]; with_reducible exact hC); refine gc ?_) | refine gm ?_)
      refine rNumber_ev _ 2147483647 (by decide) _ _ ?_
      cases hC : (num (l.getD 3 []) 2147483647).isSome
      · rw [hC] at hspec
        repeat (first | ((first | apply Xk.sAny | apply Xk.tAny); (case hok => rfl); (case h => intro C hC; simp (disch := omega) only [w1, ↓reduceIte, Nat.reduceEqDiff, Nat.reduceLeDiff, Nat.reduceAdd, Nat.reduceSub, e2]; with_reducible exact hC); refine gm ?_) | refine gm ?_)
        exact fail_ H2 _ rfl e3 e4 e5 hspec e2'
      rw [hC] at hspec
      first
        | (have l5 := m3 rfl
           have l6 : 4 < l.length := by omega
           obtain ⟨f1, f2⟩ := T.cell (j := 4) l6
           repeat (first | ((first | apply Xk.sAny | apply Xk.tAny); (case hok => rfl); (case h => intro C hC; simp (disch := omega) only [w1, ↓reduceIte, Nat.reduceEqDiff, Nat.reduceLeDiff, Nat.reduceAdd, Nat.reduceSub, e2, hl2, l6, f1, f2]; with_reducible exact hC); refine gc ?_) | refine gm ?_)
           refine rNumber_ev _ 1099511627776 (by decide) _ _ ?_
           cases hD : (num (l.getD 4 []) 1099511627776).isSome
           · rw [hD] at hspec
             repeat (first | ((first | apply Xk.sAny | apply Xk.tAny); (case hok => rfl); (case h => intro C hC; simp (disch := omega) only [w1, ↓reduceIte, Nat.reduceEqDiff, Nat.reduceLeDiff, Nat.reduceAdd, Nat.reduceSub, e2]; with_reducible exact hC); refine gm ?_) | refine gm ?_)
             exact fail_ H2 _ rfl e3 e4 e5 hspec e2'
           · rw [hD] at hspec
             repeat (first | ((first | apply Xk.sAny | apply Xk.tAny); (case hok => rfl); (case h => intro C hC; simp (disch := omega) only [w1, ↓reduceIte, Nat.reduceEqDiff, Nat.reduceLeDiff, Nat.reduceAdd, Nat.reduceSub, e2]; with_reducible exact hC); refine gm ?_) | refine gm ?_)
             exact done_ H2 _ _ _ e3 e4 e5 e6 hspec e2' rfl)
        | (repeat (first | ((first | apply Xk.sAny | apply Xk.tAny); (case hok => rfl); (case h => intro C hC; simp (disch := omega) only [w1, ↓reduceIte, Nat.reduceEqDiff, Nat.reduceLeDiff, Nat.reduceAdd, Nat.reduceSub, e2]; with_reducible exact hC); refine gm ?_) | refine gm ?_)
           exact done_ H2 _ _ _ e3 e4 e5 e6 hspec e2' rfl)
  · have hspec2 : argsB ⟨verb, [l.getD 0 []], 0, 0, 0, 0, 0, q, []⟩ l = some ⟨verb, [l.getD 0 []], 0, 0, 0, 0, 0, q, []⟩ := by unfold argsB; rw [if_neg h38, if_neg h1011, if_neg h12']
    rw [hspec2] at hspec
    have x3 : ¬ verb = 3 := by omega
    have x4 : ¬ verb = 4 := by omega
    have x5 : ¬ verb = 5 := by omega
    have x6 : ¬ verb = 6 := by omega
    have x7 : ¬ verb = 7 := by omega
    have x8 : ¬ verb = 8 := by omega
    repeat (first | ((first | apply Xk.sAny | apply Xk.tAny); (case hok => rfl); (case h => intro C hC; simp (disch := omega) only [w1, ↓reduceIte, Nat.reduceEqDiff, Nat.reduceLeDiff, Nat.reduceAdd, Nat.reduceSub, hb, hl, hz', a1, a2, hH2, n10, n11, h12', x3, x4, x5, x6, x7, x8, e2]; with_reducible exact hC); refine gm ?_) | refine gm ?_)
    exact done_ H2 _ _ _ e3 e4 e5 e6 hspec e2' rfl

end Go.Proofs.Ytkjmelfgopammaa
