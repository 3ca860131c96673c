/- Layer 12: the program's store, fill, Line: what a call of each comes to. Conditions: none. -/
import Derived.Test.YtkjmelfgopammaaDoorWdC
namespace Go.Proofs.YtkjmelfgopammaaDoor
open Go.Dp Go.Wd
set_option linter.unusedSimpArgs false
set_option linter.unusedVariables false
set_option maxHeartbeats 2000000
attribute [local irreducible] Ex.thnK Ex.inK Ret

/-- a slice of texts, as it is read -/
structure Txt (H : Heap) (bl o : Nat) (cl : List AV) (w : Nat) (l : List (List UInt8)) : Prop where
  at_ : H.get bl = some (.cells cl w)
  le : o ≤ cl.length
  row : ∃ rest, cl.drop o = strs l ++ rest

theorem Txt.cell {H : Heap} {bl o w : Nat} {cl : List AV} {l : List (List UInt8)} (T : Txt H bl o cl w l) {j : Nat} (hj : j < l.length) : o + j + 1 ≤ cl.length ∧ (cl.drop (o + j)).take 1 = [.str (l.getD j [])] := by
  obtain ⟨rest, hr⟩ := T.row
  have h1 : cl.length - o = l.length + rest.length := by rw [← List.length_drop, hr, List.length_append, strs_len]
  have := T.le
  refine ⟨by omega, ?_⟩
  rw [← List.drop_drop, hr, List.drop_append_of_le_length (by rw [strs_len]; omega)]
  have : (strs l).drop j = .str (l.getD j []) :: (strs l).drop (j + 1) := by
    unfold strs
    rw [← List.map_drop, ← List.map_drop, drop_getD [] hj, List.map_cons]
  rw [this]
  rfl
theorem Txt.put {H : Heap} {bl o w b : Nat} {cl : List AV} {l : List (List UInt8)} (T : Txt H bl o cl w l) (h : bl ≠ b) (x : Blk) : Txt (H.put b x) bl o cl w l :=
  ⟨by rw [Heap.get_put_ne _ _ _ h]; exact T.at_, T.le, T.row⟩
theorem Txt.mono {H H' : Heap} {bl o w : Nat} {cl : List AV} {l : List (List UInt8)} (T : Txt H bl o cl w l) (h : HLe H H') : Txt H' bl o cl w l := ⟨h _ _ T.at_, T.le, T.row⟩
theorem Txt.sl {H : Heap} {bl o w : Nat} {cl : List AV} {l : List (List UInt8)} (T : Txt H bl o cl w l) : Sl H 1 (.sl bl o l.length 1) (strs l) := by
  obtain ⟨rest, hr⟩ := T.row
  exact .inr ⟨bl, o, l.length, cl, w, rest, rfl, by rw [strs_len, Nat.mul_one], T.at_, T.le, hr⟩

/-- a request's cells -/
def reqC (verb : Nat) (kv : AV) (flags : Nat) (exp : Int) (bytes cas delta : Nat) (q : Bool) (data : List UInt8) : List AV :=
  [.int .i64 (.ofNat verb), kv, .int .i64 (.ofNat flags), .int .i64 exp, .int .i64 (.ofNat bytes), .int .i64 (.ofNat cas), .int .u64 (.ofNat delta), .bool q, .str data]

theorem store_ev (H : Heap) (b bl o w verb : Nat) (cl : List AV) (l : List (List UInt8)) (kv : AV) (q : Bool) (data : List UInt8) (hb : H.get b = some (.cells (reqC verb kv 0 0 0 0 0 q data) 1)) (T : Txt H bl o cl w l) (hne : bl ≠ b)
    (hlen : 4 ≤ l.length) (h8 : verb = 8 → 5 ≤ l.length) (Q : AV → Heap → Prop)
    (hQ : Q (.bool (storeOk verb l))
      (H.put b (.cells (reqC verb kv ((num (l.getD 1 []) 4294967295).getD 0) (sgn (l.getD 2 []) 1099511627776).1 ((num (l.getD 3 []) 2147483647).getD 0) (if verb = 8 then (num (l.getD 4 []) 1099511627776).getD 0 else 0) 0 q data) 1))) :
    Eo lib n_words_store [.ptr b 0, .sl bl o l.length 1] H Q := by
  obtain ⟨a1, a2⟩ := T.cell (j := 1) (by omega)
  obtain ⟨b1, b2⟩ := T.cell (j := 2) (by omega)
  obtain ⟨c1, c2⟩ := T.cell (j := 3) (by omega)
  have hl := T.at_
  have n1 := num_getD (l.getD 1 []) 4294967295
  have n3 := num_getD (l.getD 3 []) 2147483647
  have n4 := num_getD (l.getD 4 []) 1099511627776
  have l1 : 1 < l.length := by omega
  have l2 : 2 < l.length := by omega
  have l3 : 3 < l.length := by omega
  unfold reqC at hb hQ
  unfold storeOk at hQ
  refine Eo.code at_words_store rfl ?_
  repeat (first | ((first | apply Xk.sAny | apply Xk.tAny); (case hok => rfl); (case h => intro C hC; simp (disch := omega) only [w1, ↓reduceIte, Nat.reduceEqDiff, Nat.reduceLeDiff, Nat.reduceAdd, Nat.reduceSub, hl, hb, a1, a2, l1]; with_reducible exact hC); refine gc ?_) | refine gm ?_)
  refine Number_ev _ _ (by decide) _ _ ?_
  repeat (first | ((first | apply Xk.sAny | apply Xk.tAny); (case hok => rfl); (case h => intro C hC; simp (disch := omega) only [w1, ↓reduceIte, Nat.reduceEqDiff, Nat.reduceLeDiff, Nat.reduceAdd, Nat.reduceSub, hl, hb, b1, b2, l2]; with_reducible exact hC); refine gc ?_) | refine gm ?_)
  refine signed_ev _ _ (by decide) _ _ ?_
  repeat (first | ((first | apply Xk.sAny | apply Xk.tAny); (case hok => rfl); (case h => intro C hC; simp (disch := omega) only [w1, ↓reduceIte, Nat.reduceEqDiff, Nat.reduceLeDiff, Nat.reduceAdd, Nat.reduceSub, hl, hb, c1, c2, l3]; with_reducible exact hC); refine gc ?_) | refine gm ?_)
  refine Number_ev _ _ (by decide) _ _ ?_
  by_cases hv : verb = 8
  · have l4 : 4 < l.length := by have := h8 hv; omega
    obtain ⟨d1, d2⟩ := T.cell (j := 4) l4
    rw [if_pos hv, decide_eq_false (fun h => h hv), Bool.false_or] at hQ
    repeat (first | ((first | apply Xk.sAny | apply Xk.tAny); (case hok => rfl); (case h => intro C hC; simp (disch := omega) only [w1, ↓reduceIte, Nat.reduceEqDiff, Nat.reduceLeDiff, Nat.reduceAdd, Nat.reduceSub, hl, hb, d1, d2, l4, hv]; with_reducible exact hC); refine gc ?_) | refine gm ?_)
    refine Number_ev _ 1099511627776 (by decide) _ _ ?_
    cases hA : (num (l.getD 1 []) 4294967295).isSome <;> cases hB : (sgn (l.getD 2 []) 1099511627776).2 <;> cases hC : (num (l.getD 3 []) 2147483647).isSome <;> rw [hA, hB, hC] at hQ
    all_goals
      repeat (first | ((first | apply Xk.sAny | apply Xk.tAny); (case hok => rfl); (case h => intro C hC; simp (disch := omega) only [w1, ↓reduceIte, Nat.reduceEqDiff, Nat.reduceLeDiff, Nat.reduceAdd, Nat.reduceSub, hl, hb, hv]; with_reducible exact hC); refine gm ?_) | refine gm ?_)
      first
        | exact hQ
        | (rw [← hv]; exact hQ)
  · rw [if_neg hv, decide_eq_true hv, Bool.true_or, Bool.and_true] at hQ
    cases hA : (num (l.getD 1 []) 4294967295).isSome <;> cases hB : (sgn (l.getD 2 []) 1099511627776).2 <;> cases hC : (num (l.getD 3 []) 2147483647).isSome <;> rw [hA, hB, hC] at hQ
    all_goals
      repeat (first | ((first | apply Xk.sAny | apply Xk.tAny); (case hok => rfl); (case h => intro C hC; simp (disch := omega) only [w1, ↓reduceIte, Nat.reduceEqDiff, Nat.reduceLeDiff, Nat.reduceAdd, Nat.reduceSub, hl, hb, hv]; with_reducible exact hC); refine gm ?_) | refine gm ?_)
      exact hQ

/-- a request in memory -/
def RepQ (H : Heap) (cells : List AV) (r : Req) : Prop := ∃ kv, cells = reqC r.verb kv r.flags r.exp r.bytes r.cas r.delta r.noReply r.data ∧ Sl H 1 kv (strs r.keys)

/-- a request in memory, its keys in memory that was made since H0 -/
def RepO (H0 H : Heap) (cells : List AV) (r : Req) : Prop := ∃ kv, cells = reqC r.verb kv r.flags r.exp r.bytes r.cas r.delta r.noReply r.data ∧ Own H0 H 0 1 kv (strs r.keys)
theorem RepO.q {H0 H : Heap} {cells : List AV} {r : Req} (h : RepO H0 H cells r) : RepQ H cells r := by
  obtain ⟨kv, h1, h2⟩ := h
  exact ⟨kv, h1, h2.sl⟩
theorem RepO.put {H0 H : Heap} {cells : List AV} {r : Req} (h : RepO H0 H cells r) {b : Nat} {y : Blk} (hb : H0.get b = some y) (x : Blk) : RepO H0 (H.put b x) cells r := by
  obtain ⟨kv, h1, h2⟩ := h
  exact ⟨kv, h1, h2.put hb x⟩
theorem RepO.sc {H0 H : Heap} {cells : List AV} {r : Req} (h : RepO H0 H cells r) : cells.all AV.isSc = true ∧ cells.length = 9 := by
  obtain ⟨kv, h1, h2⟩ := h
  rw [h1]
  obtain ⟨_, h3⟩ := h2.sc
  exact ⟨by simp only [reqC, wh, List.all_cons, List.all_nil, h3, Bool.and_self, Bool.and_true], rfl⟩

theorem l1_split (l : List (List UInt8)) (h : 1 ≤ l.length) : ∃ a r, l = a :: r := by
  cases l with
  | nil => simp at h
  | cons a r => exact ⟨a, r, rfl⟩

theorem fill_ev (H : Heap) (b bl o w verb : Nat) (cl : List AV) (l : List (List UInt8)) (q : Bool) (hb : H.get b = some (.cells (reqC verb .nils 0 0 0 0 0 q []) 1)) (T : Txt H bl o cl w l) (hne : bl ≠ b)
    (m1 : verb ≤ 2 → 1 ≤ l.length) (m2 : 3 ≤ verb → verb ≤ 8 → 4 ≤ l.length) (m3 : verb = 8 → 5 ≤ l.length) (m4 : verb = 9 → 1 ≤ l.length) (m5 : 10 ≤ verb → verb ≤ 12 → 2 ≤ l.length) (m6 : verb = 15 → 1 ≤ l.length) (hv : 1 ≤ verb ∧ verb ≤ 17)
    (hmax : l.length ≤ 64) (Q : AV → Heap → Prop)
    (hQ : ∀ H', H'.Ok → (∀ c y, c ≠ b → H.get c = some y → H'.get c = some y) → H.next ≤ H'.next →
      (∀ r', argsOf ⟨verb, [], 0, 0, 0, 0, 0, q, []⟩ l = some r' → ∃ cells, H'.get b = some (.cells cells 1) ∧ RepO H H' cells r') → (∃ cells, H'.get b = some (.cells cells 1) ∧ cells.length = 9) → Q (.bool (argsOf ⟨verb, [], 0, 0, 0, 0, 0, q, []⟩ l).isSome) H') :
    Eo lib n_words_fill [.ptr b 0, .sl bl o l.length 1] H Q := by
  refine Eo.ok fun hOk => ?_
  have hl := T.at_
  have hbb := hb
  -- nothing is turned
  have still : ∀ r', argsOf ⟨verb, [], 0, 0, 0, 0, 0, q, []⟩ l = some r' → r' = ⟨verb, [], 0, 0, 0, 0, 0, q, []⟩ → Q (.bool true) H := by
    intro r' e1 e2
    have := hQ H hOk (fun _ _ _ h => h) (Nat.le_refl _) (fun r2 e3 => by rw [e1] at e3; cases e3; subst e2; exact ⟨_, hbb, .nils, rfl, .inl ⟨rfl, rfl⟩⟩) ⟨_, hbb, rfl⟩
    rw [e1] at this
    exact this
  have none_ : argsOf ⟨verb, [], 0, 0, 0, 0, 0, q, []⟩ l = none → Q (.bool false) H := by
    intro e1
    have := hQ H hOk (fun _ _ _ h => h) (Nat.le_refl _) (fun r2 e3 => by rw [e1] at e3; cases e3) ⟨_, hbb, rfl⟩
    rw [e1] at this
    exact this
  -- the keys are laid in
  have keys : ∀ ks : List (List UInt8), ks.length ≤ 64 → ∀ x (H1 : Heap), H1.Ok → HLe H H1 → H.next ≤ H1.next → srcCells H1 1 x = some (ks.length, strs ks) → ∃ v' H2, evalApp 0 1 16 H1 .nils x = some (v', H2) ∧ H2.get b = some (.cells (reqC verb .nils 0 0 0 0 0 q []) 1) ∧ H2.Ok ∧ HLe H H2 ∧ H.next ≤ H2.next ∧ Own H H2 0 1 v' (strs ks) := by
    intro ks hks x H1 hO1 hle1 hn1 hx
    obtain ⟨v', H2, e1, e2, e3, e4, e5, e6⟩ := Own.app (H0 := H) (H := H1) (k := 0) (sz := 1) (bytes := 16) (v := .nils) (cs := []) hO1 hle1 (.inl ⟨rfl, rfl⟩) hx (by rw [strs_len]; omega) (by omega) (by simp; omega) (by simp; omega)
    exact ⟨v', H2, e1, e3 _ _ hbb, e2, e3, by omega, e5⟩
  -- the end behind the keys
  have done_ : ∀ (H2 : Heap) (v' : AV) (cells : List AV) (r' : Req), H2.Ok → HLe H H2 → H.next ≤ H2.next → Own H H2 0 1 v' (strs r'.keys) → argsOf ⟨verb, [], 0, 0, 0, 0, 0, q, []⟩ l = some r' → H2.get b = some (.cells (reqC verb .nils 0 0 0 0 0 q []) 1) → cells = reqC r'.verb v' r'.flags r'.exp r'.bytes r'.cas r'.delta r'.noReply r'.data → Q (.bool true) (H2.put b (.cells cells 1)) := by
    intro H2 v' cells r' hO2 hle2 hn2 hown e hg hc
    have := hQ (H2.put b (.cells cells 1)) (hO2.put hg _) (fun c y hc h => by rw [Heap.get_put_ne _ _ _ hc]; exact hle2 c y h) hn2 (fun r2 e3 => by rw [e] at e3; cases e3; exact ⟨_, Heap.get_put_self _ _ _, v', hc, hown.put hbb _⟩) ⟨_, Heap.get_put_self _ _ _, by rw [hc]; rfl⟩
    rw [e] at this
    exact this
  have fail_ : ∀ (H2 : Heap) (cells : List AV), cells.length = 9 → H2.Ok → HLe H H2 → H.next ≤ H2.next → argsOf ⟨verb, [], 0, 0, 0, 0, 0, q, []⟩ l = none → H2.get b = some (.cells (reqC verb .nils 0 0 0 0 0 q []) 1) → Q (.bool false) (H2.put b (.cells cells 1)) := by
    intro H2 cells hc hO2 hle2 hn2 e hg
    have := hQ (H2.put b (.cells cells 1)) (hO2.put hg _) (fun c y hc h => by rw [Heap.get_put_ne _ _ _ hc]; exact hle2 c y h) hn2 (fun r2 e3 => by rw [e] at e3; cases e3) ⟨_, Heap.get_put_self _ _ _, hc⟩
    rw [e] at this
    exact this
  unfold reqC at hb
  refine Eo.code at_words_fill rfl ?_
  by_cases h12 : verb = 1 ∨ verb = 2
  · have hspec : argsOf ⟨verb, [], 0, 0, 0, 0, 0, q, []⟩ l = if l.all keyOk = true then some ⟨verb, l, 0, 0, 0, 0, 0, q, []⟩ else none := if_pos h12
    rcases h12 with h | h
    all_goals
      subst h
      repeat (first | ((first | apply Xk.sAny | apply Xk.tAny); (case hok => rfl); (case h => intro C hC; simp (disch := omega) only [w1, ↓reduceIte, Nat.reduceEqDiff, Nat.reduceLeDiff, Nat.reduceAdd, Nat.reduceSub, hb]; with_reducible exact hC); refine gm ?_) | refine gm ?_)
      refine Xk.iter [0, 1, 17, 18, 19] (fun m k H' => ∃ i, m = l.length - i ∧ i ≤ l.length ∧ l.all keyOk = (l.drop i).all keyOk ∧ k = [(0, .ptr b 0), (1, .sl bl o l.length 1), (17, .sl bl o l.length 1), (18, .int .i64 (.ofNat l.length)), (19, .int .i64 (.ofNat i))] ∧ H' = H) rfl ⟨_, 0, rfl, by omega, rfl, rfl, rfl⟩ ?_
      rintro m k H' ⟨i, hm, hi, ha, rfl, rfl⟩
      by_cases hil : i < l.length
      · obtain ⟨a1, a2⟩ := T.cell hil
        rw [drop_getD [] hil, List.all_cons] at ha
        repeat (first | ((first | apply Xk.sAny | apply Xk.tAny); (case hok => rfl); (case h => intro C hC; simp (disch := omega) only [w1, ↓reduceIte, Nat.reduceEqDiff, Nat.reduceLeDiff, Nat.reduceAdd, Nat.reduceSub, hl, hil, a1, a2]; with_reducible exact hC); refine gc ?_) | refine gm ?_)
        refine Key_ev _ _ _ ?_
        cases hk : keyOk (l.getD i [])
        · repeat (first | ((first | apply Xk.sAny | apply Xk.tAny); (case hok => rfl); (case h => intro C hC; simp (disch := omega) only [w1, ↓reduceIte, Nat.reduceEqDiff, Nat.reduceLeDiff, Nat.reduceAdd, Nat.reduceSub]; with_reducible exact hC); refine gm ?_) | refine gm ?_)
          exact none_ (by rw [hspec, ha, hk]; rfl)
        · repeat (first | ((first | apply Xk.sAny | apply Xk.tAny); (case hok => rfl); (case h => intro C hC; simp (disch := omega) only [w1, ↓reduceIte, Nat.reduceEqDiff, Nat.reduceLeDiff, Nat.reduceAdd, Nat.reduceSub, hil]; with_reducible exact hC); refine gm ?_) | refine gm ?_)
          exact ⟨rfl, _, by omega, i + 1, rfl, by omega, by rw [ha, hk]; rfl, rfl, rfl⟩
      · rw [List.drop_eq_nil_of_le (by omega)] at ha
        obtain ⟨v', H2, e1, e2, e3, e4, e5, e6⟩ := keys l hmax (.sl bl o l.length 1) H' hOk (HLe.refl _) (Nat.le_refl _) (by have := T.sl.src (strs_sc l) (by omega); rw [strs_len, Nat.div_one] at this; exact this)
        have e2' := e2
        unfold reqC at e2
        obtain ⟨s1, s2⟩ := e6.sc
        repeat (first | ((first | apply Xk.sAny | apply Xk.tAny); (case hok => rfl); (case h => intro C hC; simp (disch := omega) only [w1, ↓reduceIte, Nat.reduceEqDiff, Nat.reduceLeDiff, Nat.reduceAdd, Nat.reduceSub, hil, hb, e1, e2, s1, s2]; with_reducible exact hC); refine gm ?_) | refine gm ?_)
        exact done_ H2 v' _ ⟨_, l, 0, 0, 0, 0, 0, q, []⟩ e3 e4 e5 e6 (by rw [hspec, ha]; rfl) e2' rfl
  have n1 : ¬ verb = 1 := fun h => h12 (.inl h)
  have n2 : ¬ verb = 2 := fun h => h12 (.inr h)
  by_cases h13 : verb = 13
  · have hspec : argsOf ⟨verb, [], 0, 0, 0, 0, 0, q, []⟩ l = if l = [] ∨ l.getD 0 [] = [48] then some ⟨verb, [], 0, 0, 0, 0, 0, q, []⟩ else none := by unfold argsOf; rw [if_neg h12, if_pos h13]
    by_cases hz : l.length = 0
    · have : l = [] := List.eq_nil_of_length_eq_zero hz
      repeat (first | ((first | apply Xk.sAny | apply Xk.tAny); (case hok => rfl); (case h => intro C hC; simp (disch := omega) only [w1, ↓reduceIte, Nat.reduceEqDiff, Nat.reduceLeDiff, Nat.reduceAdd, Nat.reduceSub, hb, n1, n2, h13, hz]; with_reducible exact hC); refine gm ?_) | refine gm ?_)
      exact still _ (by rw [hspec, if_pos (.inl this)]) rfl
    · obtain ⟨a1, a2⟩ := T.cell (j := 0) (by omega)
      have hz' : 0 < l.length := by omega
      rw [Nat.add_zero] at a1 a2
      have hn : ¬ l = [] := fun e => hz (by rw [e]; rfl)
      repeat (first | ((first | apply Xk.sAny | apply Xk.tAny); (case hok => rfl); (case h => intro C hC; simp (disch := omega) only [w1, ↓reduceIte, Nat.reduceEqDiff, Nat.reduceLeDiff, Nat.reduceAdd, Nat.reduceSub, hb, hl, n1, n2, h13, hz, hz', a1, a2]; with_reducible exact hC); refine gm ?_) | refine gm ?_)
      by_cases h0 : l.getD 0 [] = [48]
      · have := still _ (by rw [hspec, if_pos (.inr h0)]) rfl
        rw [← decide_eq_true h0] at this
        exact this
      · have := none_ (by rw [hspec, if_neg (fun e => e.elim hn h0)])
        rw [← decide_eq_false h0] at this
        exact this
  by_cases h15 : verb = 15
  · have hspec : argsOf ⟨verb, [], 0, 0, 0, 0, 0, q, []⟩ l = if (num (l.getD 0 []) 4294967295).isSome = true then some ⟨verb, [], 0, 0, 0, 0, 0, q, []⟩ else none := by unfold argsOf; rw [if_neg h12, if_neg h13, if_pos h15]
    have hz' : 0 < l.length := m6 h15
    obtain ⟨a1, a2⟩ := T.cell (j := 0) hz'
    rw [Nat.add_zero] at a1 a2
    repeat (first | ((first | apply Xk.sAny | apply Xk.tAny); (case hok => rfl); (case h => intro C hC; simp (disch := omega) only [w1, ↓reduceIte, Nat.reduceEqDiff, Nat.reduceLeDiff, Nat.reduceAdd, Nat.reduceSub, hb, hl, n1, n2, h13, h15, hz', a1, a2]; with_reducible exact hC); refine gc ?_) | refine gm ?_)
    refine Number_ev _ 4294967295 (by decide) _ _ ?_
    repeat (first | ((first | apply Xk.sAny | apply Xk.tAny); (case hok => rfl); (case h => intro C hC; simp (disch := omega) only [w1, ↓reduceIte, Nat.reduceEqDiff, Nat.reduceLeDiff, Nat.reduceAdd, Nat.reduceSub]; with_reducible exact hC); refine gm ?_) | refine gm ?_)
    cases hk : (num (l.getD 0 []) 4294967295).isSome
    · exact none_ (by rw [hspec, hk]; rfl)
    · exact still _ (by rw [hspec, hk]; rfl) rfl
  by_cases h146 : verb = 14 ∨ verb = 16 ∨ verb = 17
  · have hspec : argsOf ⟨verb, [], 0, 0, 0, 0, 0, q, []⟩ l = some ⟨verb, [], 0, 0, 0, 0, 0, q, []⟩ := by unfold argsOf; rw [if_neg h12, if_neg h13, if_neg h15, if_pos h146]
    rcases h146 with h | h | h
    all_goals
      subst h
      repeat (first | ((first | apply Xk.sAny | apply Xk.tAny); (case hok => rfl); (case h => intro C hC; simp (disch := omega) only [w1, ↓reduceIte, Nat.reduceEqDiff, Nat.reduceLeDiff, Nat.reduceAdd, Nat.reduceSub, hb]; with_reducible exact hC); refine gm ?_) | refine gm ?_)
      exact still _ hspec rfl
  have n14 : ¬ verb = 14 := fun h => h146 (.inl h)
  have n16 : ¬ verb = 16 := fun h => h146 (.inr (.inl h))
  have n17 : ¬ verb = 17 := fun h => h146 (.inr (.inr h))
  have hspec : argsOf ⟨verb, [], 0, 0, 0, 0, 0, q, []⟩ l = if keyOk (l.getD 0 []) = true then argsB ⟨verb, [l.getD 0 []], 0, 0, 0, 0, 0, q, []⟩ l else none := by
    unfold argsOf; rw [if_neg h12, if_neg h13, if_neg h15, if_neg h146]
  have hz' : 0 < l.length := by omega
  obtain ⟨a1, a2⟩ := T.cell (j := 0) hz'
  rw [Nat.add_zero] at a1 a2
  repeat (first | ((first | apply Xk.sAny | apply Xk.tAny); (case hok => rfl); (case h => intro C hC; simp (disch := omega) only [w1, ↓reduceIte, Nat.reduceEqDiff, Nat.reduceLeDiff, Nat.reduceAdd, Nat.reduceSub, hb, hl, n1, n2, h13, h15, n14, n16, n17, hz', a1, a2]; with_reducible exact hC); refine gc ?_) | refine gm ?_)
  refine Key_ev _ _ _ ?_
  cases hk : keyOk (l.getD 0 [])
  · repeat (first | ((first | apply Xk.sAny | apply Xk.tAny); (case hok => rfl); (case h => intro C hC; simp (disch := omega) only [w1, ↓reduceIte, Nat.reduceEqDiff, Nat.reduceLeDiff, Nat.reduceAdd, Nat.reduceSub]; with_reducible exact hC); refine gm ?_) | refine gm ?_)
    exact none_ (by rw [hspec, hk]; rfl)
  rw [hk, if_pos rfl] at hspec
  have hnew := Heap.get_new_ne H (.cells [.str (l.getD 0 [])] 1) (b := b) (by have := hOk.lt hbb; omega)
  obtain ⟨v', H2, e1, e2, e3, e4, e5, e6⟩ := keys [l.getD 0 []] (by simp) (.sl H.next 0 1 1) (H.new (.cells [.str (l.getD 0 [])] 1)) (hOk.new _) ((HLe.refl _).new_ hOk _) (Nat.le_succ _)
    (by have := Sl.src (H := H.new (.cells [.str (l.getD 0 [])] 1)) (sz := 1) (v := .sl H.next 0 1 1) (cs := strs [l.getD 0 []]) (.inr ⟨H.next, 0, 1, [.str (l.getD 0 [])], 1, [], rfl, rfl, Heap.get_new_self _ _, Nat.zero_le _, rfl⟩) rfl (by omega); rw [strs_len, Nat.div_one] at this; exact this)
  obtain ⟨s1, s2⟩ := e6.sc
  have e2' := e2
  unfold reqC at e2
  repeat (first | ((first | apply Xk.sAny | apply Xk.tAny); (case hok => rfl); (case h => intro C hC; simp (disch := omega) only [w1, ↓reduceIte, Nat.reduceEqDiff, Nat.reduceLeDiff, Nat.reduceAdd, Nat.reduceSub, hb, hl, hz', a1, a2, e1, e2, s1, s2]; with_reducible exact hC); refine gc ?_) | refine gm ?_)
  refine Storing_ev _ _ _ ?_
  have T2 := T.mono e4
  have hg2 : (H2.put b (.cells (reqC verb v' 0 0 0 0 0 q []) 1)).get b = some (.cells (reqC verb v' 0 0 0 0 0 q []) 1) := Heap.get_put_self _ _ _
  have T3 := T2.put hne (.cells (reqC verb v' 0 0 0 0 0 q []) 1)
  have hl3 := T3.at_
  have hg3 := hg2
  unfold reqC at hg3
  unfold reqC at hl3
  by_cases h38 : 3 ≤ verb ∧ verb ≤ 8
  · have hspec2 : argsB ⟨verb, [l.getD 0 []], 0, 0, 0, 0, 0, q, []⟩ l = if storeOk verb l = true then some ⟨verb, [l.getD 0 []], (num (l.getD 1 []) 4294967295).getD 0, (sgn (l.getD 2 []) 1099511627776).1, (num (l.getD 3 []) 2147483647).getD 0, if verb = 8 then (num (l.getD 4 []) 1099511627776).getD 0 else 0, 0, q, []⟩ else none := if_pos h38
    rw [hspec2] at hspec
    rw [decide_eq_true h38]
    repeat (first | ((first | apply Xk.sAny | apply Xk.tAny); (case hok => rfl); (case h => intro C hC; simp (disch := omega) only [w1, ↓reduceIte, Nat.reduceEqDiff, Nat.reduceLeDiff, Nat.reduceAdd, Nat.reduceSub]; with_reducible exact hC); refine gc ?_) | refine gm ?_)
    refine store_ev _ b bl o w verb cl l v' q [] hg2 T3 hne (m2 h38.1 h38.2) m3 _ ?_
    rw [Heap.put_put]
    cases hst : storeOk verb l
    · repeat (first | ((first | apply Xk.sAny | apply Xk.tAny); (case hok => rfl); (case h => intro C hC; simp (disch := omega) only [w1, ↓reduceIte, Nat.reduceEqDiff, Nat.reduceLeDiff, Nat.reduceAdd, Nat.reduceSub]; with_reducible exact hC); refine gm ?_) | refine gm ?_)
      exact fail_ H2 _ rfl e3 e4 e5 (by rw [hspec, hst]; rfl) e2'
    · repeat (first | ((first | apply Xk.sAny | apply Xk.tAny); (case hok => rfl); (case h => intro C hC; simp (disch := omega) only [w1, ↓reduceIte, Nat.reduceEqDiff, Nat.reduceLeDiff, Nat.reduceAdd, Nat.reduceSub]; with_reducible exact hC); refine gm ?_) | refine gm ?_)
      exact done_ H2 v' _ _ e3 e4 e5 e6 (by rw [hspec, hst]; rfl) e2' rfl
  rw [decide_eq_false h38]
  by_cases h1011 : verb = 10 ∨ verb = 11
  · have hspec2 : argsB ⟨verb, [l.getD 0 []], 0, 0, 0, 0, 0, q, []⟩ l = if (num (l.getD 1 []) 18446744073709551615).isSome = true then some ⟨verb, [l.getD 0 []], 0, 0, 0, 0, (num (l.getD 1 []) 18446744073709551615).getD 0, q, []⟩ else none := by unfold argsB; rw [if_neg h38, if_pos h1011]
    rw [hspec2] at hspec
    have hz1 : 1 < l.length := by omega
    obtain ⟨b1, b2⟩ := T.cell (j := 1) hz1
    have hl2 := T2.at_
    rcases h1011 with h | h
    all_goals
      subst h
      repeat (first | ((first | apply Xk.sAny | apply Xk.tAny); (case hok => rfl); (case h => intro C hC; simp (disch := omega) only [w1, ↓reduceIte, Nat.reduceEqDiff, Nat.reduceLeDiff, Nat.reduceAdd, Nat.reduceSub, hl2, hz1, b1, b2]; with_reducible exact hC); refine gc ?_) | refine gm ?_)
      refine Number_ev _ 18446744073709551615 (by decide) _ _ ?_
      cases hst : (num (l.getD 1 []) 18446744073709551615).isSome
      · repeat (first | ((first | apply Xk.sAny | apply Xk.tAny); (case hok => rfl); (case h => intro C hC; simp (disch := omega) only [w1, ↓reduceIte, Nat.reduceEqDiff, Nat.reduceLeDiff, Nat.reduceAdd, Nat.reduceSub]; with_reducible exact hC); refine gm ?_) | refine gm ?_)
        exact fail_ H2 _ rfl e3 e4 e5 (by rw [hspec, hst]; rfl) e2'
      · repeat (first | ((first | apply Xk.sAny | apply Xk.tAny); (case hok => rfl); (case h => intro C hC; simp (disch := omega) only [w1, ↓reduceIte, Nat.reduceEqDiff, Nat.reduceLeDiff, Nat.reduceAdd, Nat.reduceSub]; with_reducible exact hC); refine gm ?_) | refine gm ?_)
        exact done_ H2 v' _ _ e3 e4 e5 e6 (by rw [hspec, hst]; rfl) e2' rfl
  have n10 : ¬ verb = 10 := fun h => h1011 (.inl h)
  have n11 : ¬ verb = 11 := fun h => h1011 (.inr h)
  by_cases h12' : verb = 12
  · have hspec2 : argsB ⟨verb, [l.getD 0 []], 0, 0, 0, 0, 0, q, []⟩ l = if (sgn (l.getD 1 []) 1099511627776).2 = true then some ⟨verb, [l.getD 0 []], 0, (sgn (l.getD 1 []) 1099511627776).1, 0, 0, 0, q, []⟩ else none := by unfold argsB; rw [if_neg h38, if_neg h1011, if_pos h12']
    rw [hspec2] at hspec
    have hz1 : 1 < l.length := by omega
    obtain ⟨b1, b2⟩ := T.cell (j := 1) hz1
    have hl2 := T2.at_
    subst h12'
    repeat (first | ((first | apply Xk.sAny | apply Xk.tAny); (case hok => rfl); (case h => intro C hC; simp (disch := omega) only [w1, ↓reduceIte, Nat.reduceEqDiff, Nat.reduceLeDiff, Nat.reduceAdd, Nat.reduceSub, hl2, hz1, b1, b2]; with_reducible exact hC); refine gc ?_) | refine gm ?_)
    refine signed_ev _ 1099511627776 (by decide) _ _ ?_
    cases hst : (sgn (l.getD 1 []) 1099511627776).2
    · repeat (first | ((first | apply Xk.sAny | apply Xk.tAny); (case hok => rfl); (case h => intro C hC; simp (disch := omega) only [w1, ↓reduceIte, Nat.reduceEqDiff, Nat.reduceLeDiff, Nat.reduceAdd, Nat.reduceSub]; with_reducible exact hC); refine gm ?_) | refine gm ?_)
      exact fail_ H2 _ rfl e3 e4 e5 (by rw [hspec, hst]; rfl) e2'
    · repeat (first | ((first | apply Xk.sAny | apply Xk.tAny); (case hok => rfl); (case h => intro C hC; simp (disch := omega) only [w1, ↓reduceIte, Nat.reduceEqDiff, Nat.reduceLeDiff, Nat.reduceAdd, Nat.reduceSub]; with_reducible exact hC); refine gm ?_) | refine gm ?_)
      exact done_ H2 v' _ _ e3 e4 e5 e6 (by rw [hspec, hst]; rfl) e2' rfl
  · have hspec2 : argsB ⟨verb, [l.getD 0 []], 0, 0, 0, 0, 0, q, []⟩ l = some ⟨verb, [l.getD 0 []], 0, 0, 0, 0, 0, q, []⟩ := by unfold argsB; rw [if_neg h38, if_neg h1011, if_neg h12']
    rw [hspec2] at hspec
    repeat (first | ((first | apply Xk.sAny | apply Xk.tAny); (case hok => rfl); (case h => intro C hC; simp (disch := omega) only [w1, ↓reduceIte, Nat.reduceEqDiff, Nat.reduceLeDiff, Nat.reduceAdd, Nat.reduceSub, n10, n11, h12']; with_reducible exact hC); refine gm ?_) | refine gm ?_)
    exact done_ H2 v' _ _ e3 e4 e5 e6 hspec e2' rfl
end Go.Proofs.YtkjmelfgopammaaDoor
