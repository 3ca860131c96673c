/- Layer 12: what the statements compare with; WordsQuiet. Conditions: none. -/
import Derived.Test.YtkjmelfgopammaaWdG
namespace Go.Proofs.Ytkjmelfgopammaa
open Go.Dp Go.Wd
set_option linter.unusedSimpArgs false
set_option linter.unusedVariables false
set_option maxHeartbeats 2000000
attribute [local irreducible] Ex.thnK Ex.inK Ret

theorem _root_.Go.Dp.Sl.sc {H : Heap} {sz : Nat} {v : AV} {cs : List AV} (h : Sl H sz v cs) : v.cells = [v] ∧ v.isSc = true := by
  rcases h with ⟨rfl, _⟩ | ⟨c, o, len, l, w, rest, rfl, _⟩ <;> exact ⟨rfl, rfl⟩
theorem _root_.Go.Dp.Sl.lens {H : Heap} {v : AV} {l : List (List UInt8)} (h : Sl H 1 v (strs l)) : rLensl v = some (.int .i64 (.ofNat l.length)) := by
  rcases h with ⟨rfl, h⟩ | ⟨c, o, len, cl, w, rest, rfl, h2, _⟩
  · cases l with
    | nil => rfl
    | cons a r => cases h
  · rw [strs_len, Nat.mul_one] at h2
    rw [h2]
    rfl
theorem _root_.Go.Dp.Sl.txt {H : Heap} {v : AV} {l : List (List UInt8)} (h : Sl H 1 v (strs l)) (hl : 0 < l.length) : ∃ bl o cl w, v = .sl bl o l.length 1 ∧ Txt H bl o cl w l := by
  rcases h with ⟨rfl, h⟩ | ⟨c, o, len, cl, w, rest, rfl, h2, h3, h4, h5⟩
  · cases l with
    | nil => simp at hl
    | cons a r => cases h
  · rw [strs_len, Nat.mul_one] at h2
    rw [← h2]
    exact ⟨c, o, cl, w, rfl, h3, h4, rest, h5⟩

theorem Same_ev (H : Heap) (va vb : AV) (l : List (List UInt8)) (ha : Sl H 1 va (strs l)) (hb : Sl H 1 vb (strs l)) (hl : l.length < 1000000000) (Q : AV → Heap → Prop) (hQ : Q (.bool true) H) : Eo lib n_depotbook_Same_string [va, vb] H Q := by
  have la := ha.lens
  have lb := hb.lens
  refine Eo.code at_depotbook_Same_string rfl ?_
  by_cases h0 : l.length = 0
  · repeat (first | ((first | apply Xk.sAny | apply Xk.tAny); (case hok => rfl); (case h => intro C hC; simp (disch := omega) only [w0, ↓reduceIte, Nat.reduceEqDiff, Nat.reduceLeDiff, Nat.reduceAdd, Nat.reduceSub, la, lb, eq_self]; with_reducible exact hC); refine gm ?_) | refine gm ?_)
    refine Xk.iter [0, 1, 5] (fun m k H' => k = [(0, va), (1, vb), (5, .int .i64 (.ofNat 0))] ∧ H' = H) rfl ⟨0, rfl, rfl⟩ ?_
    rintro m k H' ⟨rfl, rfl⟩
    repeat (first | ((first | apply Xk.sAny | apply Xk.tAny); (case hok => rfl); (case h => intro C hC; simp (disch := omega) only [w0, ↓reduceIte, Nat.reduceEqDiff, Nat.reduceLeDiff, Nat.reduceAdd, Nat.reduceSub, la, lb, h0, Nat.not_lt_zero]; with_reducible exact hC); refine gm ?_) | refine gm ?_)
    exact hQ
  obtain ⟨ba, oa, ca, wa, rfl, Ta⟩ := ha.txt (by omega)
  obtain ⟨bb, ob, cb, wb, rfl, Tb⟩ := hb.txt (by omega)
  repeat (first | ((first | apply Xk.sAny | apply Xk.tAny); (case hok => rfl); (case h => intro C hC; simp (disch := omega) only [w0, ↓reduceIte, Nat.reduceEqDiff, Nat.reduceLeDiff, Nat.reduceAdd, Nat.reduceSub, eq_self]; with_reducible exact hC); refine gm ?_) | refine gm ?_)
  refine Xk.iter [0, 1, 5] (fun m k H' => ∃ i, m = l.length - i ∧ i ≤ l.length ∧ k = [(0, .sl ba oa l.length 1), (1, .sl bb ob l.length 1), (5, .int .i64 (.ofNat i))] ∧ H' = H) rfl ⟨_, 0, rfl, by omega, rfl, rfl⟩ ?_
  rintro m k H' ⟨i, hm, hi, rfl, rfl⟩
  by_cases h : i < l.length
  · obtain ⟨a1, a2⟩ := Ta.cell h
    obtain ⟨b1, b2⟩ := Tb.cell h
    have ga := Ta.at_
    have gb := Tb.at_
    repeat (first | ((first | apply Xk.sAny | apply Xk.tAny); (case hok => rfl); (case h => intro C hC; simp (disch := omega) only [w1, ↓reduceIte, Nat.reduceEqDiff, Nat.reduceLeDiff, Nat.reduceAdd, Nat.reduceSub, h, a1, a2, b1, b2, ga, gb]; with_reducible exact hC); refine gm ?_) | refine gm ?_)
    exact ⟨rfl, _, by omega, i + 1, rfl, by omega, rfl, rfl⟩
  · repeat (first | ((first | apply Xk.sAny | apply Xk.tAny); (case hok => rfl); (case h => intro C hC; simp (disch := omega) only [w0, ↓reduceIte, Nat.reduceEqDiff, Nat.reduceLeDiff, Nat.reduceAdd, Nat.reduceSub, h]; with_reducible exact hC); refine gm ?_) | refine gm ?_)
    exact hQ

theorem eqvb (q : Bool) : negIf false (eqv .b (.bool q) (.bool q)) = some (.bool true) := by cases q <;> rfl
theorem nbox (cs : List AV) (h : cs.all AV.isSc = true) : nBox cs = some (.cells cs 1, ptrTo) := by unfold nBox; rw [h]; rfl

theorem Requests_ev (H : Heap) (ca cb : List AV) (r : Req) (ha : RepQ H ca r) (hb : RepQ H cb r) (hl : r.keys.length < 1000000000) (Q : AV → Heap → Prop) (hQ : ∀ H', H'.Ok → HLe H H' → Q (.bool true) H') : Eo lib n_depotkeep_Requests [.agg ca, .agg cb] H Q := by
  refine Eo.ok fun hOk => ?_
  obtain ⟨ka, rfl, hka⟩ := ha
  obtain ⟨kb, rfl, hkb⟩ := hb
  obtain ⟨a1, a2⟩ := hka.sc
  obtain ⟨b1, b2⟩ := hkb.sc
  have na : (reqC r.verb ka r.flags r.exp r.bytes r.cas r.delta r.noReply r.data).all AV.isSc = true := by simp only [reqC, wh, List.all_cons, List.all_nil, a2, Bool.and_self, Bool.and_true]
  have nb : (reqC r.verb kb r.flags r.exp r.bytes r.cas r.delta r.noReply r.data).all AV.isSc = true := by simp only [reqC, wh, List.all_cons, List.all_nil, b2, Bool.and_self, Bool.and_true]
  have xa := nbox _ na
  have xb := nbox _ nb
  have hle : HLe H ((H.new (.cells (reqC r.verb ka r.flags r.exp r.bytes r.cas r.delta r.noReply r.data) 1)).new (.cells (reqC r.verb kb r.flags r.exp r.bytes r.cas r.delta r.noReply r.data) 1)) := ((HLe.refl _).new_ hOk _).new_ (hOk.new _) _
  have hO : ((H.new (.cells (reqC r.verb ka r.flags r.exp r.bytes r.cas r.delta r.noReply r.data) 1)).new (.cells (reqC r.verb kb r.flags r.exp r.bytes r.cas r.delta r.noReply r.data) 1)).Ok := (hOk.new _).new _
  unfold reqC at xa xb hle hO
  unfold reqC
  refine Eo.code at_depotkeep_Requests rfl ?_
  repeat (first | ((first | apply Xk.sAny | apply Xk.tAny); (case hok => rfl); (case h => intro C hC; simp (disch := omega) only [w1, ↓reduceIte, Nat.reduceEqDiff, Nat.reduceLeDiff, Nat.reduceAdd, Nat.reduceSub, xa, xb]; with_reducible exact hC); refine gc ?_) | refine gm ?_)
  refine Same_ev _ ka kb r.keys (hka.mono hle) (hkb.mono hle) hl _ ?_
  repeat (first | ((first | apply Xk.sAny | apply Xk.tAny); (case hok => rfl); (case h => intro C hC; simp (disch := omega) only [w1, ↓reduceIte, Nat.reduceEqDiff, Nat.reduceLeDiff, Nat.reduceAdd, Nat.reduceSub, eqvb]; with_reducible exact hC); refine gm ?_) | refine gm ?_)
  exact hQ _ hO hle

end Go.Proofs.Ytkjmelfgopammaa
