/- Layer 13: events compared. Conditions: none. -/
import Derived.Test.YtkjmelfgopammaaPaG
namespace Go.Proofs.Ytkjmelfgopammaa
open Go.Dp Go.Wd
set_option linter.unusedSimpArgs false
set_option linter.unusedVariables false
set_option maxHeartbeats 2000000
set_option maxRecDepth 4000
attribute [local irreducible] Ex.thnK Ex.inK Ret

def ansC (kind : Nat) (text : List UInt8) : List AV := [.int .i64 (.ofNat kind), .nils, .bool false, .int .u64 (.ofNat 0), .str text, .int .i64 (.ofNat 0), .int .i64 (.ofNat 0), .int .i64 (.ofNat 0), .int .i64 (.ofNat 0)]
theorem SameFound_nil (H : Heap) (Q : AV → Heap → Prop) (hQ : Q (.bool true) H) : Eo lib n_depotbook_Same_api_Found [.nils, .nils] H Q := by
  refine Eo.code at_depotbook_Same_api_Found rfl ?_
  repeat (first | ((first | apply Xk.sAny | apply Xk.tAny); (case hok => rfl); (case h => intro C hC; simp (disch := omega) only [w1, ↓reduceIte, Nat.reduceEqDiff, Nat.reduceLeDiff, Nat.reduceAdd, Nat.reduceSub]; with_reducible exact hC); refine gc ?_) | refine gm ?_)
  refine Xk.iter [0, 5] (fun m k H' => k = [(0, .nils), (5, .int .i64 (.ofNat 0))] ∧ H' = H) rfl ⟨0, rfl, rfl⟩ ?_
  rintro m k H' ⟨rfl, rfl⟩
  unfold l0_depotbook_Same_api_Found
  repeat (first | ((first | apply Xk.sAny | apply Xk.tAny); (case hok => rfl); (case h => intro C hC; simp (disch := omega) only [w1, ↓reduceIte, Nat.reduceEqDiff, Nat.reduceLeDiff, Nat.reduceAdd, Nat.reduceSub, Nat.lt_irrefl]; with_reducible exact hC); refine gc ?_) | refine gm ?_)
  exact hQ
theorem Answers_nil (kind : Nat) (text : List UInt8) (H : Heap) (Q : AV → Heap → Prop) (hQ : ∀ H', H'.Ok → HLe H H' → Q (.bool true) H') : Eo lib n_depotkeep_Answers [.agg (ansC kind text), .agg (ansC kind text)] H Q := by
  refine Eo.ok fun hOk => ?_
  have h1 := HLe.new (hOk _ (Nat.le_refl _)) (.cells (ansC kind text) 1)
  have h2 := HLe.new ((hOk.new (.cells (ansC kind text) 1)) _ (Nat.le_refl _)) (.cells (ansC kind text) 1)
  refine Eo.code at_depotkeep_Answers rfl ?_
  unfold ansC
  repeat (first | ((first | apply Xk.sAny | apply Xk.tAny); (case hok => rfl); (case h => intro C hC; simp (disch := omega) only [w1, ↓reduceIte, Nat.reduceEqDiff, Nat.reduceLeDiff, Nat.reduceAdd, Nat.reduceSub, nBox, eqvb]; with_reducible exact hC); refine gc ?_) | refine gm ?_)
  refine SameFound_nil _ _ ?_
  repeat (first | ((first | apply Xk.sAny | apply Xk.tAny); (case hok => rfl); (case h => intro C hC; simp (disch := omega) only [w1, ↓reduceIte, Nat.reduceEqDiff, Nat.reduceLeDiff, Nat.reduceAdd, Nat.reduceSub, nBox, eqvb]; with_reducible exact hC); refine gc ?_) | refine gm ?_)
  exact hQ _ ((hOk.new _).new _) (h1.trans h2)

theorem EvRows.at_ {H : Heap} : ∀ {es : List Ev} {cs : List AV} (i : Nat), EvRows H es cs → i < es.length → ∃ kv rest, cs.drop (i * 18) = evC kv (es.getD i noEv) ++ rest ∧ Own noHeap H 0 1 kv (strs (es.getD i noEv).r.keys)
  | [], cs, i, h, hi => by cases hi
  | e :: es, cs, 0, ⟨kv, rest, h1, h2, h3⟩, hi => ⟨kv, rest, by rw [h1]; rfl, h2⟩
  | e :: es, cs, i + 1, ⟨kv, rest, h1, h2, h3⟩, hi => by
    obtain ⟨kx, rx, a1, a2⟩ := EvRows.at_ i h3 (by simpa using hi)
    refine ⟨kx, rx, ?_, a2⟩
    have e1 : (evC kv e ++ rest).drop 18 = rest := rfl
    rw [h1, Nat.succ_mul, Nat.add_comm, ← List.drop_drop, e1]
    exact a1

/-- rows of events as they may be read -/
def Evs (H : Heap) (v : AV) (es : List Ev) : Prop := ∃ cs, Own noHeap H 0 18 v cs ∧ EvRows H es cs
theorem Evs.mono {H H' : Heap} {v : AV} {es : List Ev} (h : Evs H v es) (hle : HLe H H') : Evs H' v es :=
  let ⟨cs, a, b⟩ := h; ⟨cs, a.mono hle, b.mono hle⟩
theorem Evs.lens {H : Heap} {v : AV} {es : List Ev} (h : Evs H v es) : rLensl v = some (.int .i64 (.ofNat es.length)) := by
  obtain ⟨cs, h1, h2⟩ := h
  have hl := h2.len
  rcases h1 with ⟨rfl, rfl⟩ | ⟨c, len, rfl, a2, a3, a4⟩
  · have : es.length = 0 := by rw [List.length_nil] at hl; omega
    rw [this]; rfl
  · have : len = es.length := by omega
    rw [this]; rfl
theorem Evs.row {H : Heap} {v : AV} {es : List Ev} (h : Evs H v es) {i : Nat} (hi : i < es.length) : ∃ b cs kv, v = .sl b 0 es.length 18 ∧ H.get b = some (.cells cs 1) ∧ i * 18 + 9 + 9 ≤ cs.length ∧
    (cs.drop (i * 18)).take 9 = reqC (es.getD i noEv).r.verb kv (es.getD i noEv).r.flags (es.getD i noEv).r.exp (es.getD i noEv).r.bytes (es.getD i noEv).r.cas (es.getD i noEv).r.delta (es.getD i noEv).r.noReply (es.getD i noEv).r.data ∧
    (cs.drop (i * 18 + 9)).take 9 = ansC (es.getD i noEv).kind (es.getD i noEv).text ∧ Own noHeap H 0 1 kv (strs (es.getD i noEv).r.keys) := by
  obtain ⟨cs, h1, h2⟩ := h
  have hl := h2.len
  obtain ⟨kv, rest, a1, a2⟩ := EvRows.at_ i h2 hi
  rcases h1 with ⟨rfl, rfl⟩ | ⟨c, len, rfl, b2, b3, b4⟩
  · simp at hl; omega
  · have : len = es.length := by omega
    subst this
    refine ⟨c, cs, kv, rfl, b3, by omega, by rw [a1]; rfl, ?_, a2⟩
    rw [← List.drop_drop, a1]
    rfl

theorem same_ev (H : Heap) (va vb : AV) (es : List Ev) (ha : Evs H va es) (hb : Evs H vb es) (hl : es.length < 1000000000) (hk : ∀ e ∈ es, e.r.keys.length < 1000000000) (Q : AV → Heap → Prop) (hQ : ∀ H', H'.Ok → HLe H H' → Q (.bool true) H') : Eo lib n_depotlaw13_same [va, vb] H Q := by
  refine Eo.ok fun hOk => ?_
  have la := ha.lens
  have lb := hb.lens
  refine Eo.code at_depotlaw13_same rfl ?_
  repeat (first | ((first | apply Xk.sAny | apply Xk.tAny); (case hok => rfl); (case h => intro C hC; simp (disch := omega) only [w1, ↓reduceIte, Nat.reduceEqDiff, Nat.reduceLeDiff, Nat.reduceAdd, Nat.reduceSub, la, lb]; with_reducible exact hC); refine gc ?_) | refine gm ?_)
  refine Xk.iter [0, 1, 5] (fun m k H' => ∃ i, m = es.length - i ∧ i ≤ es.length ∧ k = [(0, va), (1, vb), (5, .int .i64 (.ofNat i))] ∧ H'.Ok ∧ HLe H H') rfl ⟨_, 0, rfl, by omega, rfl, hOk, HLe.refl _⟩ ?_
  rintro m k H' ⟨i, hm, hi, rfl, hO', hle⟩
  unfold l0_depotlaw13_same
  by_cases h : i < es.length
  · have hlt := eq_true h
    obtain ⟨ba, ca, ka, rfl, a1, a2, a3, a4, a5⟩ := (ha.mono hle).row h
    obtain ⟨bb, cb, kb, rfl, b1, b2, b3, b4, b5⟩ := (hb.mono hle).row h
    have a6 : i * 18 + 9 ≤ ca.length := by omega
    have b6 : i * 18 + 9 ≤ cb.length := by omega
    repeat (first | ((first | apply Xk.sAny | apply Xk.tAny); (case hok => rfl); (case h => intro C hC; simp (disch := omega) only [w1, ↓reduceIte, Nat.reduceEqDiff, Nat.reduceLeDiff, Nat.reduceAdd, Nat.reduceSub, la, lb, hlt, a1, a2, a3, a4, a6, b1, b2, b3, b4, b6]; with_reducible exact hC); refine gc ?_) | refine gm ?_)
    have hmem : es.getD i noEv ∈ es := by
      rw [List.getD_eq_getElem?_getD, List.getElem?_eq_getElem h]
      exact List.getElem_mem h
    refine Requests_ev _ _ _ (es.getD i noEv).r ⟨ka, rfl, a5.sl⟩ ⟨kb, rfl, b5.sl⟩ (hk _ hmem) _ fun H2 hO2 hle2 => ?_
    have a1' := hle2 _ _ a1
    have b1' := hle2 _ _ b1
    repeat (first | ((first | apply Xk.sAny | apply Xk.tAny); (case hok => rfl); (case h => intro C hC; simp (disch := omega) only [w1, ↓reduceIte, Nat.reduceEqDiff, Nat.reduceLeDiff, Nat.reduceAdd, Nat.reduceSub, la, lb, hlt, a1', a2, a3, a4, a6, b1', b2, b3, b4, b6]; with_reducible exact hC); refine gc ?_) | refine gm ?_)
    refine Answers_nil _ _ _ _ fun H3 hO3 hle3 => ?_
    repeat (first | ((first | apply Xk.sAny | apply Xk.tAny); (case hok => rfl); (case h => intro C hC; simp (disch := omega) only [w1, ↓reduceIte, Nat.reduceEqDiff, Nat.reduceLeDiff, Nat.reduceAdd, Nat.reduceSub]; with_reducible exact hC); refine gc ?_) | refine gm ?_)
    exact ⟨rfl, _, by omega, i + 1, rfl, by omega, rfl, hO3, (hle.trans hle2).trans hle3⟩
  · repeat (first | ((first | apply Xk.sAny | apply Xk.tAny); (case hok => rfl); (case h => intro C hC; simp (disch := omega) only [w1, ↓reduceIte, Nat.reduceEqDiff, Nat.reduceLeDiff, Nat.reduceAdd, Nat.reduceSub, la, lb, h]; with_reducible exact hC); refine gc ?_) | refine gm ?_)
    exact hQ _ hO' hle
end Go.Proofs.Ytkjmelfgopammaa
