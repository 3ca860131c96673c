/- Layer 13: what the parsers call. Conditions: none. -/
import Derived.Test.YtkjmelfgopammaaDoorPaS
import Derived.Test.YtkjmelfgopammaaDoorWdO
namespace Go.Proofs.YtkjmelfgopammaaDoor
open Go.Dp Go.Wd
set_option linter.unusedSimpArgs false
set_option linter.unusedVariables false
set_option maxHeartbeats 2000000
attribute [local irreducible] Ex.thnK Ex.inK Ret

theorem HasPrefix2_ev (s p : List UInt8) (H : Heap) (Q : AV → Heap → Prop) (hQ : Q (.bool (decide (s.take p.length = p))) H) : Eo lib n_strings_HasPrefix [.str s, .str p] H Q := by
  refine Eo.code at_strings_HasPrefix rfl ?_
  repeat (first | ((first | apply Xk.sAny | apply Xk.tAny); (case hok => rfl); (case h => intro C hC; simp (disch := omega) only [w0, ↓reduceIte, Nat.reduceEqDiff, Nat.reduceLeDiff, Nat.reduceAdd, Nat.reduceSub]; with_reducible exact hC); refine gc ?_) | refine gm ?_)
  refine HasPrefix_ev s p _ _ ?_
  repeat (first | ((first | apply Xk.sAny | apply Xk.tAny); (case hok => rfl); (case h => intro C hC; simp (disch := omega) only [w0, ↓reduceIte, Nat.reduceEqDiff, Nat.reduceLeDiff, Nat.reduceAdd, Nat.reduceSub]; with_reducible exact hC); refine gm ?_) | refine gm ?_)
  exact hQ
theorem getLast_eq (s : List UInt8) (h : 0 < s.length) : s.drop (s.length - 1) = [s.getD (s.length - 1) 0] := by
  rw [drop_getD 0 (show s.length - 1 < s.length by omega), List.drop_eq_nil_of_le (by omega)]
theorem HasSuffixCR_ev (s : List UInt8) (hs : s.length < 1000000000) (H : Heap) (Q : AV → Heap → Prop) (hQ : Q (.bool (decide (0 < s.length ∧ s.getD (s.length - 1) 0 = 13))) H) : Eo lib n_internal_stringslite_HasSuffix [.str s, .str [13]] H Q := by
  refine Eo.code at_internal_stringslite_HasSuffix rfl ?_
  by_cases h : 0 < s.length
  · have h1 : 1 ≤ s.length := h
    have h2 : s.length - 1 ≤ s.length := by omega
    have h3 := getLast_eq s h
    have h4 : (s.drop (s.length - 1)).take (s.length - (s.length - 1)) = [s.getD (s.length - 1) 0] := by
      rw [h3]
      have : s.length - (s.length - 1) = 1 := by omega
      rw [this]; rfl
    repeat (first | ((first | apply Xk.sAny | apply Xk.tAny); (case hok => rfl); (case h => intro C hC; simp (disch := omega) only [w1, ↓reduceIte, Nat.reduceEqDiff, Nat.reduceLeDiff, Nat.reduceAdd, Nat.reduceSub, h1, h2, h4]; with_reducible exact hC); refine gm ?_) | refine gm ?_)
    have : decide (0 < s.length ∧ s.getD (s.length - 1) 0 = 13) = decide ([s.getD (s.length - 1) 0] = ([13] : List UInt8)) := by simp [h]
    rw [this] at hQ
    exact hQ
  · have h1 : ¬ 1 ≤ s.length := h
    repeat (first | ((first | apply Xk.sAny | apply Xk.tAny); (case hok => rfl); (case h => intro C hC; simp (disch := omega) only [w1, ↓reduceIte, Nat.reduceEqDiff, Nat.reduceLeDiff, Nat.reduceAdd, Nat.reduceSub, h1]; with_reducible exact hC); refine gm ?_) | refine gm ?_)
    have : decide (0 < s.length ∧ s.getD (s.length - 1) 0 = 13) = false := by simp [h]
    rw [this] at hQ
    exact hQ
theorem TrimCR_ev (s : List UInt8) (hs : s.length < 1000000000) (H : Heap) (Q : AV → Heap → Prop) (hQ : Q (.str (trimCR s)) H) : Eo lib n_strings_TrimSuffix [.str s, .str [13]] H Q := by
  refine Eo.code at_strings_TrimSuffix rfl ?_
  repeat (first | ((first | apply Xk.sAny | apply Xk.tAny); (case hok => rfl); (case h => intro C hC; simp (disch := omega) only [w0, ↓reduceIte, Nat.reduceEqDiff, Nat.reduceLeDiff, Nat.reduceAdd, Nat.reduceSub]; with_reducible exact hC); refine gc ?_) | refine gm ?_)
  refine Eo.code at_internal_stringslite_TrimSuffix rfl ?_
  repeat (first | ((first | apply Xk.sAny | apply Xk.tAny); (case hok => rfl); (case h => intro C hC; simp (disch := omega) only [w0, ↓reduceIte, Nat.reduceEqDiff, Nat.reduceLeDiff, Nat.reduceAdd, Nat.reduceSub]; with_reducible exact hC); refine gc ?_) | refine gm ?_)
  refine HasSuffixCR_ev s hs _ _ ?_
  unfold trimCR at hQ
  by_cases h : 0 < s.length ∧ s.getD (s.length - 1) 0 = 13
  · rw [if_pos h] at hQ
    rw [decide_eq_true h]
    have h1 : 1 ≤ s.length := h.1
    have h2 : s.length - 1 ≤ s.length := by omega
    repeat (first | ((first | apply Xk.sAny | apply Xk.tAny); (case hok => rfl); (case h => intro C hC; simp (disch := omega) only [w1, ↓reduceIte, Nat.reduceEqDiff, Nat.reduceLeDiff, Nat.reduceAdd, Nat.reduceSub, h1, h2]; with_reducible exact hC); refine gm ?_) | refine gm ?_)
    exact hQ
  · rw [if_neg h] at hQ
    rw [decide_eq_false h]
    repeat (first | ((first | apply Xk.sAny | apply Xk.tAny); (case hok => rfl); (case h => intro C hC; simp (disch := omega) only [w1, ↓reduceIte, Nat.reduceEqDiff, Nat.reduceLeDiff, Nat.reduceAdd, Nat.reduceSub]; with_reducible exact hC); refine gm ?_) | refine gm ?_)
    exact hQ

theorem indexB_eq : ∀ (s : List UInt8) (i : Nat), indexB (Int.ofNat 10) s i = if upTo 10 s = s.length then Int.negSucc 0 else Int.ofNat (i + upTo 10 s)
  | [], i => by simp only [indexB, upTo, List.length_nil, if_true]; rfl
  | a :: r, i => by
    unfold indexB upTo
    by_cases h : a = 10
    · subst h
      rw [if_pos rfl, if_neg (by simp)]
      have : ibeq (Int.ofNat (10 : UInt8).toNat) (Int.ofNat 10) = true := by decide
      rw [this]
      rfl
    · rw [if_neg h]
      have : ibeq (Int.ofNat a.toNat) (Int.ofNat 10) = false := by
        rw [ibeq_eq, beq_eq_false_iff_ne]
        intro e
        have e' : a.toNat = 10 := Int.ofNat.inj e
        exact h (UInt8.toNat_inj.1 (by rw [e']; rfl))
      rw [this, cond_false, indexB_eq r (i + 1), List.length_cons]
      by_cases hr : upTo 10 r = r.length
      · rw [if_pos hr, if_pos (by omega)]
      · rw [if_neg hr, if_neg (by omega)]
        have : i + 1 + upTo 10 r = i + (upTo 10 r + 1) := by omega
        rw [this]
theorem IndexByte_ev (s : List UInt8) (H : Heap) (Q : AV → Heap → Prop) (hQ : Q (.int .i64 (if upTo 10 s = s.length then Int.negSucc 0 else Int.ofNat (upTo 10 s))) H) : Eo lib n_strings_IndexByte [.str s, .int .u8 (.ofNat 10)] H Q := by
  have e : rIndex (.str s) (.int .u8 (.ofNat 10)) = some (.int .i64 (if upTo 10 s = s.length then Int.negSucc 0 else Int.ofNat (upTo 10 s))) := by
    have : rIndex (.str s) (.int .u8 (.ofNat 10)) = some (.int .i64 (indexB (Int.ofNat 10) s 0)) := rfl
    rw [this, indexB_eq, Nat.zero_add]
  refine Eo.code at_strings_IndexByte rfl ?_
  repeat (first | ((first | apply Xk.sAny | apply Xk.tAny); (case hok => rfl); (case h => intro C hC; simp (disch := omega) only [w0, ↓reduceIte, Nat.reduceEqDiff, Nat.reduceLeDiff, Nat.reduceAdd, Nat.reduceSub]; with_reducible exact hC); refine gc ?_) | refine gm ?_)
  refine Eo.code at_internal_stringslite_IndexByte rfl ?_
  repeat (first | ((first | apply Xk.sAny | apply Xk.tAny); (case hok => rfl); (case h => intro C hC; simp (disch := omega) only [w0, ↓reduceIte, Nat.reduceEqDiff, Nat.reduceLeDiff, Nat.reduceAdd, Nat.reduceSub, e]; with_reducible exact hC); refine gc ?_) | refine gm ?_)
  exact hQ

/-- an event's cells -/
def evC (kv : AV) (e : Ev) : List AV := reqC e.r.verb kv e.r.flags e.r.exp e.r.bytes e.r.cas e.r.delta e.r.noReply e.r.data ++ [.int .i64 (.ofNat e.kind), .nils, .bool false, .int .u64 (.ofNat 0), .str e.text, .int .i64 (.ofNat 0), .int .i64 (.ofNat 0), .int .i64 (.ofNat 0), .int .i64 (.ofNat 0)]
/-- events in memory, their keys too -/
def EvRows (H : Heap) : List Ev → List AV → Prop
  | [], cs => cs = []
  | e :: es, cs => ∃ kv rest, cs = evC kv e ++ rest ∧ Own noHeap H 0 1 kv (strs e.r.keys) ∧ EvRows H es rest
theorem evC_len (kv : AV) (e : Ev) : (evC kv e).length = 18 := rfl
theorem EvRows.len {H : Heap} : ∀ {es : List Ev} {cs : List AV}, EvRows H es cs → cs.length = 18 * es.length
  | [], cs, h => by rw [show cs = [] from h]; rfl
  | e :: es, cs, ⟨kv, rest, h1, _, h3⟩ => by rw [h1, List.length_append, evC_len, h3.len, List.length_cons]; omega
theorem EvRows.mono {H H' : Heap} (hle : HLe H H') : ∀ {es : List Ev} {cs : List AV}, EvRows H es cs → EvRows H' es cs
  | [], cs, h => h
  | e :: es, cs, ⟨kv, rest, h1, h2, h3⟩ => ⟨kv, rest, h1, h2.mono hle, EvRows.mono hle h3⟩
/-- a block that holds no keys may be turned -/
theorem key_put {H : Heap} {b w : Nat} {l : List AV} (hb : H.get b = some (.cells l w)) (hl : ∀ ks, strs ks ≠ l) (x : Blk) {kv : AV} {ks : List (List UInt8)} (h : Own noHeap H 0 1 kv (strs ks)) : Own noHeap (H.put b x) 0 1 kv (strs ks) := by
  rcases h with h | ⟨c, len, a1, a2, a3, a4⟩
  · exact .inl h
  · refine .inr ⟨c, len, a1, a2, ?_, a4⟩
    rw [Heap.get_put_ne _ _ _ (by intro e; subst e; rw [hb] at a3; cases a3; exact hl ks rfl)]
    exact a3
theorem EvRows.put {H : Heap} {b w : Nat} {l : List AV} (hb : H.get b = some (.cells l w)) (hl : ∀ ks, strs ks ≠ l) (x : Blk) : ∀ {es : List Ev} {cs : List AV}, EvRows H es cs → EvRows (H.put b x) es cs
  | [], cs, h => h
  | e :: es, cs, ⟨kv, rest, h1, h2, h3⟩ => ⟨kv, rest, h1, key_put hb hl x h2, EvRows.put hb hl x h3⟩
theorem EvRows.snoc {H : Heap} {e : Ev} {kv : AV} (hk : Own noHeap H 0 1 kv (strs e.r.keys)) : ∀ {es : List Ev} {cs : List AV}, EvRows H es cs → EvRows H (es ++ [e]) (cs ++ evC kv e)
  | [], cs, h => by rw [show cs = [] from h]; exact ⟨kv, [], (List.append_nil _).symm, hk, rfl⟩
  | x :: es, cs, ⟨kx, rest, h1, h2, h3⟩ => ⟨kx, rest ++ evC kv e, by rw [h1, List.append_assoc], h2, EvRows.snoc hk h3⟩

/-- the program's parser in its block -/
def psC (p : PS) (kv ev : AV) : List AV := [.int .i64 (.ofNat p.at_), .str p.left, .int .i64 (.ofNat p.count), .int .i64 (.ofNat p.asked.verb), kv, .int .i64 (.ofNat p.asked.flags), .int .i64 p.asked.exp, .int .i64 (.ofNat p.asked.bytes), .int .i64 (.ofNat p.asked.cas), .int .u64 (.ofNat p.asked.delta), .bool p.asked.noReply, .str p.asked.data, .bool p.shut, ev]
theorem no_keys_int (k : IntKind) (n : Int) (r : List AV) (ks : List (List UInt8)) : strs ks ≠ .int k n :: r := by
  intro h
  cases ks with
  | nil => cases h
  | cons a l => cases h
theorem psC_keys (p : PS) (kv ev : AV) (ks : List (List UInt8)) : strs ks ≠ psC p kv ev := no_keys_int _ _ _ _
/-- a parser in memory: H0: the memory it came with -/
structure Pa (H0 H : Heap) (b : Nat) (p : PS) (es : List Ev) : Prop where
  ok : H.Ok
  old : ∃ y, H0.get b = some y
  keep : ∀ c y, c ≠ b → H0.get c = some y → H.get c = some y
  body : ∃ kv ev cs, H.get b = some (.cells (psC p kv ev) 1) ∧ Own noHeap H 0 1 kv (strs p.asked.keys) ∧ Own H0 H 0 18 ev cs ∧ EvRows H es cs ∧ (kv = .nils ∨ p.asked.keys ≠ [])
end Go.Proofs.YtkjmelfgopammaaDoor
