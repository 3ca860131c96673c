/- Layer 12: the program's Line: what a call comes to. Conditions: none. -/
import Derived.Test.YtkjmelfgopammaaDoorWdD
namespace Go.Proofs.YtkjmelfgopammaaDoor
open Go.Dp Go.Wd
set_option linter.unusedSimpArgs false
set_option linter.unusedVariables false
set_option maxHeartbeats 2000000
attribute [local irreducible] Ex.thnK Ex.inK Ret

theorem splitGo_len : ∀ (s cur : List UInt8), (splitGo cur s).length ≤ s.length + (if cur.length = 0 then 0 else 1)
  | [], cur => by unfold splitGo; split <;> simp
  | c :: r, cur => by
    unfold splitGo
    split
    · split
      · have := splitGo_len r []; simp at this ⊢; omega
      · have := splitGo_len r []; simp at this ⊢; omega
    · have := splitGo_len r (cur ++ [c])
      rw [if_neg (by simp)] at this
      simp at this ⊢
      split <;> omega
theorem splitW_len (s : List UInt8) : (splitW s).length ≤ s.length := splitGo_len s []

theorem ite_inv {α : Type} {c : Prop} [Decidable c] {a b : Option α} {v : α} (h : (if c then a else b) = some v) : a = some v ∨ b = some v := by
  split at h
  · exact .inl h
  · exact .inr h
theorem verbOf_ok {w : List UInt8} {v : Nat × Nat × Nat × Bool} (h : verbOf w = some v) : 1 ≤ v.1 ∧ v.1 ≤ 17 ∧ v.2.2.1 ≤ 64 ∧ (v.1 ≤ 2 → 1 ≤ v.2.1) ∧ (3 ≤ v.1 → v.1 ≤ 8 → 4 ≤ v.2.1) ∧ (v.1 = 8 → 5 ≤ v.2.1) ∧ (v.1 = 9 → 1 ≤ v.2.1) ∧ (10 ≤ v.1 → v.1 ≤ 12 → 2 ≤ v.2.1) ∧ (v.1 = 15 → 1 ≤ v.2.1) ∧ v.2.1 ≤ 5 := by
  unfold verbOf at h
  iterate 17
    rcases ite_inv h with h | h
    · obtain rfl := Option.some.inj h
      decide
  cases h

def zeroC : List AV := reqC 0 .nils 0 0 0 0 0 false []

theorem RepO.old {H0 H1 H : Heap} {cells : List AV} {r : Req} (h : RepO H1 H cells r) (hle : HLe H0 H1) : RepO H0 H cells r := by
  obtain ⟨kv, h1, h2⟩ := h
  refine ⟨kv, h1, ?_⟩
  rcases h2 with h | ⟨b, len, a1, a2, a3, a4⟩
  · exact .inl h
  · exact .inr ⟨b, len, a1, a2, a3, hle.none a4⟩

theorem Line_evO (s : List UInt8) (hs : s.length < 1000000) (H : Heap) (Q : AV → Heap → Prop)
    (hQ : ∀ H' cells, H'.Ok → HLe H H' → RepO H H' cells (lineOf s).1 → Q (.tup [.agg cells, .int .i64 (.ofNat (lineOf s).2)]) H') : Eo lib n_words_Line [.str s] H Q := by
  refine Eo.ok fun hOk => ?_
  have hbN : H.get H.next = none := hOk _ (Nat.le_refl _)
  -- the end: an error
  have bad : ∀ (H' : Heap) (e : Nat), lineOf s = (noReq, e) → H'.Ok → HLe H H' → Q (.tup [.agg zeroC, .int .i64 (.ofNat e)]) H' := by
    intro H' e h hO hle
    have := hQ H' zeroC hO hle (by rw [h]; exact ⟨.nils, rfl, .inl ⟨rfl, rfl⟩⟩)
    rw [h] at this
    exact this
  unfold zeroC reqC at bad
  refine Eo.code at_words_Line rfl ?_
  repeat (first | ((first | apply Xk.sAny | apply Xk.tAny); (case hok => rfl); (case h => intro C hC; simp (disch := omega) only [w1, ↓reduceIte, Nat.reduceEqDiff, Nat.reduceLeDiff, Nat.reduceAdd, Nat.reduceSub]; with_reducible exact hC); refine gc ?_) | refine gm ?_)
  refine Split_ev s (by omega) _ _ fun v H2 hO2 hle2 hown => ?_
  have hb0 := hle2 _ _ (Heap.get_new_self H (.cells [.int .i64 (.ofNat 0), .nils, .int .i64 (.ofNat 0), .int .i64 (.ofNat 0), .int .i64 (.ofNat 0), .int .i64 (.ofNat 0), .int .u64 (.ofNat 0), .bool false, .str []] 1))
  have hH2 : HLe H H2 := (HLe.new hbN _).trans hle2
  have hwl := splitW_len s
  rcases hown with ⟨rfl, hnil⟩ | ⟨bv, len, rfl, hlen, hbv, hbv0⟩
  · have hw : splitW s = [] := by
      cases h : splitW s with
      | nil => rfl
      | cons a r => rw [h] at hnil; cases hnil
    have hline : lineOf s = (noReq, 4) := by unfold lineOf; rw [hw]; rfl
    repeat (first | ((first | apply Xk.sAny | apply Xk.tAny); (case hok => rfl); (case h => intro C hC; simp (disch := omega) only [w1, ↓reduceIte, Nat.reduceEqDiff, Nat.reduceLeDiff, Nat.reduceAdd, Nat.reduceSub, hb0]; with_reducible exact hC); refine gm ?_) | refine gm ?_)
    refine Ret.ret rfl (by simp only [resKs, resK, cond_true, w1, ↓reduceIte, Nat.reduceEqDiff, Nat.reduceLeDiff, Nat.reduceAdd, Nat.reduceSub, pf_words_Line, hb0]; rfl) rfl ?_
    exact bad _ 4 hline (hO2.put hb0 _) (hH2.put_ hbN _)
  rw [strs_len, Nat.mul_one] at hlen
  subst hlen
  by_cases hz : (splitW s).length = 0
  · have hw : splitW s = [] := List.eq_nil_of_length_eq_zero hz
    have hline : lineOf s = (noReq, 4) := by unfold lineOf; rw [hw]; rfl
    repeat (first | ((first | apply Xk.sAny | apply Xk.tAny); (case hok => rfl); (case h => intro C hC; simp (disch := omega) only [w1, ↓reduceIte, Nat.reduceEqDiff, Nat.reduceLeDiff, Nat.reduceAdd, Nat.reduceSub, hb0, hz]; with_reducible exact hC); refine gm ?_) | refine gm ?_)
    refine Ret.ret rfl (by simp only [resKs, resK, cond_true, w1, ↓reduceIte, Nat.reduceEqDiff, Nat.reduceLeDiff, Nat.reduceAdd, Nat.reduceSub, pf_words_Line, hb0]; rfl) rfl ?_
    exact bad _ 4 hline (hO2.put hb0 _) (hH2.put_ hbN _)
  obtain ⟨w0, l, hwl0⟩ := l1_split (splitW s) (by omega)
  have hline : lineOf s = wordsOf (w0 :: l) := by unfold lineOf; rw [hwl0]
  rw [hwl0] at hbv hz hwl
  have hz' : ¬ l.length + 1 = 0 := by omega
  have hz1 : 0 < l.length + 1 := by omega
  have hz2 : 1 ≤ l.length + 1 := by omega
  have hl64 : l.length + 1 ≤ s.length := hwl
  have hstr : strs (w0 :: l) = .str w0 :: strs l := rfl
  rw [hwl0]
  repeat (first | ((first | apply Xk.sAny | apply Xk.tAny); (case hok => rfl); (case h => intro C hC; simp (disch := omega) only [w1, ↓reduceIte, Nat.reduceEqDiff, Nat.reduceLeDiff, Nat.reduceAdd, Nat.reduceSub, hb0, hz', hz1, hbv, hstr, Nat.le_add_left]; with_reducible exact hC); refine gc ?_) | refine gm ?_)
  refine shapeOf_ev w0 _ _ fun H3 hO3 hle3 => ?_
  have hb03 := hle3 _ _ hb0
  have hbv3 := hle3 _ _ hbv
  have hH3 : HLe H H3 := hH2.trans hle3
  have hltv := hO3.lt hbv3
  have hlt0 := hO3.lt hb03
  have hvn : bv ≠ H.next := by
    intro e; subst e
    rw [hb0] at hbv
    have := congrArg (fun x => match x with | some (Blk.cells (a :: _) _) => AV.isSc a && (match a with | .int _ _ => true | _ => false) | _ => false) hbv
    simp [hstr, AV.isSc] at this
  -- behind the shape: the result's block, the shape's, the request's
  have fin : ∀ (vb least most : Nat) (quiet ok : Bool), (ok = false → verbOf w0 = none ∧ quiet = false) → (ok = true → verbOf w0 = some (vb, least, most, quiet)) → True := fun _ _ _ _ _ _ _ => trivial
  have hcase : ∃ vb least most quiet ok, shapeV (verbOf w0) = .tup [.agg [.int .i64 (.ofNat vb), .int .i64 (.ofNat least), .int .i64 (.ofNat most), .bool quiet], .bool ok] ∧ (ok = false → verbOf w0 = none ∧ quiet = false) ∧ (ok = true → verbOf w0 = some (vb, least, most, quiet)) := by
    cases h : verbOf w0 with
    | none => exact ⟨0, 0, 0, false, false, rfl, fun _ => ⟨rfl, rfl⟩, fun h => (by cases h)⟩
    | some v => obtain ⟨a, b, c, d⟩ := v; exact ⟨a, b, c, d, true, rfl, fun h => (by cases h), fun _ => rfl⟩
  obtain ⟨vb, least, most, quiet, ok, hsh, hno, hyes⟩ := hcase
  rw [hsh]
  have hlt1 : bv < H3.next + 1 := by omega
  repeat (first | ((first | apply Xk.sAny | apply Xk.tAny); (case hok => rfl); (case h => intro C hC; simp (disch := omega) only [w1, ↓reduceIte, Nat.reduceEqDiff, Nat.reduceLeDiff, Nat.reduceAdd, Nat.reduceSub, hz', hz1, hz2, hbv3, hb03, strs_len, hstr]; with_reducible exact hC); refine gm ?_) | refine gm ?_)
  have hO4 : ((H3.new (.cells [.int .i64 (.ofNat vb), .int .i64 (.ofNat least), .int .i64 (.ofNat most), .bool quiet] 1)).new (.cells (reqC vb .nils 0 0 0 0 0 false []) 1)).Ok := (hO3.new _).new _
  have hO5 : ((H3.new (.cells [.int .i64 (.ofNat vb), .int .i64 (.ofNat least), .int .i64 (.ofNat most), .bool quiet] 1)).new (.cells (reqC vb .nils 0 0 0 0 0 true []) 1)).Ok := (hO3.new _).new _
  have hle4 : HLe H3 ((H3.new (.cells [.int .i64 (.ofNat vb), .int .i64 (.ofNat least), .int .i64 (.ofNat most), .bool quiet] 1)).new (.cells (reqC vb .nils 0 0 0 0 0 false []) 1)) := ((HLe.refl _).new_ hO3 _).new_ (hO3.new _) _
  have hle5 : HLe H3 ((H3.new (.cells [.int .i64 (.ofNat vb), .int .i64 (.ofNat least), .int .i64 (.ofNat most), .bool quiet] 1)).new (.cells (reqC vb .nils 0 0 0 0 0 true []) 1)) := ((HLe.refl _).new_ hO3 _).new_ (hO3.new _) _
  refine Xk.cut2 [2, 4, 5, 6, 7] (fun k' H' => ∃ l' q, (verbOf w0 = some (vb, least, most, quiet) → quietOf (vb, least, most, quiet) l = (l', q)) ∧ l'.length ≤ l.length ∧ l' = l.take l'.length ∧
    k' = [(2, .ptr H.next 0), (4, .sl bv 1 l'.length 1), (5, .ptr H3.next 0), (6, .bool ok), (7, .ptr (H3.next + 1) 0)] ∧ H'.Ok ∧ HLe H3 H' ∧ H'.get H3.next = some (.cells [.int .i64 (.ofNat vb), .int .i64 (.ofNat least), .int .i64 (.ofNat most), .bool quiet] 1) ∧
      H'.get (H3.next + 1) = some (.cells (reqC vb .nils 0 0 0 0 0 q []) 1)) ?_ ?_
  · cases quiet with
    | false =>
      repeat (first | ((first | apply Xk.sAny | apply Xk.tAny); (case hok => rfl); (case h => intro C hC; simp (disch := omega) only [w1, ↓reduceIte, Nat.reduceEqDiff, Nat.reduceLeDiff, Nat.reduceAdd, Nat.reduceSub]; with_reducible exact hC); refine gm ?_) | refine gm ?_)
      exact ⟨rfl, l, false, fun _ => if_neg (fun h => by cases h.1), Nat.le_refl _, (List.take_length).symm, rfl, hO4, hle4, Heap.get_new2' _ _ _, Heap.get_new2 _ _ _⟩
    | true =>
      by_cases hln : least < l.length
      · have hl1 : l.length - 1 < l.length := by omega
        have hl2 : l.length - 1 ≤ l.length := by omega
        have hl3 : 1 ≤ l.length := by omega
        have T : Txt H3 bv 1 (strs (w0 :: l)) (0 + 1) l := ⟨hbv3, by simp [hstr], [], by simp [hstr]⟩
        obtain ⟨a1, a2⟩ := T.cell hl1
        rw [hstr] at a1 a2
        simp only [List.length_cons, strs_len] at a1
        have ha : 1 + (l.length - 1) = l.length := by omega
        rw [ha] at a1 a2
        by_cases hnr : l.getD (l.length - 1) [] = [110, 111, 114, 101, 112, 108, 121]
        · rw [hnr] at a2
          have hlen : (l.take (l.length - 1)).length = l.length - 1 := by rw [List.length_take]; omega
          repeat (first | ((first | apply Xk.sAny | apply Xk.tAny); (case hok => rfl); (case h => intro C hC; simp (disch := omega) only [w1, ↓reduceIte, Nat.reduceEqDiff, Nat.reduceLeDiff, Nat.reduceAdd, Nat.reduceSub, hln, hl1, hl2, hl3, a2, ha, hbv3, hstr, strs_len]; with_reducible exact hC); refine gm ?_) | refine gm ?_)
          exact ⟨rfl, l.take (l.length - 1), true, fun _ => if_pos ⟨rfl, hln, hnr⟩, by rw [hlen]; omega, by rw [hlen], by rw [hlen]; rfl, hO5, hle5, Heap.get_new2' _ _ _, Heap.get_new2 _ _ _⟩
        · repeat (first | ((first | apply Xk.sAny | apply Xk.tAny); (case hok => rfl); (case h => intro C hC; simp (disch := omega) only [w1, ↓reduceIte, Nat.reduceEqDiff, Nat.reduceLeDiff, Nat.reduceAdd, Nat.reduceSub, hln, hl1, hl2, hl3, a2, ha, hbv3, hstr, strs_len, hnr]; with_reducible exact hC); refine gm ?_) | refine gm ?_)
          exact ⟨rfl, l, false, fun _ => if_neg (fun h => hnr h.2.2), Nat.le_refl _, (List.take_length).symm, rfl, hO4, hle4, Heap.get_new2' _ _ _, Heap.get_new2 _ _ _⟩
      · repeat (first | ((first | apply Xk.sAny | apply Xk.tAny); (case hok => rfl); (case h => intro C hC; simp (disch := omega) only [w1, ↓reduceIte, Nat.reduceEqDiff, Nat.reduceLeDiff, Nat.reduceAdd, Nat.reduceSub, hln]; with_reducible exact hC); refine gm ?_) | refine gm ?_)
        exact ⟨rfl, l, false, fun _ => if_neg (fun h => hln h.2.1), Nat.le_refl _, (List.take_length).symm, rfl, hO4, hle4, Heap.get_new2' _ _ _, Heap.get_new2 _ _ _⟩
  · rintro k' H' ⟨l', q, hq, hll, hlt, rfl, hO', hle', hg5, hg7⟩
    have hH' : HLe H H' := hH3.trans hle'
    have hb0' := hle' _ _ hb03
    have hbv' := hle' _ _ hbv3
    have hg7' := hg7
    unfold reqC at hg7'
    cases ok with
    | false =>
      have hl2 : lineOf s = (noReq, 4) := by rw [hline]; exact wordsOf_none (hno rfl).1
      repeat (first | ((first | apply Xk.sAny | apply Xk.tAny); (case hok => rfl); (case h => intro C hC; simp (disch := omega) only [w1, ↓reduceIte, Nat.reduceEqDiff, Nat.reduceLeDiff, Nat.reduceAdd, Nat.reduceSub, hg5, hb0']; with_reducible exact hC); refine gm ?_) | refine gm ?_)
      refine Ret.ret rfl (by simp only [resKs, resK, cond_true, w1, ↓reduceIte, Nat.reduceEqDiff, Nat.reduceLeDiff, Nat.reduceAdd, Nat.reduceSub, pf_words_Line, hb0']; rfl) rfl ?_
      exact bad _ 4 hl2 (hO'.put hb0' _) (hH'.put_ hbN _)
    | true =>
      have hvo := hyes rfl
      have hqo := hq hvo
      have hq1 : (quietOf (vb, least, most, quiet) l).1 = l' := by rw [hqo]
      by_cases c1 : l'.length < least
      · have hl2 : lineOf s = (noReq, 4) := by rw [hline]; exact wordsOf_short hvo (.inl (by rw [hq1]; exact c1))
        repeat (first | ((first | apply Xk.sAny | apply Xk.tAny); (case hok => rfl); (case h => intro C hC; simp (disch := omega) only [w1, ↓reduceIte, Nat.reduceEqDiff, Nat.reduceLeDiff, Nat.reduceAdd, Nat.reduceSub, hg5, hb0', c1]; with_reducible exact hC); refine gm ?_) | refine gm ?_)
        refine Ret.ret rfl (by simp only [resKs, resK, cond_true, w1, ↓reduceIte, Nat.reduceEqDiff, Nat.reduceLeDiff, Nat.reduceAdd, Nat.reduceSub, pf_words_Line, hb0']; rfl) rfl ?_
        exact bad _ 4 hl2 (hO'.put hb0' _) (hH'.put_ hbN _)
      by_cases c2 : most < l'.length
      · have hl2 : lineOf s = (noReq, 4) := by rw [hline]; exact wordsOf_short hvo (.inr (by rw [hq1]; exact c2))
        repeat (first | ((first | apply Xk.sAny | apply Xk.tAny); (case hok => rfl); (case h => intro C hC; simp (disch := omega) only [w1, ↓reduceIte, Nat.reduceEqDiff, Nat.reduceLeDiff, Nat.reduceAdd, Nat.reduceSub, hg5, hb0', c1, c2]; with_reducible exact hC); refine gm ?_) | refine gm ?_)
        refine Ret.ret rfl (by simp only [resKs, resK, cond_true, w1, ↓reduceIte, Nat.reduceEqDiff, Nat.reduceLeDiff, Nat.reduceAdd, Nat.reduceSub, pf_words_Line, hb0']; rfl) rfl ?_
        exact bad _ 4 hl2 (hO'.put hb0' _) (hH'.put_ hbN _)
      have hl2 := wordsOf_args (l := l) hvo (by rw [hq1]; exact fun h => h.elim c1 c2)
      rw [hqo] at hl2
      obtain ⟨o1, o2, o3, o4, o5, o6, o7, o8, o9, o10⟩ := verbOf_ok hvo
      simp only at o1 o2 o3 o4 o5 o6 o7 o8 o9 o10
      have T : Txt H' bv 1 (strs (w0 :: l)) (0 + 1) l' := ⟨hbv', by simp [hstr], strs (l.drop l'.length), by
        rw [hstr, List.drop_succ_cons, List.drop_zero, ← strs_app]
        conv => lhs; rw [← List.take_append_drop l'.length l]
        rw [← hlt]⟩
      have hne7 : bv ≠ H3.next + 1 := by omega
      repeat (first | ((first | apply Xk.sAny | apply Xk.tAny); (case hok => rfl); (case h => intro C hC; simp (disch := omega) only [w1, ↓reduceIte, Nat.reduceEqDiff, Nat.reduceLeDiff, Nat.reduceAdd, Nat.reduceSub, hg5, c1, c2]; with_reducible exact hC); refine gc ?_) | refine gm ?_)
      refine fill_ev H' (H3.next + 1) bv 1 (0 + 1) vb _ l' q hg7 T hne7 (fun h => by have := o4 h; omega) (fun h h' => by have := o5 h h'; omega) (fun h => by have := o6 h; omega) (fun h => by have := o7 h; omega) (fun h h' => by have := o8 h h'; omega) (fun h => by have := o9 h; omega) ⟨o1, o2⟩ (by omega) _ fun H6 hO6 hkeep hn6 hsome hcells => ?_
      have hb06 := hkeep _ _ (by have := hlt0; omega) hb0'
      have hH6 : HLe H H6 := fun c y hc => hkeep c y (by have := hO3.lt (hH3 c y hc); omega) (hH' c y hc)
      cases hA : argsOf ⟨vb, [], 0, 0, 0, 0, 0, q, []⟩ l' with
      | none =>
        have hl3 : lineOf s = (noReq, 1) := by rw [hline, hl2]; simp only [hA]
        simp only [Option.isSome_none]
        repeat (first | ((first | apply Xk.sAny | apply Xk.tAny); (case hok => rfl); (case h => intro C hC; simp (disch := omega) only [w1, ↓reduceIte, Nat.reduceEqDiff, Nat.reduceLeDiff, Nat.reduceAdd, Nat.reduceSub, hb06]; with_reducible exact hC); refine gm ?_) | refine gm ?_)
        refine Ret.ret rfl (by simp only [resKs, resK, cond_true, w1, ↓reduceIte, Nat.reduceEqDiff, Nat.reduceLeDiff, Nat.reduceAdd, Nat.reduceSub, pf_words_Line, hb06]; rfl) rfl ?_
        exact bad _ 1 hl3 (hO6.put hb06 _) (hH6.put_ hbN _)
      | some r =>
        have hl3 : lineOf s = (r, 0) := by rw [hline, hl2]; simp only [hA]
        obtain ⟨cells, hc6, hrep⟩ := hsome r hA
        obtain ⟨s1, s2⟩ := hrep.sc
        have s3 : 9 ≤ cells.length := by omega
        have s4 : List.take 9 cells = cells := by rw [← s2, List.take_length]
        have s5 : List.drop 9 ([.int .i64 (.ofNat 0), .nils, .int .i64 (.ofNat 0), .int .i64 (.ofNat 0), .int .i64 (.ofNat 0), .int .i64 (.ofNat 0), .int .u64 (.ofNat 0), .bool false, .str []] : List AV) = [] := rfl
        simp only [Option.isSome_some]
        repeat (first | ((first | apply Xk.sAny | apply Xk.tAny); (case hok => rfl); (case h => intro C hC; simp (disch := omega) only [w1, ↓reduceIte, Nat.reduceEqDiff, Nat.reduceLeDiff, Nat.reduceAdd, Nat.reduceSub, hb06, hc6, s1, s2, s3, s4, s5]; with_reducible exact hC); refine gm ?_) | refine gm ?_)
        refine Ret.ret rfl (by simp only [resKs, resK, cond_true, w1, ↓reduceIte, Nat.reduceEqDiff, Nat.reduceLeDiff, Nat.reduceAdd, Nat.reduceSub, pf_words_Line, hb06, s2, s3, s4]; rfl) rfl ?_
        have := hQ (H6.put H.next (.cells cells 1)) cells (hO6.put hb06 _) (hH6.put_ hbN _) (by rw [hl3]; exact (hrep.put hb0' _).old hH')
        rw [hl3] at this
        exact this

theorem Line_ev (s : List UInt8) (hs : s.length < 1000000) (H : Heap) (Q : AV → Heap → Prop)
    (hQ : ∀ H' cells, H'.Ok → HLe H H' → RepQ H' cells (lineOf s).1 → Q (.tup [.agg cells, .int .i64 (.ofNat (lineOf s).2)]) H') : Eo lib n_words_Line [.str s] H Q :=
  Line_evO s hs H Q fun H' cells a b c => hQ H' cells a b c.q
end Go.Proofs.YtkjmelfgopammaaDoor
