/- ClusterIgnores: the law's loop and its end; the law. Conditions: none. -/
import Derived.Test.YtobnlhfgebfebaaGreatDoorIgA
import Derived.Test.YtobnlhfgebfebaaGreatDoorCgR
namespace Go.Proofs.YtobnlhfgebfebaaGreatDoor
open Go.Dp
set_option linter.unusedSimpArgs false
set_option linter.unusedVariables false
set_option maxHeartbeats 400000
set_option maxRecDepth 8000
attribute [local irreducible] Ex.thnK Ex.inK Ret

theorem cr_take (X : List AV) : ∀ n : Nat, ∃ t, Fs.CR (X.take n) t
  | 0 => ⟨.leaf, fun i => by rw [List.take_zero]; rfl⟩
  | n + 1 => by
    obtain ⟨t, ht⟩ := cr_take X n
    by_cases h : n < X.length
    · refine ⟨Fs.stg (n + 1) t n X[n], fun i => ?_⟩
      rw [Fs.get_stg (n + 1) t n i X[n] Nat.lt_two_pow_self, ht i, List.take_succ_eq_append_getElem h]
      have hl : (X.take n).length = n := by rw [List.length_take]; omega
      by_cases e : i = n
      · subst e; rw [if_pos rfl, List.getElem?_append_right (by omega), hl, Nat.sub_self]; rfl
      · rw [if_neg e]
        rcases Nat.lt_or_ge i n with h2 | h2
        · rw [List.getElem?_append_left (by omega)]
        · rw [List.getElem?_eq_none (by omega), List.getElem?_eq_none (by simp; omega)]
    · refine ⟨t, ?_⟩
      rw [List.take_of_length_le (by omega)]
      rw [List.take_of_length_le (by omega)] at ht
      exact ht
theorem cr_ex (X : List AV) : ∃ t, Fs.CR X t := by
  obtain ⟨t, h⟩ := cr_take X X.length
  rw [List.take_length] at h
  exact ⟨t, h⟩
theorem ig_hr {X : List AV} {t : Tr AV} (h : Fs.CR X t) (tape : List AV) : Fs.HR (noHeap.new (.cells X 0)) (igS X.length t tape).c := by
  refine ⟨rfl, fun b => ?_⟩
  rw [Fs.gt_eq]
  by_cases e : b = 0
  · subst e
    exact ⟨rfl, rfl, h⟩
  · rw [Heap.get_new_ne _ _ e]
    have : (Tr.node Tr.leaf (some (Fs.FB.c X.length t 0)) Tr.leaf).get b = none := by
      rw [Tr.get, nbeq, decide_eq_false e]
      cases Nat.beq (b % 2) 1 <;> rfl
    show Fs.BR none ((Tr.node Tr.leaf (some (Fs.FB.c X.length t 0)) Tr.leaf).get b)
    rw [this]
    trivial

theorem rng_at {t : Tr AV} : ∀ {n o : Nat} {l : List AV}, Fs.rng t n o = some l → l.length = n ∧ ∀ j, j < n → t.get (o + j) = l[j]? := by
  intro n
  induction n with
  | zero => intro o l h; cases h; exact ⟨rfl, fun j hj => by omega⟩
  | succ n ih =>
    intro o l h
    rw [Fs.rng_succ] at h
    split at h
    · cases h
    · rename_i v hv
      split at h
      · cases h
      · rename_i q hq
        cases h
        obtain ⟨h1, h2⟩ := ih hq
        refine ⟨by simp [h1], fun j hj => ?_⟩
        cases j with
        | zero => rw [← Fs.gt_eq, Nat.add_zero, hv]; rfl
        | succ j => rw [show o + (j + 1) = o + 1 + j by omega, h2 j (by omega), List.getElem?_cons_succ]
theorem rowsOk_at : ∀ {S : Nat} {l : List AV}, rowsOk S l = true → ∀ i, i < S → negIf true (aggEq frKs (.agg ((l.drop (i * 9)).take 9)) (.agg ((l.drop (i * 9)).take 9))) = some (.bool false)
  | 0, _, _, i, h => by omega
  | S + 1, l, h, i, hi => by
    unfold rowsOk at h
    split at h
    · rename_i e
      cases i with
      | zero => rw [Nat.zero_mul, List.drop_zero]; exact e
      | succ i =>
        have := rowsOk_at h i (by omega)
        rw [List.drop_drop] at this
        rw [show (i + 1) * 9 = 9 + i * 9 by omega]
        exact this
    · cases h
theorem chkR_ok {H : Heap} {T : Fs.FH} (h : Fs.HR H T) {wb a b c S : Nat} (e : chkR T (.sl wb a b c) S = true) : ∃ (R l : List AV) (w : Nat), R.length = S * 9 ∧ H.get wb = some (.cells l w) ∧ (∀ j, j < S * 9 → l[j]? = R[j]?) ∧ R.all AV.isSc = true ∧
    ∀ i, i < S → negIf true (aggEq frKs (.agg ((R.drop (i * 9)).take 9)) (.agg ((R.drop (i * 9)).take 9))) = some (.bool false) := by
  unfold chkR at e
  simp only at e
  split at e
  · rename_i N t w ht
    split at e
    · rename_i l hl
      simp only [Bool.and_eq_true] at e
      obtain ⟨l', h1, _, h3⟩ := h.c ht
      obtain ⟨i1, i2⟩ := rng_at hl
      exact ⟨l, l', w, i1, h1, fun j hj => by rw [← h3, ← i2 j hj, Nat.zero_add], e.2, rowsOk_at e.1⟩
    · cases e
  · cases e
theorem chkO_ok {H : Heap} {T : Fs.FH} (h : Fs.HR H T) {o : AV} {S : Nat} (e : chkO T o S = true) : ∃ b l w, o = .ptr b 0 ∧ H.get b = some (.cells l w) ∧ (l.drop 3).take 1 = [.int .i64 (.ofNat S)] ∧ 3 + 1 ≤ l.length := by
  cases o <;> try (cases e; done)
  rename_i b f
  simp only [chkO, Bool.and_eq_true, nbeq, decide_eq_true_eq] at e
  obtain ⟨hf, e⟩ := e
  subst hf
  split at e
  · rename_i N t w ht
    obtain ⟨l, h1, h2, h3⟩ := h.c ht
    simp only [Bool.and_eq_true, nble, decide_eq_true_eq] at e
    obtain ⟨hN, e⟩ := e
    split at e
    · rename_i s hs
      simp only [nbeq, decide_eq_true_eq] at e
      subst e
      rw [Fs.gt_eq, h3] at hs
      obtain ⟨a1, a2⟩ := cell1' hs
      exact ⟨b, l, w, rfl, h1, a2, a1⟩
    · cases e
  · cases e

theorem Frames_ev (p np fb S : Nat) (hS : 0 < S) (hS2 : S < 1000) (l1 : List AV) (u1 : Nat) (R : List AV) (hR : R.length = S * 9) (hsc : R.all AV.isSc = true) (H : Heap) (h : CAt H p np fb S) (hg : H.get fb = some (.cells l1 u1)) (hj : ∀ j, j < S * 9 → l1[j]? = R[j]?) (Q : AV → Heap → Prop)
    (hQ : ∀ H', H'.Ok → HLe H H' → ∀ wb, H'.get wb = some (.cells R 1) → Q (.sl wb 0 S 9) H') : Eo lib n_cluster_Cluster_Frames [.ptr p 0] H Q := by
  refine Eo.ok fun hOk => ?_
  refine Eo.code at_cluster_Cluster_Frames rfl ?_
  obtain ⟨l, w, g1, g2, _⟩ := h.obj
  obtain ⟨a1, a2⟩ := cell1' g2
  obtain ⟨w2, gn⟩ := h.net
  repeat (first | ((first | apply Xk.sAny | apply Xk.tAny); (case hok => rfl); (case h => intro C hC; simp (disch := omega) only [w1, ↓reduceIte, Nat.reduceEqDiff, Nat.reduceLeDiff, Nat.reduceAdd, Nat.reduceSub, g1, a1, a2]; with_reducible exact hC); refine gc ?_) | refine gm ?_)
  have ln : ∀ Q : AV → Heap → Prop, (∀ H', H'.Ok → HLe H H' → ∀ wb, H'.get wb = some (.cells R 1) → Q (.sl wb 0 S 9) H') → Eo lib n_net_Net_List [.ptr np 0] H Q := by
    intro Q hQ
    refine Eo.code at_net_Net_List rfl ?_
    repeat (first | ((first | apply Xk.sAny | apply Xk.tAny); (case hok => rfl); (case h => intro C hC; simp (disch := omega) only [w1, ↓reduceIte, Nat.reduceEqDiff, Nat.reduceLeDiff, Nat.reduceAdd, Nat.reduceSub, gn]; with_reducible exact hC); refine gc ?_) | refine gm ?_)
    refine CloneF_ev fb S hS hS2 l1 u1 R hR hsc H hg hj _ fun H' hO hle wb hw => ?_
    repeat (first | ((first | apply Xk.sAny | apply Xk.tAny); (case hok => rfl); (case h => intro C hC; simp (disch := omega) only [w1, ↓reduceIte, Nat.reduceEqDiff, Nat.reduceLeDiff, Nat.reduceAdd, Nat.reduceSub]; with_reducible exact hC); refine gc ?_) | refine gm ?_)
    repeat (first | ((first | apply Xk.sAny | apply Xk.tAny); (case hok => rfl); (case h => intro C hC; simp (disch := omega) only [w1, ↓reduceIte, Nat.reduceEqDiff, Nat.reduceLeDiff, Nat.reduceAdd, Nat.reduceSub]; with_reducible exact hC); refine gc ?_) | refine gm ?_)
    exact hQ H' hO hle wb hw
  refine ln _ fun H' hO hle wb hw => ?_
  repeat (first | ((first | apply Xk.sAny | apply Xk.tAny); (case hok => rfl); (case h => intro C hC; simp (disch := omega) only [w1, ↓reduceIte, Nat.reduceEqDiff, Nat.reduceLeDiff, Nat.reduceAdd, Nat.reduceSub]; with_reducible exact hC); refine gc ?_) | refine gm ?_)
  repeat (first | ((first | apply Xk.sAny | apply Xk.tAny); (case hok => rfl); (case h => intro C hC; simp (disch := omega) only [w1, ↓reduceIte, Nat.reduceEqDiff, Nat.reduceLeDiff, Nat.reduceAdd, Nat.reduceSub]; with_reducible exact hC); refine gc ?_) | refine gm ?_)
  exact hQ H' hO hle wb hw

/-- one step of a row of steps -/
theorem sp_at {H : Heap} {v : AV} {l : List Sp} (h : Sl H 3 v (sps l)) {i : Nat} (hi : i < l.length) : ∃ b o cl w, v = .sl b o l.length 3 ∧ H.get b = some (.cells cl w) ∧ o + i * 3 + 3 ≤ cl.length ∧ (cl.drop (o + i * 3)).take 3 = (l.getD i noSp).cells := by
  rcases h with ⟨rfl, h⟩ | ⟨b, o, len, cl, w, rest, rfl, h2, h3, h4, h5⟩
  · have e0 : l.length * 3 = 0 := by rw [← sps_len, h]; rfl
    omega
  · rw [sps_len] at h2
    have e : len = l.length := by omega
    subst e
    have hl : cl.length - o = l.length * 3 + rest.length := by rw [← List.length_drop, h5, List.length_append, sps_len]
    refine ⟨b, o, cl, w, rfl, h3, by omega, ?_⟩
    rw [← List.drop_drop, h5, List.drop_append_of_le_length (by rw [sps_len]; omega), List.take_append_of_le_length (by rw [List.length_drop, sps_len]; omega)]
    apply List.ext_getElem?
    intro r
    rw [List.getElem?_take, List.getElem?_drop]
    have hd : l.getD i noSp = l[i] := by rw [List.getD_eq_getElem?_getD, List.getElem?_eq_getElem hi]; rfl
    by_cases hr : r < 3
    · rw [if_pos hr, sps_at l i r hr, List.getElem?_eq_getElem hi, hd]; rfl
    · rw [if_neg hr, List.getElem?_eq_none (by show 3 ≤ r; omega)]

theorem Ign_loop (p np fb wb S ob : Nat) (hS : 0 < S) (hS2 : S < 1000) (av : AV) (l : List Sp) (hl : SpOk l) (H : Heap) (hOk : H.Ok) (hc : CAt H p np fb S) (hs : Sl H 3 av (sps l)) (R l1 l2 ol : List AV) (u1 u2 ou : Nat) (hR : R.length = S * 9) (hsc : R.all AV.isSc = true)
    (g1 : H.get fb = some (.cells l1 u1)) (g2 : H.get wb = some (.cells l2 u2)) (j1 : ∀ j, j < S * 9 → l1[j]? = R[j]?) (j2 : ∀ j, j < S * 9 → l2[j]? = R[j]?) (hK : ∀ i, i < S → negIf true (aggEq frKs (.agg ((R.drop (i * 9)).take 9)) (.agg ((R.drop (i * 9)).take 9))) = some (.bool false))
    (go : H.get ob = some (.cells ol ou)) (o1 : (ol.drop 3).take 1 = [.int .i64 (.ofNat S)]) (o2 : 3 + 1 ≤ ol.length) :
    Xk lib 97 (Fs.cutPost 5 pf_depotlaw24_ClusterIgnores.body) [(1, av), (5, .ptr ob 0), (6, .ptr p 0), (8, .sl wb 0 S 9)] H (Ret pf_depotlaw24_ClusterIgnores.results fun v _ => v = .bool true) := by
  simp only [pf_depotlaw24_ClusterIgnores, Fs.cutPost]
  repeat (first | ((first | apply Xk.sAny | apply Xk.tAny); (case hok => rfl); (case h => intro C hC; simp (disch := omega) only [w1, ↓reduceIte, Nat.reduceEqDiff, Nat.reduceLeDiff, Nat.reduceAdd, Nat.reduceSub]; with_reducible exact hC); refine gc ?_) | refine gm ?_)
  repeat (first | ((first | apply Xk.sAny | apply Xk.tAny); (case hok => rfl); (case h => intro C hC; simp (disch := omega) only [w1, ↓reduceIte, Nat.reduceEqDiff, Nat.reduceLeDiff, Nat.reduceAdd, Nat.reduceSub]; with_reducible exact hC); refine gc ?_) | refine gm ?_)
  refine Xk.iter [1, 5, 6, 8, 9] (fun m k G => ∃ i, m = 40 - i ∧ i ≤ 40 ∧ k = [(1, av), (5, .ptr ob 0), (6, .ptr p 0), (8, .sl wb 0 S 9), (9, .int .i64 (.ofNat i))] ∧ G.Ok ∧ HLe H G) rfl ⟨_, 0, rfl, by omega, rfl, hOk, HLe.refl _⟩ ?_
  rintro m k G ⟨i, rfl, hi, rfl, hO, hle⟩
  unfold l0_depotlaw24_ClusterIgnores
  have lav : rLensl av = some (.int .i64 (.ofNat l.length)) := by
    rcases hs with ⟨rfl, h⟩ | ⟨b, o, len, cl, w, rest, rfl, h2, _⟩
    · have e0 : l.length * 3 = 0 := by rw [← sps_len, h]; rfl
      have e : l.length = 0 := by omega
      rw [e]; rfl
    · rw [sps_len] at h2
      have e : len = l.length := by omega
      rw [e]; rfl
  by_cases c : i < l.length ∧ i < 40
  case neg =>
    have fin : ∀ G : Heap, G.Ok → HLe H G → True := fun _ _ _ => trivial
    have hend : (¬ i < l.length) ∨ (i < l.length ∧ ¬ i < 40) := by omega
    have hcG := hc.le hle
    have hg1 := hle _ _ g1
    rcases hend with c1 | ⟨c1, c2⟩
    case' inl =>
      repeat (first | ((first | apply Xk.sAny | apply Xk.tAny); (case hok => rfl); (case h => intro C hC; simp (disch := omega) only [w1, ↓reduceIte, Nat.reduceEqDiff, Nat.reduceLeDiff, Nat.reduceAdd, Nat.reduceSub, lav, c1]; with_reducible exact hC); refine gc ?_) | refine gm ?_)
      repeat (first | ((first | apply Xk.sAny | apply Xk.tAny); (case hok => rfl); (case h => intro C hC; simp (disch := omega) only [w1, ↓reduceIte, Nat.reduceEqDiff, Nat.reduceLeDiff, Nat.reduceAdd, Nat.reduceSub, lav, c1]; with_reducible exact hC); refine gc ?_) | refine gm ?_)
    case' inr =>
      repeat (first | ((first | apply Xk.sAny | apply Xk.tAny); (case hok => rfl); (case h => intro C hC; simp (disch := omega) only [w1, ↓reduceIte, Nat.reduceEqDiff, Nat.reduceLeDiff, Nat.reduceAdd, Nat.reduceSub, lav, c1, c2]; with_reducible exact hC); refine gc ?_) | refine gm ?_)
      repeat (first | ((first | apply Xk.sAny | apply Xk.tAny); (case hok => rfl); (case h => intro C hC; simp (disch := omega) only [w1, ↓reduceIte, Nat.reduceEqDiff, Nat.reduceLeDiff, Nat.reduceAdd, Nat.reduceSub, lav, c1, c2]; with_reducible exact hC); refine gc ?_) | refine gm ?_)
    all_goals
      refine Frames_ev p np fb S hS hS2 l1 u1 R hR hsc G hcG hg1 j1 _ fun G2 hO2 hle2 wb2 hw2 => ?_
      have hg2 := hle2 _ _ (hle _ _ g2)
      have hgo := hle2 _ _ (hle _ _ go)
      repeat (first | ((first | apply Xk.sAny | apply Xk.tAny); (case hok => rfl); (case h => intro C hC; simp (disch := omega) only [w1, ↓reduceIte, Nat.reduceEqDiff, Nat.reduceLeDiff, Nat.reduceAdd, Nat.reduceSub]; with_reducible exact hC); refine gc ?_) | refine gm ?_)
      refine SameR_ev wb2 wb S hS2 R l2 1 u2 R hR G2 hw2 hg2 (fun _ _ => rfl) j2 hK _ ?_
      repeat (first | ((first | apply Xk.sAny | apply Xk.tAny); (case hok => rfl); (case h => intro C hC; simp (disch := omega) only [w1, ↓reduceIte, Nat.reduceEqDiff, Nat.reduceLeDiff, Nat.reduceAdd, Nat.reduceSub, hgo, o1, o2]; with_reducible exact hC); refine gc ?_) | refine gm ?_)
      refine History_nil p np fb S G2 (hcG.le hle2) _ ?_
      have lnil : rLensl .nils = some (.int .i64 (.ofNat 0)) := rfl
      repeat (first | ((first | apply Xk.sAny | apply Xk.tAny); (case hok => rfl); (case h => intro C hC; simp (disch := omega) only [w1, ↓reduceIte, Nat.reduceEqDiff, Nat.reduceLeDiff, Nat.reduceAdd, Nat.reduceSub, lnil]; with_reducible exact hC); refine gc ?_) | refine gm ?_)
      refine Eo.runs rfl ?_
      repeat (first | ((first | apply Xk.sAny | apply Xk.tAny); (case hok => rfl); (case h => intro C hC; simp (disch := omega) only [w1, ↓reduceIte, Nat.reduceEqDiff, Nat.reduceLeDiff, Nat.reduceAdd, Nat.reduceSub]; with_reducible exact hC); refine gc ?_) | refine gm ?_)
      repeat (first | ((first | apply Xk.sAny | apply Xk.tAny); (case hok => rfl); (case h => intro C hC; simp (disch := omega) only [w1, ↓reduceIte, Nat.reduceEqDiff, Nat.reduceLeDiff, Nat.reduceAdd, Nat.reduceSub]; with_reducible exact hC); refine gc ?_) | refine gm ?_)
      rfl
  obtain ⟨c1, c2⟩ := c
  obtain ⟨b, o, cl, w, rfl, gb, b1, b2⟩ := sp_at (hs.mono hle) c1
  have htl : (l.getD i noSp).text.length ≤ 281474976710656 := by
    refine hl.2 _ ?_
    rw [List.getD_eq_getElem?_getD, List.getElem?_eq_getElem c1]
    exact List.getElem_mem c1
  generalize l.getD i noSp = x at b2 htl
  obtain ⟨kind, N, text⟩ := x
  have b2 : (cl.drop (o + i * 3)).take 3 = [.int .i64 kind, .int .i64 N, .str text] := b2
  have htl : text.length ≤ 281474976710656 := htl
  have next : ∀ (G2 : Heap), G2.Ok → HLe H G2 → ∃ m', m' < 40 - i ∧ ∃ i', m' = 40 - i' ∧ i' ≤ 40 ∧ ([(1, .sl b o l.length 3), (5, .ptr ob 0), (6, .ptr p 0), (8, .sl wb 0 S 9), (9, .int .i64 (.ofNat (i + 1)))] : Kn) = [(1, .sl b o l.length 3), (5, .ptr ob 0), (6, .ptr p 0), (8, .sl wb 0 S 9), (9, .int .i64 (.ofNat i'))] ∧ G2.Ok ∧ HLe H G2 :=
    fun G2 h1 h2 => ⟨_, by omega, i + 1, rfl, by omega, rfl, h1, h2⟩
  have hO1 : ∀ a b c, (G.new (.cells [a, b, c] 1)).Ok := fun a b c => hO.new _
  have hle1 : ∀ a b c, HLe H (G.new (.cells [a, b, c] 1)) := fun a b c => hle.new_ hO _
  have gbn : ∀ y, (G.new y).get b = some (.cells cl w) := fun y => by rw [Heap.get_new_ne _ _ (Nat.ne_of_lt (hO.lt gb))]; exact gb
  by_cases ct : 800 < text.length
  · repeat (first | ((first | apply Xk.sAny | apply Xk.tAny); (case hok => rfl); (case h => intro C hC; simp (disch := omega) only [w1, ↓reduceIte, Nat.reduceEqDiff, Nat.reduceLeDiff, Nat.reduceAdd, Nat.reduceSub, lav, c1, c2, gb, b1, b2, ct]; with_reducible exact hC); refine gc ?_) | refine gm ?_)
    repeat (first | ((first | apply Xk.sAny | apply Xk.tAny); (case hok => rfl); (case h => intro C hC; simp (disch := omega) only [w1, ↓reduceIte, Nat.reduceEqDiff, Nat.reduceLeDiff, Nat.reduceAdd, Nat.reduceSub, lav, c1, c2, gb, b1, b2, ct]; with_reducible exact hC); refine gc ?_) | refine gm ?_)
    repeat (first | ((first | apply Xk.sAny | apply Xk.tAny); (case hok => rfl); (case h => intro C hC; simp (disch := omega) only [w1, ↓reduceIte, Nat.reduceEqDiff, Nat.reduceLeDiff, Nat.reduceAdd, Nat.reduceSub, lav, c1, c2, gb, b1, b2, ct]; with_reducible exact hC); refine gc ?_) | refine gm ?_)
    exact ⟨rfl, next _ (hO1 _ _ _) (hle1 _ _ _)⟩
  have fin : ∀ kind' N' (G1 : Heap), G1.Ok → HLe H G1 → Ign S kind' N' → ∀ Q : AV → Heap → Prop, (∀ G2, G2.Ok → HLe H G2 → Q (.bool false) G2) → Eo lib n_cluster_Cluster_Do [.ptr p 0, .agg [.int .i64 kind', .int .i64 N', .str text]] G1 Q := fun kind' N' G1 h1 h2 h3 Q hQ =>
    Do_no p np fb S kind' N' text h3 G1 (hc.le h2) Q fun G2 h4 h5 => hQ G2 h4 (h2.trans h5)
  have gn : ∀ a b c, (G.new (.cells [a, b, c] 1)).get G.next = some (.cells [a, b, c] 1) := fun a b c => Heap.get_new_self _ _
  by_cases k1 : kind = .ofNat 1
  · subst k1
    repeat (first | ((first | apply Xk.sAny | apply Xk.tAny); (case hok => rfl); (case h => intro C hC; simp (disch := omega) only [w1, ↓reduceIte, Nat.reduceEqDiff, Nat.reduceLeDiff, Nat.reduceAdd, Nat.reduceSub, lav, c1, c2, gb, b1, b2, ct]; with_reducible exact hC); refine gc ?_) | refine gm ?_)
    repeat (first | ((first | apply Xk.sAny | apply Xk.tAny); (case hok => rfl); (case h => intro C hC; simp (disch := omega) only [w1, ↓reduceIte, Nat.reduceEqDiff, Nat.reduceLeDiff, Nat.reduceAdd, Nat.reduceSub, lav, c1, c2, gb, b1, b2, ct]; with_reducible exact hC); refine gc ?_) | refine gm ?_)
    repeat (first | ((first | apply Xk.sAny | apply Xk.tAny); (case hok => rfl); (case h => intro C hC; simp (disch := omega) only [w1, ↓reduceIte, Nat.reduceEqDiff, Nat.reduceLeDiff, Nat.reduceAdd, Nat.reduceSub, lav, c1, c2, gb, b1, b2, ct]; with_reducible exact hC); refine gc ?_) | refine gm ?_)
    refine Within_ev N 0 9 (by decide) (by decide) _ _ fun r r1 r2 => ?_
    repeat (first | ((first | apply Xk.sAny | apply Xk.tAny); (case hok => rfl); (case h => intro C hC; simp (disch := omega) only [w1, ↓reduceIte, Nat.reduceEqDiff, Nat.reduceLeDiff, Nat.reduceAdd, Nat.reduceSub]; with_reducible exact hC); refine gc ?_) | refine gm ?_)
    repeat (first | ((first | apply Xk.sAny | apply Xk.tAny); (case hok => rfl); (case h => intro C hC; simp (disch := omega) only [w1, ↓reduceIte, Nat.reduceEqDiff, Nat.reduceLeDiff, Nat.reduceAdd, Nat.reduceSub]; with_reducible exact hC); refine gc ?_) | refine gm ?_)
    refine fin _ _ _ (hO1 _ _ _) (hle1 _ _ _) (.inl ⟨rfl, 6 + r, rfl, by omega⟩) _ fun G2 h1 h2 => ?_
    repeat (first | ((first | apply Xk.sAny | apply Xk.tAny); (case hok => rfl); (case h => intro C hC; simp (disch := omega) only [w1, ↓reduceIte, Nat.reduceEqDiff, Nat.reduceLeDiff, Nat.reduceAdd, Nat.reduceSub]; with_reducible exact hC); refine gc ?_) | refine gm ?_)
    repeat (first | ((first | apply Xk.sAny | apply Xk.tAny); (case hok => rfl); (case h => intro C hC; simp (disch := omega) only [w1, ↓reduceIte, Nat.reduceEqDiff, Nat.reduceLeDiff, Nat.reduceAdd, Nat.reduceSub]; with_reducible exact hC); refine gc ?_) | refine gm ?_)
    exact ⟨rfl, next G2 h1 h2⟩
  have e1 := eqi_no .i64 kind _ k1
  by_cases k2 : kind = .ofNat 2 ∨ kind = .ofNat 3 ∨ kind = .ofNat 4
  · rcases k2 with rfl | rfl | rfl
    all_goals
      repeat (first | ((first | apply Xk.sAny | apply Xk.tAny); (case hok => rfl); (case h => intro C hC; simp (disch := omega) only [w1, ↓reduceIte, Nat.reduceEqDiff, Nat.reduceLeDiff, Nat.reduceAdd, Nat.reduceSub, lav, c1, c2, gb, b1, b2, ct]; with_reducible exact hC); refine gc ?_) | refine gm ?_)
      repeat (first | ((first | apply Xk.sAny | apply Xk.tAny); (case hok => rfl); (case h => intro C hC; simp (disch := omega) only [w1, ↓reduceIte, Nat.reduceEqDiff, Nat.reduceLeDiff, Nat.reduceAdd, Nat.reduceSub, lav, c1, c2, gb, b1, b2, ct]; with_reducible exact hC); refine gc ?_) | refine gm ?_)
      repeat (first | ((first | apply Xk.sAny | apply Xk.tAny); (case hok => rfl); (case h => intro C hC; simp (disch := omega) only [w1, ↓reduceIte, Nat.reduceEqDiff, Nat.reduceLeDiff, Nat.reduceAdd, Nat.reduceSub, lav, c1, c2, gb, b1, b2, ct]; with_reducible exact hC); refine gc ?_) | refine gm ?_)
      refine Within_ev N 0 9 (by decide) (by decide) _ _ fun r r1 r2 => ?_
      repeat (first | ((first | apply Xk.sAny | apply Xk.tAny); (case hok => rfl); (case h => intro C hC; simp (disch := omega) only [w1, ↓reduceIte, Nat.reduceEqDiff, Nat.reduceLeDiff, Nat.reduceAdd, Nat.reduceSub]; with_reducible exact hC); refine gc ?_) | refine gm ?_)
      repeat (first | ((first | apply Xk.sAny | apply Xk.tAny); (case hok => rfl); (case h => intro C hC; simp (disch := omega) only [w1, ↓reduceIte, Nat.reduceEqDiff, Nat.reduceLeDiff, Nat.reduceAdd, Nat.reduceSub]; with_reducible exact hC); refine gc ?_) | refine gm ?_)
      refine fin _ _ _ (hO1 _ _ _) (hle1 _ _ _) (.inr (.inl ⟨by simp, S + r, rfl, by omega⟩)) _ fun G2 h1 h2 => ?_
      repeat (first | ((first | apply Xk.sAny | apply Xk.tAny); (case hok => rfl); (case h => intro C hC; simp (disch := omega) only [w1, ↓reduceIte, Nat.reduceEqDiff, Nat.reduceLeDiff, Nat.reduceAdd, Nat.reduceSub]; with_reducible exact hC); refine gc ?_) | refine gm ?_)
      repeat (first | ((first | apply Xk.sAny | apply Xk.tAny); (case hok => rfl); (case h => intro C hC; simp (disch := omega) only [w1, ↓reduceIte, Nat.reduceEqDiff, Nat.reduceLeDiff, Nat.reduceAdd, Nat.reduceSub]; with_reducible exact hC); refine gc ?_) | refine gm ?_)
      exact ⟨rfl, next G2 h1 h2⟩
  have e2 := eqi_no .i64 kind (.ofNat 2) (fun e => k2 (.inl e))
  have e3 := eqi_no .i64 kind (.ofNat 3) (fun e => k2 (.inr (.inl e)))
  have e4 := eqi_no .i64 kind (.ofNat 4) (fun e => k2 (.inr (.inr e)))
  by_cases k6 : kind = .ofNat 6
  · subst k6
    repeat (first | ((first | apply Xk.sAny | apply Xk.tAny); (case hok => rfl); (case h => intro C hC; simp (disch := omega) only [w1, ↓reduceIte, Nat.reduceEqDiff, Nat.reduceLeDiff, Nat.reduceAdd, Nat.reduceSub, lav, c1, c2, gb, b1, b2, ct]; with_reducible exact hC); refine gc ?_) | refine gm ?_)
    repeat (first | ((first | apply Xk.sAny | apply Xk.tAny); (case hok => rfl); (case h => intro C hC; simp (disch := omega) only [w1, ↓reduceIte, Nat.reduceEqDiff, Nat.reduceLeDiff, Nat.reduceAdd, Nat.reduceSub, lav, c1, c2, gb, b1, b2, ct]; with_reducible exact hC); refine gc ?_) | refine gm ?_)
    repeat (first | ((first | apply Xk.sAny | apply Xk.tAny); (case hok => rfl); (case h => intro C hC; simp (disch := omega) only [w1, ↓reduceIte, Nat.reduceEqDiff, Nat.reduceLeDiff, Nat.reduceAdd, Nat.reduceSub, lav, c1, c2, gb, b1, b2, ct]; with_reducible exact hC); refine gc ?_) | refine gm ?_)
    refine Within_ev N 0 9 (by decide) (by decide) _ _ fun r r1 r2 => ?_
    have hsub : bin .sub (.int .i64 (.negSucc 0)) (.int .i64 (.ofNat r)) = some (.int .i64 (.negSucc r)) := by
      have : ∀ q : Fin 10, bin .sub (.int .i64 (.negSucc 0)) (.int .i64 (.ofNat q.1)) = some (.int .i64 (.negSucc q.1)) := by
        intro q
        match q with
        | ⟨0, _⟩ | ⟨1, _⟩ | ⟨2, _⟩ | ⟨3, _⟩ | ⟨4, _⟩ | ⟨5, _⟩ | ⟨6, _⟩ | ⟨7, _⟩ | ⟨8, _⟩ | ⟨9, _⟩ => rfl
      exact this ⟨r, by omega⟩
    repeat (first | ((first | apply Xk.sAny | apply Xk.tAny); (case hok => rfl); (case h => intro C hC; simp (disch := omega) only [w1, ↓reduceIte, Nat.reduceEqDiff, Nat.reduceLeDiff, Nat.reduceAdd, Nat.reduceSub, hsub]; with_reducible exact hC); refine gc ?_) | refine gm ?_)
    repeat (first | ((first | apply Xk.sAny | apply Xk.tAny); (case hok => rfl); (case h => intro C hC; simp (disch := omega) only [w1, ↓reduceIte, Nat.reduceEqDiff, Nat.reduceLeDiff, Nat.reduceAdd, Nat.reduceSub, hsub]; with_reducible exact hC); refine gc ?_) | refine gm ?_)
    refine fin _ _ _ (hO1 _ _ _) (hle1 _ _ _) (.inr (.inr (.inl ⟨rfl, r, rfl⟩))) _ fun G2 h1 h2 => ?_
    repeat (first | ((first | apply Xk.sAny | apply Xk.tAny); (case hok => rfl); (case h => intro C hC; simp (disch := omega) only [w1, ↓reduceIte, Nat.reduceEqDiff, Nat.reduceLeDiff, Nat.reduceAdd, Nat.reduceSub]; with_reducible exact hC); refine gc ?_) | refine gm ?_)
    repeat (first | ((first | apply Xk.sAny | apply Xk.tAny); (case hok => rfl); (case h => intro C hC; simp (disch := omega) only [w1, ↓reduceIte, Nat.reduceEqDiff, Nat.reduceLeDiff, Nat.reduceAdd, Nat.reduceSub]; with_reducible exact hC); refine gc ?_) | refine gm ?_)
    exact ⟨rfl, next G2 h1 h2⟩
  have e6 := eqi_no .i64 kind _ k6
  by_cases k5 : kind = .ofNat 5
  · subst k5
    repeat (first | ((first | apply Xk.sAny | apply Xk.tAny); (case hok => rfl); (case h => intro C hC; simp (disch := omega) only [w1, ↓reduceIte, Nat.reduceEqDiff, Nat.reduceLeDiff, Nat.reduceAdd, Nat.reduceSub, lav, c1, c2, gb, b1, b2, ct]; with_reducible exact hC); refine gc ?_) | refine gm ?_)
    repeat (first | ((first | apply Xk.sAny | apply Xk.tAny); (case hok => rfl); (case h => intro C hC; simp (disch := omega) only [w1, ↓reduceIte, Nat.reduceEqDiff, Nat.reduceLeDiff, Nat.reduceAdd, Nat.reduceSub, lav, c1, c2, gb, b1, b2, ct]; with_reducible exact hC); refine gc ?_) | refine gm ?_)
    repeat (first | ((first | apply Xk.sAny | apply Xk.tAny); (case hok => rfl); (case h => intro C hC; simp (disch := omega) only [w1, ↓reduceIte, Nat.reduceEqDiff, Nat.reduceLeDiff, Nat.reduceAdd, Nat.reduceSub, lav, c1, c2, gb, b1, b2, ct]; with_reducible exact hC); refine gc ?_) | refine gm ?_)
    refine fin _ _ _ (hO1 _ _ _) (hle1 _ _ _) (.inr (.inr (.inr ⟨by decide, by decide, by decide, by decide, by decide, by decide⟩))) _ fun G2 h1 h2 => ?_
    repeat (first | ((first | apply Xk.sAny | apply Xk.tAny); (case hok => rfl); (case h => intro C hC; simp (disch := omega) only [w1, ↓reduceIte, Nat.reduceEqDiff, Nat.reduceLeDiff, Nat.reduceAdd, Nat.reduceSub]; with_reducible exact hC); refine gc ?_) | refine gm ?_)
    repeat (first | ((first | apply Xk.sAny | apply Xk.tAny); (case hok => rfl); (case h => intro C hC; simp (disch := omega) only [w1, ↓reduceIte, Nat.reduceEqDiff, Nat.reduceLeDiff, Nat.reduceAdd, Nat.reduceSub]; with_reducible exact hC); refine gc ?_) | refine gm ?_)
    exact ⟨rfl, next G2 h1 h2⟩
  have e5 := eqi_no .i64 kind _ k5
  repeat (first | ((first | apply Xk.sAny | apply Xk.tAny); (case hok => rfl); (case h => intro C hC; simp (disch := omega) only [w1, ↓reduceIte, Nat.reduceEqDiff, Nat.reduceLeDiff, Nat.reduceAdd, Nat.reduceSub, lav, c1, c2, gb, b1, b2, ct, e1, e2, e3, e4, e5, e6]; with_reducible exact hC); refine gc ?_) | refine gm ?_)
  repeat (first | ((first | apply Xk.sAny | apply Xk.tAny); (case hok => rfl); (case h => intro C hC; simp (disch := omega) only [w1, ↓reduceIte, Nat.reduceEqDiff, Nat.reduceLeDiff, Nat.reduceAdd, Nat.reduceSub, lav, c1, c2, gb, b1, b2, ct, e1, e2, e3, e4, e5, e6]; with_reducible exact hC); refine gc ?_) | refine gm ?_)
  repeat (first | ((first | apply Xk.sAny | apply Xk.tAny); (case hok => rfl); (case h => intro C hC; simp (disch := omega) only [w1, ↓reduceIte, Nat.reduceEqDiff, Nat.reduceLeDiff, Nat.reduceAdd, Nat.reduceSub, lav, c1, c2, gb, b1, b2, ct, e1, e2, e3, e4, e5, e6]; with_reducible exact hC); refine gc ?_) | refine gm ?_)
  refine fin _ _ _ (hO1 _ _ _) (hle1 _ _ _) (.inr (.inr (.inr ⟨k1, fun e => k2 (.inl e), fun e => k2 (.inr (.inl e)), fun e => k2 (.inr (.inr e)), k5, k6⟩))) _ fun G2 h1 h2 => ?_
  repeat (first | ((first | apply Xk.sAny | apply Xk.tAny); (case hok => rfl); (case h => intro C hC; simp (disch := omega) only [w1, ↓reduceIte, Nat.reduceEqDiff, Nat.reduceLeDiff, Nat.reduceAdd, Nat.reduceSub]; with_reducible exact hC); refine gc ?_) | refine gm ?_)
  repeat (first | ((first | apply Xk.sAny | apply Xk.tAny); (case hok => rfl); (case h => intro C hC; simp (disch := omega) only [w1, ↓reduceIte, Nat.reduceEqDiff, Nat.reduceLeDiff, Nat.reduceAdd, Nat.reduceSub]; with_reducible exact hC); refine gc ?_) | refine gm ?_)
  exact ⟨rfl, next G2 h1 h2⟩
end Go.Proofs.YtobnlhfgebfebaaGreatDoor
