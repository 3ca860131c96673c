/- Layer 17: the law SlotVersions, over the clean machine. Conditions: none. -/
import Derived.Test.YtihoblfmhighpaaDoorVrQ
import Derived.Test.YtihoblfmhighpaaDoorWdU
namespace Go.Proofs.YtihoblfmhighpaaDoor
open Go.Dp
set_option linter.unusedSimpArgs false
set_option linter.unusedVariables false
set_option maxHeartbeats 400000
set_option maxRecDepth 8000
attribute [local irreducible] Ex.thnK Ex.inK Ret

theorem SRuns_ev (H : Heap) (Q : AV → Heap → Prop) (hQ : Q (.bool true) H) : Eo lib n_depotlaw17_SlotRuns [] H Q := Eo.runs rfl hQ
/-- the law's own steps: the arguments stay -/
abbrev OL : Tg → Prop := fun u => u.1 ≠ 1
theorem ol7 {u : Tg} (h : O7 10 u) : OL u := by have := h.1; show u.1 ≠ 1; omega
theorem ol0 {u : Tg} (h : u.1 = 0) : OL u := by show u.1 ≠ 1; omega
theorem n70 {a b : Nat} : ¬ O7 10 ((0 : Nat), a, b) := by rintro ⟨h, _⟩; dsimp only at h; omega
theorem nK0 {a b : Nat} {t : Tg} (h : Ok4 10 t) : ¬ t = ((0 : Nat), a, b) := by rintro rfl; have := h.1; dsimp only at this; omega
theorem tab_stp {H H' : Heap} {T' : Tags} (h : Tab H) (s : Stp OL (fun _ => ((1, 0, 0) : Tg)) H T' H') : Tab H' := s.kp _ _ h (fun h => h rfl)
theorem hle_stp {H H' : Heap} {T' : Tags} (s : Stp OL (fun _ => ((1, 0, 0) : Tg)) H T' H') : HLe H H' := fun b y hb => s.kp b y hb (fun h => h rfl)
theorem fit0 {c n : Nat} (hc : c < 64) (hn : n ≤ 64) : Fit 4096 1 c (szs 4096 64) n := by
  have e : szs 4096 64 = 64 :: szs 4096 128 := by rw [szs, dif_pos (by decide)]
  refine ⟨0, by decide, ?_, ?_⟩
  · rw [e]
    show (if n ≤ 64 then some 0 else _) = _
    rw [if_pos hn]
  · rw [e]
    show c < 4096 / 64
    omega
theorem min_mx (a b : Nat) : mm true (.int .i64 (.ofNat a)) (.int .i64 (.ofNat b)) = some (.int .i64 (.ofNat (max a b))) := by
  have e : mm true (.int .i64 (.ofNat a)) (.int .i64 (.ofNat b)) = some (.int .i64 (bif Nat.ble b a then .ofNat a else .ofNat b)) := rfl
  rw [e, nble]
  by_cases h : b ≤ a
  · rw [decide_eq_true h, Nat.max_eq_left h]; rfl
  · rw [decide_eq_false h, Nat.max_eq_right (by omega)]; rfl

theorem Versions_law (vs : List Int) (vv : AV) (drop : Int) (H : Heap) (hT : Tab H) (hv : Sl H 1 vv (vs.map (.int .i64))) (hvl : vs.length < 9223372036854775808) : Eo lib n_depotlaw17_SlotVersions [vv, .int .i64 drop] H fun v _ => v = .bool true := by
  refine Eo.ok fun hOk => ?_
  refine Eo.code at_depotlaw17_SlotVersions rfl ?_
  repeat (first | ((first | apply Xk.sAny | apply Xk.tAny); (case hok => rfl); (case h => intro C hC; simp (disch := omega) only [w1, ↓reduceIte, Nat.reduceEqDiff, Nat.reduceLeDiff, Nat.reduceAdd, Nat.reduceSub]; with_reducible exact hC); refine gc ?_) | refine gm ?_)
  repeat (first | ((first | apply Xk.sAny | apply Xk.tAny); (case hok => rfl); (case h => intro C hC; simp (disch := omega) only [w1, ↓reduceIte, Nat.reduceEqDiff, Nat.reduceLeDiff, Nat.reduceAdd, Nat.reduceSub]; with_reducible exact hC); refine gc ?_) | refine gm ?_)
  refine slNew_ev 10 (fun _ => (1, 0, 0)) H 1 16 4096 (by decide) (by decide) (by decide) (by decide) (by decide) _ fun p T1 H1 s1 W1 => ?_
  have epn : negIf false (rEqc H1 (.ptr p 0) .nilp) = some (.bool false) := rfl
  repeat (first | ((first | apply Xk.sAny | apply Xk.tAny); (case hok => rfl); (case h => intro C hC; simp (disch := omega) only [w1, ↓reduceIte, Nat.reduceEqDiff, Nat.reduceLeDiff, Nat.reduceAdd, Nat.reduceSub, epn, eq_self]; with_reducible exact hC); refine gc ?_) | refine gm ?_)
  repeat (first | ((first | apply Xk.sAny | apply Xk.tAny); (case hok => rfl); (case h => intro C hC; simp (disch := omega) only [w1, ↓reduceIte, Nat.reduceEqDiff, Nat.reduceLeDiff, Nat.reduceAdd, Nat.reduceSub, epn, eq_self]; with_reducible exact hC); refine gc ?_) | refine gm ?_)
  refine ask_ev 5 (.ofNat 1) [] [] (.ofNat 0) H1 _ fun H2 hO2 hle2 => ?_
  have s2 : Stp (fun _ => False) T1 H1 T1 H2 := Stp.le hO2 hle2
  have W2 := W1.step s2 (fun _ _ h => h)
  repeat (first | ((first | apply Xk.sAny | apply Xk.tAny); (case hok => rfl); (case h => intro C hC; simp (disch := omega) only [w1, ↓reduceIte, Nat.reduceEqDiff, Nat.reduceLeDiff, Nat.reduceAdd, Nat.reduceSub]; with_reducible exact hC); refine gc ?_) | refine gm ?_)
  refine Take_reset_ev 10 T1 H2 p _ W2 (askF 5 (.ofNat 1) [] [] (.ofNat 0)) ⟨by decide, by decide, by decide, by decide⟩ (by decide) rfl rfl (by decide) _ fun T3 H3 s3 W3 => ?_
  have L3 := LS.begin (m := 1) W3
  have st3 : Stp OL (fun _ => (1, 0, 0)) H T3 H3 := ((s1.mono fun u h => ol7 h).trans (s2.mono fun _ h => h.elim)).trans (s3.mono fun u h => ol7 h)
  clear s1 W1 s2 W2 s3 W3 hle2 hO2 epn
  obtain ⟨k1, k2, k3⟩ := int_len hv
  repeat (first | ((first | apply Xk.sAny | apply Xk.tAny); (case hok => rfl); (case h => intro C hC; simp (disch := omega) only [w1, ↓reduceIte, Nat.reduceEqDiff, Nat.reduceLeDiff, Nat.reduceAdd, Nat.reduceSub]; with_reducible exact hC); refine gc ?_) | refine gm ?_)
  repeat (first | ((first | apply Xk.sAny | apply Xk.tAny); (case hok => rfl); (case h => intro C hC; simp (disch := omega) only [w1, ↓reduceIte, Nat.reduceEqDiff, Nat.reduceLeDiff, Nat.reduceAdd, Nat.reduceSub]; with_reducible exact hC); refine gc ?_) | refine gm ?_)
  refine Xk.iter [0, 1, 5, 7, 8, 9, 10] (fun m k H' => ∃ i l g v9 T' M done, m = 12 - i ∧ i ≤ 12 ∧ k = [(0, vv), (1, .int .i64 drop), (5, .ptr p 0), (7, .int .i64 (.ofNat (1 + 2 * i))), (8, .int .i64 (.ofNat g)), (9, v9), (10, .int .i64 (.ofNat i))] ∧
      Inv l g M ∧ l.length = i ∧ RT T' H' (0, 1, 0) 0 1 v9 (nats l) ∧ LS 10 T' H' p 4096 16 1 (2 * i) (szs 4096 64) M done ∧ (∀ d ∈ done, d.rid < (3 + 2 * i : Nat)) ∧ done.length = 2 * i ∧ Stp OL (fun _ => (1, 0, 0)) H T' H') rfl
    ⟨_, 0, [], 0, .nils, T3, fun _ => none, [], rfl, by omega, rfl, Inv.start, rfl, RT.nil, L3, (fun d hd => by cases hd), rfl, st3⟩ ?_
  rintro m k H4 ⟨i, l, g, v9, T4, M, done, rfl, hi, rfl, hI, hll, hr, hL, hrid, hdl, st⟩
  unfold l0_depotlaw17_SlotVersions
  have hv4 := hv.mono (hle_stp st)
  by_cases c : i < vs.length ∧ i < 12
  · obtain ⟨c1, c2⟩ := c
    obtain ⟨b, o, cl, k, rfl, hgb, e1, e2⟩ := int_at hv4 c1
    repeat (first | ((first | apply Xk.sAny | apply Xk.tAny); (case hok => rfl); (case h => intro C hC; simp (disch := omega) only [w1, ↓reduceIte, Nat.reduceEqDiff, Nat.reduceLeDiff, Nat.reduceAdd, Nat.reduceSub, k1, c1, c2, hgb, e1, e2]; with_reducible exact hC); refine gc ?_) | refine gm ?_)
    repeat (first | ((first | apply Xk.sAny | apply Xk.tAny); (case hok => rfl); (case h => intro C hC; simp (disch := omega) only [w1, ↓reduceIte, Nat.reduceEqDiff, Nat.reduceLeDiff, Nat.reduceAdd, Nat.reduceSub, k1, c1, c2, hgb, e1, e2]; with_reducible exact hC); refine gc ?_) | refine gm ?_)
    repeat (first | ((first | apply Xk.sAny | apply Xk.tAny); (case hok => rfl); (case h => intro C hC; simp (disch := omega) only [w1, ↓reduceIte, Nat.reduceEqDiff, Nat.reduceLeDiff, Nat.reduceAdd, Nat.reduceSub, k1, c1, c2, hgb, e1, e2]; with_reducible exact hC); refine gc ?_) | refine gm ?_)
    refine Within_ev (vs.getD i 0) 1 20 (by decide) (by decide) H4 _ fun v hv1 hv20 => ?_
    obtain ⟨_, S4⟩ := hL
    have hMo := S4.mo
    have hL : LS 10 T4 H4 p 4096 16 1 (2 * i) (szs 4096 64) M done := ⟨_, S4⟩
    clear S4
    repeat (first | ((first | apply Xk.sAny | apply Xk.tAny); (case hok => rfl); (case h => intro C hC; simp (disch := omega) only [w1, ↓reduceIte, Nat.reduceEqDiff, Nat.reduceLeDiff, Nat.reduceAdd, Nat.reduceSub]; with_reducible exact hC); refine gc ?_) | refine gm ?_)
    repeat (first | ((first | apply Xk.sAny | apply Xk.tAny); (case hok => rfl); (case h => intro C hC; simp (disch := omega) only [w1, ↓reduceIte, Nat.reduceEqDiff, Nat.reduceLeDiff, Nat.reduceAdd, Nat.reduceSub]; with_reducible exact hC); refine gc ?_) | refine gm ?_)
    refine Itoa_ev v (by omega) H4 (tab_stp hT st) _ fun H5 hO5 hle5 => ?_
    have hdl2 := dec_len hv20
    have hadd : bin .add (.str [118]) (.str (dec v)) = some (.str (118 :: dec v)) := add_str [118] (dec v) (by simp; omega)
    repeat (first | ((first | apply Xk.sAny | apply Xk.tAny); (case hok => rfl); (case h => intro C hC; simp (disch := omega) only [w1, ↓reduceIte, Nat.reduceEqDiff, Nat.reduceLeDiff, Nat.reduceAdd, Nat.reduceSub, hadd]; with_reducible exact hC); refine gc ?_) | refine gm ?_)
    repeat (first | ((first | apply Xk.sAny | apply Xk.tAny); (case hok => rfl); (case h => intro C hC; simp (disch := omega) only [w1, ↓reduceIte, Nat.reduceEqDiff, Nat.reduceLeDiff, Nat.reduceAdd, Nat.reduceSub, hadd]; with_reducible exact hC); refine gc ?_) | refine gm ?_)
    refine ask_ev 1 (.ofNat (1 + 2 * i + 2)) [107] (118 :: dec v) (.ofNat v) H5 _ fun H6 hO6 hle6 => ?_
    have s56 : Stp (fun _ => False) T4 H4 T4 H6 := Stp.le hO6 (hle5.trans hle6)
    show Xk lib _ _ (kput _ _ (.agg [.int .i64 (.ofNat 1), .int .i64 (.ofNat 1), .int .i64 (.ofNat 3), .int .i64 (.ofNat (1 + 2 * i + 2)), .int .i64 (.ofNat 0), .int .i64 (.ofNat 1), .str [107], .int .i64 (.ofNat v), .str (118 :: dec v)])) H6 _
    obtain ⟨T7, s7, a7⟩ := new1 (T := T4) hO6 (0, 2, 0) (.cells [.int .i64 (.ofNat 1), .int .i64 (.ofNat 1), .int .i64 (.ofNat 3), .int .i64 (.ofNat (1 + 2 * i + 2)), .int .i64 (.ofNat 0), .int .i64 (.ofNat 2), .str [107], .int .i64 (.ofNat v), .str (118 :: dec v)] 1)
    have hg7 := a7.1
    repeat (first | ((first | apply Xk.sAny | apply Xk.tAny); (case hok => rfl); (case h => intro C hC; simp (disch := omega) only [w1, ↓reduceIte, Nat.reduceEqDiff, Nat.reduceLeDiff, Nat.reduceAdd, Nat.reduceSub]; with_reducible exact hC); refine gc ?_) | refine gm ?_)
    repeat (first | ((first | apply Xk.sAny | apply Xk.tAny); (case hok => rfl); (case h => intro C hC; simp (disch := omega) only [w1, ↓reduceIte, Nat.reduceEqDiff, Nat.reduceLeDiff, Nat.reduceAdd, Nat.reduceSub, hg7]; with_reducible exact hC); refine gc ?_) | refine gm ?_)
    repeat (first | ((first | apply Xk.sAny | apply Xk.tAny); (case hok => rfl); (case h => intro C hC; simp (disch := omega) only [w1, ↓reduceIte, Nat.reduceEqDiff, Nat.reduceLeDiff, Nat.reduceAdd, Nat.reduceSub, hg7]; with_reducible exact hC); refine gc ?_) | refine gm ?_)
    have L7 := (hL.step s56 (fun _ _ h => h)).step s7 (fun _ _ h => h)
    have hr7 := (hr.step s56 (fun h => h)).step s7 (fun h => h)
    have st7 := (st.trans (s56.mono fun _ h => h.elim)).trans (s7.mono fun _ h => h.elim)
    generalize H6.new (.cells [.int .i64 (.ofNat 1), .int .i64 (.ofNat 1), .int .i64 (.ofNat 3), .int .i64 (.ofNat (1 + 2 * i + 2)), .int .i64 (.ofNat 0), .int .i64 (.ofNat 2), .str [107], .int .i64 (.ofNat v), .str (118 :: dec v)] 1) = H7 at s7 a7 hg7 L7 hr7 st7 ⊢
    have hf1 : LR (partF 1 (.ofNat (1 + 2 * i + 2)) v (pd v)) := reqF_lr (.inl rfl) (.inr rfl) (Int.natCast_nonneg _) (by show ((1 + 2 * i + 2 : Nat) : Int) ≤ _; omega) (Int.natCast_nonneg _) (by show ((v : Nat) : Int) ≤ _; omega) (by decide) (by unfold pd; rw [List.length_cons]; omega)
    have hn1 := nameB_len _ hf1.ok.v1 hf1.ok.v2
    have hn2 := verB_len (partF 1 (.ofNat (1 + 2 * i + 2)) v (pd v)).ver (partF 1 (.ofNat (1 + 2 * i + 2)) v (pd v)).data hf1.ok.v1 hf1.ok.v2
    have hn3 : (partF 1 (.ofNat (1 + 2 * i + 2)) v (pd v)).key.length = 1 := rfl
    have hn4 : (partF 1 (.ofNat (1 + 2 * i + 2)) v (pd v)).data.length = (dec v).length + 1 := rfl
    refine tReq_ev 10 T7 H7 p L7 (by omega) (partF 1 (.ofNat (1 + 2 * i + 2)) v (pd v)) hf1 (by show Int.ofNat 1 < Int.ofNat 6; decide) (by show Int.ofNat 1 ≠ Int.ofNat 5; decide) _ (putR_ok hMo hf1)
      (fun s S => putIs S (by omega) hf1 rfl (by decide) (fit0 (by omega) (by omega))) _ (fun d pre post e _ h2 => ?_) (fun _ T8 H8 s8 L8 => ?_)
    · have h3 := hrid d (by rw [e]; exact List.mem_append_right _ (List.mem_cons_self ..))
      rw [h2] at h3
      have h4 : ((1 + 2 * i + 2 : Nat) : Int) < ((3 + 2 * i : Nat) : Int) := h3
      omega
    have hr8 := hr7.step s8 n70
    have st8 := st7.trans (s8.mono fun u h => ol7 h)
    generalize ha1 : (putR M (partF 1 (.ofNat (1 + 2 * i + 2)) v (pd v))).2 = a1 at L8
    obtain ⟨_, S8⟩ := L8
    have hMo8 := S8.mo
    have L8 : LS 10 T8 H8 p 4096 16 1 (2 * i + 1) (szs 4096 64) _ _ := ⟨_, S8⟩
    clear S8
    repeat (first | ((first | apply Xk.sAny | apply Xk.tAny); (case hok => rfl); (case h => intro C hC; simp (disch := omega) only [w1, ↓reduceIte, Nat.reduceEqDiff, Nat.reduceLeDiff, Nat.reduceAdd, Nat.reduceSub]; with_reducible exact hC); refine gc ?_) | refine gm ?_)
    repeat (first | ((first | apply Xk.sAny | apply Xk.tAny); (case hok => rfl); (case h => intro C hC; simp (disch := omega) only [w1, ↓reduceIte, Nat.reduceEqDiff, Nat.reduceLeDiff, Nat.reduceAdd, Nat.reduceSub]; with_reducible exact hC); refine gc ?_) | refine gm ?_)
    refine Itoa_ev v (by omega) H8 (tab_stp hT st8) _ fun H9 hO9 hle9 => ?_
    have hadd2 : bin .add (.str [114]) (.str (dec v)) = some (.str (114 :: dec v)) := add_str [114] (dec v) (by simp; omega)
    repeat (first | ((first | apply Xk.sAny | apply Xk.tAny); (case hok => rfl); (case h => intro C hC; simp (disch := omega) only [w1, ↓reduceIte, Nat.reduceEqDiff, Nat.reduceLeDiff, Nat.reduceAdd, Nat.reduceSub, hadd2]; with_reducible exact hC); refine gc ?_) | refine gm ?_)
    repeat (first | ((first | apply Xk.sAny | apply Xk.tAny); (case hok => rfl); (case h => intro C hC; simp (disch := omega) only [w1, ↓reduceIte, Nat.reduceEqDiff, Nat.reduceLeDiff, Nat.reduceAdd, Nat.reduceSub, hadd2]; with_reducible exact hC); refine gc ?_) | refine gm ?_)
    refine ask_ev 1 (.ofNat (1 + 2 * i + 2 + 1)) [107] (114 :: dec v) (.ofNat v) H9 _ fun HA hOA hleA => ?_
    rw [askF_req _ _ _ _ (by decide)]
    have sA : Stp (fun _ => False) T8 H8 T8 HA := Stp.le hOA (hle9.trans hleA)
    have LA := L8.step sA (fun _ _ h => h)
    have hrA := hr8.step sA (fun h => h)
    have stA := st8.trans (sA.mono fun _ h => h.elim)
    have hf2 : LR (metaF 1 (.ofNat (1 + 2 * i + 2 + 1)) v (md v)) := reqF_lr (.inl rfl) (.inl rfl) (Int.natCast_nonneg _) (by show ((1 + 2 * i + 2 + 1 : Nat) : Int) ≤ _; omega) (Int.natCast_nonneg _) (by show ((v : Nat) : Int) ≤ _; omega) (by decide) (by unfold md; rw [List.length_cons]; omega)
    have hm1 := nameB_len _ hf2.ok.v1 hf2.ok.v2
    have hm2 := verB_len (metaF 1 (.ofNat (1 + 2 * i + 2 + 1)) v (md v)).ver (metaF 1 (.ofNat (1 + 2 * i + 2 + 1)) v (md v)).data hf2.ok.v1 hf2.ok.v2
    have hm3 : (metaF 1 (.ofNat (1 + 2 * i + 2 + 1)) v (md v)).key.length = 1 := rfl
    have hm4 : (metaF 1 (.ofNat (1 + 2 * i + 2 + 1)) v (md v)).data.length = (dec v).length + 1 := rfl
    repeat (first | ((first | apply Xk.sAny | apply Xk.tAny); (case hok => rfl); (case h => intro C hC; simp (disch := omega) only [w1, ↓reduceIte, Nat.reduceEqDiff, Nat.reduceLeDiff, Nat.reduceAdd, Nat.reduceSub]; with_reducible exact hC); refine gc ?_) | refine gm ?_)
    refine tReq_ev 10 T8 HA p LA (by rw [List.length_append, List.length_singleton]; omega) (metaF 1 (.ofNat (1 + 2 * i + 2 + 1)) v (md v)) hf2 (by show Int.ofNat 1 < Int.ofNat 6; decide) (by show Int.ofNat 1 ≠ Int.ofNat 5; decide) _ (putR_ok hMo8 hf2)
      (fun s S => putIs S (by omega) hf2 rfl (by decide) (fit0 (by omega) (by omega))) _ (fun d pre post e _ h2 => ?_) (fun _ TB HB sB LB => ?_)
    · have hd : d ∈ done ++ [(⟨(partF 1 (.ofNat (1 + 2 * i + 2)) v (pd v)).rid, a1⟩ : Dd)] := by rw [e]; exact List.mem_append_right _ (List.mem_cons_self ..)
      rcases List.mem_append.1 hd with hd | hd
      · have h3 := hrid d hd
        rw [h2] at h3
        have h4 : ((1 + 2 * i + 2 + 1 : Nat) : Int) < ((3 + 2 * i : Nat) : Int) := h3
        omega
      · rw [List.mem_singleton] at hd
        subst hd
        have h4 : ((1 + 2 * i + 2 : Nat) : Int) = ((1 + 2 * i + 2 + 1 : Nat) : Int) := h2
        omega
    have hrB := hrA.step sB n70
    have stB := stA.trans (sB.mono fun u h => ol7 h)
    have hmx := min_mx g v
    obtain ⟨v', HC, TC, f1, f2, f3⟩ := RT.push (bytes := 8) (w := 1) (row := [.int .i64 (.ofNat v)]) stB.ok hrB rfl rfl (by decide) (by rw [nats_len]; omega) (by rw [nats_len]; omega)
    obtain ⟨q1, q2⟩ := hrB.sc
    obtain ⟨q3, q4⟩ := f3.sc
    repeat (first | ((first | apply Xk.sAny | apply Xk.tAny); (case hok => rfl); (case h => intro C hC; simp (disch := omega) only [w1, ↓reduceIte, Nat.reduceEqDiff, Nat.reduceLeDiff, Nat.reduceAdd, Nat.reduceSub, rMm, mms, hmx, q1, q2, f1, q3, q4]; with_reducible exact hC); refine gc ?_) | refine gm ?_)
    repeat (first | ((first | apply Xk.sAny | apply Xk.tAny); (case hok => rfl); (case h => intro C hC; simp (disch := omega) only [w1, ↓reduceIte, Nat.reduceEqDiff, Nat.reduceLeDiff, Nat.reduceAdd, Nat.reduceSub, rMm, mms, hmx, q1, q2, f1, q3, q4]; with_reducible exact hC); refine gc ?_) | refine gm ?_)
    repeat (first | ((first | apply Xk.sAny | apply Xk.tAny); (case hok => rfl); (case h => intro C hC; simp (disch := omega) only [w1, ↓reduceIte, Nat.reduceEqDiff, Nat.reduceLeDiff, Nat.reduceAdd, Nat.reduceSub, rMm, mms, hmx, q1, q2, f1, q3, q4]; with_reducible exact hC); refine gc ?_) | refine gm ?_)
    have LC := LB.step f2 (fun t ht => nK0 ht)
    have stC := stB.trans (f2.mono (P := OL) fun u h => by rw [h]; exact ol0 rfl)
    refine ⟨rfl, _, by omega, i + 1, l ++ [v], max g v, v', TC, _, _, rfl, by omega, rfl, hI.meta_ hv1 hv20 (.ofNat (1 + 2 * i + 2)) (.ofNat (1 + 2 * i + 2 + 1)), by rw [List.length_append, hll]; rfl, by rw [nats_app]; exact f3, LC, ?_, by rw [List.length_append, List.length_append, List.length_singleton, List.length_singleton]; omega, stC⟩
    intro d hd
    have e35 : ((3 + 2 * (i + 1) : Nat) : Int) = (3 + 2 * i : Nat) + 2 := by omega
    rw [e35]
    rcases List.mem_append.1 hd with hd | hd
    · rcases List.mem_append.1 hd with hd | hd
      · have := hrid d hd
        omega
      · rw [List.mem_singleton] at hd
        subst hd
        show ((1 + 2 * i + 2 : Nat) : Int) < _
        omega
    · rw [List.mem_singleton] at hd
      subst hd
      show ((1 + 2 * i + 2 + 1 : Nat) : Int) < _
      omega
  · have hc2 : (¬ i < vs.length ∧ True) ∨ (i < vs.length ∧ ¬ i < 12) := by
      by_cases c1 : i < vs.length
      · exact .inr ⟨c1, fun c2 => c ⟨c1, c2⟩⟩
      · exact .inl ⟨c1, trivial⟩
    rcases hc2 with ⟨c1, c2⟩ | ⟨c1, c2⟩
    all_goals
      repeat (first | ((first | apply Xk.sAny | apply Xk.tAny); (case hok => rfl); (case h => intro C hC; simp (disch := omega) only [w1, ↓reduceIte, Nat.reduceEqDiff, Nat.reduceLeDiff, Nat.reduceAdd, Nat.reduceSub, k1, c1, c2]; with_reducible exact hC); refine gc ?_) | refine gm ?_)
      repeat (first | ((first | apply Xk.sAny | apply Xk.tAny); (case hok => rfl); (case h => intro C hC; simp (disch := omega) only [w1, ↓reduceIte, Nat.reduceEqDiff, Nat.reduceLeDiff, Nat.reduceAdd, Nat.reduceSub, k1, c1, c2]; with_reducible exact hC); refine gc ?_) | refine gm ?_)
      refine Within_ev drop 1 20 (by decide) (by decide) H4 _ fun out ho1 ho20 => ?_
      obtain ⟨_, S4⟩ := hL
      have hMo := S4.mo
      have hL : LS 10 T4 H4 p 4096 16 1 (2 * i) (szs 4096 64) M done := ⟨_, S4⟩
      clear S4
      repeat (first | ((first | apply Xk.sAny | apply Xk.tAny); (case hok => rfl); (case h => intro C hC; simp (disch := omega) only [w1, ↓reduceIte, Nat.reduceEqDiff, Nat.reduceLeDiff, Nat.reduceAdd, Nat.reduceSub]; with_reducible exact hC); refine gc ?_) | refine gm ?_)
      repeat (first | ((first | apply Xk.sAny | apply Xk.tAny); (case hok => rfl); (case h => intro C hC; simp (disch := omega) only [w1, ↓reduceIte, Nat.reduceEqDiff, Nat.reduceLeDiff, Nat.reduceAdd, Nat.reduceSub]; with_reducible exact hC); refine gc ?_) | refine gm ?_)
      refine ask_ev 3 (.ofNat 100) [107] [] (.ofNat out) H4 _ fun H5 hO5 hle5 => ?_
      have s5 : Stp (fun _ => False) T4 H4 T4 H5 := Stp.le hO5 hle5
      show Xk lib _ _ (kput _ _ (.agg [.int .i64 (.ofNat 3), .int .i64 (.ofNat 1), .int .i64 (.ofNat 3), .int .i64 (.ofNat 100), .int .i64 (.ofNat 0), .int .i64 (.ofNat 1), .str [107], .int .i64 (.ofNat out), .str []])) H5 _
      obtain ⟨T6, s6, a6⟩ := new1 (T := T4) hO5 (0, 3, 0) (.cells [.int .i64 (.ofNat 3), .int .i64 (.ofNat 1), .int .i64 (.ofNat 3), .int .i64 (.ofNat 100), .int .i64 (.ofNat 0), .int .i64 (.ofNat 2), .str [107], .int .i64 (.ofNat out), .str []] 1)
      have hg6 := a6.1
      repeat (first | ((first | apply Xk.sAny | apply Xk.tAny); (case hok => rfl); (case h => intro C hC; simp (disch := omega) only [w1, ↓reduceIte, Nat.reduceEqDiff, Nat.reduceLeDiff, Nat.reduceAdd, Nat.reduceSub]; with_reducible exact hC); refine gc ?_) | refine gm ?_)
      repeat (first | ((first | apply Xk.sAny | apply Xk.tAny); (case hok => rfl); (case h => intro C hC; simp (disch := omega) only [w1, ↓reduceIte, Nat.reduceEqDiff, Nat.reduceLeDiff, Nat.reduceAdd, Nat.reduceSub, hg6]; with_reducible exact hC); refine gc ?_) | refine gm ?_)
      repeat (first | ((first | apply Xk.sAny | apply Xk.tAny); (case hok => rfl); (case h => intro C hC; simp (disch := omega) only [w1, ↓reduceIte, Nat.reduceEqDiff, Nat.reduceLeDiff, Nat.reduceAdd, Nat.reduceSub, hg6]; with_reducible exact hC); refine gc ?_) | refine gm ?_)
      have L6 := (hL.step s5 (fun _ _ h => h)).step s6 (fun _ _ h => h)
      have hr6 := (hr.step s5 (fun h => h)).step s6 (fun h => h)
      have st6 := (st.trans (s5.mono fun _ h => h.elim)).trans (s6.mono fun _ h => h.elim)
      generalize H5.new (.cells [.int .i64 (.ofNat 3), .int .i64 (.ofNat 1), .int .i64 (.ofNat 3), .int .i64 (.ofNat 100), .int .i64 (.ofNat 0), .int .i64 (.ofNat 2), .str [107], .int .i64 (.ofNat out), .str []] 1) = H6 at s6 a6 hg6 L6 hr6 st6 ⊢
      have hf1 : LR (partF 3 (.ofNat 100) out []) := reqF_lr (.inr (.inr rfl)) (.inr rfl) (by decide) (by decide) (Int.natCast_nonneg _) (by show ((out : Nat) : Int) ≤ _; omega) (by decide) (by decide)
      refine tReq_ev 10 T6 H6 p L6 (by omega) (partF 3 (.ofNat 100) out []) hf1 (by show Int.ofNat 3 < Int.ofNat 6; decide) (by show Int.ofNat 3 ≠ Int.ofNat 5; decide) _ (dropR_ok hMo (partF 3 (.ofNat 100) out [])) (fun s S => dropIs S (by omega) hf1 rfl) _ (fun d pre post e _ h2 => ?_) (fun _ T7 H7 s7 L7 => ?_)
      · have h3 := hrid d (by rw [e]; exact List.mem_append_right _ (List.mem_cons_self ..))
        rw [h2] at h3
        have h4 : (100 : Int) < ((3 + 2 * i : Nat) : Int) := h3
        omega
      obtain ⟨hdp, hdm⟩ := hI.drop ho20 (.ofNat 100)
      generalize (dropR M (partF 3 (.ofNat 100) out [])).1 = M2 at hdp hdm L7
      have hr7 := hr6.step s7 n70
      have st7 := st6.trans (s7.mono fun u h => ol7 h)
      repeat (first | ((first | apply Xk.sAny | apply Xk.tAny); (case hok => rfl); (case h => intro C hC; simp (disch := omega) only [w1, ↓reduceIte, Nat.reduceEqDiff, Nat.reduceLeDiff, Nat.reduceAdd, Nat.reduceSub]; with_reducible exact hC); refine gc ?_) | refine gm ?_)
      repeat (first | ((first | apply Xk.sAny | apply Xk.tAny); (case hok => rfl); (case h => intro C hC; simp (disch := omega) only [w1, ↓reduceIte, Nat.reduceEqDiff, Nat.reduceLeDiff, Nat.reduceAdd, Nat.reduceSub]; with_reducible exact hC); refine gc ?_) | refine gm ?_)
      have hll2 : l.length ≤ 12 := by omega
      refine Xk.iter [5, 8, 9, 13, 15] (fun m k H' => ∃ j T' done', m = l.length - j ∧ j ≤ l.length ∧ k = [(5, .ptr p 0), (8, .int .i64 (.ofNat g)), (9, v9), (13, .int .i64 (.ofNat out)), (15, .int .i64 (.ofNat j))] ∧
          RT T' H' (0, 1, 0) 0 1 v9 (nats l) ∧ LS 10 T' H' p 4096 16 1 (2 * i + 1 + j) (szs 4096 64) M2 done' ∧ (∀ d ∈ done', d.rid < (200 + j : Nat)) ∧ done'.length ≤ 100 + j ∧ Stp OL (fun _ => (1, 0, 0)) H T' H') rfl
        ⟨_, 0, T7, _, rfl, Nat.zero_le _, rfl, hr7, L7, (fun d hd => by
          rcases List.mem_append.1 hd with hd | hd
          · have := hrid d hd
            omega
          · rw [List.mem_singleton] at hd
            subst hd
            show (100 : Int) < ((200 + 0 : Nat) : Int)
            decide), by rw [List.length_append, List.length_singleton]; omega, st7⟩ ?_
      rintro m k H8 ⟨j, T8, done2, rfl, hj, rfl, hr8, L8, hrid2, hdl2, st8⟩
      unfold l1_depotlaw17_SlotVersions
      obtain ⟨_, S8⟩ := L8
      have hMo2 := S8.mo
      have L8 : LS 10 T8 H8 p 4096 16 1 (2 * i + 1 + j) (szs 4096 64) M2 done2 := ⟨_, S8⟩
      clear S8
      have hrl := hr8.lens (by decide)
      rw [nats_len, Nat.div_one] at hrl
      obtain ⟨rs1, rs2⟩ := hr8.sc
      by_cases d1 : j < l.length
      · obtain ⟨c9, cl9, e9, g9, b9, r9⟩ := nat_at hr8 d1
        have hxm : l.getD j 0 ∈ l := by
          rw [List.getD_eq_getElem?_getD, List.getElem?_eq_getElem d1]
          exact List.getElem_mem d1
        have hxr := hI.ge _ hxm
        have hMx := hdp (l.getD j 0) hxr.2
        generalize hxe : l.getD j 0 = x at hxm hxr hMx r9
        subst e9
        repeat (first | ((first | apply Xk.sAny | apply Xk.tAny); (case hok => rfl); (case h => intro C hC; simp (disch := omega) only [w1, ↓reduceIte, Nat.reduceEqDiff, Nat.reduceLeDiff, Nat.reduceAdd, Nat.reduceSub, hrl, rs1, rs2, d1, g9, b9, r9]; with_reducible exact hC); refine gc ?_) | refine gm ?_)
        repeat (first | ((first | apply Xk.sAny | apply Xk.tAny); (case hok => rfl); (case h => intro C hC; simp (disch := omega) only [w1, ↓reduceIte, Nat.reduceEqDiff, Nat.reduceLeDiff, Nat.reduceAdd, Nat.reduceSub, hrl, rs1, rs2, d1, g9, b9, r9]; with_reducible exact hC); refine gc ?_) | refine gm ?_)
        refine ask_ev 2 (.ofNat (200 + j)) [107] [] (.ofNat x) H8 _ fun H9 hO9 hle9 => ?_
        have s9 : Stp (fun _ => False) T8 H8 T8 H9 := Stp.le hO9 hle9
        show Xk lib _ _ (kput _ _ (.agg [.int .i64 (.ofNat 2), .int .i64 (.ofNat 1), .int .i64 (.ofNat 3), .int .i64 (.ofNat (200 + j)), .int .i64 (.ofNat 0), .int .i64 (.ofNat 1), .str [107], .int .i64 (.ofNat x), .str []])) H9 _
        obtain ⟨TA, sA, aA⟩ := new1 (T := T8) hO9 (0, 4, 0) (.cells [.int .i64 (.ofNat 2), .int .i64 (.ofNat 1), .int .i64 (.ofNat 3), .int .i64 (.ofNat (200 + j)), .int .i64 (.ofNat 0), .int .i64 (.ofNat 2), .str [107], .int .i64 (.ofNat x), .str []] 1)
        have hgA := aA.1
        repeat (first | ((first | apply Xk.sAny | apply Xk.tAny); (case hok => rfl); (case h => intro C hC; simp (disch := omega) only [w1, ↓reduceIte, Nat.reduceEqDiff, Nat.reduceLeDiff, Nat.reduceAdd, Nat.reduceSub]; with_reducible exact hC); refine gc ?_) | refine gm ?_)
        repeat (first | ((first | apply Xk.sAny | apply Xk.tAny); (case hok => rfl); (case h => intro C hC; simp (disch := omega) only [w1, ↓reduceIte, Nat.reduceEqDiff, Nat.reduceLeDiff, Nat.reduceAdd, Nat.reduceSub, hgA]; with_reducible exact hC); refine gc ?_) | refine gm ?_)
        repeat (first | ((first | apply Xk.sAny | apply Xk.tAny); (case hok => rfl); (case h => intro C hC; simp (disch := omega) only [w1, ↓reduceIte, Nat.reduceEqDiff, Nat.reduceLeDiff, Nat.reduceAdd, Nat.reduceSub, hgA]; with_reducible exact hC); refine gc ?_) | refine gm ?_)
        have LA := (L8.step s9 (fun _ _ h => h)).step sA (fun _ _ h => h)
        have hrA := (hr8.step s9 (fun h => h)).step sA (fun h => h)
        have stA := (st8.trans (s9.mono fun _ h => h.elim)).trans (sA.mono fun _ h => h.elim)
        generalize H9.new (.cells [.int .i64 (.ofNat 2), .int .i64 (.ofNat 1), .int .i64 (.ofNat 3), .int .i64 (.ofNat (200 + j)), .int .i64 (.ofNat 0), .int .i64 (.ofNat 2), .str [107], .int .i64 (.ofNat x), .str []] 1) = HA at sA aA hgA LA hrA stA ⊢
        have hf2 : LR (partF 2 (.ofNat (200 + j)) x []) := reqF_lr (.inr (.inl rfl)) (.inr rfl) (Int.natCast_nonneg _) (by show ((200 + j : Nat) : Int) ≤ _; omega) (Int.natCast_nonneg _) (by show ((x : Nat) : Int) ≤ _; omega) (by decide) (by decide)
        refine tReq_ev 10 TA HA p LA (by omega) (partF 2 (.ofNat (200 + j)) x []) hf2 (by show Int.ofNat 2 < Int.ofNat 6; decide) (by show Int.ofNat 2 ≠ Int.ofNat 5; decide) (getR M2 (partF 2 (.ofNat (200 + j)) x [])) hMo2 (fun s S => getIs S (by omega) hf2 rfl) _ (fun d pre post e _ h2 => ?_) (fun _ TB HB sB LB => ?_)
        · have h3 := hrid2 d (by rw [e]; exact List.mem_append_right _ (List.mem_cons_self ..))
          rw [h2] at h3
          have h4 : ((200 + j : Nat) : Int) < ((200 + j : Nat) : Int) := h3
          omega
        have hrB := hrA.step sB n70
        have stB := stA.trans (sB.mono fun u h => ol7 h)
        have hdn : ∀ a : Fr, ∀ d ∈ done2 ++ [(⟨(partF 2 (.ofNat (200 + j)) x []).rid, a⟩ : Dd)], d.rid < ((200 + (j + 1) : Nat) : Int) := fun a d hd => by
          have e200 : ((200 + (j + 1) : Nat) : Int) = (200 + j : Nat) + 1 := by omega
          rw [e200]
          rcases List.mem_append.1 hd with hd | hd
          · have := hrid2 d hd
            omega
          · rw [List.mem_singleton] at hd
            subst hd
            show ((200 + j : Nat) : Int) < _
            omega
        have hdl3 : ∀ a : Fr, (done2 ++ [(⟨(partF 2 (.ofNat (200 + j)) x []).rid, a⟩ : Dd)]).length ≤ 100 + (j + 1) := fun a => by rw [List.length_append, List.length_singleton]; omega
        obtain ⟨cB, clB, eB, gB, bB, rB⟩ := nat_at hrB d1
        have hEt : negIf true (eqv EK.b (AV.bool true) (AV.bool true)) = some (.bool false) := rfl
        have hEf : negIf true (eqv EK.b (AV.bool false) (AV.bool false)) = some (.bool false) := rfl
        by_cases hxo : x = out
        · have hres : (getR M2 (partF 2 (.ofNat (200 + j)) x [])).2 = ansL (partF 2 (.ofNat (200 + j)) x []) (.ofNat 0) [] := by
            unfold getR
            rw [partF_n hxr.2, hMx, if_neg (fun q => q.2 hxo)]
          rw [hres]
          show Xk lib _ _ (kput _ _ (.tup [.agg [.int .i64 (.ofNat 6), .int .i64 (.ofNat 1), .int .i64 (.ofNat 3), .int .i64 (.ofNat (200 + j)), .int .i64 (.ofNat 0), .int .i64 (.ofNat 2), .str [107], .int .i64 (.ofNat 0), .str []], .bool true])) HB _
          obtain ⟨TC, sC, aC⟩ := new1 (T := TB) stB.ok (0, 5, 0) (.cells [.int .i64 (.ofNat 6), .int .i64 (.ofNat 1), .int .i64 (.ofNat 3), .int .i64 (.ofNat (200 + j)), .int .i64 (.ofNat 0), .int .i64 (.ofNat 2), .str [107], .int .i64 (.ofNat 0), .str []] 1)
          have hgC := aC.1
          have LC := LB.step sC (fun _ _ h => h)
          have hrC := hrB.step sC (fun h => h)
          have stC := stB.trans (sC.mono (P := OL) fun _ h => h.elim)
          obtain ⟨cC, clC, eC, gC, bC, rC⟩ := nat_at hrC d1
          rw [hxe] at rC
          injection eC with eC
          subst eC
          have hd0 : (0 = x) = False := eq_false (by omega)
          have hxo' := eq_true hxo
          repeat (first | ((first | apply Xk.sAny | apply Xk.tAny); (case hok => rfl); (case h => intro C hC; simp (disch := omega) only [w1, ↓reduceIte, Nat.reduceEqDiff, Nat.reduceLeDiff, Nat.reduceAdd, Nat.reduceSub]; with_reducible exact hC); refine gc ?_) | refine gm ?_)
          repeat (first | ((first | apply Xk.sAny | apply Xk.tAny); (case hok => rfl); (case h => intro C hC; simp (disch := omega) only [w1, ↓reduceIte, Nat.reduceEqDiff, Nat.reduceLeDiff, Nat.reduceAdd, Nat.reduceSub, hgC, gC, bC, rC, d1, hd0, hxo', hEf, eq_self]; with_reducible exact hC); refine gc ?_) | refine gm ?_)
          repeat (first | ((first | apply Xk.sAny | apply Xk.tAny); (case hok => rfl); (case h => intro C hC; simp (disch := omega) only [w1, ↓reduceIte, Nat.reduceEqDiff, Nat.reduceLeDiff, Nat.reduceAdd, Nat.reduceSub, hgC, gC, bC, rC, d1, hd0, hxo', hEf, eq_self]; with_reducible exact hC); refine gc ?_) | refine gm ?_)
          exact ⟨rfl, _, by omega, j + 1, TC, _, rfl, by omega, rfl, hrC, LC, hdn _, hdl3 _, stC⟩
        · have hres : (getR M2 (partF 2 (.ofNat (200 + j)) x [])).2 = ansL (partF 2 (.ofNat (200 + j)) x []) (.ofNat x) (pd x) := by
            unfold getR
            rw [partF_n hxr.2, hMx, if_pos ⟨hxm, hxo⟩]
          rw [hres]
          show Xk lib _ _ (kput _ _ (.tup [.agg [.int .i64 (.ofNat 6), .int .i64 (.ofNat 1), .int .i64 (.ofNat 3), .int .i64 (.ofNat (200 + j)), .int .i64 (.ofNat 0), .int .i64 (.ofNat 2), .str [107], .int .i64 (.ofNat x), .str (118 :: dec x)], .bool true])) HB _
          obtain ⟨TC, sC, aC⟩ := new1 (T := TB) stB.ok (0, 5, 0) (.cells [.int .i64 (.ofNat 6), .int .i64 (.ofNat 1), .int .i64 (.ofNat 3), .int .i64 (.ofNat (200 + j)), .int .i64 (.ofNat 0), .int .i64 (.ofNat 2), .str [107], .int .i64 (.ofNat x), .str (118 :: dec x)] 1)
          have hgC := aC.1
          have LC := LB.step sC (fun _ _ h => h)
          have hrC := hrB.step sC (fun h => h)
          have stC := stB.trans (sC.mono (P := OL) fun _ h => h.elim)
          obtain ⟨cC, clC, eC, gC, bC, rC⟩ := nat_at hrC d1
          rw [hxe] at rC
          injection eC with eC
          subst eC
          have hxo' := eq_false hxo
          have hdx := dec_len hxr.2
          have hadd : bin .add (.str [118]) (.str (dec x)) = some (.str (118 :: dec x)) := add_str [118] (dec x) (by simp; omega)
          repeat (first | ((first | apply Xk.sAny | apply Xk.tAny); (case hok => rfl); (case h => intro C hC; simp (disch := omega) only [w1, ↓reduceIte, Nat.reduceEqDiff, Nat.reduceLeDiff, Nat.reduceAdd, Nat.reduceSub]; with_reducible exact hC); refine gc ?_) | refine gm ?_)
          repeat (first | ((first | apply Xk.sAny | apply Xk.tAny); (case hok => rfl); (case h => intro C hC; simp (disch := omega) only [w1, ↓reduceIte, Nat.reduceEqDiff, Nat.reduceLeDiff, Nat.reduceAdd, Nat.reduceSub, hgC, gC, bC, rC, d1, hxo', eq_self]; with_reducible exact hC); refine gc ?_) | refine gm ?_)
          repeat (first | ((first | apply Xk.sAny | apply Xk.tAny); (case hok => rfl); (case h => intro C hC; simp (disch := omega) only [w1, ↓reduceIte, Nat.reduceEqDiff, Nat.reduceLeDiff, Nat.reduceAdd, Nat.reduceSub, hgC, gC, bC, rC, d1, hxo', eq_self]; with_reducible exact hC); refine gc ?_) | refine gm ?_)
          refine Itoa_ev x (by omega) _ (tab_stp hT stC) _ fun HD hOD hleD => ?_
          have sD : Stp (fun _ => False) TC _ TC HD := Stp.le hOD hleD
          have hgD := hleD _ _ hgC
          have gD := hleD _ _ gC
          repeat (first | ((first | apply Xk.sAny | apply Xk.tAny); (case hok => rfl); (case h => intro C hC; simp (disch := omega) only [w1, ↓reduceIte, Nat.reduceEqDiff, Nat.reduceLeDiff, Nat.reduceAdd, Nat.reduceSub, hgD, gD, bC, rC, d1, hxo', eq_self, hadd, hEt]; with_reducible exact hC); refine gc ?_) | refine gm ?_)
          repeat (first | ((first | apply Xk.sAny | apply Xk.tAny); (case hok => rfl); (case h => intro C hC; simp (disch := omega) only [w1, ↓reduceIte, Nat.reduceEqDiff, Nat.reduceLeDiff, Nat.reduceAdd, Nat.reduceSub, hgD, gD, bC, rC, d1, hxo', eq_self, hadd, hEt]; with_reducible exact hC); refine gc ?_) | refine gm ?_)
          exact ⟨rfl, _, by omega, j + 1, TC, _, rfl, by omega, rfl, hrC.step sD (fun h => h), LC.step sD (fun _ _ h => h), hdn _, hdl3 _, stC.trans (sD.mono (P := OL) fun _ h => h.elim)⟩
      · repeat (first | ((first | apply Xk.sAny | apply Xk.tAny); (case hok => rfl); (case h => intro C hC; simp (disch := omega) only [w1, ↓reduceIte, Nat.reduceEqDiff, Nat.reduceLeDiff, Nat.reduceAdd, Nat.reduceSub, hrl, rs1, rs2, d1]; with_reducible exact hC); refine gc ?_) | refine gm ?_)
        repeat (first | ((first | apply Xk.sAny | apply Xk.tAny); (case hok => rfl); (case h => intro C hC; simp (disch := omega) only [w1, ↓reduceIte, Nat.reduceEqDiff, Nat.reduceLeDiff, Nat.reduceAdd, Nat.reduceSub, hrl, rs1, rs2, d1]; with_reducible exact hC); refine gc ?_) | refine gm ?_)
        refine ask_ev 2 (.ofNat 300) [107] [] (.ofNat 0) H8 _ fun H9 hO9 hle9 => ?_
        rw [askF_req _ _ _ _ (by decide)]
        have s9 : Stp (fun _ => False) T8 H8 T8 H9 := Stp.le hO9 hle9
        have L9 := L8.step s9 (fun _ _ h => h)
        have st9 := st8.trans (s9.mono fun _ h => h.elim)
        have hf2 : LR (metaF 2 (.ofNat 300) 0 []) := reqF_lr (.inr (.inl rfl)) (.inl rfl) (by decide) (by decide) (by decide) (by decide) (by decide) (by decide)
        repeat (first | ((first | apply Xk.sAny | apply Xk.tAny); (case hok => rfl); (case h => intro C hC; simp (disch := omega) only [w1, ↓reduceIte, Nat.reduceEqDiff, Nat.reduceLeDiff, Nat.reduceAdd, Nat.reduceSub]; with_reducible exact hC); refine gc ?_) | refine gm ?_)
        refine tReq_ev 10 T8 H9 p L9 (by omega) (metaF 2 (.ofNat 300) 0 []) hf2 (by show Int.ofNat 2 < Int.ofNat 6; decide) (by show Int.ofNat 2 ≠ Int.ofNat 5; decide) (getR M2 (metaF 2 (.ofNat 300) 0 [])) hMo2 (fun s S => getIs S (by omega) hf2 rfl) _ (fun d pre post e _ h2 => ?_) (fun _ TB HB sB LB => ?_)
        · have h3 := hrid2 d (by rw [e]; exact List.mem_append_right _ (List.mem_cons_self ..))
          rw [h2] at h3
          have h4 : (300 : Int) < ((200 + j : Nat) : Int) := h3
          omega
        have stB := st9.trans (sB.mono fun u h => ol7 h)
        have hMm : M2 mn = if g = 0 then none else some (.ofNat g, md g) := hdm.trans hI.m
        by_cases hg : g = 0
        · have hres : (getR M2 (metaF 2 (.ofNat 300) 0 [])).2 = ansL (metaF 2 (.ofNat 300) 0 []) (.ofNat 0) [] := by
            unfold getR
            rw [metaF_n, hMm, if_pos hg]
          rw [hres]
          subst hg
          show Xk lib _ _ (kput _ _ (.tup [.agg [.int .i64 (.ofNat 6), .int .i64 (.ofNat 1), .int .i64 (.ofNat 3), .int .i64 (.ofNat 300), .int .i64 (.ofNat 0), .int .i64 (.ofNat 1), .str [107], .int .i64 (.ofNat 0), .str []], .bool true])) HB _
          have hgC := Heap.get_new_self HB (.cells [.int .i64 (.ofNat 6), .int .i64 (.ofNat 1), .int .i64 (.ofNat 3), .int .i64 (.ofNat 300), .int .i64 (.ofNat 0), .int .i64 (.ofNat 1), .str [107], .int .i64 (.ofNat 0), .str []] 1)
          repeat (first | ((first | apply Xk.sAny | apply Xk.tAny); (case hok => rfl); (case h => intro C hC; simp (disch := omega) only [w1, ↓reduceIte, Nat.reduceEqDiff, Nat.reduceLeDiff, Nat.reduceAdd, Nat.reduceSub]; with_reducible exact hC); refine gc ?_) | refine gm ?_)
          repeat (first | ((first | apply Xk.sAny | apply Xk.tAny); (case hok => rfl); (case h => intro C hC; simp (disch := omega) only [w1, ↓reduceIte, Nat.reduceEqDiff, Nat.reduceLeDiff, Nat.reduceAdd, Nat.reduceSub, hgC, eq_self]; with_reducible exact hC); refine gc ?_) | refine gm ?_)
          refine SRuns_ev _ _ ?_
          repeat (first | ((first | apply Xk.sAny | apply Xk.tAny); (case hok => rfl); (case h => intro C hC; simp (disch := omega) only [w1, ↓reduceIte, Nat.reduceEqDiff, Nat.reduceLeDiff, Nat.reduceAdd, Nat.reduceSub]; with_reducible exact hC); refine gc ?_) | refine gm ?_)
          rfl
        · have hres : (getR M2 (metaF 2 (.ofNat 300) 0 [])).2 = ansL (metaF 2 (.ofNat 300) 0 []) (.ofNat g) (md g) := by
            unfold getR
            rw [metaF_n, hMm, if_neg hg]
          rw [hres]
          show Xk lib _ _ (kput _ _ (.tup [.agg [.int .i64 (.ofNat 6), .int .i64 (.ofNat 1), .int .i64 (.ofNat 3), .int .i64 (.ofNat 300), .int .i64 (.ofNat 0), .int .i64 (.ofNat 1), .str [107], .int .i64 (.ofNat g), .str (114 :: dec g)], .bool true])) HB _
          obtain ⟨TC, sC, aC⟩ := new1 (T := TB) stB.ok (0, 6, 0) (.cells [.int .i64 (.ofNat 6), .int .i64 (.ofNat 1), .int .i64 (.ofNat 3), .int .i64 (.ofNat 300), .int .i64 (.ofNat 0), .int .i64 (.ofNat 1), .str [107], .int .i64 (.ofNat g), .str (114 :: dec g)] 1)
          have hgC := aC.1
          have stC := stB.trans (sC.mono (P := OL) fun _ h => h.elim)
          have hg' := eq_false hg
          have hdx := dec_len hI.g20
          have hadd : bin .add (.str [114]) (.str (dec g)) = some (.str (114 :: dec g)) := add_str [114] (dec g) (by simp; omega)
          repeat (first | ((first | apply Xk.sAny | apply Xk.tAny); (case hok => rfl); (case h => intro C hC; simp (disch := omega) only [w1, ↓reduceIte, Nat.reduceEqDiff, Nat.reduceLeDiff, Nat.reduceAdd, Nat.reduceSub]; with_reducible exact hC); refine gc ?_) | refine gm ?_)
          repeat (first | ((first | apply Xk.sAny | apply Xk.tAny); (case hok => rfl); (case h => intro C hC; simp (disch := omega) only [w1, ↓reduceIte, Nat.reduceEqDiff, Nat.reduceLeDiff, Nat.reduceAdd, Nat.reduceSub, hgC, eq_self, hg']; with_reducible exact hC); refine gc ?_) | refine gm ?_)
          refine Itoa_ev g (by have := hI.g20; omega) _ (tab_stp hT stC) _ fun HD hOD hleD => ?_
          have hgD := hleD _ _ hgC
          repeat (first | ((first | apply Xk.sAny | apply Xk.tAny); (case hok => rfl); (case h => intro C hC; simp (disch := omega) only [w1, ↓reduceIte, Nat.reduceEqDiff, Nat.reduceLeDiff, Nat.reduceAdd, Nat.reduceSub, hgD, hadd, eq_self]; with_reducible exact hC); refine gc ?_) | refine gm ?_)
          refine SRuns_ev _ _ ?_
          repeat (first | ((first | apply Xk.sAny | apply Xk.tAny); (case hok => rfl); (case h => intro C hC; simp (disch := omega) only [w1, ↓reduceIte, Nat.reduceEqDiff, Nat.reduceLeDiff, Nat.reduceAdd, Nat.reduceSub]; with_reducible exact hC); refine gc ?_) | refine gm ?_)
          rfl
end Go.Proofs.YtihoblfmhighpaaDoor
