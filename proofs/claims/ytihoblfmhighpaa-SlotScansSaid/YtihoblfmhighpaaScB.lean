/- The slot: a scan. Conditions: none. -/
import Derived.Test.YtihoblfmhighpaaScA
namespace Go.Proofs.Ytihoblfmhighpaa
open Go.Dp
set_option linter.unusedSimpArgs false
set_option linter.unusedVariables false
set_option maxHeartbeats 400000
set_option maxRecDepth 8000
attribute [local irreducible] Ex.thnK Ex.inK Ret

theorem gtrs (a b : List UInt8) : bin .gtr (.str a) (.str b) = some (.bool (bltB b a)) := by
  show some (AV.bool (!(bltB a b || beqB a b))) = _
  rw [beqB_eq]
  congr 2
  cases h1 : bltB a b with
  | true => rw [le_of_lt h1]; rfl
  | false =>
    cases h2 : bltB b a with
    | true =>
      have : a ≠ b := fun e => by rw [e, blt_irr] at h2; cases h2
      simp [this]
    | false => have := blt_tot h1 h2; subst this; simp
theorem mn_nat (a b : Nat) : mm false (.int .i64 (.ofNat a)) (.int .i64 (.ofNat b)) = some (.int .i64 (.ofNat (min a b))) := by
  have e : mm false (.int .i64 (.ofNat a)) (.int .i64 (.ofNat b)) = some (.int .i64 (bif Nat.ble a b then .ofNat a else .ofNat b)) := rfl
  rw [e, nble]
  by_cases h : a ≤ b
  · rw [decide_eq_true h, Nat.min_eq_left h]; rfl
  · rw [decide_eq_false h, Nat.min_eq_right (by omega)]; rfl
theorem behind_app (a b : List (List UInt8)) (k : List UInt8) : behind (a ++ b) k = behind a k ++ behind b k := List.filter_append ..
abbrev O9 (κ : Nat) : Tg → Prop := fun u => u.1 = κ + 6 ∧ u.2.1 = 9
theorem o9 (κ c : Nat) : O9 κ (κ + 6, 9, c) := ⟨rfl, rfl⟩
theorem n9 {κ : Nat} {t : Tg} (h : Ok4 κ t) : ¬ O9 κ t := fun q => by have := h.2; omega
theorem rt_txt {T : Tags} {H : Heap} {t : Tg} {v : AV} {z : List (List UInt8)} (h : RT T H t 0 1 v (strs z)) (h0 : 0 < z.length) : ∃ c cl, v = .sl c 0 z.length 1 ∧ H.get c = some (.cells cl 1) ∧ T c = t ∧ z.length ≤ cl.length ∧ ∀ i, i < z.length → i + 1 ≤ cl.length ∧ (cl.drop i).take 1 = [.str (gz z i)] := by
  rcases h with ⟨rfl, hz⟩ | ⟨c, len, cl, rfl, h2, h3, h4, h5, h6⟩
  · have : z.length = 0 := by rw [← strs_len, hz]; rfl
    omega
  · rw [strs_len, Nat.mul_one] at h2
    subst h2
    rw [strs_len] at h4 h5
    refine ⟨c, cl, rfl, h3, h6, h4, fun i hi => ⟨by omega, ?_⟩⟩
    have e : cl = strs z ++ cl.drop z.length := by
      have := List.take_append_drop z.length cl
      rw [h5] at this
      exact this.symm
    rw [e]
    exact strs_at hi _

theorem scan_loop (κ : Nat) (T : Tags) (H : Heap) (hO : H.Ok) (w : List (List UInt8)) (hw : ∀ k ∈ w, k.length ≤ 20000) (n : Nat) (hn : n = min w.length 16) (v2 : AV) (hat : 0 < n → ∃ c cl, v2 = .sl c 0 n 1 ∧ H.get c = some (.cells cl 1) ∧ T c = (κ + 6, 9, 1) ∧ ∀ i, i < n → i + 1 ≤ cl.length ∧ (cl.drop i).take 1 = [.str (gz w i)])
    (Q : Ex → Kn → Heap → Prop) (hexit : ∀ k' G T' vb, [8].all (has k'.keys) = true → k'.only [8] = [(8, vb)] → Stp (O9 κ) T H T' G → RT T' G (κ + 6, 9, 2) 2 1 vb (ofBytes (txsB (w.take 16))) → Q (.exit 2) k' G) :
    Xk lib 54 (.loop l1_slot_Slot_scan) [(8, .nils), (42, v2), (43, .int .i64 (.ofNat n)), (44, .int .i64 (.ofNat 0))] H Q := by
  refine Xk.iter [8, 42, 43, 44] (fun m k G => ∃ i vb T', m = n - i ∧ i ≤ n ∧ Stp (fun u => u = (κ + 6, 9, 2)) T H T' G ∧ RT T' G (κ + 6, 9, 2) 2 1 vb (ofBytes (txsB (w.take i))) ∧ k = [(8, vb), (42, v2), (43, .int .i64 (.ofNat n)), (44, .int .i64 (.ofNat i))]) rfl
    ⟨_, 0, .nils, T, rfl, Nat.zero_le _, Stp.refl hO, RT.nil, rfl⟩ ?_
  rintro m k G ⟨i, vb, T', rfl, hi, hst, hr, rfl⟩
  unfold l1_slot_Slot_scan
  by_cases ci : i < n
  case neg =>
    have e : w.take i = w.take 16 := by
      by_cases h : w.length ≤ 16
      · rw [List.take_of_length_le (by omega), List.take_of_length_le h]
      · rw [show i = 16 by omega]
    rw [e] at hr
    iterate 2 repeat (first | ((first | apply Xk.sAny | apply Xk.tAny); (case hok => rfl); (case h => intro C hC; simp (disch := omega) only [w1, ↓reduceIte, Nat.reduceEqDiff, Nat.reduceLeDiff, Nat.reduceAdd, Nat.reduceSub, ci]; with_reducible exact hC); refine gc ?_) | refine gm ?_)
    exact hexit _ G T' vb rfl rfl (hst.mono fun u h => by rw [h]; exact o9 κ 2) hr
  obtain ⟨c, cl, rfl, gk, gt, hat⟩ := hat (by omega)
  obtain ⟨b1, d1⟩ := hat i ci
  have gkG := hst.kp _ _ gk (by rw [gt]; exact tgn (.inr (by decide)))
  have hil : i < w.length := by omega
  have hmem : gz w i ∈ w := by
    unfold gz
    rw [List.getD_eq_getElem?_getD, List.getElem?_eq_getElem hil]
    exact List.getElem_mem hil
  have hkl := hw _ hmem
  have hsn : w.take (i + 1) = w.take i ++ [gz w i] := by
    unfold gz
    rw [List.take_add_one, List.getD_eq_getElem?_getD, List.getElem?_eq_getElem hil]
    rfl
  generalize gz w i = kk at d1 hsn hkl
  have hbl : (txsB (w.take i)).length ≤ 1000000 := by
    have : ∀ l : List (List UInt8), (∀ k ∈ l, k.length ≤ 20000) → (txsB l).length ≤ l.length * 20010 := by
      intro l
      induction l with
      | nil => intro _; exact Nat.le_refl _
      | cons a l ih =>
        intro h
        have h1 := ih fun k hk => h k (List.mem_cons_of_mem _ hk)
        have h2 := h a (List.mem_cons_self ..)
        have h3 : (txB a).length ≤ 10 + a.length := by
          unfold txB
          rw [List.length_append]
          have := vi_len10 (u := zig ((a.length : Nat) : Int)) (zig_lt (by omega) (by omega))
          omega
        show (txB a ++ txsB l).length ≤ _
        rw [List.length_append, List.length_cons]
        omega
    have h1 := this (w.take i) fun k hk => hw k (List.mem_of_mem_take hk)
    rw [List.length_take] at h1
    have : min i w.length ≤ 16 := by omega
    have := Nat.mul_le_mul_right 20010 this
    omega
  iterate 2 repeat (first | ((first | apply Xk.sAny | apply Xk.tAny); (case hok => rfl); (case h => intro C hC; simp (disch := omega) only [w1, ↓reduceIte, Nat.reduceEqDiff, Nat.reduceLeDiff, Nat.reduceAdd, Nat.reduceSub, ci, gkG, b1, d1]; with_reducible exact hC); refine gc ?_) | refine gm ?_)
  refine Text_ev T' G (κ + 6, 9, 2) vb _ kk hr.sl hbl (by omega) _ fun v3 T3 G3 s3 r3 => ?_
  iterate 2 repeat (first | ((first | apply Xk.sAny | apply Xk.tAny); (case hok => rfl); (case h => intro C hC; simp (disch := omega) only [w1, ↓reduceIte, Nat.reduceEqDiff, Nat.reduceLeDiff, Nat.reduceAdd, Nat.reduceSub]; with_reducible exact hC); refine gc ?_) | refine gm ?_)
  refine ⟨rfl, _, by omega, i + 1, v3, T3, rfl, by omega, hst.trans s3, ?_, rfl⟩
  rw [hsn, txsB_app]
  have : txsB [kk] = txB kk := by show txB kk ++ [] = _; rw [List.append_nil]
  rw [this]
  exact r3

theorem scan_ev (κ : Nat) (T : Tags) (H : Heap) (p : Nat) (s : Sw) (h : SW κ T H p s) (hf : s.st.Few) (hne : ∀ x ∈ s.st.l, x.key ≠ []) (hl : s.st.l.length < 65536) (hks : ∀ x ∈ s.st.l, x.key.length ≤ 20000) (from_ : List UInt8) (Q : AV → Heap → Prop)
    (hQ : ∀ w T' H', w.Perm (behind (metaKeys (s.st.l.map (·.key))) from_) → Sd 0 w.length w → Stp (O9 κ) T H T' H' → Q (.str (txsB (w.take 16))) H') : Eo lib n_slot_Slot_scan [.ptr p 0, .str from_] H Q := by
  refine Eo.ok fun hOk => ?_
  refine Eo.code at_slot_Slot_scan rfl ?_
  obtain ⟨ps, vd, S⟩ := h
  have hg := S.head.1
  iterate 2 repeat (first | ((first | apply Xk.sAny | apply Xk.tAny); (case hok => rfl); (case h => intro C hC; simp (disch := omega) only [w1, ↓reduceIte, Nat.reduceEqDiff, Nat.reduceLeDiff, Nat.reduceAdd, Nat.reduceSub, hg]; with_reducible exact hC); refine gc ?_) | refine gm ?_)
  refine Keys_ev (κ + 1) T H ps s.st S.store hf (κ + 6, 9, 0) (by rintro ⟨_, h⟩; dsimp only at h; omega) _ fun vk T1 H1 s1 rk => ?_
  generalize hK : s.st.l.map (·.key) = keys at rk hQ
  have hKl : keys.length = s.st.l.length := by rw [← hK, List.length_map]
  have hnd : keys.Nodup := by rw [← hK]; exact S.store.ok.ky
  have hne' : ∀ k ∈ keys, k ≠ [] := fun k hk => by rw [← hK] at hk; obtain ⟨x, hx, rfl⟩ := List.mem_map.1 hk; exact hne x hx
  have hks' : ∀ k ∈ keys, k.length ≤ 20000 := fun k hk => by rw [← hK] at hk; obtain ⟨x, hx, rfl⟩ := List.mem_map.1 hk; exact hks x hx
  have hst1 : Stp (O9 κ) T H T1 H1 := s1.mono fun u h => by rw [h]; exact o9 κ 0
  have lk := rk.lens (by decide)
  rw [strs_len, Nat.div_one] at lk
  iterate 2 repeat (first | ((first | apply Xk.sAny | apply Xk.tAny); (case hok => rfl); (case h => intro C hC; simp (disch := omega) only [w1, ↓reduceIte, Nat.reduceEqDiff, Nat.reduceLeDiff, Nat.reduceAdd, Nat.reduceSub, lk]; with_reducible exact hC); refine gc ?_) | refine gm ?_)
  have hlast : (metaKeys keys).Nodup := metaKeys_nodup hnd
  refine lcut [0, 1, 5] (fun k G => ∃ v T', Stp (O9 κ) T H T' G ∧ RT T' G (κ + 6, 9, 1) 0 1 v (strs (behind (metaKeys keys) from_)) ∧ k = [(0, .ptr p 0), (1, .str from_), (5, v)])
    (Xk.iter [0, 1, 5, 15, 16, 17] (fun m k G => ∃ i v T', m = keys.length - i ∧ i ≤ keys.length ∧ Stp (O9 κ) T H T' G ∧ RT T' G (κ + 6, 9, 0) 0 1 vk (strs keys) ∧ RT T' G (κ + 6, 9, 1) 0 1 v (strs (behind (metaKeys (keys.take i)) from_)) ∧
      k = [(0, .ptr p 0), (1, .str from_), (5, v), (15, vk), (16, .int .i64 (.ofNat keys.length)), (17, .int .i64 (.ofNat i))]) rfl ⟨_, 0, .nils, T1, rfl, Nat.zero_le _, hst1, rk, RT.nil, rfl⟩ ?_) ?_
  · clear hst1 rk
    rintro m k G ⟨i, v, T', rfl, hi, hst, rk, hr, rfl⟩
    unfold l0_slot_Slot_scan
    by_cases ci : i < keys.length
    case neg =>
      iterate 2 repeat (first | ((first | apply Xk.sAny | apply Xk.tAny); (case hok => rfl); (case h => intro C hC; simp (disch := omega) only [w1, ↓reduceIte, Nat.reduceEqDiff, Nat.reduceLeDiff, Nat.reduceAdd, Nat.reduceSub, ci]; with_reducible exact hC); refine gc ?_) | refine gm ?_)
      rw [List.take_of_length_le (by omega)] at hr
      exact ⟨rfl, rfl, v, T', hst, hr, rfl⟩
    obtain ⟨c, cl, rfl, gk, gt, _, hat⟩ := rt_txt rk (by omega)
    obtain ⟨b1, d1⟩ := hat i ci
    have hmem : gz keys i ∈ keys := by
      unfold gz
      rw [List.getD_eq_getElem?_getD, List.getElem?_eq_getElem ci]
      exact List.getElem_mem ci
    have hsn : keys.take (i + 1) = keys.take i ++ [gz keys i] := by
      unfold gz
      rw [List.take_add_one, List.getD_eq_getElem?_getD, List.getElem?_eq_getElem ci]
      rfl
    have hn0 := hne' _ hmem
    have hn1 := hks' _ hmem
    generalize gz keys i = kk at d1 hsn hn0 hn1
    cases kk with
    | nil => exact absurd rfl hn0
    | cons x k =>
      have hix : rIxstr (.str (x :: k)) (.int .i64 (.ofNat 0)) = some (.int .u8 (.ofNat x.toNat)) := ixs (x :: k) .i64 0 (by simp)
      have hsl : ∀ fr, rSlstr fr (.str (x :: k)) (some (.c (.int .i64 (.ofNat 1)))) none = some (.str k) := fun fr => by
        simp [rSlstr, bnds, X.ev, bnd, natOf, nble]
      have hmk : metaKeys (keys.take (i + 1)) = metaKeys (keys.take i) ++ (if x = 109 then [k] else []) := by
        rw [hsn, metaKeys_app, metaKeys]
        split <;> rfl
      have hx109 : (Int.ofNat x.toNat = Int.ofNat 109) ↔ x = 109 := ⟨fun h => UInt8.toNat_inj.1 (by have := Int.ofNat.inj h; rw [this]; rfl), fun h => by rw [h]; rfl⟩
      by_cases cx : x = 109
      · have cx' := eq_true (hx109.2 cx)
        rw [if_pos cx] at hmk
        cases hb : bltB from_ k with
        | false =>
          have he : behind (metaKeys (keys.take (i + 1))) from_ = behind (metaKeys (keys.take i)) from_ := by
            rw [hmk, behind_app]
            show _ ++ List.filter _ [k] = _
            rw [List.filter_cons, hb]
            simp
          iterate 2 repeat (first | ((first | apply Xk.sAny | apply Xk.tAny); (case hok => rfl); (case h => intro C hC; simp (disch := omega) only [w1, ↓reduceIte, Nat.reduceEqDiff, Nat.reduceLeDiff, Nat.reduceAdd, Nat.reduceSub, ci, gk, b1, d1, hix, hsl, cx', gtrs, hb]; with_reducible exact hC); refine gc ?_) | refine gm ?_)
          exact ⟨rfl, _, by omega, i + 1, v, T', rfl, by omega, hst, rk, by rw [he]; exact hr, rfl⟩
        | true =>
          have he : behind (metaKeys (keys.take (i + 1))) from_ = behind (metaKeys (keys.take i)) from_ ++ [k] := by
            rw [hmk, behind_app]
            show _ ++ List.filter _ [k] = _
            rw [List.filter_cons, hb]
            rfl
          have hbl : (behind (metaKeys (keys.take i)) from_).length ≤ 65536 := by
            have h1 : (behind (metaKeys (keys.take i)) from_).length ≤ (metaKeys (keys.take i)).length := List.length_filter_le ..
            have h2 : ∀ l : List (List UInt8), (metaKeys l).length ≤ l.length := by
              intro l
              induction l with
              | nil => exact Nat.le_refl _
              | cons a l ih =>
                cases a with
                | nil => rw [metaKeys, List.length_cons]; omega
                | cons c r => rw [metaKeys]; split <;> simp only [List.length_cons] <;> omega
            have h3 := h2 (keys.take i)
            rw [List.length_take] at h3
            omega
          obtain ⟨v2, G2, T2, f1, f2, f3⟩ := RT.push (bytes := 16) (w := 1) (row := [.str k]) hst.ok hr rfl rfl (by decide) (by rw [strs_len]; omega) (by rw [strs_len]; omega)
          obtain ⟨q1, q2⟩ := hr.sc
          obtain ⟨q3, q4⟩ := f3.sc
          have rk2 := rk.step f2 (tgn (.inr (by decide)))
          iterate 2 repeat (first | ((first | apply Xk.sAny | apply Xk.tAny); (case hok => rfl); (case h => intro C hC; simp (disch := omega) only [w1, ↓reduceIte, Nat.reduceEqDiff, Nat.reduceLeDiff, Nat.reduceAdd, Nat.reduceSub, ci, gk, b1, d1, hix, hsl, cx', gtrs, hb, q1, q2, f1]; with_reducible exact hC); refine gc ?_) | refine gm ?_)
          refine ⟨rfl, _, by omega, i + 1, v2, T2, rfl, by omega, hst.trans (f2.mono fun u h => by rw [h]; exact o9 κ 1), rk2, ?_, rfl⟩
          rw [he, strs_app]
          exact f3
      · have cx' := eq_false (fun h => cx (hx109.1 h))
        rw [if_neg cx, List.append_nil] at hmk
        rw [← hmk] at hr
        iterate 2 repeat (first | ((first | apply Xk.sAny | apply Xk.tAny); (case hok => rfl); (case h => intro C hC; simp (disch := omega) only [w1, ↓reduceIte, Nat.reduceEqDiff, Nat.reduceLeDiff, Nat.reduceAdd, Nat.reduceSub, ci, gk, b1, d1, hix, hsl, cx']; with_reducible exact hC); refine gc ?_) | refine gm ?_)
        exact ⟨rfl, _, by omega, i + 1, v, T', rfl, by omega, hst, rk, hr, rfl⟩
  clear hst1 rk lk hK
  rintro k G ⟨v, T2, hst, hr, rfl⟩
  have hlen : (behind (metaKeys keys) from_).length < 65536 := by
    have h1 : (behind (metaKeys keys) from_).length ≤ (metaKeys keys).length := List.length_filter_le ..
    have h2 : ∀ l : List (List UInt8), (metaKeys l).length ≤ l.length := by
      intro l
      induction l with
      | nil => exact Nat.le_refl _
      | cons a l ih =>
        cases a with
        | nil => rw [metaKeys, List.length_cons]; omega
        | cons c r => rw [metaKeys]; split <;> simp only [List.length_cons] <;> omega
    have h3 := h2 keys
    omega
  have hksl : ∀ k ∈ behind (metaKeys keys) from_, k.length ≤ 20000 := fun k hk => by
    have h1 : k ∈ metaKeys keys := (List.mem_filter.1 hk).1
    have := hks' _ (metaKeys_mem.1 h1)
    rw [List.length_cons] at this
    omega
  have hnd2 : (behind (metaKeys keys) from_).Nodup := hlast.sublist List.filter_sublist
  iterate 2 repeat (first | ((first | apply Xk.sAny | apply Xk.tAny); (case hok => rfl); (case h => intro C hC; simp (disch := omega) only [w1, ↓reduceIte, Nat.reduceEqDiff, Nat.reduceLeDiff, Nat.reduceAdd, Nat.reduceSub]; with_reducible exact hC); refine gc ?_) | refine gm ?_)
  refine SortS_ev T2 G (κ + 6, 9, 1) v _ hr hnd2 hlen _ fun G2 w s2 hr2 hp hs => ?_
  have hst2 := hst.trans (s2.mono (P := O9 κ) fun u h => by rw [h]; exact o9 κ 1)
  have hwl := hp.length_eq
  have hQw := fun T' H' => hQ w T' H' hp hs
  have hkw : ∀ k ∈ w, k.length ≤ 20000 := fun k hk => hksl k (hp.mem_iff.1 hk)
  generalize behind (metaKeys keys) from_ = z at hwl hlen
  have lw := hr2.lens (by decide)
  rw [strs_len, Nat.div_one] at lw
  have hmin : min w.length 16 ≤ w.length := Nat.min_le_left _ _
  have hmm : ∀ fr, mms false fr (.int .i64 (.ofNat w.length)) [.c (.int .i64 (.ofNat 16))] = some (.int .i64 (.ofNat (min w.length 16))) := fun fr => by
    simp only [mms, X.ev, mn_nat]
  have hO2 := s2.ok
  rcases hr2 with ⟨rfl, hz⟩ | ⟨c, len, cl, rfl, h2, h3, h4, h5, h6⟩
  · have e0 : w.length = 0 := by rw [← strs_len, hz]; rfl
    have e1 : min w.length 16 = 0 := by omega
    rw [e1, e0] at hmm
    rw [e0] at lw
    iterate 2 repeat (first | ((first | apply Xk.sAny | apply Xk.tAny); (case hok => rfl); (case h => intro C hC; simp (disch := omega) only [w1, ↓reduceIte, Nat.reduceEqDiff, Nat.reduceLeDiff, Nat.reduceAdd, Nat.reduceSub, lw, rMm, hmm]; with_reducible exact hC); refine gc ?_) | refine gm ?_)
    refine Xk.only [8, 42, 43, 44] rfl ?_
    refine scan_loop κ T2 G2 hO2 w hkw 0 e1.symm .nils (fun h => by omega) _ fun k' G3 T3 vb hall hk s3 r3 => Ex.in_hit (Ex.thn_n (Xk.only [8] hall ?_))
    rw [hk]
    have hs := rt_str r3
    iterate 2 repeat (first | ((first | apply Xk.sAny | apply Xk.tAny); (case hok => rfl); (case h => intro C hC; simp (disch := omega) only [w1, ↓reduceIte, Nat.reduceEqDiff, Nat.reduceLeDiff, Nat.reduceAdd, Nat.reduceSub, hs]; with_reducible exact hC); refine gc ?_) | refine gm ?_)
    exact hQw T3 G3 (hst2.trans s3)
  · rw [strs_len, Nat.mul_one] at h2
    subst h2
    rw [strs_len] at h4 h5
    have hle : min w.length 16 ≤ cl.length := by omega
    have hcl : cl = strs w ++ cl.drop w.length := by
      have := List.take_append_drop w.length cl
      rw [h5] at this
      exact this.symm
    iterate 2 repeat (first | ((first | apply Xk.sAny | apply Xk.tAny); (case hok => rfl); (case h => intro C hC; simp (disch := omega) only [w1, ↓reduceIte, Nat.reduceEqDiff, Nat.reduceLeDiff, Nat.reduceAdd, Nat.reduceSub, lw, rMm, hmm, h3, hle]; with_reducible exact hC); refine gc ?_) | refine gm ?_)
    refine Xk.only [8, 42, 43, 44] rfl ?_
    refine scan_loop κ T2 G2 hO2 w hkw (min w.length 16) rfl (.sl c 0 (min w.length 16) 1) (fun _ => ⟨c, cl, rfl, h3, h6, fun i hi => ⟨by omega, by rw [hcl]; exact strs_at (by omega) _⟩⟩) _ fun k' G3 T3 vb hall hk s3 r3 => Ex.in_hit (Ex.thn_n (Xk.only [8] hall ?_))
    rw [hk]
    have hs := rt_str r3
    iterate 2 repeat (first | ((first | apply Xk.sAny | apply Xk.tAny); (case hok => rfl); (case h => intro C hC; simp (disch := omega) only [w1, ↓reduceIte, Nat.reduceEqDiff, Nat.reduceLeDiff, Nat.reduceAdd, Nat.reduceSub, hs]; with_reducible exact hC); refine gc ?_) | refine gm ?_)
    exact hQw T3 G3 (hst2.trans s3)
end Go.Proofs.Ytihoblfmhighpaa
