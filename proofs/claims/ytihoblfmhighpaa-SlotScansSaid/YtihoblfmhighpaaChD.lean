/- The hash table: put, get, drop, new, len. Conditions: none. -/
import Derived.Test.YtihoblfmhighpaaChC
namespace Go.Proofs.Ytihoblfmhighpaa
open Go.Dp
set_option linter.unusedSimpArgs false
set_option linter.unusedVariables false
set_option maxHeartbeats 400000
set_option maxRecDepth 8000
attribute [local irreducible] Ex.thnK Ex.inK Ret

theorem rep_eq (n : Nat) (x : AV) : rep n [x] = List.replicate n x := by
  induction n with
  | zero => rfl
  | succ n ih => show [x] ++ rep n [x] = _; rw [ih]; rfl
theorem mksl_nils (N : Nat) (h : N ≤ 100000) : nMksl 0 1 24 [.nils] (.int .i64 (.ofNat N)) (.int .i64 (.ofNat N)) = some (.cells (List.replicate N .nils) 1, slTo N 1) := by
  unfold nMksl
  simp only [natOf, nble, nbeq, rep_eq]
  rw [decide_eq_true (show N ≤ N from Nat.le_refl _), decide_eq_true (show 24 * N ≤ 140737488355328 by omega), decide_eq_true (show N ≤ 140737488355328 by omega)]
  rfl
theorem getD_rep (n i : Nat) : (List.replicate n AV.nils).getD i .nils = .nils := by
  rw [List.getD_eq_getElem?_getD, List.getElem?_replicate]
  split <;> rfl
theorem getD_repb (n i : Nat) : (List.replicate n ([] : List En)).getD i [] = [] := by
  rw [List.getD_eq_getElem?_getD, List.getElem?_replicate]
  split <;> rfl
theorem Arr.fresh (ω : Nat) {T : Tags} {H : Heap} {c : Nat} (n : Nat) (h : At T H (ω, n, 0) c (.cells (List.replicate n .nils) 1)) : Arr ω T H c (List.replicate n .nils) (List.replicate n []) := by
  refine ⟨by rw [List.length_replicate]; exact h, by rw [List.length_replicate, List.length_replicate], fun i hi => ?_⟩
  rw [getD_rep, getD_repb]
  exact RT.nil

theorem New_ev (ω : Nat) (T : Tags) (H : Heap) (Q : AV → Heap → Prop) (hQ : ∀ T' H' p, Stp (fun _ => False) T H T' H' → Ch ω T' H' p [] → Q (.ptr p 0) H') : Eo lib n_chain_New [] H Q := by
  refine Eo.ok fun hOk => ?_
  refine Eo.code at_chain_New rfl ?_
  have hmk := mksl_nils 4 (by decide)
  iterate 2 repeat (first | ((first | apply Xk.sAny | apply Xk.tAny); (case hok => rfl); (case h => intro C hC; simp (disch := omega) only [w1, ↓reduceIte, Nat.reduceEqDiff, Nat.reduceLeDiff, Nat.reduceAdd, Nat.reduceSub, hmk]; with_reducible exact hC); refine gc ?_) | refine gm ?_)
  have s1 := Stp.new (O := fun _ => False) (T := T) hOk (ω, 4, 0) (.cells (List.replicate 4 .nils) 1)
  have a1 := At.new (T := T) (H := H) (ω, 4, 0) (.cells (List.replicate 4 .nils) 1)
  have s2 := Stp.new (O := fun _ => False) (T := T.lay H.next (ω, 4, 0)) s1.ok (ω, 0, 0) (.cells [.sl H.next 0 4 1, .nils, .int .i64 (.ofNat 0), .int .i64 (.ofNat 0)] 1)
  have a2 := At.new (T := T.lay H.next (ω, 4, 0)) (H := H.new (.cells (List.replicate 4 .nils) 1)) (ω, 0, 0) (.cells [.sl H.next 0 4 1, .nils, .int .i64 (.ofNat 0), .int .i64 (.ofNat 0)] 1)
  exact hQ _ _ _ (s1.trans s2) ⟨H.next, List.replicate 4 .nils, List.replicate 4 [], .nils, [], 0, a2, (Arr.fresh ω 4 a1).step s2 (fun _ h => h), .inl ⟨rfl, rfl⟩, ChP.new, by decide⟩

theorem bk_no {M bk : List En} {key : List UInt8} (hmem : ∀ x, (key, x) ∈ M ↔ (key, x) ∈ bk) (hno : ∀ e ∈ M, ¬ e.1 = key) : ∀ e ∈ bk, ¬ e.1 = key := by
  intro e he hk
  have : (key, e.2) ∈ bk := by rw [← hk]; exact he
  exact hno _ ((hmem _).2 this) rfl
theorem getD_mem {b : List En} {i : Nat} (hi : i < b.length) : b.getD i ([], 0) ∈ b := by
  rw [List.getD_eq_getElem?_getD, List.getElem?_eq_getElem hi]; exact List.getElem_mem hi

theorem Get_ev (ω : Nat) (T : Tags) (H : Heap) (p : Nat) (M : List En) (key : List UInt8) (hC : Ch ω T H p M) (hk : key.length ≤ 1000000) (hM : M.length ≤ 100000) (Q : AV → Heap → Prop)
    (hno : (∀ e ∈ M, ¬ e.1 = key) → ∀ H', H'.Ok → HLe H H' → Q (.tup [.int .i64 (.ofNat 0), .bool false]) H')
    (hyes : ∀ n, (key, n) ∈ M → ∀ H', H'.Ok → HLe H H' → Q (.tup [.int .i64 (.ofNat n), .bool true]) H') : Eo lib n_chain_Chain_Get [.ptr p 0, .str key] H Q := by
  refine Eo.ok fun hOk => ?_
  refine Eo.code at_chain_Chain_Get rfl ?_
  repeat (first | ((first | apply Xk.sAny | apply Xk.tAny); (case hok => rfl); (case h => intro C hC; simp (disch := omega) only [w1, ↓reduceIte, Nat.reduceEqDiff, Nat.reduceLeDiff, Nat.reduceAdd, Nat.reduceSub]; with_reducible exact hC); refine gc ?_) | refine gm ?_)
  refine bucket_ev ω T H p M key hC hk _ fun c j vs n bk a b m B => ?_
  have hg := B.arr.1
  have hj := B.hj
  have hld : (vs.drop j).take 1 = [vs.getD j .nils] := by
    rw [List.drop_eq_getElem_cons hj, List.getD_eq_getElem?_getD, List.getElem?_eq_getElem hj]; rfl
  have hj1 : j + 1 ≤ vs.length := hj
  have hrow := B.row
  generalize vs.getD j .nils = v at hld hrow
  obtain ⟨hv1, hv2, hv3⟩ := RT.lensG (g := En.cells) (fun _ => rfl) hrow (by decide)
  have hbl := B.len
  repeat (first | ((first | apply Xk.sAny | apply Xk.tAny); (case hok => rfl); (case h => intro C hC; simp (disch := omega) only [w1, ↓reduceIte, Nat.reduceEqDiff, Nat.reduceLeDiff, Nat.reduceAdd, Nat.reduceSub, hg, hld, hj1, hv3]; with_reducible exact hC); refine gc ?_) | refine gm ?_)
  refine find_ev T _ v bk key H hrow (by omega) _ (fun hn H' hO' hle' => ?_) (fun i hi hik H' hO' hle' => ?_)
  · have h0 : (.ofNat 0 ≤ Int.negSucc 0) = False := eq_false (by decide)
    iterate 2 repeat (first | ((first | apply Xk.sAny | apply Xk.tAny); (case hok => rfl); (case h => intro C hC; simp (disch := omega) only [w1, ↓reduceIte, Nat.reduceEqDiff, Nat.reduceLeDiff, Nat.reduceAdd, Nat.reduceSub, h0]; with_reducible exact hC); refine gc ?_) | refine gm ?_)
    refine hno (fun e he hek => ?_) H' hO' hle'
    have : (key, e.2) ∈ M := by rw [← hek]; exact he
    exact hn _ ((B.mem _).1 this) rfl
  · obtain ⟨bc, cl, rfl, hgc, _, _, _, hrw⟩ := RT.rowG (g := En.cells) (fun _ => rfl) ([], 0) hrow (by omega) (by decide)
    obtain ⟨c1, rest, c2⟩ := hrw i hi
    have hgc := hle' _ _ hgc
    have d4 : (cl.drop (i * 2 + 1)).take 1 = [.int .i64 (.ofNat (bk.getD i ([], 0)).2)] := by
      rw [← List.drop_drop, c2]; rfl
    have d5 : i * 2 + 1 + 1 ≤ cl.length := c1
    repeat (first | ((first | apply Xk.sAny | apply Xk.tAny); (case hok => rfl); (case h => intro C hC; simp (disch := omega) only [w1, ↓reduceIte, Nat.reduceEqDiff, Nat.reduceLeDiff, Nat.reduceAdd, Nat.reduceSub, hi]; with_reducible exact hC); refine gc ?_) | refine gm ?_)
    iterate 2 repeat (first | ((first | apply Xk.sAny | apply Xk.tAny); (case hok => rfl); (case h => intro C hC; simp (disch := omega) only [w1, ↓reduceIte, Nat.reduceEqDiff, Nat.reduceLeDiff, Nat.reduceAdd, Nat.reduceSub, hi, hgc, d4, d5]; with_reducible exact hC); refine gc ?_) | refine gm ?_)
    exact hyes _ ((B.mem _).2 ((at_key hi hik B.nd _).2 rfl)) H' hO' hle'

theorem Put_ev (ω : Nat) (T : Tags) (H : Heap) (p : Nat) (M : List En) (key : List UInt8) (n : Nat) (hC : Ch ω T H p M) (hk : key.length ≤ 1000000) (hM : M.length < 100000) (hkl : ∀ e ∈ M, e.1.length ≤ 1000000) (hno : ∀ e ∈ M, ¬ e.1 = key) (Q : AV → Heap → Prop)
    (hQ : ∀ T' H', Stp (fun t => t.1 = ω) T H T' H' → Ch ω T' H' p (M ++ [(key, n)]) → Q (.bool true) H') : Eo lib n_chain_Chain_Put [.ptr p 0, .str key, .int .i64 (.ofNat n)] H Q := by
  refine Eo.ok fun hOk => ?_
  refine Eo.code at_chain_Chain_Put rfl ?_
  repeat (first | ((first | apply Xk.sAny | apply Xk.tAny); (case hok => rfl); (case h => intro C hC; simp (disch := omega) only [w1, ↓reduceIte, Nat.reduceEqDiff, Nat.reduceLeDiff, Nat.reduceAdd, Nat.reduceSub]; with_reducible exact hC); refine gc ?_) | refine gm ?_)
  refine step_ev ω T H p M hC (by omega) hkl _ fun T1 H1 s1 hC1 => ?_
  repeat (first | ((first | apply Xk.sAny | apply Xk.tAny); (case hok => rfl); (case h => intro C hC; simp (disch := omega) only [w1, ↓reduceIte, Nat.reduceEqDiff, Nat.reduceLeDiff, Nat.reduceAdd, Nat.reduceSub]; with_reducible exact hC); refine gc ?_) | refine gm ?_)
  refine bucket_ev ω T1 H1 p M key hC1 hk _ fun c j vs nb bk a b m B => ?_
  have hg := B.arr.1
  have hj := B.hj
  have hld : (vs.drop j).take 1 = [vs.getD j .nils] := by
    rw [List.drop_eq_getElem_cons hj, List.getD_eq_getElem?_getD, List.getElem?_eq_getElem hj]; rfl
  have hj1 : j + 1 ≤ vs.length := hj
  have hrow := B.row
  have hnb := B.hn
  generalize vs.getD j .nils = v at hld hrow
  obtain ⟨hv1, hv2, hv3⟩ := RT.lensG (g := En.cells) (fun _ => rfl) hrow (by decide)
  have hbl := B.len
  have hbn := bk_no B.mem hno
  repeat (first | ((first | apply Xk.sAny | apply Xk.tAny); (case hok => rfl); (case h => intro C hC; simp (disch := omega) only [w1, ↓reduceIte, Nat.reduceEqDiff, Nat.reduceLeDiff, Nat.reduceAdd, Nat.reduceSub, hg, hld, hj1, hv3]; with_reducible exact hC); refine gc ?_) | refine gm ?_)
  refine find_ev T1 _ v bk key H1 hrow (by omega) _ (fun hn H2 hO2 hle2 => ?_) (fun i hi hik H' hO' hle' => absurd hik (hbn _ (getD_mem hi)))
  have h0 : (.ofNat 0 ≤ Int.negSucc 0) = False := eq_false (by decide)
  have s2 : ∀ O, Stp O T1 H1 T1 H2 := fun O => Stp.le hO2 hle2
  have hg2 := hle2 _ _ hg
  have hrow2 := hrow.step (s2 (fun _ => False)) (fun h => h)
  have harr2 := B.arr.step (s2 (fun _ => False)) (fun h => h)
  have hat2 := B.at_.step (s2 (fun _ => False)) (fun h => h)
  obtain ⟨v', H3, T3, e4, s4, hr4⟩ := RT.push (bytes := 24) (w := 1) (row := En.cells (key, n)) hO2 hrow2 rfl rfl (by decide) (by rw [fme_len]; omega) (by rw [fme_len]; omega)
  rw [← fme_snoc] at hr4
  have hre := B.re T3 H3 v' (bk ++ [(key, n)]) (M ++ [(key, n)]) ((s2 _).trans s4) hr4 (fun e he => by
      rw [List.mem_append, List.mem_singleton] at he
      rcases he with he | rfl
      · exact .inl he
      · exact .inr rfl) (by
      rw [List.append_assoc]
      exact List.Perm.append_left _ List.perm_append_comm) (by
      have hd : (M.map (·.1)).Nodup := by
        obtain ⟨_, _, _, _, _, _, _, _, _, hP, _⟩ := hC1
        exact hP.nd
      rw [List.map_append, List.nodup_append]
      refine ⟨hd, by simp, fun a ha b hb => ?_⟩
      obtain ⟨e, he, rfl⟩ := List.mem_map.1 ha
      simp at hb
      subst hb
      exact hno e he)
  have harr3 := harr2.step s4 (tg_ne (.inr (by omega)))
  have hat3 := hat2.step s4 (tg_ne (.inl (by omega)))
  have hg3 := harr3.1
  have hpc : p ≠ c := hat2.ne harr2 (tg_ne (.inl (by omega)))
  have hat4 : ((H3.put c (.cells (vs.set j v') 1)).get p) = _ := (Heap.get_put_ne _ _ _ hpc).trans hat3.1
  have hstj := over_set hj v'
  obtain ⟨vc, vss⟩ := hr4.sc
  have gr2 := Heap.get_new_self H2 (.cells (En.cells (key, n)) 1)
  have hlen : (M ++ [(key, n)]).length = M.length + 1 := by rw [List.length_append]; rfl
  rw [hlen] at hre
  unfold En.cells at e4 gr2
  repeat (first | ((first | apply Xk.sAny | apply Xk.tAny); (case hok => rfl); (case h => intro C hC; simp (disch := omega) only [w1, ↓reduceIte, Nat.reduceEqDiff, Nat.reduceLeDiff, Nat.reduceAdd, Nat.reduceSub, h0]; with_reducible exact hC); refine gc ?_) | refine gm ?_)
  iterate 2 repeat (first | ((first | apply Xk.sAny | apply Xk.tAny); (case hok => rfl); (case h => intro C hC; simp (disch := omega) only [w1, ↓reduceIte, Nat.reduceEqDiff, Nat.reduceLeDiff, Nat.reduceAdd, Nat.reduceSub, h0, hg2, hld, hj1, e4, vc, vss, hg3, hstj, hat4]; with_reducible exact hC); refine gc ?_) | refine gm ?_)
  obtain ⟨hC5, s5⟩ := hre
  generalize (H3.put c (.cells (vs.set j v') 1)).put p (.cells [a, b, m, .int .i64 (.ofNat (M.length + 1))] 1) = G at hC5 s5 ⊢
  have sG := s1.trans s5
  have hC5' := hC5
  obtain ⟨c', vs', bs', vo', os', moved', hp', ha', ho', hP', h8'⟩ := hC5
  rw [hlen] at hp'
  have hpg := hp'.1
  have hbp := hP'.hn
  rcases ho' with ⟨rfl, rfl⟩ | ⟨co, ws, rfl, h0', hlt, hao⟩
  · by_cases hbig : 2 * bs'.length < M.length + 1
    · by_cases hmx : bs'.length < 4096
      · have hmk := mksl_nils (2 * bs'.length) (by omega)
        have hpn : p ≠ G.next := Nat.ne_of_lt (hp'.lt sG.ok)
        have hm0 : moved' = 0 := by
          rcases hP'.ho with h | h
          · exact h.2
          · cases h
        subst hm0
        iterate 2 repeat (first | ((first | apply Xk.sAny | apply Xk.tAny); (case hok => rfl); (case h => intro C hC; simp (disch := omega) only [w1, ↓reduceIte, Nat.reduceEqDiff, Nat.reduceLeDiff, Nat.reduceAdd, Nat.reduceSub, hpg, hbig, hmx]; with_reducible exact hC); refine gc ?_) | refine gm ?_)
        iterate 2 repeat (first | ((first | apply Xk.sAny | apply Xk.tAny); (case hok => rfl); (case h => intro C hC; simp (disch := omega) only [w1, ↓reduceIte, Nat.reduceEqDiff, Nat.reduceLeDiff, Nat.reduceAdd, Nat.reduceSub, hpg, hbig, hmx, hmk, hpn]; with_reducible exact hC); refine gc ?_) | refine gm ?_)
        have s6 := Stp.new (O := fun _ => False) (T := T3) sG.ok (ω, 2 * bs'.length, 0) (.cells (List.replicate (2 * bs'.length) .nils) 1)
        have a6 := At.new (T := T3) (H := G) (ω, 2 * bs'.length, 0) (.cells (List.replicate (2 * bs'.length) .nils) 1)
        have hp6 := hp'.step s6 (fun h => h)
        have s7 := hp6.stp1 s6.ok (.cells [.sl G.next 0 (2 * bs'.length) 1, .sl c' 0 bs'.length 1, .int .i64 (.ofNat 0), .int .i64 (.ofNat (M.length + 1))] 1)
        have hgr := hP'.grow (2 * bs'.length) (by omega)
        refine hQ _ _ (sG.trans ((s6.mono fun t h => h.elim).trans (s7.mono fun t h => by rw [h]))) ⟨G.next, List.replicate (2 * bs'.length) .nils, List.replicate (2 * bs'.length) [], .sl c' 0 bs'.length 1, bs', 0, ?_, (Arr.fresh ω _ a6).step s7 (fun i => tg_ne (.inl (by rw [List.length_replicate]; omega))), .inr ⟨c', vs', rfl, hbp, by rw [List.length_replicate]; omega, (ha'.step s6 (fun _ h => h)).step s7 (fun i => tg_ne (.inl (by omega)))⟩, hgr, by rw [List.length_replicate]; omega⟩
        rw [List.length_replicate, hlen]
        exact hp6.put _
      · repeat (first | ((first | apply Xk.sAny | apply Xk.tAny); (case hok => rfl); (case h => intro C hC; simp (disch := omega) only [w1, ↓reduceIte, Nat.reduceEqDiff, Nat.reduceLeDiff, Nat.reduceAdd, Nat.reduceSub, hpg, hbig, hmx]; with_reducible exact hC); refine gc ?_) | refine gm ?_)
        repeat (first | ((first | apply Xk.sAny | apply Xk.tAny); (case hok => rfl); (case h => intro C hC; simp (disch := omega) only [w1, ↓reduceIte, Nat.reduceEqDiff, Nat.reduceLeDiff, Nat.reduceAdd, Nat.reduceSub, hpg, hbig, hmx]; with_reducible exact hC); refine gc ?_) | refine gm ?_)
        exact hQ _ _ sG hC5'
    · repeat (first | ((first | apply Xk.sAny | apply Xk.tAny); (case hok => rfl); (case h => intro C hC; simp (disch := omega) only [w1, ↓reduceIte, Nat.reduceEqDiff, Nat.reduceLeDiff, Nat.reduceAdd, Nat.reduceSub, hpg, hbig]; with_reducible exact hC); refine gc ?_) | refine gm ?_)
      repeat (first | ((first | apply Xk.sAny | apply Xk.tAny); (case hok => rfl); (case h => intro C hC; simp (disch := omega) only [w1, ↓reduceIte, Nat.reduceEqDiff, Nat.reduceLeDiff, Nat.reduceAdd, Nat.reduceSub, hpg, hbig]; with_reducible exact hC); refine gc ?_) | refine gm ?_)
      exact hQ _ _ sG hC5'
  · have h0n : (os'.length = 0) = False := eq_false (by omega)
    iterate 2 repeat (first | ((first | apply Xk.sAny | apply Xk.tAny); (case hok => rfl); (case h => intro C hC; simp (disch := omega) only [w1, ↓reduceIte, Nat.reduceEqDiff, Nat.reduceLeDiff, Nat.reduceAdd, Nat.reduceSub, hpg, h0n]; with_reducible exact hC); refine gc ?_) | refine gm ?_)
    exact hQ _ _ sG hC5'
end Go.Proofs.Ytihoblfmhighpaa
