/- The hash table: a step. Conditions: none. -/
import Derived.Test.YtihoblfmhighpaaChB
namespace Go.Proofs.Ytihoblfmhighpaa
open Go.Dp
set_option linter.unusedSimpArgs false
set_option linter.unusedVariables false
set_option maxHeartbeats 400000
set_option maxRecDepth 8000
attribute [local irreducible] Ex.thnK Ex.inK Ret

theorem fme_len (l : List En) : (l.flatMap En.cells).length / 2 = l.length := by rw [fm_len (g := En.cells) (n := 2) (fun _ => rfl), Nat.mul_div_cancel _ (by decide)]
theorem fme_snoc (l : List En) (e : En) : (l ++ [e]).flatMap En.cells = l.flatMap En.cells ++ e.cells := by rw [List.flatMap_append]; simp
theorem over_set {l : List AV} {j : Nat} (h : j < l.length) (x : AV) : l.take j ++ (x :: l.drop (j + 1)) = l.set j x := by
  rw [List.set_eq_take_append_cons_drop, if_pos h]

theorem step_ev (ω : Nat) (T : Tags) (H : Heap) (p : Nat) (M : List En) (hC : Ch ω T H p M) (hM : M.length ≤ 100000) (hkl : ∀ e ∈ M, e.1.length ≤ 1000000) (Q : AV → Heap → Prop)
    (hQ : ∀ T' H', Stp (fun t => t.1 = ω) T H T' H' → Ch ω T' H' p M → Q (.tup []) H') : Eo lib n_chain_Chain_step [.ptr p 0] H Q := by
  refine Eo.ok fun hOk => ?_
  refine Eo.code at_chain_Chain_step rfl ?_
  have hC0 := hC
  obtain ⟨c, vs, bs, vo, os, moved, hp, ha, ho, hP, h8⟩ := hC
  have hpg := hp.1
  rcases ho with ⟨rfl, rfl⟩ | ⟨co, ws, rfl, h0, hlt, hao⟩
  · repeat (first | ((first | apply Xk.sAny | apply Xk.tAny); (case hok => rfl); (case h => intro C hC; simp (disch := omega) only [w1, ↓reduceIte, Nat.reduceEqDiff, Nat.reduceLeDiff, Nat.reduceAdd, Nat.reduceSub, hpg]; with_reducible exact hC); refine gc ?_) | refine gm ?_)
    repeat (first | ((first | apply Xk.sAny | apply Xk.tAny); (case hok => rfl); (case h => intro C hC; simp (disch := omega) only [w1, ↓reduceIte, Nat.reduceEqDiff, Nat.reduceLeDiff, Nat.reduceAdd, Nat.reduceSub, hpg]; with_reducible exact hC); refine gc ?_) | refine gm ?_)
    exact hQ T H (Stp.refl hOk) hC0
  have hm : moved < os.length := by
    rcases hP.ho with ⟨e, _⟩ | e
    · rw [e] at h0; cases h0
    · exact e
  have h00 : (os.length = 0) = False := eq_false (by omega)
  have hag := hao.1.1
  have hmw : moved < ws.length := by rw [hao.2.1]; exact hm
  have hld : (ws.drop moved).take 1 = [ws.getD moved .nils] := by
    rw [List.drop_eq_getElem_cons hmw, List.getD_eq_getElem?_getD, List.getElem?_eq_getElem hmw]; rfl
  have hld1 : moved + 1 ≤ ws.length := hmw
  have hst := over_set hmw .nils
  have hcp : co ≠ p := hao.1.ne hp (tg_ne (.inl (by omega)))
  have hrow := hao.2.2 moved hm
  have hlM : (os.getD moved []).length ≤ M.length := by
    have h1 := (hP.begin hm).pm.length_eq
    rw [List.length_append, List.length_append] at h1
    omega
  have hlm := hP.begin hm
  generalize hvl : ws.getD moved .nils = v at hrow hld
  generalize hll : os.getD moved [] = l at hrow hlM hlm
  obtain ⟨hv1, hv2, hv3⟩ := RT.lensG (g := En.cells) (fun _ => rfl) hrow (by decide)
  repeat (first | ((first | apply Xk.sAny | apply Xk.tAny); (case hok => rfl); (case h => intro C hC; simp (disch := omega) only [w1, ↓reduceIte, Nat.reduceEqDiff, Nat.reduceLeDiff, Nat.reduceAdd, Nat.reduceSub, hpg, h00]; with_reducible exact hC); refine gc ?_) | refine gm ?_)
  repeat (first | ((first | apply Xk.sAny | apply Xk.tAny); (case hok => rfl); (case h => intro C hC; simp (disch := omega) only [w1, ↓reduceIte, Nat.reduceEqDiff, Nat.reduceLeDiff, Nat.reduceAdd, Nat.reduceSub, hpg, h00, hm, hag, hst, hld, hld1]; with_reducible exact hC); refine gc ?_) | refine gm ?_)
  repeat (first | ((first | apply Xk.sAny | apply Xk.tAny); (case hok => rfl); (case h => intro C hC; simp (disch := omega) only [w1, ↓reduceIte, Nat.reduceEqDiff, Nat.reduceLeDiff, Nat.reduceAdd, Nat.reduceSub, hpg, hm, hag, hst, hld1, hv3]; with_reducible exact hC); refine gc ?_) | refine gm ?_)
  -- the heap now
  have s1 := hao.1.stp1 hOk (.cells (ws.set moved .nils) 1)
  have hp1 := hp.step s1 (tg_ne (.inl (by omega)))
  have s2 := hp1.stp1 s1.ok (.cells [.sl c 0 bs.length 1, .sl co 0 os.length 1, .int .i64 (.ofNat (moved + 1)), .int .i64 (.ofNat M.length)] 1)
  have s12 : Stp (fun t => t = (ω, os.length, 0) ∨ t = (ω, 0, 0)) T H T _ := (s1.mono fun t e => .inl e).trans (s2.mono fun t e => .inr e)
  have hp2 := hp1.put (.cells [.sl c 0 bs.length 1, .sl co 0 os.length 1, .int .i64 (.ofNat (moved + 1)), .int .i64 (.ofNat M.length)] 1)
  have ha2 := ha.step s12 (fun i e => e.elim (tg_ne (.inl (by omega))) (tg_ne (.inl (by omega))))
  have hrow2 := hrow.step s12 (fun e => e.elim (tg_ne (.inr (by omega))) (tg_ne (.inl (by omega))))
  have hao2 : Arr ω T ((H.put co (.cells (ws.set moved .nils) 1)).put p (.cells [.sl c 0 bs.length 1, .sl co 0 os.length 1, .int .i64 (.ofNat (moved + 1)), .int .i64 (.ofNat M.length)] 1)) co (ws.set moved .nils) (os.set moved []) := by
    have := (hao.set hm (Stp.refl hOk) (v' := .nils) (b' := []) RT.nil).1
    exact this.step s2 (fun i => tg_ne (.inl (by rw [List.length_set]; omega)))
  have hos : (os.set moved []).length = os.length := List.length_set ..
  have hsW : Stp (fun t => t.1 = ω) T H T _ := s12.mono fun t e => e.elim (fun e => by rw [e]) (fun e => by rw [e])
  generalize (H.put co (.cells (ws.set moved .nils) 1)).put p (.cells [.sl c 0 bs.length 1, .sl co 0 os.length 1, .int .i64 (.ofNat (moved + 1)), .int .i64 (.ofNat M.length)] 1) = H1 at hp2 ha2 hrow2 hao2 hsW ⊢
  have hO1 := hsW.ok
  clear s12 s2 s1 hp1
  repeat (first | ((first | apply Xk.sAny | apply Xk.tAny); (case hok => rfl); (case h => intro C hC; simp (disch := omega) only [w1, ↓reduceIte, Nat.reduceEqDiff, Nat.reduceLeDiff, Nat.reduceAdd, Nat.reduceSub, hv1]; with_reducible exact hC); refine gc ?_) | refine gm ?_)
  refine Xk.iter [0, 38, 39, 40] (fun m k G => ∃ i T' vs' bs', m = l.length - i ∧ i ≤ l.length ∧ k = [(0, .ptr p 0), (38, v), (39, .int .i64 (.ofNat l.length)), (40, .int .i64 (.ofNat i))] ∧ bs'.length = bs.length ∧ Stp (fun t => t.1 = ω) T H T' G ∧
      At T' G (ω, 0, 0) p (.cells [.sl c 0 bs.length 1, .sl co 0 os.length 1, .int .i64 (.ofNat (moved + 1)), .int .i64 (.ofNat M.length)] 1) ∧ Arr ω T' G c vs' bs' ∧ Arr ω T' G co (ws.set moved .nils) (os.set moved []) ∧ RT T' G (ω, os.length, moved + 1) 0 2 v (l.flatMap En.cells) ∧ ChM bs' (os.set moved []) moved (l.drop i) M) rfl
    ⟨_, 0, T, vs, bs, rfl, Nat.zero_le _, rfl, rfl, hsW, hp2, ha2, hao2, hrow2, hlm⟩ ?_
  rintro m k G ⟨i, T', vs', bs', rfl, hi, rfl, hbl, sG, hpG, haG, haoG, hrG, hmG⟩
  unfold l0_chain_Chain_step
  have hOG := sG.ok
  by_cases d : i < l.length
  · obtain ⟨bc, cl, rfl, hg, _, _, _, hrw⟩ := RT.rowG (g := En.cells) (fun _ => rfl) ([], 0) hrG (by omega) (by decide)
    obtain ⟨c1, rest, c2⟩ := hrw i d
    have d4 : (cl.drop (i * 2)).take 2 = (l.getD i ([], 0)).cells := by rw [c2]; exact List.take_left' rfl
    have hdr : l.drop i = l.getD i ([], 0) :: l.drop (i + 1) := by
      rw [List.drop_eq_getElem_cons d, List.getD_eq_getElem?_getD, List.getElem?_eq_getElem d]; rfl
    rw [hdr] at hmG
    generalize l.getD i ([], 0) = e at d4 hmG
    have hgr := Heap.get_new_self G (.cells e.cells 1)
    have s3 : ∀ O, Stp O T' G T' (G.new (.cells e.cells 1)) := fun O => Stp.le (hOG.new _) (HLe.new (hOG _ (Nat.le_refl _)) _)
    have hp3 := hpG.step (s3 (fun _ => False)) (fun h => h)
    have ha3 := haG.step (s3 (fun _ => False)) (fun _ h => h)
    have hao3 := haoG.step (s3 (fun _ => False)) (fun _ h => h)
    have hr3 := hrG.step (s3 (fun _ => False)) (fun h => h)
    have hO3 := (s3 (fun _ => False)).ok
    have s3 := sG.trans (s3 _)
    unfold En.cells at d4 hgr hp3 ha3 hao3 hr3 hO3 s3
    generalize hG3 : G.new (.cells [.str e.1, .int .i64 (.ofNat e.2)] 1) = G3 at hgr hp3 ha3 hao3 hr3 hO3 s3
    have hp3g := hp3.1
    have heM : e ∈ M := hmG.pm.mem_iff.1 (by simp)
    have hek := hkl e heM
    have hh := (hashI_eq e.1).2
    have hbl0 : 0 < bs.length := hP.hn
    repeat (first | ((first | apply Xk.sAny | apply Xk.tAny); (case hok => rfl); (case h => intro C hC; simp (disch := omega) only [w1, ↓reduceIte, Nat.reduceEqDiff, Nat.reduceLeDiff, Nat.reduceAdd, Nat.reduceSub, d, hg, c1, d4, hG3, hp3g, hgr]; with_reducible exact hC); refine gc ?_) | refine gm ?_)
    refine Hash_ev e.1 hek _ _ ?_
    have hj : hashN e.1 % bs'.length < bs'.length := Nat.mod_lt _ hmG.hn
    rw [hbl] at hj
    have hvj : hashN e.1 % bs.length < vs'.length := by rw [ha3.2.1, hbl]; exact hj
    have hldj : (vs'.drop (hashN e.1 % bs.length)).take 1 = [vs'.getD (hashN e.1 % bs.length) .nils] := by
      rw [List.drop_eq_getElem_cons hvj, List.getD_eq_getElem?_getD, List.getElem?_eq_getElem hvj]; rfl
    have hldj1 : hashN e.1 % bs.length + 1 ≤ vs'.length := hvj
    have hrj := ha3.2.2 (hashN e.1 % bs.length) (by rw [hbl]; exact hj)
    rw [hbl] at hrj
    have hbM : (bs'.getD (hashN e.1 % bs.length) []).length ≤ M.length := by
      have h1 := hmG.pm.length_eq
      rw [List.length_append, List.length_append] at h1
      have h2 : (bs'.getD (hashN e.1 % bs.length) []).Sublist bs'.flatten := by
        rw [List.getD_eq_getElem?_getD, List.getElem?_eq_getElem (by rw [hbl]; exact hj)]
        exact List.sublist_flatten_of_mem (List.getElem_mem _)
      have := h2.length_le
      omega
    obtain ⟨v', G4, T4, e4, s4, hr4⟩ := RT.push (bytes := 24) (w := 1) (row := e.cells) hO3 hrj rfl rfl (by decide) (by rw [fme_len]; omega) (by rw [fme_len]; omega)
    rw [← fme_snoc] at hr4
    have ha4 := ha3.set (j := hashN e.1 % bs.length) (by rw [hbl]; exact hj) (by rw [hbl]; exact s4) (v' := v') (b' := bs'.getD (hashN e.1 % bs.length) [] ++ [e]) (by rw [hbl]; exact hr4)
    obtain ⟨ha4, hac⟩ := ha4
    have hacg := hac.1
    have gr4 := Heap.get_new_self G3 (.cells e.cells 1)
    have hpp : p ≠ G3.next := Nat.ne_of_lt (hp3.lt hO3)
    have hcc : c ≠ G3.next := Nat.ne_of_lt (ha3.1.lt hO3)
    have hstj := over_set hvj v'
    have hcg3 := ha3.1.1
    obtain ⟨vc, vss⟩ := hr4.sc
    have hrs := hrj.same
    generalize hvo : vs'.getD (hashN e.1 % bs.length) .nils = vj at hldj e4 hrj hrs
    unfold En.cells at e4 gr4
    repeat (first | ((first | apply Xk.sAny | apply Xk.tAny); (case hok => rfl); (case h => intro C hC; simp (disch := omega) only [w1, ↓reduceIte, Nat.reduceEqDiff, Nat.reduceLeDiff, Nat.reduceAdd, Nat.reduceSub, hj, hcg3, hldj, hldj1, hp3g, hgr, hbl0]; with_reducible exact hC); refine gc ?_) | refine gm ?_)
    repeat (first | ((first | apply Xk.sAny | apply Xk.tAny); (case hok => rfl); (case h => intro C hC; simp (disch := omega) only [w1, ↓reduceIte, Nat.reduceEqDiff, Nat.reduceLeDiff, Nat.reduceAdd, Nat.reduceSub, hj, hcg3, hldj, hldj1, hp3g, hgr, hbl0, e4, vc, vss, hacg, hstj]; with_reducible exact hC); refine gc ?_) | refine gm ?_)
    have s5 : Stp (fun t => t = (ω, bs'.length, 0)) T4 G4 T4 (G4.put c (.cells (vs'.set (hashN e.1 % bs.length) v') 1)) := hac.stp1 s4.ok _
    have s6 : Stp (fun t => t = (ω, bs.length, hashN e.1 % bs.length + 1) ∨ t = (ω, bs'.length, 0)) T' G3 T4 (G4.put c (.cells (vs'.set (hashN e.1 % bs.length) v') 1)) := (s4.mono fun t e => .inl e).trans (s5.mono fun t e => .inr e)
    have hn := hmG.next
    rw [hbl] at hn
    refine ⟨rfl, _, by omega, i + 1, T4, vs'.set (hashN e.1 % bs.length) v', _, rfl, by omega, rfl, ?_, s3.trans (s6.mono fun t h => h.elim (fun h => by rw [h]) (fun h => by rw [h])), hp3.step s6 (fun h => h.elim (tg_ne (.inl (by omega))) (tg_ne (.inl (by omega)))), ha4,
      hao3.step s6 (fun i h => h.elim (tg_ne (.inl (by rw [hos]; omega))) (tg_ne (.inl (by rw [hos]; omega)))), hr3.step s6 (fun h => h.elim (tg_ne (.inl (by omega))) (tg_ne (.inl (by omega)))), hn⟩
    rw [List.length_set, hbl]
  · repeat (first | ((first | apply Xk.sAny | apply Xk.tAny); (case hok => rfl); (case h => intro C hC; simp (disch := omega) only [w1, ↓reduceIte, Nat.reduceEqDiff, Nat.reduceLeDiff, Nat.reduceAdd, Nat.reduceSub, d]; with_reducible exact hC); refine gc ?_) | refine gm ?_)
    obtain rfl : i = l.length := by omega
    rw [List.drop_length] at hmG
    have hpGg := hpG.1
    obtain ⟨e1, e2⟩ := hmG.end_
    rw [hos] at e1 e2
    by_cases hend : moved + 1 = os.length
    · have hend' : (moved + 1 = os.length) = True := eq_true hend
      iterate 2 repeat (first | ((first | apply Xk.sAny | apply Xk.tAny); (case hok => rfl); (case h => intro C hC; simp (disch := omega) only [w1, ↓reduceIte, Nat.reduceEqDiff, Nat.reduceLeDiff, Nat.reduceAdd, Nat.reduceSub, hpGg, hend']; with_reducible exact hC); refine gc ?_) | refine gm ?_)
      have s7 := hpG.stp1 hOG (.cells [.sl c 0 bs.length 1, .nils, .int .i64 (.ofNat 0), .int .i64 (.ofNat M.length)] 1)
      refine hQ T' _ (sG.trans (s7.mono fun t e => by rw [e])) ⟨c, vs', bs', .nils, [], 0, by rw [hbl]; exact hpG.put _, haG.step s7 (fun i => tg_ne (.inl (by omega))), .inl ⟨rfl, rfl⟩, e2 hend, by rw [hbl]; exact h8⟩
    · have hend' : (moved + 1 = os.length) = False := eq_false hend
      iterate 2 repeat (first | ((first | apply Xk.sAny | apply Xk.tAny); (case hok => rfl); (case h => intro C hC; simp (disch := omega) only [w1, ↓reduceIte, Nat.reduceEqDiff, Nat.reduceLeDiff, Nat.reduceAdd, Nat.reduceSub, hpGg, hend']; with_reducible exact hC); refine gc ?_) | refine gm ?_)
      refine hQ T' _ sG ⟨c, vs', bs', _, os.set moved [], moved + 1, by rw [hbl]; exact hpG, haG, .inr ⟨co, ws.set moved .nils, by rw [hos], by rw [hos]; exact h0, by rw [hos, hbl]; exact hlt, haoG⟩, e1 (by omega), by rw [hbl]; exact h8⟩
end Go.Proofs.Ytihoblfmhighpaa
