/- The hash table: drop. Conditions: none. -/
import Derived.Test.YtihoblfmhighpaaChD
namespace Go.Proofs.Ytihoblfmhighpaa
open Go.Dp
set_option linter.unusedSimpArgs false
set_option linter.unusedVariables false
set_option maxHeartbeats 400000
set_option maxRecDepth 8000
attribute [local irreducible] Ex.thnK Ex.inK Ret

theorem Drop_ev (ω : Nat) (T : Tags) (H : Heap) (p : Nat) (M M' : List En) (key : List UInt8) (n : Nat) (hC : Ch ω T H p M) (hk : key.length ≤ 1000000) (hM : M.length < 100000) (hkl : ∀ e ∈ M, e.1.length ≤ 1000000) (hp : M.Perm ((key, n) :: M')) (Q : AV → Heap → Prop)
    (hQ : ∀ T' H', Stp (fun t => t.1 = ω) T H T' H' → Ch ω T' H' p M' → Q (.bool true) H') : Eo lib n_chain_Chain_Drop [.ptr p 0, .str key] H Q := by
  refine Eo.ok fun hOk => ?_
  refine Eo.code at_chain_Chain_Drop rfl ?_
  repeat (first | ((first | apply Xk.sAny | apply Xk.tAny); (case hok => rfl); (case h => intro C hC; simp (disch := omega) only [w1, ↓reduceIte, Nat.reduceEqDiff, Nat.reduceLeDiff, Nat.reduceAdd, Nat.reduceSub]; with_reducible exact hC); refine gc ?_) | refine gm ?_)
  refine step_ev ω T H p M hC (by omega) hkl _ fun T1 H1 s1 hC1 => ?_
  repeat (first | ((first | apply Xk.sAny | apply Xk.tAny); (case hok => rfl); (case h => intro C hC; simp (disch := omega) only [w1, ↓reduceIte, Nat.reduceEqDiff, Nat.reduceLeDiff, Nat.reduceAdd, Nat.reduceSub]; with_reducible exact hC); refine gc ?_) | refine gm ?_)
  refine bucket_ev ω T1 H1 p M key hC1 hk _ fun c j vs nb bk a b m B => ?_
  have hg := B.arr.1
  have hj := B.hj
  have hld : (vs.drop j).take 1 = [vs.getD j .nils] := by
    rw [List.drop_eq_getElem_cons hj, List.getD_eq_getElem?_getD, List.getElem?_eq_getElem hj]; rfl
  have hj1 : j + 1 ≤ vs.length := hj
  have hrow := B.row
  have hnb := B.hn
  generalize vs.getD j .nils = v at hld hrow
  obtain ⟨hv1, hv2, hv3⟩ := RT.lensG (g := En.cells) (fun _ => rfl) hrow (by decide)
  have hbl := B.len
  have hkM : (key, n) ∈ M := hp.mem_iff.2 (List.mem_cons_self ..)
  repeat (first | ((first | apply Xk.sAny | apply Xk.tAny); (case hok => rfl); (case h => intro C hC; simp (disch := omega) only [w1, ↓reduceIte, Nat.reduceEqDiff, Nat.reduceLeDiff, Nat.reduceAdd, Nat.reduceSub, hg, hld, hj1, hv3]; with_reducible exact hC); refine gc ?_) | refine gm ?_)
  refine find_ev T1 _ v bk key H1 hrow (by omega) _ (fun hn H2 hO2 hle2 => absurd rfl (hn _ ((B.mem _).1 hkM))) (fun i hi hik H2 hO2 hle2 => ?_)
  have hat : (key, n) = bk.getD i ([], 0) := by
    have := (at_key hi hik B.nd n).1 ((B.mem _).1 hkM)
    rw [this, ← hik]
  have s2 : ∀ O, Stp O T1 H1 T1 H2 := fun O => Stp.le hO2 hle2
  have hg2 := hle2 _ _ hg
  have hrow2 := hrow.step (s2 (fun _ => False)) (fun h => h)
  have harr2 := B.arr.step (s2 (fun _ => False)) (fun h => h)
  have hat2 := B.at_.step (s2 (fun _ => False)) (fun h => h)
  obtain ⟨bc, cl, rfl, hgc, htc, hcl, hct, hrw⟩ := RT.rowG (g := En.cells) (fun _ => rfl) ([], 0) hrow2 (by omega) (by decide)
  have hlast : bk.length - 1 < bk.length := by omega
  obtain ⟨c1, rest, c2⟩ := hrw _ hlast
  have d4 : (cl.drop ((bk.length - 1) * 2)).take 2 = (bk.getD (bk.length - 1) ([], 0)).cells := by rw [c2]; exact List.take_left' rfl
  have hx : En.cells (bk.getD (bk.length - 1) ([], 0)) = over (En.cells (bk.getD i ([], 0))) 0 (En.cells (bk.getD (bk.length - 1) ([], 0))) := by
    show _ = [] ++ (En.cells _ ++ [])
    rw [List.append_nil, List.nil_append]
  obtain ⟨r3, s3, k3⟩ := RT.setG (g := En.cells) (fun _ => rfl) ([], 0) hO2 hgc htc hcl hct hi (j := 0) (ys := En.cells (bk.getD (bk.length - 1) ([], 0))) (by exact Nat.le_refl 2) hx
  have hdp := drop_perm bk i hi
  rw [← hat] at hdp
  generalize bk.getD (bk.length - 1) ([], 0) = z at d4 r3 s3 k3 hx hdp
  rw [Nat.add_zero] at r3 s3 k3
  have hcl3 : (over cl (i * 2) z.cells).length = cl.length := over_lenC _ _ _ k3
  have hov : cl.take (i * 2) ++ (.str z.1 :: .int .i64 (.ofNat z.2) :: cl.drop (i * 2 + 2)) = over cl (i * 2) z.cells := rfl
  generalize over cl (i * 2) z.cells = cl3 at r3 s3 hcl3 hov
  -- the row, cut
  have hr4 : RT T1 (H2.put bc (.cells cl3 1)) (ω, nb, j + 1) 0 2 (.sl bc 0 (bk.length - 1) 2) (((bk.set i z).take (bk.length - 1)).flatMap En.cells) := by
    rcases r3 with ⟨h, _⟩ | ⟨c', len, l, hq, q2, q3, q4, q5, q6⟩
    · cases h
    · injection hq with z1 z2 z3 z4
      subst z1 z3
      rw [← fm_take (g := En.cells) (n := 2) (fun _ => rfl)]
      exact RT.cut _ (by omega) q2 q3 q4 q5 q6
  have hg3 := s3.kp _ _ hg2 (by rw [harr2.2]; exact tg_ne (.inr (by omega)))
  have hcb : c ≠ bc := fun e => tg_ne (a := ω) (d := ω) (b := nb) (e := nb) (c := 0) (f := j + 1) (.inr (by omega)) (by rw [← harr2.2, ← htc, e])
  have hbc : bc ≠ c := Ne.symm hcb
  have hre := B.re T1 _ _ _ M' ((s2 _).trans s3) hr4 (fun e he => .inl (by
      have h1 : e ∈ (bk.set i z).take (bk.length - 1) ++ [(key, n)] := List.mem_append_left _ he
      exact hdp.mem_iff.1 h1)) (by
      refine List.Perm.trans (List.Perm.append_left _ hp) ?_
      have e1 : (bk.set i z).take (bk.length - 1) ++ (key, n) :: M' = ((bk.set i z).take (bk.length - 1) ++ [(key, n)]) ++ M' := by rw [List.append_assoc]; rfl
      rw [e1]
      exact List.Perm.append_right _ hdp) (by
      have hd : (M.map (·.1)).Nodup := by
        obtain ⟨_, _, _, _, _, _, _, _, _, hP, _⟩ := hC1
        exact hP.nd
      have := (hp.map (·.1)).nodup_iff.1 hd
      rw [List.map_cons, List.nodup_cons] at this
      exact this.2)
  have hat3 := hat2.step s3 (tg_ne (.inl (by omega)))
  have hpc : p ≠ c := hat2.ne harr2 (tg_ne (.inl (by omega)))
  have hpb : p ≠ bc := fun e => tg_ne (a := ω) (d := ω) (b := 0) (e := nb) (c := 0) (f := j + 1) (.inl (by omega)) (by rw [← hat2.2, ← htc, e])
  have hat4 : (((H2.put bc (.cells cl3 1)).put c (.cells (vs.set j (.sl bc 0 (bk.length - 1) 2)) 1)).get p) = _ := (Heap.get_put_ne _ _ _ hpc).trans hat3.1
  have hstj := over_set hj (.sl bc 0 (bk.length - 1) 2)
  have hlM : M.length = M'.length + 1 := hp.length_eq
  have hlz : (0 < 0) = False := eq_false (Nat.lt_irrefl 0)
  have hi0 : (.ofNat i < Int.ofNat 0) = False := eq_false (by exact fun h => by have := (Int.ofNat_lt.1 h); omega)
  have hb0 : 1 ≤ bk.length := by omega
  have hcap : bk.length - 1 ≤ cl3.length / 2 := by rw [hcl3]; omega
  have hlb : bk.length - 1 + 1 = bk.length := by omega
  have d5 : (bk.length - 1) * 2 + 2 ≤ cl.length := by omega
  have hgb := Heap.get_put_self H2 bc (.cells cl3 1)
  have hM1 : 1 ≤ M.length := by omega
  have hM2 : M.length - 1 = M'.length := by omega
  unfold En.cells at d4
  have k4 : i * 2 + 2 ≤ cl.length := k3
  repeat (first | ((first | apply Xk.sAny | apply Xk.tAny); (case hok => rfl); (case h => intro C hC; simp (disch := omega) only [w1, ↓reduceIte, Nat.reduceEqDiff, Nat.reduceLeDiff, Nat.reduceAdd, Nat.reduceSub, hi0]; with_reducible exact hC); refine gc ?_) | refine gm ?_)
  repeat (first | ((first | apply Xk.sAny | apply Xk.tAny); (case hok => rfl); (case h => intro C hC; simp (disch := omega) only [w1, ↓reduceIte, Nat.reduceEqDiff, Nat.reduceLeDiff, Nat.reduceAdd, Nat.reduceSub, hi0, hg2, hld, hj1, hb0]; with_reducible exact hC); refine gc ?_) | refine gm ?_)
  repeat (first | ((first | apply Xk.sAny | apply Xk.tAny); (case hok => rfl); (case h => intro C hC; simp (disch := omega) only [w1, ↓reduceIte, Nat.reduceEqDiff, Nat.reduceLeDiff, Nat.reduceAdd, Nat.reduceSub, hi0, hg2, hld, hj1, hb0, hgc, hlast, d4, d5, hi, hov, k4, hcb]; with_reducible exact hC); refine gc ?_) | refine gm ?_)
  iterate 2 repeat (first | ((first | apply Xk.sAny | apply Xk.tAny); (case hok => rfl); (case h => intro C hC; simp (disch := omega) only [w1, ↓reduceIte, Nat.reduceEqDiff, Nat.reduceLeDiff, Nat.reduceAdd, Nat.reduceSub, hi0, hg2, hld, hj1, hb0, hgc, hlast, d4, d5, hi, hov, k4, hcb, hg3, hcap, hstj, hat4, hM1, hM2]; with_reducible exact hC); refine gc ?_) | refine gm ?_)
  exact hQ _ _ (s1.trans hre.2) hre.1
end Go.Proofs.Ytihoblfmhighpaa
