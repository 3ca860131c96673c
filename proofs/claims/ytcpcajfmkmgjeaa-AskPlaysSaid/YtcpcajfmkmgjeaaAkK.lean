/- Layer 19: the law AskLate, over the clean machine. Conditions: none. -/
import Derived.Test.YtcpcajfmkmgjeaaAkJ
namespace Go.Proofs.Ytcpcajfmkmgjeaa
open Go.Dp
set_option linter.unusedSimpArgs false
set_option linter.unusedVariables false
set_option maxHeartbeats 1000000
set_option maxRecDepth 8000
attribute [local irreducible] Ex.thnK Ex.inK Ret

def oneF (s : Nat) : Fr := ⟨.ofNat 4, .ofNat s, .ofNat 0, .ofNat 1, .ofNat 1, .ofNat 0, [], .ofNat 0, []⟩
theorem KRuns_ev (H : Heap) (Q : AV → Heap → Prop) (hQ : Q (.bool true) H) : Eo lib n_depotlaw19_AskRuns [] H Q := Eo.runs rfl hQ
theorem Ask.old {H0 H : Heap} {p : Nat} {L : List Rq} {last : Nat} (h : Ask H0 H p L last) {b : Nat} (hb : InA H p b) : ∃ x, H.get b = some x := by
  obtain ⟨v, h1, h2, h3, h4⟩ := h
  rcases hb with rfl | ⟨v2, n2, w2, q1, o, l, z, rfl⟩
  · exact ⟨_, h1⟩
  · rw [h1] at q1
    cases q1
    obtain ⟨x, e, _⟩ := h3.at rfl
    exact ⟨x, e⟩
theorem Ask.new {H0 H : Heap} {p : Nat} {L : List Rq} {last : Nat} (hO : H.Ok) (h : Ask H0 H p L last) (x : Blk) : Ask H0 (H.new x) p L last ∧ ¬ InA (H.new x) p H.next ∧ Keeps H (H.new x) p := by
  have hle := HLe.new (hO _ (Nat.le_refl _)) x
  refine ⟨h.mono hle, fun hi => ?_, h.keeps hle⟩
  have : InA H p H.next := by
    obtain ⟨v, h1, _⟩ := h
    exact (InA.same (by rw [hle _ _ h1, h1])).1 hi
  obtain ⟨y, e⟩ := h.old this
  rw [hO _ (Nat.le_refl _)] at e
  cases e

theorem ints_row {H0 H : Heap} {v : AV} {z : List Int} (hv : RV H0 H 0 1 v (ints z)) {i : Nat} (c : i < z.length) : ∃ b l, v = .sl b 0 z.length 1 ∧ H.get b = some (.cells l 1) ∧ i + 1 ≤ l.length ∧ (l.drop i).take 1 = [.int .i64 (z.getD i 0)] := by
  rcases hv with ⟨rfl, hz⟩ | ⟨cc, len, l, rfl, h2, h3, h4, h5, h6⟩
  · have : (ints z).length = 0 := by rw [hz]; rfl
    rw [ints_len] at this
    omega
  · rw [ints_len, Nat.mul_one] at h2
    subst h2
    rw [ints_len] at h4 h5
    refine ⟨cc, l, rfl, h3, by omega, ?_⟩
    have e : (l.take z.length).drop i = ints (z.drop i) := by rw [h5]; exact List.map_drop.symm
    have e2 : ((l.take z.length).drop i).take 1 = [.int .i64 (z.getD i 0)] := by
      rw [e, List.drop_eq_getElem_cons c, List.getD_eq_getElem?_getD, List.getElem?_eq_getElem c]
      rfl
    rw [← e2, List.drop_take, List.take_take, Nat.min_eq_left (by omega)]

theorem Late_law (slot others en : Int) (cancel : Bool) (H : Heap) : Eo lib n_depotlaw19_AskLate [.int .i64 slot, .int .i64 others, .int .i64 en, .bool cancel] H fun v _ => v = .bool true := by
  refine Eo.ok fun hOk => ?_
  refine Eo.code at_depotlaw19_AskLate rfl ?_
  repeat (first | ((first | apply Xk.sAny | apply Xk.tAny); (case hok => rfl); (case h => intro C hC; simp (disch := omega) only [w1, ↓reduceIte, Nat.reduceEqDiff, Nat.reduceLeDiff, Nat.reduceAdd, Nat.reduceSub]; with_reducible exact hC); refine gc ?_) | refine gm ?_)
  refine New_ev H H (HLe.refl H) _ fun H1 hO1 hle1 hA1 _ => ?_
  generalize H.next = p at hA1 ⊢
  have epn : ∀ (H : Heap), negIf false (rEqc H (.ptr p 0) .nilp) = some (.bool false) := fun _ => rfl
  repeat (first | ((first | apply Xk.sAny | apply Xk.tAny); (case hok => rfl); (case h => intro C hC; simp (disch := omega) only [w1, ↓reduceIte, Nat.reduceEqDiff, Nat.reduceLeDiff, Nat.reduceAdd, Nat.reduceSub, epn]; with_reducible exact hC); refine gc ?_) | refine gm ?_)
  repeat (first | ((first | apply Xk.sAny | apply Xk.tAny); (case hok => rfl); (case h => intro C hC; simp (disch := omega) only [w1, ↓reduceIte, Nat.reduceEqDiff, Nat.reduceLeDiff, Nat.reduceAdd, Nat.reduceSub, epn]; with_reducible exact hC); refine gc ?_) | refine gm ?_)
  refine Within_ev slot 0 5 (by decide) (by decide) _ _ fun s _ hs => ?_
  repeat (first | ((first | apply Xk.sAny | apply Xk.tAny); (case hok => rfl); (case h => intro C hC; simp (disch := omega) only [w1, ↓reduceIte, Nat.reduceEqDiff, Nat.reduceLeDiff, Nat.reduceAdd, Nat.reduceSub]; with_reducible exact hC); refine gc ?_) | refine gm ?_)
  repeat (first | ((first | apply Xk.sAny | apply Xk.tAny); (case hok => rfl); (case h => intro C hC; simp (disch := omega) only [w1, ↓reduceIte, Nat.reduceEqDiff, Nat.reduceLeDiff, Nat.reduceAdd, Nat.reduceSub]; with_reducible exact hC); refine gc ?_) | refine gm ?_)
  have hbeg := begB_scan (s := s) (last := 0) (by omega) (by decide)
  refine Begin_ev H H1 p [] 0 (scanF s) hle1 hA1 (by decide) (by decide) _ fun H2 hO2 hle2 hk2 => ⟨(fun h => by rw [hbeg] at h; cases h), fun _ hA2 => ?_⟩
  have hff : floorP [] (scanF s).slot (.ofNat (0 + 1)) = .ofNat 1 := rfl
  rw [hff] at hA2 ⊢
  obtain ⟨hA3, hni3, hk3⟩ := hA2.new hO2 (.cells (oneF s).cells 1)
  have hA3 : Ask H (H2.new (.cells (oneF s).cells 1)) p (⟨oneF s, 0⟩ :: []) 1 := hA3
  have hO3 := hO2.new (.cells (oneF s).cells 1)
  have hg3 := Heap.get_new_self H2 (.cells (oneF s).cells 1)
  have hle3 := hle2.new_ hO2 (.cells (oneF s).cells 1)
  have hst := Heap.new_put H2 (.cells noFr.cells 1) (.cells (oneF s).cells 1)
  have hgz := Heap.get_new_self H2 (.cells noFr.cells 1)
  have hlt0 : Lt (oneF s) 0 [] := ⟨rfl, rfl, ⟨Int.ofNat_le.2 (Nat.zero_le s), Int.ofNat_le.2 hs⟩, fun o h => (by cases h), Nat.zero_le _⟩
  simp only [Fr.cells, noFr, scanF, Fr.begun, oneF] at hst hgz hA3 hni3 hO3 hg3 hle3 ⊢
  repeat (first | ((first | apply Xk.sAny | apply Xk.tAny); (case hok => rfl); (case h => intro C hC; simp (disch := omega) only [w1, ↓reduceIte, Nat.reduceEqDiff, Nat.reduceLeDiff, Nat.reduceAdd, Nat.reduceSub, hst, hgz]; with_reducible exact hC); refine gc ?_) | refine gm ?_)
  repeat (first | ((first | apply Xk.sAny | apply Xk.tAny); (case hok => rfl); (case h => intro C hC; simp (disch := omega) only [w1, ↓reduceIte, Nat.reduceEqDiff, Nat.reduceLeDiff, Nat.reduceAdd, Nat.reduceSub, hst, hgz]; with_reducible exact hC); refine gc ?_) | refine gm ?_)
  generalize H2.new (.cells [.int .i64 (.ofNat 4), .int .i64 (.ofNat s), .int .i64 (.ofNat 0), .int .i64 (.ofNat 1), .int .i64 (.ofNat 1), .int .i64 (.ofNat 0), .str [], .int .i64 (.ofNat 0), .str []] 1) = H3 at hA3 hni3 hO3 hg3 hle3 ⊢
  generalize H2.next = bf at hni3 hg3 ⊢
  have hA3 : Ask H H3 p (⟨oneF s, 0⟩ :: []) 1 := hA3
  have hg3 : H3.get bf = some (.cells (oneF s).cells 1) := hg3
  clear hst hgz hk3 hA2 hO2 hle2 hk2 hA1 hO1 hle1
  refine Within_ev others 0 5 (by decide) (by decide) _ _ fun j0 _ hj0 => ?_
  repeat (first | ((first | apply Xk.sAny | apply Xk.tAny); (case hok => rfl); (case h => intro C hC; simp (disch := omega) only [w1, ↓reduceIte, Nat.reduceEqDiff, Nat.reduceLeDiff, Nat.reduceAdd, Nat.reduceSub]; with_reducible exact hC); refine gc ?_) | refine gm ?_)
  repeat (first | ((first | apply Xk.sAny | apply Xk.tAny); (case hok => rfl); (case h => intro C hC; simp (disch := omega) only [w1, ↓reduceIte, Nat.reduceEqDiff, Nat.reduceLeDiff, Nat.reduceAdd, Nat.reduceSub]; with_reducible exact hC); refine gc ?_) | refine gm ?_)
  refine Xk.iter [2, 3, 9, 10, 11, 12, 13] (fun m k G => ∃ j M last, m = j ∧ M.length + j ≤ 5 ∧ last = M.length + 1 ∧ Ask H G p (⟨oneF s, 0⟩ :: M) last ∧ Lt (oneF s) 0 M ∧ G.get bf = some (.cells (oneF s).cells 1) ∧ ¬ InA G p bf ∧ G.Ok ∧ HLe H G ∧
      k = [(2, .int .i64 en), (3, .bool cancel), (9, .ptr p 0), (10, .int .i64 (.ofNat s)), (11, .ptr bf 0), (12, .bool true), (13, .int .i64 (.ofNat j))]) rfl
    ⟨_, j0, [], 1, rfl, by rw [List.length_nil]; omega, rfl, hA3, hlt0, hg3, hni3, hO3, hle3, rfl⟩ ?_
  rintro j k G ⟨j', M, last, rfl, hj, rfl, hA, hlt, hg, hni, hO, hle, rfl⟩
  clear hA3 hg3 hni3 hO3 hle3 hlt0
  unfold l0_depotlaw19_AskLate
  by_cases cj : 0 < j
  · repeat (first | ((first | apply Xk.sAny | apply Xk.tAny); (case hok => rfl); (case h => intro C hC; simp (disch := omega) only [w1, ↓reduceIte, Nat.reduceEqDiff, Nat.reduceLeDiff, Nat.reduceAdd, Nat.reduceSub, cj]; with_reducible exact hC); refine gc ?_) | refine gm ?_)
    repeat (first | ((first | apply Xk.sAny | apply Xk.tAny); (case hok => rfl); (case h => intro C hC; simp (disch := omega) only [w1, ↓reduceIte, Nat.reduceEqDiff, Nat.reduceLeDiff, Nat.reduceAdd, Nat.reduceSub, cj]; with_reducible exact hC); refine gc ?_) | refine gm ?_)
    have hbeg6 := begB_scan (s := 6) (last := M.length + 1) (by decide) (by omega)
    refine Begin_ev H G p (⟨oneF s, 0⟩ :: M) (M.length + 1) (scanF 6) hle hA (by rw [List.length_cons]; omega) (by omega) _ fun G2 hO2 hle2 hk2 => ⟨(fun h => by rw [hbeg6] at h; cases h), fun _ hA2 => ?_⟩
    generalize floorP (⟨oneF s, 0⟩ :: M) (scanF 6).slot (.ofNat (M.length + 1 + 1)) = fl at hA2 ⊢
    obtain ⟨hg2, hni2⟩ := hk2 bf _ hg hni
    repeat (first | ((first | apply Xk.sAny | apply Xk.tAny); (case hok => rfl); (case h => intro C hC; simp (disch := omega) only [w1, ↓reduceIte, Nat.reduceEqDiff, Nat.reduceLeDiff, Nat.reduceAdd, Nat.reduceSub]; with_reducible exact hC); refine gc ?_) | refine gm ?_)
    refine ⟨rfl, _, by omega, j - 1, M ++ [Rq.mk ((scanF 6).begun (.ofNat (M.length + 1 + 1)) fl) 0], M.length + 1 + 1, rfl, by rw [List.length_append, List.length_singleton]; omega, by rw [List.length_append, List.length_singleton], hA2, ⟨rfl, rfl, hlt.slot, fun o ho => ?_, by rw [List.length_append, List.length_singleton]; omega⟩, hg2, hni2, hO2, hle2, rfl⟩
    rcases List.mem_append.1 ho with h | h
    · exact hlt.oth o h
    · rw [List.mem_singleton] at h
      subst h
      refine ⟨rfl, fun e => ?_, rfl⟩
      have e2 : ((M.length + 1 + 1 : Nat) : Int) = ((1 : Nat) : Int) := e
      omega
  repeat (first | ((first | apply Xk.sAny | apply Xk.tAny); (case hok => rfl); (case h => intro C hC; simp (disch := omega) only [w1, ↓reduceIte, Nat.reduceEqDiff, Nat.reduceLeDiff, Nat.reduceAdd, Nat.reduceSub, cj]; with_reducible exact hC); refine gc ?_) | refine gm ?_)
  repeat (first | ((first | apply Xk.sAny | apply Xk.tAny); (case hok => rfl); (case h => intro C hC; simp (disch := omega) only [w1, ↓reduceIte, Nat.reduceEqDiff, Nat.reduceLeDiff, Nat.reduceAdd, Nat.reduceSub, cj]; with_reducible exact hC); refine gc ?_) | refine gm ?_)
  refine Within_ev en 1 90 (by decide) (by decide) _ _ fun n hn1 hn2 => ?_
  repeat (first | ((first | apply Xk.sAny | apply Xk.tAny); (case hok => rfl); (case h => intro C hC; simp (disch := omega) only [w1, ↓reduceIte, Nat.reduceEqDiff, Nat.reduceLeDiff, Nat.reduceAdd, Nat.reduceSub]; with_reducible exact hC); refine gc ?_) | refine gm ?_)
  repeat (first | ((first | apply Xk.sAny | apply Xk.tAny); (case hok => rfl); (case h => intro C hC; simp (disch := omega) only [w1, ↓reduceIte, Nat.reduceEqDiff, Nat.reduceLeDiff, Nat.reduceAdd, Nat.reduceSub]; with_reducible exact hC); refine gc ?_) | refine gm ?_)
  generalize M.length + 1 = last at hA
  have hML := hlt.len
  refine Xk.iter [3, 9, 10, 11, 12, 14, 15] (fun m k G => ∃ t M, m = n - t ∧ t ≤ n ∧ Ask H G p (⟨oneF s, t⟩ :: M) last ∧ Lt (oneF s) t M ∧ G.get bf = some (.cells (oneF s).cells 1) ∧ ¬ InA G p bf ∧ G.Ok ∧ HLe H G ∧
      k = [(3, .bool cancel), (9, .ptr p 0), (10, .int .i64 (.ofNat s)), (11, .ptr bf 0), (12, .bool true), (14, .int .i64 (.ofNat n)), (15, .int .i64 (.ofNat (t + 1)))]) rfl
    ⟨_, 0, M, rfl, Nat.zero_le _, hA, hlt, hg, hni, hO, hle, rfl⟩ ?_
  clear hA hlt hg hni hO hle hML
  rintro m k G ⟨t, M, rfl, ht, hA, hlt, hg, hni, hO, hle, rfl⟩
  have hL := hlt.len
  have hslot : ∀ o ∈ (⟨oneF s, t⟩ :: M : List Rq), o.t ≤ 1000000 ∧ .ofNat 0 ≤ o.f.slot ∧ o.f.slot ≤ .ofNat 11 := fun o ho => by
    rcases List.mem_cons.1 ho with rfl | ho
    · exact ⟨by show t ≤ _; omega, Int.ofNat_le.2 (Nat.zero_le s), Int.ofNat_le.2 (show s ≤ 11 by omega)⟩
    · obtain ⟨q1, _, q3⟩ := hlt.oth o ho
      rw [q1, q3]
      exact ⟨by omega, by decide, by decide⟩
  unfold l3_depotlaw19_AskLate
  by_cases ct : t + 1 ≤ n
  · repeat (first | ((first | apply Xk.sAny | apply Xk.tAny); (case hok => rfl); (case h => intro C hC; simp (disch := omega) only [w1, ↓reduceIte, Nat.reduceEqDiff, Nat.reduceLeDiff, Nat.reduceAdd, Nat.reduceSub, ct]; with_reducible exact hC); refine gc ?_) | refine gm ?_)
    repeat (first | ((first | apply Xk.sAny | apply Xk.tAny); (case hok => rfl); (case h => intro C hC; simp (disch := omega) only [w1, ↓reduceIte, Nat.reduceEqDiff, Nat.reduceLeDiff, Nat.reduceAdd, Nat.reduceSub, ct]; with_reducible exact hC); refine gc ?_) | refine gm ?_)
    refine Tick_ev H G p (⟨oneF s, t⟩ :: M) last hle hA (by rw [List.length_cons]; omega) hslot _ fun G2 again late z hO2 hle2 hk2 hA2 hag hla hs hperm hfr => ?_
    obtain ⟨hg2, hni2⟩ := hk2 bf _ hg hni
    have hcag := hlt.again
    have hcla := hlt.late hperm
    have hlenz : z.length ≤ 12 := by rw [hperm.length_eq]; exact late_len fun o ho => (hslot o ho).2
    have hlenf : (againP (⟨oneF s, t⟩ :: M) (⟨oneF s, t⟩ :: M)).length ≤ 20 := by
      unfold againP
      rw [List.length_map]
      refine Nat.le_trans (List.length_filter_le _ _) ?_
      rw [List.length_map, List.length_cons]
      omega
    generalize againP (⟨oneF s, t⟩ :: M) (⟨oneF s, t⟩ :: M) = fs at hag hcag hlenf
    obtain ⟨hal, hasc, _⟩ := Sl.lensG (g := Fr.cells) (fun _ => rfl) hag.sl (by decide)
    have hll := hla.lens (by decide)
    rw [ints_len, Nat.div_one] at hll
    repeat (first | ((first | apply Xk.sAny | apply Xk.tAny); (case hok => rfl); (case h => intro C hC; simp (disch := omega) only [w1, ↓reduceIte, Nat.reduceEqDiff, Nat.reduceLeDiff, Nat.reduceAdd, Nat.reduceSub]; with_reducible exact hC); refine gc ?_) | refine gm ?_)
    repeat (first | ((first | apply Xk.sAny | apply Xk.tAny); (case hok => rfl); (case h => intro C hC; simp (disch := omega) only [w1, ↓reduceIte, Nat.reduceEqDiff, Nat.reduceLeDiff, Nat.reduceAdd, Nat.reduceSub]; with_reducible exact hC); refine gc ?_) | refine gm ?_)
    repeat (first | ((first | apply Xk.sAny | apply Xk.tAny); (case hok => rfl); (case h => intro C hC; simp (disch := omega) only [w1, ↓reduceIte, Nat.reduceEqDiff, Nat.reduceLeDiff, Nat.reduceAdd, Nat.reduceSub]; with_reducible exact hC); refine gc ?_) | refine gm ?_)
    have hg2c := hg2
    simp only [Fr.cells, oneF] at hg2c
    refine Xk.iter [3, 9, 10, 11, 12, 14, 15, 16, 17, 18, 19, 20] (fun m k G => ∃ i, m = fs.length - i ∧ i ≤ fs.length ∧ G = G2 ∧
        k = [(3, .bool cancel), (9, .ptr p 0), (10, .int .i64 (.ofNat s)), (11, .ptr bf 0), (12, .bool true), (14, .int .i64 (.ofNat n)), (15, .int .i64 (.ofNat (t + 1))), (16, again), (17, late), (18, .int .i64 (.ofNat ((fs.take i).countP fun g => decide (g.rid = (oneF s).rid)))), (19, .int .i64 (.ofNat 0)), (20, .int .i64 (.ofNat i))]) rfl
      ⟨_, 0, rfl, Nat.zero_le _, rfl, rfl⟩ ?_
    rintro m k G ⟨i, rfl, hi, rfl, rfl⟩
    unfold l1_depotlaw19_AskLate
    by_cases ci : i < fs.length
    · obtain ⟨bb, o, cl, w2, rfl, hgb, hrow⟩ := Sl.rowG (g := Fr.cells) (fun _ => rfl) noFr hag.sl (by omega) (by decide)
      obtain ⟨c1, rest, c2⟩ := hrow i ci
      obtain ⟨r1, _, _⟩ := frs_at fs ci cl o c2
      have hsn : fs.take (i + 1) = fs.take i ++ [fs.getD i noFr] := by
        rw [List.take_add_one, List.getD_eq_getElem?_getD, List.getElem?_eq_getElem ci]
        rfl
      have hcl : o + i * 9 + 3 + 1 ≤ cl.length := by omega
      have hcnt : (fs.take i).countP (fun g => decide (g.rid = (oneF s).rid)) ≤ i := Nat.le_trans List.countP_le_length (by rw [List.length_take]; exact Nat.min_le_left _ _)
      have hstep : (fs.take (i + 1)).countP (fun g => decide (g.rid = (oneF s).rid)) = (fs.take i).countP (fun g => decide (g.rid = (oneF s).rid)) + if (fs.getD i noFr).rid = .ofNat 1 then 1 else 0 := by
        rw [hsn, List.countP_append, List.countP_singleton]
        show _ + (if decide ((fs.getD i noFr).rid = .ofNat 1) = true then 1 else 0) = _
        simp only [decide_eq_true_eq]
      generalize (fs.take i).countP (fun g => decide (g.rid = (oneF s).rid)) = cnt at hstep hcnt
      generalize (fs.getD i noFr).rid = rd at r1 hstep
      by_cases e : rd = .ofNat 1
      · have q := decide_eq_true e
        rw [if_pos e] at hstep
        repeat (first | ((first | apply Xk.sAny | apply Xk.tAny); (case hok => rfl); (case h => intro C hC; simp (disch := omega) only [w1, ↓reduceIte, Nat.reduceEqDiff, Nat.reduceLeDiff, Nat.reduceAdd, Nat.reduceSub, ci, hal, hgb, r1, hcl, hg2c, q]; with_reducible exact hC); refine gc ?_) | refine gm ?_)
        repeat (first | ((first | apply Xk.sAny | apply Xk.tAny); (case hok => rfl); (case h => intro C hC; simp (disch := omega) only [w1, ↓reduceIte, Nat.reduceEqDiff, Nat.reduceLeDiff, Nat.reduceAdd, Nat.reduceSub, ci, hal, hgb, r1, hcl, hg2c, q]; with_reducible exact hC); refine gc ?_) | refine gm ?_)
        repeat (first | ((first | apply Xk.sAny | apply Xk.tAny); (case hok => rfl); (case h => intro C hC; simp (disch := omega) only [w1, ↓reduceIte, Nat.reduceEqDiff, Nat.reduceLeDiff, Nat.reduceAdd, Nat.reduceSub, ci]; with_reducible exact hC); refine gc ?_) | refine gm ?_)
        refine ⟨rfl, _, by omega, i + 1, rfl, by omega, rfl, by rw [hstep]; rfl⟩
      · have q := decide_eq_false e
        rw [if_neg e, Nat.add_zero] at hstep
        repeat (first | ((first | apply Xk.sAny | apply Xk.tAny); (case hok => rfl); (case h => intro C hC; simp (disch := omega) only [w1, ↓reduceIte, Nat.reduceEqDiff, Nat.reduceLeDiff, Nat.reduceAdd, Nat.reduceSub, ci, hal, hgb, r1, hcl, hg2c, q]; with_reducible exact hC); refine gc ?_) | refine gm ?_)
        repeat (first | ((first | apply Xk.sAny | apply Xk.tAny); (case hok => rfl); (case h => intro C hC; simp (disch := omega) only [w1, ↓reduceIte, Nat.reduceEqDiff, Nat.reduceLeDiff, Nat.reduceAdd, Nat.reduceSub, ci, hal, hgb, r1, hcl, hg2c, q]; with_reducible exact hC); refine gc ?_) | refine gm ?_)
        repeat (first | ((first | apply Xk.sAny | apply Xk.tAny); (case hok => rfl); (case h => intro C hC; simp (disch := omega) only [w1, ↓reduceIte, Nat.reduceEqDiff, Nat.reduceLeDiff, Nat.reduceAdd, Nat.reduceSub, ci]; with_reducible exact hC); refine gc ?_) | refine gm ?_)
        refine ⟨rfl, _, by omega, i + 1, rfl, by omega, rfl, by rw [hstep]; rfl⟩
    repeat (first | ((first | apply Xk.sAny | apply Xk.tAny); (case hok => rfl); (case h => intro C hC; simp (disch := omega) only [w1, ↓reduceIte, Nat.reduceEqDiff, Nat.reduceLeDiff, Nat.reduceAdd, Nat.reduceSub, ci, hal]; with_reducible exact hC); refine gc ?_) | refine gm ?_)
    obtain rfl : i = fs.length := by omega
    rw [List.take_length, hcag]
    repeat (first | ((first | apply Xk.sAny | apply Xk.tAny); (case hok => rfl); (case h => intro C hC; simp (disch := omega) only [w1, ↓reduceIte, Nat.reduceEqDiff, Nat.reduceLeDiff, Nat.reduceAdd, Nat.reduceSub, ci]; with_reducible exact hC); refine gc ?_) | refine gm ?_)
    repeat (first | ((first | apply Xk.sAny | apply Xk.tAny); (case hok => rfl); (case h => intro C hC; simp (disch := omega) only [w1, ↓reduceIte, Nat.reduceEqDiff, Nat.reduceLeDiff, Nat.reduceAdd, Nat.reduceSub, ci]; with_reducible exact hC); refine gc ?_) | refine gm ?_)
    refine Xk.iter [3, 9, 10, 11, 12, 14, 15, 18, 17, 19, 21] (fun m k G' => ∃ i, m = z.length - i ∧ i ≤ z.length ∧ G' = G ∧
        k = [(3, .bool cancel), (9, .ptr p 0), (10, .int .i64 (.ofNat s)), (11, .ptr bf 0), (12, .bool true), (14, .int .i64 (.ofNat n)), (15, .int .i64 (.ofNat (t + 1))), (18, .int .i64 (.ofNat (if (t + 1) % 4 = 0 then 1 else 0))), (17, late), (19, .int .i64 (.ofNat ((z.take i).count (oneF s).slot))), (21, .int .i64 (.ofNat i))]) rfl
      ⟨_, 0, rfl, Nat.zero_le _, rfl, rfl⟩ ?_
    rintro m k G' ⟨i, rfl, hi, rfl, rfl⟩
    unfold l2_depotlaw19_AskLate
    by_cases ci : i < z.length
    · obtain ⟨bb, cl, rfl, hgb, hcl, r1⟩ := ints_row hla ci
      have hsn : z.take (i + 1) = z.take i ++ [z.getD i 0] := by
        rw [List.take_add_one, List.getD_eq_getElem?_getD, List.getElem?_eq_getElem ci]
        rfl
      have hcnt : (z.take i).count (oneF s).slot ≤ i := Nat.le_trans List.count_le_length (by rw [List.length_take]; exact Nat.min_le_left _ _)
      have hstep : (z.take (i + 1)).count (oneF s).slot = (z.take i).count (oneF s).slot + if z.getD i 0 = .ofNat s then 1 else 0 := by
        rw [hsn, List.count_append, List.count_singleton]
        show _ + (if (z.getD i 0 == .ofNat s) = true then 1 else 0) = _
        simp only [beq_iff_eq]
      generalize (z.take i).count (oneF s).slot = cnt at hstep hcnt
      generalize z.getD i 0 = rd at r1 hstep
      by_cases e : rd = .ofNat s
      · have q := decide_eq_true e
        rw [if_pos e] at hstep
        repeat (first | ((first | apply Xk.sAny | apply Xk.tAny); (case hok => rfl); (case h => intro C hC; simp (disch := omega) only [w1, ↓reduceIte, Nat.reduceEqDiff, Nat.reduceLeDiff, Nat.reduceAdd, Nat.reduceSub, ci, hll, hgb, r1, hcl, q]; with_reducible exact hC); refine gc ?_) | refine gm ?_)
        repeat (first | ((first | apply Xk.sAny | apply Xk.tAny); (case hok => rfl); (case h => intro C hC; simp (disch := omega) only [w1, ↓reduceIte, Nat.reduceEqDiff, Nat.reduceLeDiff, Nat.reduceAdd, Nat.reduceSub, ci, hll, hgb, r1, hcl, q]; with_reducible exact hC); refine gc ?_) | refine gm ?_)
        repeat (first | ((first | apply Xk.sAny | apply Xk.tAny); (case hok => rfl); (case h => intro C hC; simp (disch := omega) only [w1, ↓reduceIte, Nat.reduceEqDiff, Nat.reduceLeDiff, Nat.reduceAdd, Nat.reduceSub, ci]; with_reducible exact hC); refine gc ?_) | refine gm ?_)
        refine ⟨rfl, _, by omega, i + 1, rfl, by omega, rfl, by rw [hstep]; rfl⟩
      · have q := decide_eq_false e
        rw [if_neg e, Nat.add_zero] at hstep
        repeat (first | ((first | apply Xk.sAny | apply Xk.tAny); (case hok => rfl); (case h => intro C hC; simp (disch := omega) only [w1, ↓reduceIte, Nat.reduceEqDiff, Nat.reduceLeDiff, Nat.reduceAdd, Nat.reduceSub, ci, hll, hgb, r1, hcl, q]; with_reducible exact hC); refine gc ?_) | refine gm ?_)
        repeat (first | ((first | apply Xk.sAny | apply Xk.tAny); (case hok => rfl); (case h => intro C hC; simp (disch := omega) only [w1, ↓reduceIte, Nat.reduceEqDiff, Nat.reduceLeDiff, Nat.reduceAdd, Nat.reduceSub, ci, hll, hgb, r1, hcl, q]; with_reducible exact hC); refine gc ?_) | refine gm ?_)
        repeat (first | ((first | apply Xk.sAny | apply Xk.tAny); (case hok => rfl); (case h => intro C hC; simp (disch := omega) only [w1, ↓reduceIte, Nat.reduceEqDiff, Nat.reduceLeDiff, Nat.reduceAdd, Nat.reduceSub, ci]; with_reducible exact hC); refine gc ?_) | refine gm ?_)
        refine ⟨rfl, _, by omega, i + 1, rfl, by omega, rfl, by rw [hstep]; rfl⟩
    obtain rfl : i = z.length := by omega
    rw [List.take_length, hcla]
    have hEt : negIf true (eqv EK.b (AV.bool true) (AV.bool true)) = some (.bool false) := rfl
    have hEf : negIf true (eqv EK.b (AV.bool false) (AV.bool false)) = some (.bool false) := rfl
    have fin : ([3, 9, 10, 11, 12, 14, 15] : List Nat).length = 7 ∧ ∃ m', m' < n - t ∧ ∃ t' M', m' = n - t' ∧ t' ≤ n ∧ Ask H G' p (⟨oneF s, t'⟩ :: M') last ∧ Lt (oneF s) t' M' ∧ G'.get bf = some (.cells (oneF s).cells 1) ∧ ¬ InA G' p bf ∧ G'.Ok ∧ HLe H G' ∧
        ([(3, .bool cancel), (9, .ptr p 0), (10, .int .i64 (.ofNat s)), (11, .ptr bf 0), (12, .bool true), (14, .int .i64 (.ofNat n)), (15, .int .i64 (.ofNat (t + 1 + 1)))] : Kn) = [(3, .bool cancel), (9, .ptr p 0), (10, .int .i64 (.ofNat s)), (11, .ptr bf 0), (12, .bool true), (14, .int .i64 (.ofNat n)), (15, .int .i64 (.ofNat (t' + 1)))] :=
      ⟨rfl, _, by omega, t + 1, M.map Go.Proofs.Ytcpcajfmkmgjeaa.inc, rfl, ct, hA2, hlt.next, hg2, hni2, hO2, hle2, rfl⟩
    by_cases c4 : (t + 1) % 4 = 0
    · rw [if_pos c4]
      by_cases c40 : 40 ≤ t + 1
      · rw [if_pos c40]
        repeat (first | ((first | apply Xk.sAny | apply Xk.tAny); (case hok => rfl); (case h => intro C hC; simp (disch := omega) only [w1, ↓reduceIte, Nat.reduceEqDiff, Nat.reduceLeDiff, Nat.reduceAdd, Nat.reduceSub, ci, hll, c4, c40, hEt, hEf]; with_reducible exact hC); refine gc ?_) | refine gm ?_)
        exact ⟨rfl, fin.2⟩
      · rw [if_neg c40]
        repeat (first | ((first | apply Xk.sAny | apply Xk.tAny); (case hok => rfl); (case h => intro C hC; simp (disch := omega) only [w1, ↓reduceIte, Nat.reduceEqDiff, Nat.reduceLeDiff, Nat.reduceAdd, Nat.reduceSub, ci, hll, c4, c40, hEt, hEf]; with_reducible exact hC); refine gc ?_) | refine gm ?_)
        exact ⟨rfl, fin.2⟩
    · rw [if_neg c4]
      by_cases c40 : 40 ≤ t + 1
      · rw [if_pos c40]
        repeat (first | ((first | apply Xk.sAny | apply Xk.tAny); (case hok => rfl); (case h => intro C hC; simp (disch := omega) only [w1, ↓reduceIte, Nat.reduceEqDiff, Nat.reduceLeDiff, Nat.reduceAdd, Nat.reduceSub, ci, hll, c4, c40, hEt, hEf]; with_reducible exact hC); refine gc ?_) | refine gm ?_)
        exact ⟨rfl, fin.2⟩
      · rw [if_neg c40]
        repeat (first | ((first | apply Xk.sAny | apply Xk.tAny); (case hok => rfl); (case h => intro C hC; simp (disch := omega) only [w1, ↓reduceIte, Nat.reduceEqDiff, Nat.reduceLeDiff, Nat.reduceAdd, Nat.reduceSub, ci, hll, c4, c40, hEt, hEf]; with_reducible exact hC); refine gc ?_) | refine gm ?_)
        exact ⟨rfl, fin.2⟩
  have htn : t = n := by omega
  subst htn
  have h01 : (0 < 1) = True := eq_true Nat.zero_lt_one
  cases cancel with
  | true =>
    repeat (first | ((first | apply Xk.sAny | apply Xk.tAny); (case hok => rfl); (case h => intro C hC; simp (disch := omega) only [w1, ↓reduceIte, Nat.reduceEqDiff, Nat.reduceLeDiff, Nat.reduceAdd, Nat.reduceSub, ct]; with_reducible exact hC); refine gc ?_) | refine gm ?_)
    repeat (first | ((first | apply Xk.sAny | apply Xk.tAny); (case hok => rfl); (case h => intro C hC; simp (disch := omega) only [w1, ↓reduceIte, Nat.reduceEqDiff, Nat.reduceLeDiff, Nat.reduceAdd, Nat.reduceSub, ct]; with_reducible exact hC); refine gc ?_) | refine gm ?_)
    refine Cancel_ev H G p (⟨oneF s, t⟩ :: M) last (.ofNat s) hle hA (by rw [List.length_cons]; omega) _ fun G5 out hO5 hle5 hk5 hA5 hout _ => ?_
    have ef1 : (⟨oneF s, t⟩ :: M : List Rq).filter (fun o => !decide (o.f.slot = .ofNat s)) = M := by
      rw [List.filter_cons]
      have e1 : (!decide ((Rq.mk (oneF s) t).f.slot = .ofNat s)) = false := by
        rw [decide_eq_true (show (Rq.mk (oneF s) t).f.slot = .ofNat s from rfl)]
        rfl
      rw [e1]
      refine List.filter_eq_self.2 fun o ho => ?_
      rw [(hlt.oth o ho).1, decide_eq_false (fun e => by
        have : ((6 : Nat) : Int) = (s : Int) := e
        omega)]
      rfl
    have ef2 : (⟨oneF s, t⟩ :: M : List Rq).filter (fun o => decide (o.f.slot = .ofNat s)) = [⟨oneF s, t⟩] := by
      rw [List.filter_cons, decide_eq_true (show (Rq.mk (oneF s) t).f.slot = .ofNat s from rfl), if_pos rfl]
      congr 1
      refine List.filter_eq_nil_iff.2 fun o ho => ?_
      rw [(hlt.oth o ho).1, decide_eq_false (fun e => by
        have : ((6 : Nat) : Int) = (s : Int) := e
        omega)]
      simp
    rw [ef1] at hA5
    rw [ef2] at hout
    obtain ⟨hg5, hni5⟩ := hk5 bf _ hg hni
    obtain ⟨bb, o, cl, w2, rfl, hgb, hrow⟩ := Sl.rowG (g := Fr.cells) (l := [oneF s]) (fun _ => rfl) noFr hout.sl Nat.zero_lt_one (by decide)
    obtain ⟨c1, rest, c2⟩ := hrow 0 Nat.zero_lt_one
    obtain ⟨r1, _, _⟩ := frs_at [oneF s] (i := 0) Nat.zero_lt_one cl o c2
    have r1' : (cl.drop (o + 3)).take 1 = [.int .i64 (.ofNat 1)] := r1
    have c1' : o + 3 + 1 ≤ cl.length := by omega
    have hg5c := hg5
    simp only [Fr.cells, oneF] at hg5c
    have h1n : ([oneF s] : List Fr).length = 1 := rfl
    rw [h1n]
    repeat (first | ((first | apply Xk.sAny | apply Xk.tAny); (case hok => rfl); (case h => intro C hC; simp (disch := omega) only [w1, ↓reduceIte, Nat.reduceEqDiff, Nat.reduceLeDiff, Nat.reduceAdd, Nat.reduceSub, hgb, r1', c1', hg5c, Nat.zero_mul, h01]; with_reducible exact hC); refine gc ?_) | refine gm ?_)
    have hM0 : ∀ o ∈ M, o.f.slot = .ofNat 6 ∧ o.t ≤ 100 := fun o ho => ⟨(hlt.oth o ho).1, by rw [(hlt.oth o ho).2.2]; omega⟩
    refine Xk.iter [9, 10, 12, 25] (fun m k G => ∃ q M, m = 45 - q ∧ q ≤ 45 ∧ Ask H G p M last ∧ (∀ o ∈ M, o.f.slot = .ofNat 6 ∧ o.t ≤ 100 + q) ∧ M.length ≤ 10 ∧ G.Ok ∧ HLe H G ∧
        k = [(9, .ptr p 0), (10, .int .i64 (.ofNat s)), (12, .bool true), (25, .int .i64 (.ofNat q))]) rfl
      ⟨_, 0, M, rfl, Nat.zero_le _, hA5, hM0, hL, hO5, hle5, rfl⟩ ?_
    rintro m k G6 ⟨q, M6, rfl, hq, hA6, hM6, hL6, hO6, hle6, rfl⟩
    unfold l6_depotlaw19_AskLate
    by_cases cq : q < 45
    case neg =>
      repeat (first | ((first | apply Xk.sAny | apply Xk.tAny); (case hok => rfl); (case h => intro C hC; simp (disch := omega) only [w1, ↓reduceIte, Nat.reduceEqDiff, Nat.reduceLeDiff, Nat.reduceAdd, Nat.reduceSub, cq]; with_reducible exact hC); refine gc ?_) | refine gm ?_)
      refine KRuns_ev _ _ ?_
      repeat (first | ((first | apply Xk.sAny | apply Xk.tAny); (case hok => rfl); (case h => intro C hC; simp (disch := omega) only [w1, ↓reduceIte, Nat.reduceEqDiff, Nat.reduceLeDiff, Nat.reduceAdd, Nat.reduceSub]; with_reducible exact hC); refine gc ?_) | refine gm ?_)
      rfl
    repeat (first | ((first | apply Xk.sAny | apply Xk.tAny); (case hok => rfl); (case h => intro C hC; simp (disch := omega) only [w1, ↓reduceIte, Nat.reduceEqDiff, Nat.reduceLeDiff, Nat.reduceAdd, Nat.reduceSub, cq]; with_reducible exact hC); refine gc ?_) | refine gm ?_)
    have hslot6 : ∀ o ∈ M6, o.t ≤ 1000000 ∧ .ofNat 0 ≤ o.f.slot ∧ o.f.slot ≤ .ofNat 11 := fun o ho => by
      obtain ⟨q1, q2⟩ := hM6 o ho
      rw [q1]
      exact ⟨by omega, by decide, by decide⟩
    refine Tick_ev H G6 p M6 last hle6 hA6 (by omega) hslot6 _ fun G7 again late z hO7 hle7 hk7 hA7 hag hla hs7 hperm hfr => ?_
    have hf6 : ∀ g ∈ againP M6 M6, g.slot = .ofNat 6 := fun g hg => by
      unfold againP at hg
      obtain ⟨o, ho, rfl⟩ := List.mem_map.1 hg
      obtain ⟨o', ho', rfl⟩ := List.mem_map.1 (List.mem_filter.1 ho).1
      exact (hM6 o' ho').1
    have hz6 : ∀ x ∈ z, x = .ofNat 6 := fun x hx => by
      obtain ⟨o, ho, q1, _⟩ := ((lateP_ok M6).2 x).1 (hperm.mem_iff.1 hx)
      rw [← q1]
      exact (hM6 o ho).1
    have hlenz : z.length ≤ 12 := by rw [hperm.length_eq]; exact late_len fun o ho => (hslot6 o ho).2
    have hlenf : (againP M6 M6).length ≤ 20 := by
      unfold againP
      rw [List.length_map]
      refine Nat.le_trans (List.length_filter_le _ _) ?_
      rw [List.length_map]
      omega
    generalize againP M6 M6 = fs at hag hf6 hlenf
    obtain ⟨hal, hasc, _⟩ := Sl.lensG (g := Fr.cells) (fun _ => rfl) hag.sl (by decide)
    have hll := hla.lens (by decide)
    rw [ints_len, Nat.div_one] at hll
    have h6s : (6 = s) = False := eq_false (by omega)
    repeat (first | ((first | apply Xk.sAny | apply Xk.tAny); (case hok => rfl); (case h => intro C hC; simp (disch := omega) only [w1, ↓reduceIte, Nat.reduceEqDiff, Nat.reduceLeDiff, Nat.reduceAdd, Nat.reduceSub]; with_reducible exact hC); refine gc ?_) | refine gm ?_)
    refine Xk.iter [9, 10, 12, 25, 26, 27, 28] (fun m k G => ∃ i, m = fs.length - i ∧ i ≤ fs.length ∧ G = G7 ∧
        k = [(9, .ptr p 0), (10, .int .i64 (.ofNat s)), (12, .bool true), (25, .int .i64 (.ofNat q)), (26, again), (27, late), (28, .int .i64 (.ofNat i))]) rfl
      ⟨_, 0, rfl, Nat.zero_le _, rfl, rfl⟩ ?_
    rintro m k G8 ⟨i, rfl, hi, rfl, rfl⟩
    unfold l4_depotlaw19_AskLate
    by_cases ci : i < fs.length
    · obtain ⟨bb, o, cl, w2, rfl, hgb, hrow⟩ := Sl.rowG (g := Fr.cells) (fun _ => rfl) noFr hag.sl (by omega) (by decide)
      obtain ⟨c1, rest, c2⟩ := hrow i ci
      obtain ⟨_, r1, _⟩ := frs_at fs ci cl o c2
      have hcl : o + i * 9 + 1 + 1 ≤ cl.length := by omega
      rw [hf6 (fs.getD i noFr) (by rw [List.getD_eq_getElem?_getD, List.getElem?_eq_getElem ci]; exact List.getElem_mem ci)] at r1
      repeat (first | ((first | apply Xk.sAny | apply Xk.tAny); (case hok => rfl); (case h => intro C hC; simp (disch := omega) only [w1, ↓reduceIte, Nat.reduceEqDiff, Nat.reduceLeDiff, Nat.reduceAdd, Nat.reduceSub, ci, hal, hgb, r1, hcl, h6s]; with_reducible exact hC); refine gc ?_) | refine gm ?_)
      exact ⟨rfl, _, by omega, i + 1, rfl, by omega, rfl, rfl⟩
    repeat (first | ((first | apply Xk.sAny | apply Xk.tAny); (case hok => rfl); (case h => intro C hC; simp (disch := omega) only [w1, ↓reduceIte, Nat.reduceEqDiff, Nat.reduceLeDiff, Nat.reduceAdd, Nat.reduceSub, ci, hal]; with_reducible exact hC); refine gc ?_) | refine gm ?_)
    refine Xk.iter [9, 10, 12, 25, 27, 29] (fun m k G => ∃ i, m = z.length - i ∧ i ≤ z.length ∧ G = G8 ∧
        k = [(9, .ptr p 0), (10, .int .i64 (.ofNat s)), (12, .bool true), (25, .int .i64 (.ofNat q)), (27, late), (29, .int .i64 (.ofNat i))]) rfl
      ⟨_, 0, rfl, Nat.zero_le _, rfl, rfl⟩ ?_
    rintro m k G9 ⟨i2, rfl, hi2, rfl, rfl⟩
    unfold l5_depotlaw19_AskLate
    by_cases ci2 : i2 < z.length
    · obtain ⟨bb, cl, rfl, hgb, hcl, r1⟩ := ints_row hla ci2
      rw [hz6 (z.getD i2 0) (by rw [List.getD_eq_getElem?_getD, List.getElem?_eq_getElem ci2]; exact List.getElem_mem ci2)] at r1
      repeat (first | ((first | apply Xk.sAny | apply Xk.tAny); (case hok => rfl); (case h => intro C hC; simp (disch := omega) only [w1, ↓reduceIte, Nat.reduceEqDiff, Nat.reduceLeDiff, Nat.reduceAdd, Nat.reduceSub, ci2, hll, hgb, r1, hcl, h6s]; with_reducible exact hC); refine gc ?_) | refine gm ?_)
      exact ⟨rfl, _, by omega, i2 + 1, rfl, by omega, rfl, rfl⟩
    repeat (first | ((first | apply Xk.sAny | apply Xk.tAny); (case hok => rfl); (case h => intro C hC; simp (disch := omega) only [w1, ↓reduceIte, Nat.reduceEqDiff, Nat.reduceLeDiff, Nat.reduceAdd, Nat.reduceSub, ci2, hll]; with_reducible exact hC); refine gc ?_) | refine gm ?_)
    refine ⟨rfl, _, by omega, q + 1, M6.map Go.Proofs.Ytcpcajfmkmgjeaa.inc, rfl, by omega, hA7, fun o ho => ?_, by rw [List.length_map]; exact hL6, hO7, hle7, rfl⟩
    obtain ⟨o', ho', rfl⟩ := List.mem_map.1 ho
    obtain ⟨q1, q2⟩ := hM6 o' ho'
    exact ⟨q1, by show o'.t + 1 ≤ _; omega⟩
  | false =>
    repeat (first | ((first | apply Xk.sAny | apply Xk.tAny); (case hok => rfl); (case h => intro C hC; simp (disch := omega) only [w1, ↓reduceIte, Nat.reduceEqDiff, Nat.reduceLeDiff, Nat.reduceAdd, Nat.reduceSub, ct]; with_reducible exact hC); refine gc ?_) | refine gm ?_)
    have hg5c := hg
    simp only [Fr.cells, oneF] at hg5c
    ((first | apply Xk.sAny | apply Xk.tAny); (case hok => rfl); (case h => intro C hC; simp (disch := omega) only [w1, ↓reduceIte, Nat.reduceEqDiff, Nat.reduceLeDiff, Nat.reduceAdd, Nat.reduceSub, hg5c]; with_reducible exact hC)); refine gc ?_
    have hAf : Ask H G p (⟨oneF s, t⟩ :: M) last := hA
    refine Answer_ev H G p (⟨oneF s, t⟩ :: M) last (ansF 7 s 1) hle hA (by rw [List.length_cons]; omega) _ (fun hno => ?_) (fun _ _ i hi hbefore hhit G5 hO5 hle5 hk5 hA5 => ?_)
    · have hh : hitB (ansF 7 s 1) ⟨oneF s, t⟩ = true := by
        show (decide ((.ofNat 1 : Int) = .ofNat 1) && decide ((.ofNat s : Int) = .ofNat s) && decide ((.ofNat 0 : Int) = .ofNat 0)) = true
        rw [decide_eq_true rfl, decide_eq_true rfl, decide_eq_true rfl]
        rfl
      rcases hno with h | h
      · rw [rightB_ans (.inr rfl) (by omega) (by decide)] at h
        cases h
      · have := h _ (List.mem_cons_self ..)
        rw [hh] at this
        cases this
    · have hh : hitB (ansF 7 s 1) ⟨oneF s, t⟩ = true := by
        show (decide ((.ofNat 1 : Int) = .ofNat 1) && decide ((.ofNat s : Int) = .ofNat s) && decide ((.ofNat 0 : Int) = .ofNat 0)) = true
        rw [decide_eq_true rfl, decide_eq_true rfl, decide_eq_true rfl]
        rfl
      obtain rfl : i = 0 := by
        cases i with
        | zero => rfl
        | succ i =>
          have := hbefore ⟨oneF s, t⟩ (by rw [List.take_succ_cons]; exact List.mem_cons_self ..)
          rw [hh] at this
          cases this
      have hA5 : Ask H G5 p M last := hA5
      obtain ⟨hA8, _, _⟩ := hA5.new hO5 (.cells (oneF s).cells 1)
      have hO8 := hO5.new (.cells (oneF s).cells 1)
      have hle8 := hle5.new_ hO5 (.cells (oneF s).cells 1)
      have hst := Heap.new_put G5 (.cells noFr.cells 1) (.cells (oneF s).cells 1)
      have hgz := Heap.get_new_self G5 (.cells noFr.cells 1)
      have hgd : (List.getD (⟨oneF s, t⟩ :: M) 0 noRq).f.cells = (oneF s).cells := rfl
      rw [hgd]
      simp only [Fr.cells, noFr, oneF] at hst hgz hA8 hO8 hle8 ⊢
      repeat (first | ((first | apply Xk.sAny | apply Xk.tAny); (case hok => rfl); (case h => intro C hC; simp (disch := omega) only [w1, ↓reduceIte, Nat.reduceEqDiff, Nat.reduceLeDiff, Nat.reduceAdd, Nat.reduceSub, hst, hgz]; with_reducible exact hC); refine gc ?_) | refine gm ?_)
      have hM0 : ∀ o ∈ M, o.f.slot = .ofNat 6 ∧ o.t ≤ 100 := fun o ho => ⟨(hlt.oth o ho).1, by rw [(hlt.oth o ho).2.2]; omega⟩
      refine Xk.iter [9, 10, 12, 25] (fun m k G => ∃ q M, m = 45 - q ∧ q ≤ 45 ∧ Ask H G p M last ∧ (∀ o ∈ M, o.f.slot = .ofNat 6 ∧ o.t ≤ 100 + q) ∧ M.length ≤ 10 ∧ G.Ok ∧ HLe H G ∧
          k = [(9, .ptr p 0), (10, .int .i64 (.ofNat s)), (12, .bool true), (25, .int .i64 (.ofNat q))]) rfl
        ⟨_, 0, M, rfl, Nat.zero_le _, hA8, hM0, hL, hO8, hle8, rfl⟩ ?_
      rintro m k G6 ⟨q, M6, rfl, hq, hA6, hM6, hL6, hO6, hle6, rfl⟩
      unfold l6_depotlaw19_AskLate
      by_cases cq : q < 45
      case neg =>
        repeat (first | ((first | apply Xk.sAny | apply Xk.tAny); (case hok => rfl); (case h => intro C hC; simp (disch := omega) only [w1, ↓reduceIte, Nat.reduceEqDiff, Nat.reduceLeDiff, Nat.reduceAdd, Nat.reduceSub, cq]; with_reducible exact hC); refine gc ?_) | refine gm ?_)
        refine KRuns_ev _ _ ?_
        repeat (first | ((first | apply Xk.sAny | apply Xk.tAny); (case hok => rfl); (case h => intro C hC; simp (disch := omega) only [w1, ↓reduceIte, Nat.reduceEqDiff, Nat.reduceLeDiff, Nat.reduceAdd, Nat.reduceSub]; with_reducible exact hC); refine gc ?_) | refine gm ?_)
        rfl
      repeat (first | ((first | apply Xk.sAny | apply Xk.tAny); (case hok => rfl); (case h => intro C hC; simp (disch := omega) only [w1, ↓reduceIte, Nat.reduceEqDiff, Nat.reduceLeDiff, Nat.reduceAdd, Nat.reduceSub, cq]; with_reducible exact hC); refine gc ?_) | refine gm ?_)
      have hslot6 : ∀ o ∈ M6, o.t ≤ 1000000 ∧ .ofNat 0 ≤ o.f.slot ∧ o.f.slot ≤ .ofNat 11 := fun o ho => by
        obtain ⟨q1, q2⟩ := hM6 o ho
        rw [q1]
        exact ⟨by omega, by decide, by decide⟩
      refine Tick_ev H G6 p M6 last hle6 hA6 (by omega) hslot6 _ fun G7 again late z hO7 hle7 hk7 hA7 hag hla hs7 hperm hfr => ?_
      have hf6 : ∀ g ∈ againP M6 M6, g.slot = .ofNat 6 := fun g hg => by
        unfold againP at hg
        obtain ⟨o, ho, rfl⟩ := List.mem_map.1 hg
        obtain ⟨o', ho', rfl⟩ := List.mem_map.1 (List.mem_filter.1 ho).1
        exact (hM6 o' ho').1
      have hz6 : ∀ x ∈ z, x = .ofNat 6 := fun x hx => by
        obtain ⟨o, ho, q1, _⟩ := ((lateP_ok M6).2 x).1 (hperm.mem_iff.1 hx)
        rw [← q1]
        exact (hM6 o ho).1
      have hlenz : z.length ≤ 12 := by rw [hperm.length_eq]; exact late_len fun o ho => (hslot6 o ho).2
      have hlenf : (againP M6 M6).length ≤ 20 := by
        unfold againP
        rw [List.length_map]
        refine Nat.le_trans (List.length_filter_le _ _) ?_
        rw [List.length_map]
        omega
      generalize againP M6 M6 = fs at hag hf6 hlenf
      obtain ⟨hal, hasc, _⟩ := Sl.lensG (g := Fr.cells) (fun _ => rfl) hag.sl (by decide)
      have hll := hla.lens (by decide)
      rw [ints_len, Nat.div_one] at hll
      have h6s : (6 = s) = False := eq_false (by omega)
      repeat (first | ((first | apply Xk.sAny | apply Xk.tAny); (case hok => rfl); (case h => intro C hC; simp (disch := omega) only [w1, ↓reduceIte, Nat.reduceEqDiff, Nat.reduceLeDiff, Nat.reduceAdd, Nat.reduceSub]; with_reducible exact hC); refine gc ?_) | refine gm ?_)
      refine Xk.iter [9, 10, 12, 25, 26, 27, 28] (fun m k G => ∃ i, m = fs.length - i ∧ i ≤ fs.length ∧ G = G7 ∧
          k = [(9, .ptr p 0), (10, .int .i64 (.ofNat s)), (12, .bool true), (25, .int .i64 (.ofNat q)), (26, again), (27, late), (28, .int .i64 (.ofNat i))]) rfl
        ⟨_, 0, rfl, Nat.zero_le _, rfl, rfl⟩ ?_
      rintro m k G8 ⟨i, rfl, hi, rfl, rfl⟩
      unfold l4_depotlaw19_AskLate
      by_cases ci : i < fs.length
      · obtain ⟨bb, o, cl, w2, rfl, hgb, hrow⟩ := Sl.rowG (g := Fr.cells) (fun _ => rfl) noFr hag.sl (by omega) (by decide)
        obtain ⟨c1, rest, c2⟩ := hrow i ci
        obtain ⟨_, r1, _⟩ := frs_at fs ci cl o c2
        have hcl : o + i * 9 + 1 + 1 ≤ cl.length := by omega
        rw [hf6 (fs.getD i noFr) (by rw [List.getD_eq_getElem?_getD, List.getElem?_eq_getElem ci]; exact List.getElem_mem ci)] at r1
        repeat (first | ((first | apply Xk.sAny | apply Xk.tAny); (case hok => rfl); (case h => intro C hC; simp (disch := omega) only [w1, ↓reduceIte, Nat.reduceEqDiff, Nat.reduceLeDiff, Nat.reduceAdd, Nat.reduceSub, ci, hal, hgb, r1, hcl, h6s]; with_reducible exact hC); refine gc ?_) | refine gm ?_)
        exact ⟨rfl, _, by omega, i + 1, rfl, by omega, rfl, rfl⟩
      repeat (first | ((first | apply Xk.sAny | apply Xk.tAny); (case hok => rfl); (case h => intro C hC; simp (disch := omega) only [w1, ↓reduceIte, Nat.reduceEqDiff, Nat.reduceLeDiff, Nat.reduceAdd, Nat.reduceSub, ci, hal]; with_reducible exact hC); refine gc ?_) | refine gm ?_)
      refine Xk.iter [9, 10, 12, 25, 27, 29] (fun m k G => ∃ i, m = z.length - i ∧ i ≤ z.length ∧ G = G8 ∧
          k = [(9, .ptr p 0), (10, .int .i64 (.ofNat s)), (12, .bool true), (25, .int .i64 (.ofNat q)), (27, late), (29, .int .i64 (.ofNat i))]) rfl
        ⟨_, 0, rfl, Nat.zero_le _, rfl, rfl⟩ ?_
      rintro m k G9 ⟨i2, rfl, hi2, rfl, rfl⟩
      unfold l5_depotlaw19_AskLate
      by_cases ci2 : i2 < z.length
      · obtain ⟨bb, cl, rfl, hgb, hcl, r1⟩ := ints_row hla ci2
        rw [hz6 (z.getD i2 0) (by rw [List.getD_eq_getElem?_getD, List.getElem?_eq_getElem ci2]; exact List.getElem_mem ci2)] at r1
        repeat (first | ((first | apply Xk.sAny | apply Xk.tAny); (case hok => rfl); (case h => intro C hC; simp (disch := omega) only [w1, ↓reduceIte, Nat.reduceEqDiff, Nat.reduceLeDiff, Nat.reduceAdd, Nat.reduceSub, ci2, hll, hgb, r1, hcl, h6s]; with_reducible exact hC); refine gc ?_) | refine gm ?_)
        exact ⟨rfl, _, by omega, i2 + 1, rfl, by omega, rfl, rfl⟩
      repeat (first | ((first | apply Xk.sAny | apply Xk.tAny); (case hok => rfl); (case h => intro C hC; simp (disch := omega) only [w1, ↓reduceIte, Nat.reduceEqDiff, Nat.reduceLeDiff, Nat.reduceAdd, Nat.reduceSub, ci2, hll]; with_reducible exact hC); refine gc ?_) | refine gm ?_)
      refine ⟨rfl, _, by omega, q + 1, M6.map Go.Proofs.Ytcpcajfmkmgjeaa.inc, rfl, by omega, hA7, fun o ho => ?_, by rw [List.length_map]; exact hL6, hO7, hle7, rfl⟩
      obtain ⟨o', ho', rfl⟩ := List.mem_map.1 ho
      obtain ⟨q1, q2⟩ := hM6 o' ho'
      exact ⟨q1, by show o'.t + 1 ≤ _; omega⟩
end Go.Proofs.Ytcpcajfmkmgjeaa
