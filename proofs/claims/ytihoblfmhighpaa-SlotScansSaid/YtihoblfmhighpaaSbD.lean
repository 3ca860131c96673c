/- The slab: a chunk for a text. Conditions: none. -/
import Derived.Test.YtihoblfmhighpaaSbG
namespace Go.Proofs.Ytihoblfmhighpaa
open Go.Dp
set_option linter.unusedSimpArgs false
set_option linter.unusedVariables false
set_option maxHeartbeats 400000
set_option maxRecDepth 8000
attribute [local irreducible] Ex.thnK Ex.inK Ret

def less1 : Nat → Int
  | 0 => .negSucc 0
  | m + 1 => .ofNat m
theorem sub_less1 (m : Nat) (h : m < 9223372036854775808) : bin .sub (.int .i64 (.ofNat m)) (.int .i64 (.ofNat 1)) = some (.int .i64 (less1 m)) := by
  cases m with
  | zero => rfl
  | succ m => rw [subn_i64 _ _ (by omega) (by omega)]; rfl
theorem chunksTo_step {count n m : Nat} (h : m < n) : chunksTo count n m = chunksTo count n (m + 1) ++ [count + m] := by
  unfold chunksTo
  have e : n - m = (n - (m + 1)) + 1 := by omega
  rw [e, List.take_add_one, chunks_at (by omega)]
  show _ ++ [count + (n - 1 - (n - (m + 1)))] = _
  have : n - 1 - (n - (m + 1)) = m := by omega
  rw [this]
theorem chunksTo_len {count n m : Nat} (h : m ≤ n) : (chunksTo count n m).length = n - m := by
  unfold chunksTo
  rw [List.length_take, chunks_len]
  omega
theorem cl_set {s : Sb} {i : Nat} (h : i < s.cs.length) (k : Cl) (l u : Nat) : (⟨s.page, l, u, s.cs.set i k⟩ : Sb).cl i = k := by
  show (s.cs.set i k).getD i noCl = k
  rw [List.getD_eq_getElem?_getD, List.getElem?_set_self h]
  rfl

theorem over_drop1 {l : List AV} {o : Nat} (v : AV) (h : o < l.length) : (over l o [v]).drop (o + 1) = l.drop (o + 1) := by
  show (l.take o ++ ([v] ++ l.drop (o + 1))).drop (o + 1) = _
  have e : (l.take o ++ [v]).length = o + 1 := by rw [List.length_append, List.length_take, Nat.min_eq_left (by omega)]; rfl
  rw [← List.append_assoc]
  exact List.drop_left' e
theorem over_len1 {l : List AV} {o : Nat} (v : AV) (h : o + 1 ≤ l.length) : (over l o [v]).length = l.length := over_lenC _ _ _ h

theorem Alloc_ev (σ : Nat) (T : Tags) (H : Heap) (p : Nat) (s : Sb) (c : Nat) (h : SbC σ T H p s c) (hs : s.Ok) (d : List UInt8) (hd : d.length ≤ 1000000000) (Q : AV → Heap → Prop)
    (hlong : clsOf s.cs d.length = none → ∀ T' H', Stp (fun u => u.1 = σ) T H T' H' → SbC σ T' H' p s c → Q (.tup [.agg [.int .i64 (.ofNat 0), .int .i64 (.ofNat 0)], .int .i64 (.ofNat 2)]) H')
    (hfull : ∀ i, clsOf s.cs d.length = some i → s.full i → ∀ T' H', Stp (fun u => u.1 = σ) T H T' H' → SbC σ T' H' p s c → Q (.tup [.agg [.int .i64 (.ofNat 0), .int .i64 (.ofNat 0)], .int .i64 (.ofNat 6)]) H')
    (hyes : ∀ i, clsOf s.cs d.length = some i → ¬ s.full i → ∀ T' H', Stp (fun u => u.1 = σ) T H T' H' → SbC σ T' H' p (s.alloc i d).1 c → Q (.tup [.agg [.int .i64 (.ofNat i), .int .i64 (.ofNat (s.alloc i d).2)], .int .i64 (.ofNat 0)]) H') :
    Eo lib n_slab_Slab_Alloc [.ptr p 0, .str d] H Q := by
  refine Eo.ok fun hOk => ?_
  refine Eo.code at_slab_Slab_Alloc rfl ?_
  obtain ⟨T1, s1, a1⟩ := new1 (T := T) hOk (σ, 9, 0) (.cells [.int .i64 (.ofNat 0), .int .i64 (.ofNat 0)] 1)
  have h1 := h.step s1 (fun _ _ h => h)
  iterate 2 repeat (first | ((first | apply Xk.sAny | apply Xk.tAny); (case hok => rfl); (case h => intro C hC; simp (disch := omega) only [w1, ↓reduceIte, Nat.reduceEqDiff, Nat.reduceLeDiff, Nat.reduceAdd, Nat.reduceSub]; with_reducible exact hC); refine gc ?_) | refine gm ?_)
  have st1 : Stp (fun u => u.1 = σ) T H T1 _ := s1.mono fun _ h => h.elim
  generalize H.new (.cells [.int .i64 (.ofNat 0), .int .i64 (.ofNat 0)] 1) = H1 at s1 a1 h1 st1 ⊢
  generalize H.next = pr at a1 ⊢
  have hln := hs.ln
  refine Class_ev σ T1 H1 p s c h1 hs.ln d.length _ (fun hn H2 hO2 hle2 => ?_) (fun i hi H2 hO2 hle2 => ?_)
  · have s2 : Stp (fun _ => False) T1 H1 T1 H2 := Stp.le hO2 hle2
    have a2 := a1.step s2 (fun h => h)
    have h2 := h1.step s2 (fun _ _ h => h)
    have hg := a2.1
    have hneg : (Int.negSucc 0 < Int.ofNat 0) = True := eq_true (by decide)
    iterate 2 repeat (first | ((first | apply Xk.sAny | apply Xk.tAny); (case hok => rfl); (case h => intro C hC; simp (disch := omega) only [w1, ↓reduceIte, Nat.reduceEqDiff, Nat.reduceLeDiff, Nat.reduceAdd, Nat.reduceSub, hneg, hg]; with_reducible exact hC); refine gc ?_) | refine gm ?_)
    refine ret_cell (p := pr) (t1 := 4) (t2 := 5) rfl rfl (load_agg (Heap.get_put_self _ _ _) rfl) rfl rfl ?_
    have s3 := a2.stp1 hO2 (.cells [.int .i64 (.ofNat 0), .int .i64 (.ofNat 0)] 1)
    have st := (st1.trans (s2.mono fun _ h => h.elim)).trans (s3.mono (P := fun u => u.1 = σ) fun u h => by rw [h])
    refine hlong hn _ _ st ?_
    obtain ⟨x1, rows, x2, x3, x4⟩ := h2
    exact ⟨x1.step s3 (tg3 (by decide)), rows, x2, x3.step s3 (tg3 (by decide)), fun j hj => (x4 j hj).step s3 (tg3 (by decide)) (tg3 (by decide))⟩
  have s2 : Stp (fun _ => False) T1 H1 T1 H2 := Stp.le hO2 hle2
  have a2 := a1.step s2 (fun h => h)
  have h2 := h1.step s2 (fun _ _ h => h)
  have st2 : Stp (fun u => u.1 = σ) T H T1 H2 := st1.trans (s2.mono fun _ h => h.elim)
  have hil := clsOf_lt hi
  have hfl := hfull i hi
  have hye := hyes i hi
  clear hfull hyes hlong a1 h1 st1 s1 s2 hle2 hOk h
  obtain ⟨rows, cl, F⟩ := h2.fo hil
  have hcl := hs.cl _ (Sb.cl_mem hil)
  have hg := F.head.1
  have hgc := F.row.1
  have b4 := F.b4
  have d1 := F.d1
  have b2 : i * 4 + 1 + 1 ≤ cl.length := by omega
  obtain ⟨g1, g2, g3, b, es, mc, g4, g5, g6⟩ := F.all i hil
  obtain ⟨v1, v2, v3, v4⟩ := (F.all i hil).sc
  have vl := g3.lens (by decide)
  rw [nats_len, Nat.div_one] at vl
  repeat (first | ((first | apply Xk.sAny | apply Xk.tAny); (case hok => rfl); (case h => intro C hC; simp (disch := omega) only [w1, ↓reduceIte, Nat.reduceEqDiff, Nat.reduceLeDiff, Nat.reduceAdd, Nat.reduceSub, Nat.not_lt_zero, hg, hil]; with_reducible exact hC); refine gc ?_) | refine gm ?_)
  repeat (first | ((first | apply Xk.sAny | apply Xk.tAny); (case hok => rfl); (case h => intro C hC; simp (disch := omega) only [w1, ↓reduceIte, Nat.reduceEqDiff, Nat.reduceLeDiff, Nat.reduceAdd, Nat.reduceSub, Nat.not_lt_zero, hg, hil, hgc, d1, b2, v1, v3, vl]; with_reducible exact hC); refine gc ?_) | refine gm ?_)
  refine Xk.cut [0, 1, 4, 6, 7] (fun k H' => ∃ T' s', k = [(0, .ptr p 0), (1, .str d), (4, .ptr pr 0), (6, .int .i64 (.ofNat i)), (7, .ptr c (i * 4))] ∧ SbC σ T' H' p s' c ∧ s'.Ok ∧ i < s'.cs.length ∧ (s'.cl i).free ≠ [] ∧
      At T' H' (σ, 9, 0) pr (.cells [.int .i64 (.ofNat 0), .int .i64 (.ofNat 0)] 1) ∧ Stp (fun u => u.1 = σ) T H T' H' ∧ ¬ s.full i ∧ s'.alloc i d = s.alloc i d) ?_ ?_
  · refine Xk.if_ rfl rfl (fun z => ?_) (fun z => ?_)
    · have hfe : (s.cl i).free = [] := List.eq_nil_of_length_eq_zero z
      by_cases hl0 : s.left = 0
      · have hl0' := eq_true hl0
        have hp4 := a2.1
        iterate 2 repeat (first | ((first | apply Xk.sAny | apply Xk.tAny); (case hok => rfl); (case h => intro C hC; simp (disch := omega) only [w1, ↓reduceIte, Nat.reduceEqDiff, Nat.reduceLeDiff, Nat.reduceAdd, Nat.reduceSub, hg, hl0', hp4]; with_reducible exact hC); refine gc ?_) | refine gm ?_)
        refine ret_cell (p := pr) (t1 := 4) (t2 := 5) rfl rfl (load_agg (Heap.get_put_self _ _ _) rfl) rfl rfl ?_
        have s3 := a2.stp1 hO2 (.cells [.int .i64 (.ofNat 0), .int .i64 (.ofNat 0)] 1)
        refine hfl ⟨hfe, hl0⟩ _ _ (st2.trans (s3.mono (P := fun u => u.1 = σ) fun u h => by rw [h])) ?_
        obtain ⟨x1, rows, x2, x3, x4⟩ := h2
        exact ⟨x1.step s3 (tg3 (by decide)), rows, x2, x3.step s3 (tg3 (by decide)), fun j hj => (x4 j hj).step s3 (tg3 (by decide)) (tg3 (by decide))⟩
      · have hl1 : 1 ≤ s.left := by omega
        have hus := hs.us
        have hpg := hs.pg
        have hlo := hcl.lo
        have hct := hcl.ct
        have hcp : c ≠ p := fun e => tg3 (a := σ) (b := 1) (e := 0) (c := 0) (f := 0) (by decide) (by rw [← F.row.2, ← F.head.2, e])
        obtain ⟨h3, s3⟩ := h2.head hO2 (s.left - 1) (s.used + 1)
        have a3 := a2.step s3 (tg3 (by decide))
        have st3 := st2.trans (s3.mono (P := fun u => u.1 = σ) fun u h => by rw [h])
        have d0 := F.d0
        have b0 : i * 4 + 1 ≤ cl.length := by omega
        have hdp := div_pos' hcl.hi hlo
        have hdl := div_le hpg hlo
        have hq : bin .quo (.int .i64 (.ofNat s.page)) (.int .i64 (.ofNat (s.cl i).size)) = some (.int .i64 (.ofNat (s.page / (s.cl i).size))) := quon _ _ _ (by omega) (by rw [nblt]; exact decide_eq_true (by show s.page / (s.cl i).size < 9223372036854775808; omega))
        have hgw : (s.cl i).grow s.page = { s.cl i with free := chunks (s.cl i).count (s.page / (s.cl i).size), count := (s.cl i).count + s.page / (s.cl i).size } := by
          unfold Cl.grow
          rw [hfe]
          rfl
        have hal : s.alloc i d = (⟨s.page, s.left - 1, s.used + 1, s.cs.set i (((s.cl i).grow s.page).take d)⟩, ((s.cl i).grow s.page).free.getLastD 0) := by
          unfold Sb.alloc
          rw [if_pos hfe]
        have hok := hcl.grow hpg
        generalize hn : s.page / (s.cl i).size = n at hdp hdl hq hgw
        obtain ⟨n', rfl⟩ : ∃ n', n = n' + 1 := ⟨n - 1, by omega⟩
        iterate 2 repeat (first | ((first | apply Xk.sAny | apply Xk.tAny); (case hok => rfl); (case h => intro C hC; simp (disch := omega) only [w1, ↓reduceIte, Nat.reduceEqDiff, Nat.reduceLeDiff, Nat.reduceAdd, Nat.reduceSub, hg, hl0, hl1, hgc, d0, b0, hcp, hq]; with_reducible exact hC); refine gc ?_) | refine gm ?_)
        generalize H2.put p (.cells [.int .i64 (.ofNat s.page), .int .i64 (.ofNat (s.left - 1)), .int .i64 (.ofNat (s.used + 1)), .sl c 0 s.cs.length 4] 1) = H3 at h3 s3 a3 st3 ⊢
        have e0 : s.cs.set i { s.cl i with free := chunksTo (s.cl i).count (n' + 1) (n' + 1) } = s.cs := by
          have e1 : chunksTo (s.cl i).count (n' + 1) (n' + 1) = [] := by unfold chunksTo; rw [Nat.sub_self, List.take_zero]
          have e2 : ({ s.cl i with free := [] } : Cl) = s.cl i := by rw [← hfe]
          rw [e1, e2]
          exact set_getD _ _ _
        refine Xk.iter [0, 1, 4, 6, 7, 8, 9] (fun m k H' => ∃ T', k = [(0, .ptr p 0), (1, .str d), (4, .ptr pr 0), (6, .int .i64 (.ofNat i)), (7, .ptr c (i * 4)), (8, .int .i64 (.ofNat (n' + 1))), (9, .int .i64 (less1 m))] ∧ m ≤ n' + 1 ∧
          SbC σ T' H' p ⟨s.page, s.left - 1, s.used + 1, s.cs.set i { s.cl i with free := chunksTo (s.cl i).count (n' + 1) m }⟩ c ∧ At T' H' (σ, 9, 0) pr (.cells [.int .i64 (.ofNat 0), .int .i64 (.ofNat 0)] 1) ∧ Stp (fun u => u.1 = σ) T H T' H') rfl
          ⟨n' + 1, T1, rfl, Nat.le_refl _, by rw [e0]; exact h3, a3, st3⟩ ?_
        rintro m k H' ⟨T', rfl, hm, hC, ha, hst⟩
        unfold l0_slab_Slab_Alloc
        obtain ⟨rows', cl', F'⟩ := hC.fo (i := i) (by show i < (s.cs.set i _).length; rw [List.length_set]; exact hil)
        have ecl := cl_set hil ({ s.cl i with free := chunksTo (s.cl i).count (n' + 1) m } : Cl) (s.left - 1) (s.used + 1)
        have d1' := F'.d1
        have d3' := F'.d3
        rw [ecl] at d3'
        have hgc' := F'.row.1
        have b4' := F'.b4
        have b1' : i * 4 + 1 + 1 ≤ cl'.length := by omega
        have b3' : i * 4 + 3 + 1 ≤ cl'.length := by omega
        obtain ⟨v1, v2, v3, v4⟩ := (F'.all i (by show i < (s.cs.set i _).length; rw [List.length_set]; exact hil)).sc
        have d3' : (cl'.drop (i * 4 + 3)).take 1 = [.int .i64 (.ofNat (s.cl i).count)] := d3'
        cases m with
        | succ m =>
          have hsub := sub_less1 m (by omega)
          obtain ⟨v', H4, T4, e1, e2, e3, e4, e5, e6, e7⟩ := F'.push hst.ok (by rw [ecl]; show (chunksTo _ _ _).length ≤ _; rw [chunksTo_len hm]; omega) ((s.cl i).count + m)
          rw [ecl] at e7
          have hov : cl'.take (i * 4 + 1) ++ (v' :: cl'.drop (i * 4 + 1 + 1)) = over cl' (i * 4 + 1) [v'] := rfl
          generalize over cl' (i * 4 + 1) [v'] = cl2 at hov e5 e7
          show Xk lib _ _ [_, _, _, _, _, _, (9, .int .i64 (.ofNat m))] _ _
          repeat (first | ((first | apply Xk.sAny | apply Xk.tAny); (case hok => rfl); (case h => intro C hC; simp (disch := omega) only [w1, ↓reduceIte, Nat.reduceEqDiff, Nat.reduceLeDiff, Nat.reduceAdd, Nat.reduceSub, hgc', d1', d3', b1', b3', v1, v3, e1]; with_reducible exact hC); refine gc ?_) | refine gm ?_)
          iterate 2 repeat (first | ((first | apply Xk.sAny | apply Xk.tAny); (case hok => rfl); (case h => intro C hC; simp (disch := omega) only [w1, ↓reduceIte, Nat.reduceEqDiff, Nat.reduceLeDiff, Nat.reduceAdd, Nat.reduceSub, hgc', d1', d3', b1', b3', v1, v3, e1, e2, e3, e4, hov, hsub]; with_reducible exact hC); refine gc ?_) | refine gm ?_)
          refine ⟨rfl, m, by omega, T4, rfl, by omega, ?_, ha.step e5 (fun h => absurd h.2 (by dsimp only; omega)), hst.trans (e5.mono fun u h => h.1)⟩
          rw [chunksTo_step (show m < n' + 1 by omega)]
          have e7 : SbC σ T4 _ p ⟨s.page, s.left - 1, s.used + 1, (s.cs.set i _).set i _⟩ c := e7
          rw [List.set_set] at e7
          exact e7
        | zero =>
          have h0 : (Int.ofNat 0 ≤ Int.negSucc 0) = False := eq_false (by decide)
          obtain ⟨e5, e6, e7⟩ := F'.cnt hst.ok ((s.cl i).count + (n' + 1))
          rw [ecl] at e7
          have hov : cl'.take (i * 4 + 3) ++ (.int .i64 (.ofNat ((s.cl i).count + (n' + 1))) :: cl'.drop (i * 4 + 3 + 1)) = over cl' (i * 4 + 3) [.int .i64 (.ofNat ((s.cl i).count + (n' + 1)))] := rfl
          generalize over cl' (i * 4 + 3) [.int .i64 (.ofNat ((s.cl i).count + (n' + 1)))] = cl2 at hov e5 e7
          show Xk lib _ _ [_, _, _, _, _, _, (9, .int .i64 (.negSucc 0))] _ _
          repeat (first | ((first | apply Xk.sAny | apply Xk.tAny); (case hok => rfl); (case h => intro C hC; simp (disch := omega) only [w1, ↓reduceIte, Nat.reduceEqDiff, Nat.reduceLeDiff, Nat.reduceAdd, Nat.reduceSub, h0]; with_reducible exact hC); refine gc ?_) | refine gm ?_)
          iterate 2 repeat (first | ((first | apply Xk.sAny | apply Xk.tAny); (case hok => rfl); (case h => intro C hC; simp (disch := omega) only [w1, ↓reduceIte, Nat.reduceEqDiff, Nat.reduceLeDiff, Nat.reduceAdd, Nat.reduceSub, h0, hgc', d3', b3', hov]; with_reducible exact hC); refine gc ?_) | refine gm ?_)
          have e7 : SbC σ T' _ p ⟨s.page, s.left - 1, s.used + 1, (s.cs.set i _).set i _⟩ c := e7
          rw [List.set_set] at e7
          have hct0 : chunksTo (s.cl i).count (n' + 1) 0 = chunks (s.cl i).count (n' + 1) := by
            unfold chunksTo
            exact List.take_of_length_le (by rw [chunks_len]; omega)
          have eg : ({ size := (s.cl i).size, free := chunksTo (s.cl i).count (n' + 1) 0, live := (s.cl i).live, count := (s.cl i).count + (n' + 1) } : Cl) = (s.cl i).grow s.page := by rw [hct0, hgw]
          have e7 : SbC σ T' _ p ⟨s.page, s.left - 1, s.used + 1, s.cs.set i { size := (s.cl i).size, free := chunksTo (s.cl i).count (n' + 1) 0, live := (s.cl i).live, count := (s.cl i).count + (n' + 1) }⟩ c := e7
          rw [eg] at e7
          have ecg := cl_set hil ((s.cl i).grow s.page) (s.left - 1) (s.used + 1)
          have hnef : ((s.cl i).grow s.page).free ≠ [] := by
            rw [hgw]
            intro e
            have := congrArg List.length e
            rw [chunks_len] at this
            cases this
          refine ⟨rfl, T', ⟨s.page, s.left - 1, s.used + 1, s.cs.set i ((s.cl i).grow s.page)⟩, rfl, e7, ⟨hpg, by show s.left - 1 + (s.used + 1) ≤ 64; omega, fun x hx => ?_, by show (s.cs.set i _).length ≤ 20; rw [List.length_set]; exact hs.ln⟩, by show i < (s.cs.set i _).length; rw [List.length_set]; exact hil, by rw [ecg]; exact hnef, ha.step e5 (fun h => absurd h.2 (by dsimp only; omega)), hst.trans (e5.mono fun u h => h.1), fun h => hl0 h.2, ?_⟩
          · rcases mem_set hx with rfl | hx
            · exact hok
            · exact (hs.cl x hx).mono (Nat.le_succ _)
          · rw [hal]
            unfold Sb.alloc
            rw [ecg, if_neg hnef]
            show (_, _) = _
            rw [List.set_set]
    · have hfe : (s.cl i).free ≠ [] := fun e => z (by rw [e]; rfl)
      repeat (first | ((first | apply Xk.sAny | apply Xk.tAny); (case hok => rfl); (case h => intro C hC; simp (disch := omega) only [w1, ↓reduceIte, Nat.reduceEqDiff, Nat.reduceLeDiff, Nat.reduceAdd, Nat.reduceSub]; with_reducible exact hC); refine gc ?_) | refine gm ?_)
      exact ⟨rfl, T1, s, rfl, h2, hs, hil, hfe, a2, st2, fun h => hfe h.1, rfl⟩
  · rintro k H' ⟨T', s', rfl, hC, hs', hi', hne, ha, hst, hnf, hal⟩
    obtain ⟨rows', cl', F'⟩ := hC.fo hi'
    have d1' := F'.d1
    have d2' := F'.d2
    have hgc' := F'.row.1
    have b4' := F'.b4
    obtain ⟨f, fl, b, es, mc, e1, e2, e3, e4, e5, e6, e7, e8, e9, e10, e11, e12, e13⟩ := F'.take hst.ok hs' hne d
    have hal2 : s'.alloc i d = (⟨s'.page, s'.left, s'.used, s'.cs.set i ((s'.cl i).take d)⟩, (s'.cl i).free.getLastD 0) := by
      unfold Sb.alloc
      rw [if_neg hne]
    rw [← hal, hal2] at hye
    have hye := hye hnf
    rw [e1] at d1'
    rw [e2] at d2'
    have hlnb := (hs'.fl hi').1
    generalize (s'.cl i).free.getLastD 0 = kk at *
    generalize (s'.cl i).free.length = ln at *
    have hd2 : ((over cl' (i * 4 + 1) [.sl f 0 (ln - 1) 1]).drop (i * 4 + 2)).take 1 = [.map b] := by
      have := over_drop1 (l := cl') (o := i * 4 + 1) (.sl f 0 (ln - 1) 1) (by omega)
      rw [show i * 4 + 1 + 1 = i * 4 + 2 from rfl] at this
      rw [this]
      exact d2'
    have hl2 := over_len1 (l := cl') (o := i * 4 + 1) (.sl f 0 (ln - 1) 1) (by omega)
    have hov : cl'.take (i * 4 + 1) ++ (.sl f 0 (ln - 1) 1 :: cl'.drop (i * 4 + 1 + 1)) = over cl' (i * 4 + 1) [.sl f 0 (ln - 1) 1] := rfl
    generalize over cl' (i * 4 + 1) [.sl f 0 (ln - 1) 1] = cl2 at hd2 hl2 hov e12 e13 hye
    have hmu : eMupd (H'.put c (.cells cl2 1)) false (.map b) (.int .i64 (.ofNat kk)) (.str d) = some (.tup [], (H'.put c (.cells cl2 1)).put b (.mp (es ++ [(.int .i64 (.ofNat kk), .str d, mc)]) (mc + 1))) := by
      simp only [eMupd, Heap.get_put_ne _ _ _ e8, e10, e11]
      rfl
    have b2' : i * 4 + 2 + 1 ≤ cl2.length := by omega
    have hcap : ln - 1 ≤ fl.length := by omega
    have hlt : ln - 1 < ln := by omega
    have hle1 : ln - 1 + 1 ≤ fl.length := by omega
    have hl11 : 1 ≤ ln := by omega
    have hgp := (ha.step e12 (fun h => absurd h.2 (by dsimp only; omega)))
    have hgp1 := hgp.1
    have hst2 := hst.trans (e12.mono (P := fun u => u.1 = σ) fun u h => h.1)
    repeat (first | ((first | apply Xk.sAny | apply Xk.tAny); (case hok => rfl); (case h => intro C hC; simp (disch := omega) only [w1, ↓reduceIte, Nat.reduceEqDiff, Nat.reduceLeDiff, Nat.reduceAdd, Nat.reduceSub, hgc', d1', e9, e3, e4, hlt, hle1, hl11, hcap, hov, e7]; with_reducible exact hC); refine gc ?_) | refine gm ?_)
    iterate 2 repeat (first | ((first | apply Xk.sAny | apply Xk.tAny); (case hok => rfl); (case h => intro C hC; simp (disch := omega) only [w1, ↓reduceIte, Nat.reduceEqDiff, Nat.reduceLeDiff, Nat.reduceAdd, Nat.reduceSub, hgc', d1', e9, e3, e4, hlt, hle1, hl11, hcap, hov, e7, hd2, b2', hmu, hgp1]; with_reducible exact hC); refine gc ?_) | refine gm ?_)
    refine ret_cell (p := pr) (t1 := 4) (t2 := 5) rfl rfl (load_agg (Heap.get_put_self _ _ _) rfl) rfl rfl ?_
    have s3 := hgp.stp1 hst2.ok (.cells [.int .i64 (.ofNat i), .int .i64 (.ofNat kk)] 1)
    refine hye _ _ (hst2.trans (s3.mono (P := fun u => u.1 = σ) fun u h => by rw [h])) ?_
    obtain ⟨x1, rows, x2, x3, x4⟩ := e13
    exact ⟨x1.step s3 (tg3 (by decide)), rows, x2, x3.step s3 (tg3 (by decide)), fun j hj => (x4 j hj).step s3 (tg3 (by decide)) (tg3 (by decide))⟩
end Go.Proofs.Ytihoblfmhighpaa
