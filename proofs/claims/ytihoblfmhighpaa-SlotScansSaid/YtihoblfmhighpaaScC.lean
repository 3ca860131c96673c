/- The slot: a scan is done. Conditions: none. -/
import Derived.Test.YtihoblfmhighpaaScB
namespace Go.Proofs.Ytihoblfmhighpaa
open Go.Dp
set_option linter.unusedSimpArgs false
set_option linter.unusedVariables false
set_option maxHeartbeats 400000
set_option maxRecDepth 8000
attribute [local irreducible] Ex.thnK Ex.inK Ret

theorem n96 {κ a b : Nat} (h : a ≠ 9) : ¬ O9 κ (κ + 6, a, b) := fun q => h q.2
theorem doScan_ev (κ : Nat) (T : Tags) (H : Heap) (p : Nat) (s : Sw) (h : SW κ T H p s) (hf : s.st.Few) (hne : ∀ x ∈ s.st.l, x.key ≠ []) (hl : s.st.l.length < 65536) (hks : ∀ x ∈ s.st.l, x.key.length ≤ 20000) (f : Fr) (hkd : f.kind = .ofNat 4) (Q : AV → Heap → Prop)
    (hQ : ∀ w T' H', w.Perm (behind (metaKeys (s.st.l.map (·.key))) f.key) → Sd 0 w.length w → Stp (O6 κ) T H T' H' → SW κ T' H' p s → Q (.agg (ansF s f (.ofNat 0) (txsB (w.take 16))).cells) H') : Eo lib n_slot_Slot_do [.ptr p 0, .agg f.cells] H Q := by
  refine Eo.ok fun hOk => ?_
  refine Eo.code at_slot_Slot_do rfl ?_
  obtain ⟨ps, vd, S⟩ := h
  have hbx : nBox [.int .i64 f.kind, .int .i64 f.slot, .int .i64 f.inc, .int .i64 f.rid, .int .i64 f.floor, .int .i64 f.role, .str f.key, .int .i64 f.ver, .str f.data] = some (.cells [.int .i64 f.kind, .int .i64 f.slot, .int .i64 f.inc, .int .i64 f.rid, .int .i64 f.floor, .int .i64 f.role, .str f.key, .int .i64 f.ver, .str f.data] 1, ptrTo) := box_fr f
  have hfc : f.cells = [.int .i64 f.kind, .int .i64 f.slot, .int .i64 f.inc, .int .i64 f.rid, .int .i64 f.floor, .int .i64 f.role, .str f.key, .int .i64 f.ver, .str f.data] := rfl
  have e4 : (f.kind = Int.ofNat 4) = True := by rw [hkd]; exact eq_true rfl
  obtain ⟨T1, s1, af1, ar1⟩ := new2 (T := T) hOk (κ + 6, 2, 0) (κ + 6, 3, 0) (.cells [.int .i64 f.kind, .int .i64 f.slot, .int .i64 f.inc, .int .i64 f.rid, .int .i64 f.floor, .int .i64 f.role, .str f.key, .int .i64 f.ver, .str f.data] 1) (.cells [.int .i64 (.ofNat 0), .int .i64 (.ofNat 0), .int .i64 (.ofNat 0), .int .i64 (.ofNat 0), .int .i64 (.ofNat 0), .int .i64 (.ofNat 0), .str [], .int .i64 (.ofNat 0), .str []] 1)
  have S1 := S.step s1 (fun h => h) (fun h => h) (fun _ _ h => h)
  rw [hfc]
  iterate 2 repeat (first | ((first | apply Xk.sAny | apply Xk.tAny); (case hok => rfl); (case h => intro C hC; simp (disch := omega) only [w1, ↓reduceIte, Nat.reduceEqDiff, Nat.reduceLeDiff, Nat.reduceAdd, Nat.reduceSub, hbx]; with_reducible exact hC); refine gc ?_) | refine gm ?_)
  generalize (H.new (.cells [.int .i64 f.kind, .int .i64 f.slot, .int .i64 f.inc, .int .i64 f.rid, .int .i64 f.floor, .int .i64 f.role, .str f.key, .int .i64 f.ver, .str f.data] 1)).new (.cells [.int .i64 (.ofNat 0), .int .i64 (.ofNat 0), .int .i64 (.ofNat 0), .int .i64 (.ofNat 0), .int .i64 (.ofNat 0), .int .i64 (.ofNat 0), .str [], .int .i64 (.ofNat 0), .str []] 1) = H1 at s1 af1 ar1 S1 ⊢
  generalize H.next + 1 = pr at ar1 ⊢
  generalize H.next = pf at af1 ⊢
  have hg1 := S1.head.1
  have haf1 := af1.1
  obtain ⟨T2, s2, aa⟩ := new1 (T := T1) s1.ok (κ + 6, 4, 0) (.cells [.int .i64 (.ofNat 6), .int .i64 s.id, .int .i64 s.inc, .int .i64 f.rid, .int .i64 (.ofNat 0), .int .i64 f.role, .str f.key, .int .i64 (.ofNat 0), .str []] 1)
  have S2 := S1.step s2 (fun h => h) (fun h => h) (fun _ _ h => h)
  have af := af1.step s2 (fun h => h)
  have ar := ar1.step s2 (fun h => h)
  have hst2 : Stp (O6 κ) T H T2 _ := (s1.mono fun _ h => h.elim).trans (s2.mono fun _ h => h.elim)
  have haf2 := af.1
  iterate 2 repeat (first | ((first | apply Xk.sAny | apply Xk.tAny); (case hok => rfl); (case h => intro C hC; simp (disch := omega) only [w1, ↓reduceIte, Nat.reduceEqDiff, Nat.reduceLeDiff, Nat.reduceAdd, Nat.reduceSub, hg1, haf1, haf2, e4]; with_reducible exact hC); refine gc ?_) | refine gm ?_)
  repeat (first | ((first | apply Xk.sAny | apply Xk.tAny); (case hok => rfl); (case h => intro C hC; simp (disch := omega) only [w1, ↓reduceIte, Nat.reduceEqDiff, Nat.reduceLeDiff, Nat.reduceAdd, Nat.reduceSub, haf2, e4]; with_reducible exact hC); refine gc ?_) | refine gm ?_)
  generalize H1.new (.cells [.int .i64 (.ofNat 6), .int .i64 s.id, .int .i64 s.inc, .int .i64 f.rid, .int .i64 (.ofNat 0), .int .i64 f.role, .str f.key, .int .i64 (.ofNat 0), .str []] 1) = H2 at s2 aa S2 af ar hst2 haf2 ⊢
  generalize H1.next = pa at aa ⊢
  clear S S1 s1 s2 af1 ar1 hg1 haf1
  refine scan_ev κ T2 H2 p s ⟨ps, vd, S2⟩ hf hne hl hks f.key _ fun w T3 H3 hp hs s3 => ?_
  have W3 : SW κ T3 H3 p s := SW.step (p := p) (s := s) ⟨ps, vd, S2⟩ s3 (fun t ht => n9 ht)
  have a3 := aa.step s3 (n96 (by decide))
  have r3 := ar.step s3 (n96 (by decide))
  have hga := a3.1
  have s4 := a3.stp1 s3.ok (.cells [.int .i64 (.ofNat 6), .int .i64 s.id, .int .i64 s.inc, .int .i64 f.rid, .int .i64 (.ofNat 0), .int .i64 f.role, .str f.key, .int .i64 (.ofNat 0), .str (txsB (w.take 16))] 1)
  have r4 := r3.step s4 (tg3 (by decide))
  have hgr := r4.1
  have s5 := r4.stp1 s4.ok (.cells [.int .i64 (.ofNat 6), .int .i64 s.id, .int .i64 s.inc, .int .i64 f.rid, .int .i64 (.ofNat 0), .int .i64 f.role, .str f.key, .int .i64 (.ofNat 0), .str (txsB (w.take 16))] 1)
  repeat (first | ((first | apply Xk.sAny | apply Xk.tAny); (case hok => rfl); (case h => intro C hC; simp (disch := omega) only [w1, ↓reduceIte, Nat.reduceEqDiff, Nat.reduceLeDiff, Nat.reduceAdd, Nat.reduceSub, hga]; with_reducible exact hC); refine gc ?_) | refine gm ?_)
  iterate 2 repeat (first | ((first | apply Xk.sAny | apply Xk.tAny); (case hok => rfl); (case h => intro C hC; simp (disch := omega) only [w1, ↓reduceIte, Nat.reduceEqDiff, Nat.reduceLeDiff, Nat.reduceAdd, Nat.reduceSub, hga, hgr]; with_reducible exact hC); refine gc ?_) | refine gm ?_)
  refine ret_cell1 (p := pr) (t := 4) rfl (load_agg (Heap.get_put_self _ _ _) rfl) rfl ?_
  refine hQ w T3 _ hp hs (((hst2.trans (s3.mono fun u h => ⟨by have := h.1; omega, by have := h.1; omega⟩)).trans (s4.mono fun u h => by rw [h]; exact o6)).trans (s5.mono fun u h => by rw [h]; exact o6)) ?_
  exact (W3.step s4 (fun t ht => n6 ht)).step s5 (fun t ht => n6 ht)

def Names (M : Mp) (want : List (List UInt8)) : Prop := ∀ k, M k ≠ none ↔ ∃ x ∈ want, k = 109 :: x
theorem look_mem {st : St} (ok : st.Ok) (k : List UInt8) : k ∈ st.l.map (·.key) ↔ st.look k ≠ none := by
  constructor
  · intro h
    obtain ⟨x, hx, rfl⟩ := List.mem_map.1 h
    obtain ⟨pre, post, e⟩ := List.append_of_mem hx
    rw [look_at ok e]
    simp
  · intro h
    by_cases hm : ∀ x ∈ st.l, x.key ≠ k
    · exact absurd (lookL_no hm) h
    · simp only [Classical.not_forall, Classical.not_not] at hm
      obtain ⟨x, hx, rfl⟩ := hm
      exact List.mem_map_of_mem hx

theorem scanIs {κ p pg P m c : Nat} {szl : List Nat} {M : Mp} {done : List Dd} {s : Sw} {T : Tags} {H : Heap} {f : Fr} (S : LSo κ T H p pg P m c szl M done s) (hc : c ≤ 30000) (hf : LR f) (hk : f.kind = .ofNat 4) {want : List (List UInt8)} (hs : SS want) (hn : Names M want) :
    DoIs κ p pg P m c szl f s (M, ansL f (.ofNat 0) (txsB ((behind want f.key).take 16))) := by
  intro T' H' Q' W hQ
  have hok : s.st.Ok := by
    obtain ⟨ps, vd, W⟩ := W
    exact W.store.ok
  have hmem : ∀ k, k ∈ s.st.l.map (·.key) ↔ ∃ x ∈ want, k = 109 :: x := fun k => by
    rw [look_mem hok, S.mp, ← hn k]
    cases M k <;> simp
  have hl := S.kp.ln
  refine doScan_ev κ T' H' p s W (S.kp.few (by omega)) (fun x hx e => ?_) (by omega) (fun x hx => (S.kp.tx x hx).2.1) f hk Q' fun w T2 H2 hp hsd st W2 => ?_
  · obtain ⟨y, _, hy⟩ := (hmem x.key).1 (List.mem_map_of_mem hx)
    rw [e] at hy
    cases hy
  · have hw : w = behind want f.key := sort_eq hsd hp ((metaKeys_nodup hok.ky).sublist List.filter_sublist) (hs.behind' f.key) fun x => by
      unfold behind
      rw [List.mem_filter, List.mem_filter, metaKeys_mem, hmem]
      constructor
      · rintro ⟨⟨y, hy, e⟩, h⟩
        injection e with _ e
        subst e
        exact ⟨hy, h⟩
      · rintro ⟨hy, h⟩
        exact ⟨⟨x, hy, rfl⟩, h⟩
    rw [ansF_L S.id S.inc, hw]
    exact hQ _ s.st T2 H2 ⟨rfl, S.kp.mono (Nat.le_succ _), fun k => S.mp k⟩ st W2
end Go.Proofs.Ytihoblfmhighpaa
