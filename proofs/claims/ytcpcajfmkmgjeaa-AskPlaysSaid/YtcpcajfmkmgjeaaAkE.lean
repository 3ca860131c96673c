/- Layer 19: slices.Delete; answer. Conditions: none. -/
import Derived.Test.YtcpcajfmkmgjeaaAkD
namespace Go.Proofs.Ytcpcajfmkmgjeaa
open Go.Dp
set_option linter.unusedSimpArgs false
set_option linter.unusedVariables false
set_option maxHeartbeats 2000000
set_option maxRecDepth 8000
attribute [local irreducible] Ex.thnK Ex.inK Ret

theorem rqs_erase (L : List Rq) (i : Nat) : rqs (L.eraseIdx i) = rqs (L.take i) ++ rqs (L.drop (i + 1)) := by
  unfold rqs
  rw [List.eraseIdx_eq_take_drop_succ, List.flatMap_append]

/-- s[:i] with s[i+1:] appended, in place -/
theorem app_cut {H : Heap} {c len i : Nat} {l : List AV} {L : List Rq} (hO : H.Ok) (hg : H.get c = some (.cells l 1)) (hlen : len = L.length) (hl : len * 10 ≤ l.length) (ht : l.take (len * 10) = rqs L) (hi : i < len) (hb : len ≤ 100000) :
    ∃ H1 l1, evalApp 0 10 96 H (.sl c 0 i 10) (.sl c ((i + 1) * 10) (len - (i + 1)) 10) = some (.sl c 0 (len - 1) 10, H1) ∧ H1.get c = some (.cells l1 1) ∧ l1.length = l.length ∧ l1.take ((len - 1) * 10) = rqs (L.eraseIdx i) ∧
      (∀ b, b ≠ c → H1.get b = H.get b) ∧ H1.Ok := by
  have htail : (l.drop ((i + 1) * 10)).take ((len - (i + 1)) * 10) = rqs (L.drop (i + 1)) := by
    have e : (l.take (len * 10)).drop ((i + 1) * 10) = rqs (L.drop (i + 1)) := by
      rw [ht]
      exact fm_dropn (g := Rq.cells) (fun _ => rfl) L (i + 1)
    rw [← e, List.drop_take]
    congr 1
    omega
  have hld : H.ld c ((i + 1) * 10) ((len - (i + 1)) * 10) = some (rqs (L.drop (i + 1))) := by
    rw [Heap.ld_of hg (by omega), htail]
  have hsrc : srcCells H 10 (.sl c ((i + 1) * 10) (len - (i + 1)) 10) = some (len - (i + 1), rqs (L.drop (i + 1))) := by
    unfold srcCells
    simp only [nbeq, decide_true, cond_true, hld, rqs_sc]
  have hll : (rqs (L.drop (i + 1))).length = (len - (i + 1)) * 10 := by rw [rqs_len, List.length_drop, hlen]
  have ht2 : l.take (i * 10) = rqs (L.take i) := by
    have : (l.take (len * 10)).take (i * 10) = rqs (L.take i) := by
      rw [ht]
      exact fm_take (g := Rq.cells) (fun _ => rfl) L i
    rw [← this, List.take_take, Nat.min_eq_left (by omega)]
  have hz : Nat.beq 10 0 = false := rfl
  have e0 : 0 + i * 10 = i * 10 := by omega
  have ew : i + (len - (i + 1)) = len - 1 := by omega
  by_cases hn : len - (i + 1) = 0
  · have hnil : rqs (L.drop (i + 1)) = [] := List.eq_nil_of_length_eq_zero (by omega)
    refine ⟨H, l, ?_, hg, rfl, ?_, fun _ _ => rfl, hO⟩
    · have hsrc' : srcCells H 10 (.sl c ((i + 1) * 10) (len - (i + 1)) 10) = some (0, rqs (L.drop (i + 1))) := hsrc.trans (by rw [hn])
      unfold evalApp
      rw [hsrc']
      simp only [nbeq 10 10, decide_true, hz, Bool.not_false, Bool.and_self, cond_true, hg, appTo, nble, e0, nbeq 0 0]
      rw [decide_eq_true (by omega), show len - 1 = i by omega]
      rfl
    · rw [rqs_erase, hnil, List.append_nil, show len - 1 = i by omega, ht2]
  · have hfit : i * 10 + (rqs (L.drop (i + 1))).length ≤ l.length := by omega
    have hn0 : Nat.beq (len - (i + 1)) 0 = false := by rw [nbeq]; exact decide_eq_false hn
    have e1 : 0 + (i + (len - (i + 1))) * 10 ≤ l.length := by omega
    refine ⟨H.put c (.cells (over l (i * 10) (rqs (L.drop (i + 1)))) 1), over l (i * 10) (rqs (L.drop (i + 1))), ?_, Heap.get_put_self _ _ _, over_lenC _ _ _ hfit, ?_, fun b hb => Heap.get_put_ne _ _ _ hb, hO.put hg _⟩
    · simp only [evalApp, hsrc, nbeq 10 10, decide_true, hz, Bool.not_false, Bool.and_self, cond_true, hg, appTo, nble, e0, hn0, cond_false, decide_eq_true e1]
      rw [decide_eq_true (by omega), ew]
      rfl
    · rw [rqs_erase]
      show (l.take (i * 10) ++ (rqs (L.drop (i + 1)) ++ l.drop (i * 10 + (rqs (L.drop (i + 1))).length))).take ((len - 1) * 10) = _
      have hlt : (rqs (L.take i)).length = i * 10 := by rw [rqs_len, List.length_take, Nat.min_eq_left (by omega)]
      rw [ht2, ← List.append_assoc, List.take_append_of_le_length (by rw [List.length_append, hlt, hll]; omega), List.take_of_length_le (by rw [List.length_append, hlt, hll]; omega)]

theorem Delete_ev (H : Heap) (c len i : Nat) (l : List AV) (L : List Rq) (hg : H.get c = some (.cells l 1)) (hlen : len = L.length) (hl : len * 10 ≤ l.length) (ht : l.take (len * 10) = rqs L) (hi : i < len) (hb : len ≤ 100000) (Q : AV → Heap → Prop)
    (hQ : ∀ H' l', H'.Ok → H'.get c = some (.cells l' 1) → l'.length = l.length → l'.take ((len - 1) * 10) = rqs (L.eraseIdx i) → (∀ b, b ≠ c → H'.get b = H.get b) → Q (.sl c 0 (len - 1) 10) H') :
    Eo lib n_slices_Delete_ask_open_ask_open [.sl c 0 len 10, .int .i64 (.ofNat i), .int .i64 (.ofNat (i + 1))] H Q := by
  refine Eo.ok fun hOk => ?_
  refine Eo.code at_slices_Delete_ask_open_ask_open rfl ?_
  have hm : len ≤ l.length / 10 := (Nat.le_div_iff_mul_le (by decide)).2 hl
  have hs3 : ∀ fr lo hi u, rSlsl fr H 10 (.sl c 0 len 10) lo hi (some u) = rSl3 fr len (l.length / 10) lo hi (u.ev fr) := by
    intro fr lo hi u
    simp only [rSlsl, hg, nbeq, decide_true, Nat.sub_zero]
    rfl
  obtain ⟨H1, l1, e1, g1, k1, t1, o1, hO1⟩ := app_cut hOk hg hlen hl ht hi hb
  have m1 : (i ≤ i + 1) = True := eq_true (Nat.le_succ i)
  have m2 : (i + 1 ≤ len) = True := eq_true hi
  have m3 : (i = i + 1) = False := eq_false (by omega)
  have m4 : (len ≤ l.length / 10) = True := eq_true hm
  have m5 : (i ≤ l.length / 10) = True := eq_true (by omega)
  have m6 : (i + 1 ≤ l.length / 10) = True := eq_true (by omega)
  repeat (first | ((first | apply Xk.sAny | apply Xk.tAny); (case hok => rfl); (case h => intro C hC; simp (disch := omega) only [w1, ↓reduceIte, Nat.reduceEqDiff, Nat.reduceLeDiff, Nat.reduceAdd, Nat.reduceSub, hs3, rSl3, m1, m2, m3, m4, m5, m6, hg]; with_reducible exact hC); refine gc ?_) | refine gm ?_)
  repeat (first | ((first | apply Xk.sAny | apply Xk.tAny); (case hok => rfl); (case h => intro C hC; simp (disch := omega) only [w1, ↓reduceIte, Nat.reduceEqDiff, Nat.reduceLeDiff, Nat.reduceAdd, Nat.reduceSub, hs3, rSl3, m1, m2, m3, m4, m5, m6, hg, e1]; with_reducible exact hC); refine gc ?_) | refine gm ?_)
  have m7 : (len ≤ l1.length / 10) = True := by rw [k1]; exact m4
  have m8 : (len - 1 ≤ len) = True := eq_true (Nat.sub_le _ _)
  have m9 : len - (len - 1) = 1 := by omega
  have m10 : (len - 1) * 10 + 10 ≤ l1.length := by omega
  have hcl : eClear H1 [.int .i64 (.ofNat 0), .int .i64 (.ofNat 0), .int .i64 (.ofNat 0), .int .i64 (.ofNat 0), .int .i64 (.ofNat 0), .int .i64 (.ofNat 0), .str [], .int .i64 (.ofNat 0), .str [], .int .i64 (.ofNat 0)] (.sl c ((len - 1) * 10) 1 10) = some (.tup [], H1.put c (.cells (over l1 ((len - 1) * 10) noRq.cells) 1)) := by
    show unit (H1.st c ((len - 1) * 10) noRq.cells) = _
    unfold Heap.st
    rw [g1]
    simp only [nble]
    rw [decide_eq_true (show (len - 1) * 10 + noRq.cells.length ≤ l1.length from m10)]
    rfl
  repeat (first | ((first | apply Xk.sAny | apply Xk.tAny); (case hok => rfl); (case h => intro C hC; simp (disch := omega) only [w1, ↓reduceIte, Nat.reduceEqDiff, Nat.reduceLeDiff, Nat.reduceAdd, Nat.reduceSub, g1, m7, m8, m9, hcl]; with_reducible exact hC); refine gc ?_) | refine gm ?_)
  repeat (first | ((first | apply Xk.sAny | apply Xk.tAny); (case hok => rfl); (case h => intro C hC; simp (disch := omega) only [w1, ↓reduceIte, Nat.reduceEqDiff, Nat.reduceLeDiff, Nat.reduceAdd, Nat.reduceSub, g1, m7, m8, m9, hcl]; with_reducible exact hC); refine gc ?_) | refine gm ?_)
  refine hQ _ _ (hO1.put g1 _) (Heap.get_put_self _ _ _) ((over_lenC l1 ((len - 1) * 10) noRq.cells m10).trans k1) ?_ (fun b hb => by rw [Heap.get_put_ne _ _ _ hb]; exact o1 b hb)
  show (l1.take ((len - 1) * 10) ++ (noRq.cells ++ l1.drop ((len - 1) * 10 + noRq.cells.length))).take ((len - 1) * 10) = _
  rw [List.take_append_of_le_length (by rw [List.length_take]; omega), List.take_take, Nat.min_self]
  exact t1

/-- does a frame answer a request? -/
def hitB (f : Fr) (o : Rq) : Bool := decide (o.f.rid = f.rid) && decide (o.f.slot = f.slot) && decide (o.f.inc = f.inc)

theorem Answer_ev (H0 H : Heap) (p : Nat) (L : List Rq) (last : Nat) (f : Fr) (hle : HLe H0 H) (hA : Ask H0 H p L last) (hl : L.length ≤ 100000) (Q : AV → Heap → Prop)
    (hno : ((rightB f && decide (.ofNat 6 ≤ f.kind)) = false ∨ ∀ o ∈ L, hitB f o = false) → ∀ H', H'.Ok → HLe H0 H' → Keeps H H' p → Ask H0 H' p L last → Q (.tup [.agg noFr.cells, .bool false]) H')
    (hyes : rightB f = true → .ofNat 6 ≤ f.kind → ∀ i, i < L.length → (∀ o ∈ L.take i, hitB f o = false) → hitB f (L.getD i noRq) = true → ∀ H', H'.Ok → HLe H0 H' → Keeps H H' p → Ask H0 H' p (L.eraseIdx i) last → Q (.tup [.agg (L.getD i noRq).f.cells, .bool true]) H') :
    Eo lib n_ask_Asks_Answer [.ptr p 0, .agg f.cells] H Q := by
  refine Eo.ok fun hOk => ?_
  refine Eo.code at_ask_Asks_Answer rfl ?_
  obtain ⟨v, hp, hp0, hv, hvp⟩ := hA
  have hpn := Heap.lt_of_get hOk hp
  have hbx := box_fr f
  have ga := Heap.get_new2' H (.cells f.cells 1) (.cells noFr.cells 1)
  have gz := Heap.get_new2 H (.cells f.cells 1) (.cells noFr.cells 1)
  have hOG := (hOk.new (.cells f.cells 1)).new (.cells noFr.cells 1)
  have hLG : HLe H ((H.new (.cells f.cells 1)).new (.cells noFr.cells 1)) := ((HLe.refl H).new_ hOk _).new_ (hOk.new _) _
  have hn1 := hOk (H.next + 1) (Nat.le_succ _)
  simp only [Fr.cells, noFr] at hbx ga gz hOG hLG ⊢
  repeat (first | ((first | apply Xk.sAny | apply Xk.tAny); (case hok => rfl); (case h => intro C hC; simp (disch := omega) only [w1, ↓reduceIte, Nat.reduceEqDiff, Nat.reduceLeDiff, Nat.reduceAdd, Nat.reduceSub, hbx, hp, ga, gz]; with_reducible exact hC); refine gc ?_) | refine gm ?_)
  repeat (first | ((first | apply Xk.sAny | apply Xk.tAny); (case hok => rfl); (case h => intro C hC; simp (disch := omega) only [w1, ↓reduceIte, Nat.reduceEqDiff, Nat.reduceLeDiff, Nat.reduceAdd, Nat.reduceSub, hbx, hp, ga, gz]; with_reducible exact hC); refine gc ?_) | refine gm ?_)
  refine Right_ev f _ _ fun H1 hO1 hle1 => ?_
  have hL1 := hLG.trans hle1
  have ga1 := hle1 _ _ ga
  have gz1 := hle1 _ _ gz
  have hp1 := hL1 _ _ hp
  have hv1 := hv.keep fun c o l z x _ hg => hL1 _ _ hg
  clear ga gz hOG hLG hle1 hbx
  have fin : ((rightB f && decide (.ofNat 6 ≤ f.kind)) = false ∨ ∀ o ∈ L, hitB f o = false) → ∀ H2, H2.Ok → HLe H1 H2 → ∀ x, H2.get (H.next + 1) = some x → Q (.tup [.agg noFr.cells, .bool false]) (H2.put (H.next + 1) (.cells noFr.cells 1)) := fun hn H2 hO2 hl2 x hx =>
    have hL2 := (hL1.trans hl2).put_ hn1 (.cells noFr.cells 1)
    hno hn _ (hO2.put hx _) (hle.trans hL2) (Keeps.of_le hp hL2) (Ask.mono ⟨v, hp, hp0, hv, hvp⟩ hL2)
  simp only [Fr.cells, noFr] at fin
  generalize H.next + 1 = nz at gz1 hn1 fin ⊢
  cases hr : rightB f with
  | false =>
    repeat (first | ((first | apply Xk.sAny | apply Xk.tAny); (case hok => rfl); (case h => intro C hC; simp (disch := omega) only [w1, ↓reduceIte, Nat.reduceEqDiff, Nat.reduceLeDiff, Nat.reduceAdd, Nat.reduceSub, ga1, gz1]; with_reducible exact hC); refine gc ?_) | refine gm ?_)
    repeat (first | ((first | apply Xk.sAny | apply Xk.tAny); (case hok => rfl); (case h => intro C hC; simp (disch := omega) only [w1, ↓reduceIte, Nat.reduceEqDiff, Nat.reduceLeDiff, Nat.reduceAdd, Nat.reduceSub, ga1, gz1]; with_reducible exact hC); refine gc ?_) | refine gm ?_)
    refine Ret.ret rfl (by simp only [resKs, resK, cond_true, w1, ↓reduceIte, Nat.reduceEqDiff, Nat.reduceLeDiff, Nat.reduceAdd, Nat.reduceSub, pf_ask_Asks_Answer, Heap.get_put_self]; rfl) rfl ?_
    exact fin (.inl (by rw [hr]; rfl)) H1 hO1 (HLe.refl _) _ gz1
  | true =>
  by_cases hk : f.kind < .ofNat 6
  · repeat (first | ((first | apply Xk.sAny | apply Xk.tAny); (case hok => rfl); (case h => intro C hC; simp (disch := omega) only [w1, ↓reduceIte, Nat.reduceEqDiff, Nat.reduceLeDiff, Nat.reduceAdd, Nat.reduceSub, ga1, gz1, hk]; with_reducible exact hC); refine gc ?_) | refine gm ?_)
    repeat (first | ((first | apply Xk.sAny | apply Xk.tAny); (case hok => rfl); (case h => intro C hC; simp (disch := omega) only [w1, ↓reduceIte, Nat.reduceEqDiff, Nat.reduceLeDiff, Nat.reduceAdd, Nat.reduceSub, ga1, gz1, hk]; with_reducible exact hC); refine gc ?_) | refine gm ?_)
    refine Ret.ret rfl (by simp only [resKs, resK, cond_true, w1, ↓reduceIte, Nat.reduceEqDiff, Nat.reduceLeDiff, Nat.reduceAdd, Nat.reduceSub, pf_ask_Asks_Answer, Heap.get_put_self]; rfl) rfl ?_
    exact fin (.inl (by rw [decide_eq_false (Int.not_le.2 hk), Bool.and_false])) H1 hO1 (HLe.refl _) _ gz1
  have hk' : .ofNat 6 ≤ f.kind := Int.not_lt.1 hk
  obtain ⟨hv1l, _, _⟩ := Sl.lensG (g := Rq.cells) (fun _ => rfl) hv1.sl (by decide)
  repeat (first | ((first | apply Xk.sAny | apply Xk.tAny); (case hok => rfl); (case h => intro C hC; simp (disch := omega) only [w1, ↓reduceIte, Nat.reduceEqDiff, Nat.reduceLeDiff, Nat.reduceAdd, Nat.reduceSub, ga1, gz1, hk, hp1, hv1l]; with_reducible exact hC); refine gc ?_) | refine gm ?_)
  repeat (first | ((first | apply Xk.sAny | apply Xk.tAny); (case hok => rfl); (case h => intro C hC; simp (disch := omega) only [w1, ↓reduceIte, Nat.reduceEqDiff, Nat.reduceLeDiff, Nat.reduceAdd, Nat.reduceSub, ga1, gz1, hk, hp1, hv1l]; with_reducible exact hC); refine gc ?_) | refine gm ?_)
  have hnan : H.next < H1.next := Heap.lt_of_get hO1 ga1
  have hnzp : nz ≠ p := fun e => by subst e; rw [hp] at hn1; cases hn1
  have hnzv : ∀ o l z, v ≠ .sl nz o l z := fun o l z h => by
    obtain ⟨x, e, _⟩ := hv.at h
    rw [hn1] at e; cases e
  refine Xk.iter [0, 3, 4, 20, 21, 22] (fun m k H' => ∃ i, m = L.length - i ∧ i ≤ L.length ∧ (∀ o ∈ L.take i, hitB f o = false) ∧ k = [(0, .ptr p 0), (3, .ptr H.next 0), (4, .ptr nz 0), (20, v), (21, .int .i64 (.ofNat L.length)), (22, .int .i64 (.ofNat i))] ∧ H'.Ok ∧ HLe H1 H') rfl
    ⟨_, 0, rfl, Nat.zero_le _, (fun o h => by cases h), rfl, hO1, HLe.refl _⟩ ?_
  rintro m k H' ⟨i, rfl, hi, hnh, rfl, hO', hle'⟩
  unfold l0_ask_Asks_Answer
  have ga2 := hle' _ _ ga1
  have gz2 := hle' _ _ gz1
  have hp2 := hle' _ _ hp1
  have hv2 := hv1.keep fun c o l z x _ hg => hle' _ _ hg
  by_cases c : i < L.length
  · obtain ⟨bb, o, cl, w2, rfl, hg, hrow⟩ := Sl.rowG (g := Rq.cells) (fun _ => rfl) noRq hv2.sl (by omega) (by decide)
    obtain ⟨c1, rest, c2⟩ := hrow i c
    have hsn : L.take (i + 1) = L.take i ++ [L.getD i noRq] := by
      rw [List.take_add_one, List.getD_eq_getElem?_getD, List.getElem?_eq_getElem c]
      rfl
    have hy := hyes hr hk' i c hnh
    generalize L.getD i noRq = r at c2 hsn hy
    have d4 : (cl.drop (o + i * 10)).take 10 = r.cells := by rw [c2]; exact List.take_left' rfl
    have hgz := Heap.get_new_self H' (.cells noRq.cells 1)
    have hst : (H'.new (.cells noRq.cells 1)).put H'.next (.cells r.cells 1) = H'.new (.cells r.cells 1) := Heap.new_put _ _ _
    have hgr := Heap.get_new_self H' (.cells r.cells 1)
    have hO2 := hO'.new (.cells r.cells 1)
    have hl2 := hle'.new_ hO' (.cells r.cells 1)
    have hstep := HLe.new (hO' _ (Nat.le_refl _)) (.cells r.cells 1)
    have ga3 := hstep _ _ ga2
    have gz3 := hstep _ _ gz2
    have hp3 := hstep _ _ hp2
    have hv3 := hv2.keep fun c o l z x _ hg => hstep _ _ hg
    have hL3 := hL1.trans hl2
    have hrn : H'.next ≠ nz := fun e => by rw [← e, hO' _ (Nat.le_refl _)] at gz2; cases gz2
    have hrp : H'.next ≠ p := fun e => by rw [← e, hO' _ (Nat.le_refl _)] at hp2; cases hp2
    have hrb : H'.next ≠ bb := fun e => by rw [← e, hO' _ (Nat.le_refl _)] at hg; cases hg
    simp only [Rq.cells, noRq, noFr] at hgz hst
    simp only [Rq.cells] at d4 hgr hO2 hl2 ga3 gz3 hp3 hv3 hL3 hst
    have next : hitB f r = false → ∀ o ∈ L.take (i + 1), hitB f o = false := fun hf o' ho' => by
      rw [hsn] at ho'
      rcases List.mem_append.1 ho' with h | h
      · exact hnh o' h
      · rw [List.mem_singleton] at h
        rw [h]
        exact hf
    generalize hG : H'.new (.cells [.int .i64 r.f.kind, .int .i64 r.f.slot, .int .i64 r.f.inc, .int .i64 r.f.rid, .int .i64 r.f.floor, .int .i64 r.f.role, .str r.f.key, .int .i64 r.f.ver, .str r.f.data, .int .i64 (.ofNat r.t)] 1) = G at hst hgr hO2 hl2 ga3 gz3 hp3 hv3 hL3
    by_cases e1 : r.f.rid = f.rid
    case neg =>
      have q1 := decide_eq_false e1
      repeat (first | ((first | apply Xk.sAny | apply Xk.tAny); (case hok => rfl); (case h => intro C hC; simp (disch := omega) only [w1, ↓reduceIte, Nat.reduceEqDiff, Nat.reduceLeDiff, Nat.reduceAdd, Nat.reduceSub, c, hg, c1, d4, hgz, hst, hgr, ga3, q1]; with_reducible exact hC); refine gc ?_) | refine gm ?_)
      repeat (first | ((first | apply Xk.sAny | apply Xk.tAny); (case hok => rfl); (case h => intro C hC; simp (disch := omega) only [w1, ↓reduceIte, Nat.reduceEqDiff, Nat.reduceLeDiff, Nat.reduceAdd, Nat.reduceSub, c, hg, c1, d4, hgz, hst, hgr, ga3, q1]; with_reducible exact hC); refine gc ?_) | refine gm ?_)
      repeat (first | ((first | apply Xk.sAny | apply Xk.tAny); (case hok => rfl); (case h => intro C hC; simp (disch := omega) only [w1, ↓reduceIte, Nat.reduceEqDiff, Nat.reduceLeDiff, Nat.reduceAdd, Nat.reduceSub, hgr]; with_reducible exact hC); refine gc ?_) | refine gm ?_)
      exact ⟨rfl, _, by omega, i + 1, rfl, by omega, next (by unfold hitB; rw [q1]; rfl), rfl, hO2, hl2⟩
    have q1 := decide_eq_true e1
    by_cases e2 : r.f.slot = f.slot
    case neg =>
      have q2 := decide_eq_false e2
      repeat (first | ((first | apply Xk.sAny | apply Xk.tAny); (case hok => rfl); (case h => intro C hC; simp (disch := omega) only [w1, ↓reduceIte, Nat.reduceEqDiff, Nat.reduceLeDiff, Nat.reduceAdd, Nat.reduceSub, c, hg, c1, d4, hgz, hst, hgr, ga3, q1, q2]; with_reducible exact hC); refine gc ?_) | refine gm ?_)
      repeat (first | ((first | apply Xk.sAny | apply Xk.tAny); (case hok => rfl); (case h => intro C hC; simp (disch := omega) only [w1, ↓reduceIte, Nat.reduceEqDiff, Nat.reduceLeDiff, Nat.reduceAdd, Nat.reduceSub, c, hg, c1, d4, hgz, hst, hgr, ga3, q1, q2]; with_reducible exact hC); refine gc ?_) | refine gm ?_)
      repeat (first | ((first | apply Xk.sAny | apply Xk.tAny); (case hok => rfl); (case h => intro C hC; simp (disch := omega) only [w1, ↓reduceIte, Nat.reduceEqDiff, Nat.reduceLeDiff, Nat.reduceAdd, Nat.reduceSub, hgr]; with_reducible exact hC); refine gc ?_) | refine gm ?_)
      exact ⟨rfl, _, by omega, i + 1, rfl, by omega, next (by unfold hitB; rw [q1, q2]; rfl), rfl, hO2, hl2⟩
    have q2 := decide_eq_true e2
    by_cases e3 : r.f.inc = f.inc
    case neg =>
      have q3 := decide_eq_false e3
      repeat (first | ((first | apply Xk.sAny | apply Xk.tAny); (case hok => rfl); (case h => intro C hC; simp (disch := omega) only [w1, ↓reduceIte, Nat.reduceEqDiff, Nat.reduceLeDiff, Nat.reduceAdd, Nat.reduceSub, c, hg, c1, d4, hgz, hst, hgr, ga3, q1, q2, q3]; with_reducible exact hC); refine gc ?_) | refine gm ?_)
      repeat (first | ((first | apply Xk.sAny | apply Xk.tAny); (case hok => rfl); (case h => intro C hC; simp (disch := omega) only [w1, ↓reduceIte, Nat.reduceEqDiff, Nat.reduceLeDiff, Nat.reduceAdd, Nat.reduceSub, c, hg, c1, d4, hgz, hst, hgr, ga3, q1, q2, q3]; with_reducible exact hC); refine gc ?_) | refine gm ?_)
      repeat (first | ((first | apply Xk.sAny | apply Xk.tAny); (case hok => rfl); (case h => intro C hC; simp (disch := omega) only [w1, ↓reduceIte, Nat.reduceEqDiff, Nat.reduceLeDiff, Nat.reduceAdd, Nat.reduceSub, hgr]; with_reducible exact hC); refine gc ?_) | refine gm ?_)
      exact ⟨rfl, _, by omega, i + 1, rfl, by omega, next (by unfold hitB; rw [q1, q2, q3]; rfl), rfl, hO2, hl2⟩
    have q3 := decide_eq_true e3
    have hy := hy (by unfold hitB; rw [q1, q2, q3]; rfl)
    repeat (first | ((first | apply Xk.sAny | apply Xk.tAny); (case hok => rfl); (case h => intro C hC; simp (disch := omega) only [w1, ↓reduceIte, Nat.reduceEqDiff, Nat.reduceLeDiff, Nat.reduceAdd, Nat.reduceSub, c, hg, c1, d4, hgz, hst, hgr, ga3, q1, q2, q3, hp3]; with_reducible exact hC); refine gc ?_) | refine gm ?_)
    repeat (first | ((first | apply Xk.sAny | apply Xk.tAny); (case hok => rfl); (case h => intro C hC; simp (disch := omega) only [w1, ↓reduceIte, Nat.reduceEqDiff, Nat.reduceLeDiff, Nat.reduceAdd, Nat.reduceSub, c, hg, c1, d4, hgz, hst, hgr, ga3, q1, q2, q3, hp3]; with_reducible exact hC); refine gc ?_) | refine gm ?_)
    repeat (first | ((first | apply Xk.sAny | apply Xk.tAny); (case hok => rfl); (case h => intro C hC; simp (disch := omega) only [w1, ↓reduceIte, Nat.reduceEqDiff, Nat.reduceLeDiff, Nat.reduceAdd, Nat.reduceSub, c, hg, c1, d4, hgz, hst, hgr, ga3, q1, q2, q3, hp3]; with_reducible exact hC); refine gc ?_) | refine gm ?_)
    rcases hv3 with ⟨hbad, _⟩ | ⟨c', len, l, hveq, h2, h3, h4, h5, h6⟩
    · cases hbad
    injection hveq with z1 z2 z3 z4
    subst z1 z2 z3
    rw [h2] at h4 h5
    have hbn := Heap.lt_of_get hO2 h3
    have hbp : bb ≠ p := fun e => hvp 0 L.length 10 (by rw [e])
    have hbz : bb ≠ nz := fun e => hnzv 0 L.length 10 (by rw [e])
    refine Delete_ev G bb L.length i l L h3 rfl h4 h5 c hl _ fun H5 l' hO5 g5 k5 t5 o5 => ?_
    have gz5 : H5.get nz = _ := (o5 nz (Ne.symm hbz)).trans gz3
    have hp5 : H5.get p = _ := (o5 p (Ne.symm hbp)).trans hp3
    have gr5 : H5.get H'.next = _ := (o5 _ hrb).trans hgr
    have hp6 := Heap.get_put_self H5 p (.cells [.sl bb 0 (L.length - 1) 10, .int .i64 (.ofNat last)] 1)
    have gz6 : (H5.put p (.cells [.sl bb 0 (L.length - 1) 10, .int .i64 (.ofNat last)] 1)).get nz = _ := (Heap.get_put_ne H5 p _ hnzp).trans gz5
    have gr6 : (H5.put p (.cells [.sl bb 0 (L.length - 1) 10, .int .i64 (.ofNat last)] 1)).get H'.next = _ := (Heap.get_put_ne H5 p _ hrp).trans gr5
    have hO6 := hO5.put hp5 (.cells [.sl bb 0 (L.length - 1) 10, .int .i64 (.ofNat last)] 1)
    repeat (first | ((first | apply Xk.sAny | apply Xk.tAny); (case hok => rfl); (case h => intro C hC; simp (disch := omega) only [w1, ↓reduceIte, Nat.reduceEqDiff, Nat.reduceLeDiff, Nat.reduceAdd, Nat.reduceSub, hp5]; with_reducible exact hC); refine gc ?_) | refine gm ?_)
    repeat (first | ((first | apply Xk.sAny | apply Xk.tAny); (case hok => rfl); (case h => intro C hC; simp (disch := omega) only [w1, ↓reduceIte, Nat.reduceEqDiff, Nat.reduceLeDiff, Nat.reduceAdd, Nat.reduceSub, gz6, gr6]; with_reducible exact hC); refine gc ?_) | refine gm ?_)
    repeat (first | ((first | apply Xk.sAny | apply Xk.tAny); (case hok => rfl); (case h => intro C hC; simp (disch := omega) only [w1, ↓reduceIte, Nat.reduceEqDiff, Nat.reduceLeDiff, Nat.reduceAdd, Nat.reduceSub, gz6, gr6]; with_reducible exact hC); refine gc ?_) | refine gm ?_)
    refine Ret.ret rfl (by simp only [resKs, resK, cond_true, w1, ↓reduceIte, Nat.reduceEqDiff, Nat.reduceLeDiff, Nat.reduceAdd, Nat.reduceSub, pf_ask_Asks_Answer, Heap.get_put_self]; rfl) rfl ?_
    have hnz0 : H0.get nz = none := hle.none hn1
    refine hy _ (hO6.put gz6 _) ?_ ?_ ⟨.sl bb 0 (L.length - 1) 10, ?_, hp0, .inr ⟨bb, L.length - 1, l', rfl, ?_, ?_, ?_, ?_, h6⟩, fun o l z e => hbp (AV.sl.inj e).1⟩
    · intro b y hb
      have hb1 := (hle.trans hL3) b y hb
      have n1 : b ≠ nz := fun e => by rw [e, hnz0] at hb; cases hb
      have n2 : b ≠ p := fun e => by rw [e, hp0] at hb; cases hb
      have n3 : b ≠ bb := fun e => by rw [e, h6] at hb; cases hb
      rw [Heap.get_put_ne _ _ _ n1, Heap.get_put_ne _ _ _ n2, o5 b n3]
      exact hb1
    · intro b y hb hni
      have n1 : b ≠ nz := fun e => by rw [e, hn1] at hb; cases hb
      have n2 : b ≠ p := fun e => hni (.inl e)
      have n3 : b ≠ bb := fun e => hni (.inr ⟨_, _, _, hp, 0, L.length, 10, by rw [e]⟩)
      refine ⟨by rw [Heap.get_put_ne _ _ _ n1, Heap.get_put_ne _ _ _ n2, o5 b n3]; exact hL3 b y hb, fun h => ?_⟩
      rcases h with h | ⟨v2, n2', w2, h1, o, l, z, rfl⟩
      · exact n2 h
      · rw [Heap.get_put_ne _ _ _ (Ne.symm hnzp), Heap.get_put_self] at h1
        cases h1
        exact n3 rfl
    · rw [Heap.get_put_ne _ _ _ (Ne.symm hnzp), Heap.get_put_self]
    · rw [rqs_len, List.length_eraseIdx, if_pos c]
    · rw [Heap.get_put_ne _ _ _ hbz, Heap.get_put_ne _ _ _ hbp]
      exact g5
    · rw [rqs_len, List.length_eraseIdx, if_pos c, k5]
      omega
    · rw [rqs_len, List.length_eraseIdx, if_pos c]
      exact t5
  · repeat (first | ((first | apply Xk.sAny | apply Xk.tAny); (case hok => rfl); (case h => intro C hC; simp (disch := omega) only [w1, ↓reduceIte, Nat.reduceEqDiff, Nat.reduceLeDiff, Nat.reduceAdd, Nat.reduceSub, c]; with_reducible exact hC); refine gc ?_) | refine gm ?_)
    obtain rfl : i = L.length := by omega
    rw [List.take_length] at hnh
    repeat (first | ((first | apply Xk.sAny | apply Xk.tAny); (case hok => rfl); (case h => intro C hC; simp (disch := omega) only [w1, ↓reduceIte, Nat.reduceEqDiff, Nat.reduceLeDiff, Nat.reduceAdd, Nat.reduceSub, c, gz2]; with_reducible exact hC); refine gc ?_) | refine gm ?_)
    refine Ret.ret rfl (by simp only [resKs, resK, cond_true, w1, ↓reduceIte, Nat.reduceEqDiff, Nat.reduceLeDiff, Nat.reduceAdd, Nat.reduceSub, pf_ask_Asks_Answer, Heap.get_put_self]; rfl) rfl ?_
    exact fin (.inr hnh) H' hO' hle' _ gz2
end Go.Proofs.Ytcpcajfmkmgjeaa
