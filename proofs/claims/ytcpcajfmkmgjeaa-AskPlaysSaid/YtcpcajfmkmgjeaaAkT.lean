/- Layer 19: the reference's answer. Conditions: none. -/
import Derived.Test.YtcpcajfmkmgjeaaAkS
namespace Go.Proofs.Ytcpcajfmkmgjeaa
open Go.Dp
set_option linter.unusedSimpArgs false
set_option linter.unusedVariables false
set_option maxHeartbeats 1000000
set_option maxRecDepth 8000
attribute [local irreducible] Ex.thnK Ex.inK Ret

theorem rqs_parts {H0 G : Heap} {c len : Nat} {O : List Rq} (h : RV H0 G 0 10 (.sl c 0 len 10) (rqs O)) : O.length = len ∧ ∃ l, G.get c = some (.cells l 1) ∧ len * 10 ≤ l.length ∧
    (∀ k, k ≤ len → Sl G 10 (.sl c 0 k 10) (rqs (O.take k)) ∧ Sl G 10 (.sl c (k * 10) (len - k) 10) (rqs (O.drop k))) := by
  rcases h with ⟨hbad, _⟩ | ⟨c', len', l, e, h2, h3, h4, h5, h6⟩
  · cases hbad
  · obtain ⟨rfl, _, rfl, _⟩ := AV.sl.inj e
    rw [rqs_len] at h2 h4 h5
    have hl : O.length = len := by omega
    rw [hl] at h4 h5
    refine ⟨hl, l, h3, h4, fun k hk => ⟨.inr ⟨c, 0, k, l, 1, l.drop (k * 10), rfl, by rw [rqs_len, List.length_take]; omega, h3, Nat.zero_le _, ?_⟩, .inr ⟨c, k * 10, len - k, l, 1, l.drop (len * 10), rfl, by rw [rqs_len, List.length_drop]; omega, h3, by omega, ?_⟩⟩⟩
    · have e1 : l.take (k * 10) = rqs (O.take k) := by
        have : (l.take (len * 10)).take (k * 10) = rqs (O.take k) := by rw [h5]; exact fm_take (g := Rq.cells) (fun _ => rfl) O k
        rw [List.take_take, Nat.min_eq_left (by omega)] at this
        exact this
      rw [← e1, List.drop_zero, List.take_append_drop]
    · have e1 : (l.take (len * 10)).drop (k * 10) = rqs (O.drop k) := by rw [h5]; exact fm_dropn (g := Rq.cells) (fun _ => rfl) O k
      rw [← e1]
      have e2 : l = l.take (len * 10) ++ l.drop (len * 10) := (List.take_append_drop _ _).symm
      have e3 : k * 10 ≤ (l.take (len * 10)).length := by rw [List.length_take]; omega
      conv => lhs; rw [e2]
      rw [List.drop_append_of_le_length e3]
theorem rqs_cut {H0 G : Heap} {c len : Nat} {O : List Rq} (hO : G.Ok) (hle : HLe H0 G) (h : RV H0 G 0 10 (.sl c 0 len 10) (rqs O)) (hlen : len ≤ 100000) {k : Nat} (hk : k < len) :
    ∃ l v1 G1 v2 G2, G.get c = some (.cells l 1) ∧ len * 10 ≤ l.length ∧ evalApp 0 10 96 (G.new (.cells [] 1)) (.sl G.next 0 0 10) (.sl c 0 k 10) = some (v1, G1) ∧ G1.get c = some (.cells l 1) ∧ evalApp 0 10 96 G1 v1 (.sl c ((k + 1) * 10) (len - (k + 1)) 10) = some (v2, G2) ∧
      G2.Ok ∧ HLe H0 G2 ∧ RV H0 G2 0 10 v2 (rqs (O.eraseIdx k)) ∧ (∀ b y, G.get b = some y → G1.get b = some y ∧ G2.get b = some y ∧ ∀ o l z, v2 ≠ .sl b o l z) := by
  obtain ⟨hl, l, hg, hll, hp⟩ := rqs_parts h
  have hn := HLe.new (hO _ (Nat.le_refl _)) (.cells [] 1)
  have hO' := hO.new (.cells [] 1)
  have hle' := hle.new_ hO (.cells [] 1)
  have hne : ∀ b y, G.get b = some y → ∀ o l z, AV.sl G.next 0 0 10 ≠ .sl b o l z := fun b y hb o l z e => by
    have := (AV.sl.inj e).1
    rw [← this, hO _ (Nat.le_refl _)] at hb
    cases hb
  have own0 : RV H0 (G.new (.cells [] 1)) 0 10 (.sl G.next 0 0 10) [] := .inr ⟨G.next, 0, [], rfl, rfl, Heap.get_new_self _ _, Nat.le_refl _, rfl, hle.none (hO _ (Nat.le_refl _))⟩
  have s1 := Sl.src ((hp k (Nat.le_of_lt hk)).1.mono hn) (rqs_sc _) (by decide)
  rw [rqs_len, Nat.mul_div_cancel _ (by decide), List.length_take, Nat.min_eq_left (by omega)] at s1
  obtain ⟨v1, G1, e1, hO1, hle1, _, r1, old1⟩ := RV.app (bytes := 96) hO' hle' own0 s1 (by rw [rqs_len, List.length_take]; omega) (by decide) (by rw [List.length_nil]; omega) (by rw [List.length_nil]; omega)
  have k1 : ∀ b y, G.get b = some y → G1.get b = some y ∧ ∀ o l z, v1 ≠ .sl b o l z := fun b y hb => old1 b y (hn b y hb) (hne b y hb)
  have hg1 := (k1 _ _ hg).1
  have hp2 : Sl G1 10 (.sl c ((k + 1) * 10) (len - (k + 1)) 10) (rqs (O.drop (k + 1))) := by
    rcases (hp (k + 1) hk).2 with ⟨hb, _⟩ | ⟨b, o, ln, l', w, rest, e, q2, q3, q4, q5⟩
    · cases hb
    · obtain ⟨rfl, rfl, rfl, _⟩ := AV.sl.inj e
      exact .inr ⟨_, _, _, l', w, rest, rfl, q2, (k1 _ _ q3).1, q4, q5⟩
  have s2 := Sl.src hp2 (rqs_sc _) (by decide)
  rw [rqs_len, Nat.mul_div_cancel _ (by decide), List.length_drop, hl] at s2
  rw [List.nil_append] at r1
  have hlk : (rqs (O.take k)).length / 10 = k := by rw [rqs_len, Nat.mul_div_cancel _ (by decide), List.length_take]; omega
  obtain ⟨v2, G2, e2, hO2, hle2, _, r2, old2⟩ := RV.app (bytes := 96) hO1 hle1 r1 s2 (by rw [rqs_len, List.length_drop]; omega) (by decide) (by omega) (by omega)
  refine ⟨l, v1, G1, v2, G2, hg, hll, e1, hg1, e2, hO2, hle2, by rw [rqs_erase]; exact r2, fun b y hb => ⟨(k1 b y hb).1, old2 b y (k1 b y hb).1 (k1 b y hb).2⟩⟩

theorem refAnswer_ev (H0 H : Heap) (p : Nat) (L : List Rq) (last : Nat) (f : Fr) (hle : HLe H0 H) (hA : Ask H0 H p L last) (hl : L.length ≤ 100000) (Q : AV → Heap → Prop)
    (hno : ((rightB f && decide (.ofNat 6 ≤ f.kind)) = false ∨ ∀ o ∈ L, hitB f o = false) → ∀ H', H'.Ok → HLe H0 H' → Keeps H H' p → Ask H0 H' p L last → Q (.tup [.agg noFr.cells, .bool false]) H')
    (hyes : rightB f = true → .ofNat 6 ≤ f.kind → ∀ i, i < L.length → (∀ o ∈ L.take i, hitB f o = false) → hitB f (L.getD i noRq) = true → ∀ H', H'.Ok → HLe H0 H' → Keeps H H' p → Ask H0 H' p (L.eraseIdx i) last → Q (.tup [.agg (L.getD i noRq).f.cells, .bool true]) H') :
    Eo lib n_depotref17_Asks_Answer [.ptr p 0, .agg f.cells] H Q := by
  refine Eo.ok fun hOk => ?_
  refine Eo.code at_depotref17_Asks_Answer rfl ?_
  obtain ⟨v, hp, hp0, hv, hvp⟩ := hA
  have hpn := Heap.lt_of_get hOk hp
  have hbx := box_fr f
  have ga := Heap.get_new2' H (.cells f.cells 1) (.cells noFr.cells 1)
  have gz := Heap.get_new2 H (.cells f.cells 1) (.cells noFr.cells 1)
  have hOG := (hOk.new (.cells f.cells 1)).new (.cells noFr.cells 1)
  have hLG : HLe H ((H.new (.cells f.cells 1)).new (.cells noFr.cells 1)) := ((HLe.refl H).new_ hOk _).new_ (hOk.new _) _
  have hn1 := hOk (H.next + 1) (Nat.le_succ _)
  simp only [Fr.cells, noFr] at hbx ga gz hOG hLG ⊢
  repeat (first | ((first | apply Xk.sAny | apply Xk.tAny); (case hok => rfl); (case h => intro C hC; simp (disch := omega) only [w1, ↓reduceIte, Nat.reduceEqDiff, Nat.reduceLeDiff, Nat.reduceAdd, Nat.reduceSub, hbx]; with_reducible exact hC); refine gc ?_) | refine gm ?_)
  have hp0G := hLG _ _ hp
  have hv0 := hv.keep fun c o l z x _ hg => hLG _ _ hg
  have hnan : H.next < ((H.new (.cells f.cells 1)).new (.cells noFr.cells 1)).next := Nat.lt_succ_of_lt (Nat.lt_succ_self _)
  have hnzp : H.next + 1 ≠ p := fun e => by rw [e, hp] at hn1; cases hn1
  have hnzv : ∀ o l z, v ≠ .sl (H.next + 1) o l z := fun o l z h => by
    obtain ⟨x, e, _⟩ := hv.at h
    rw [hn1] at e; cases e
  have fin : ((rightB f && decide (.ofNat 6 ≤ f.kind)) = false ∨ ∀ o ∈ L, hitB f o = false) → ∀ H2, H2.Ok → HLe ((H.new (.cells f.cells 1)).new (.cells noFr.cells 1)) H2 → ∀ x, H2.get (H.next + 1) = some x → Q (.tup [.agg noFr.cells, .bool false]) (H2.put (H.next + 1) (.cells noFr.cells 1)) := fun hn H2 hO2 hl2 x hx =>
    have hL2 := (hLG.trans hl2).put_ hn1 (.cells noFr.cells 1)
    hno hn _ (hO2.put hx _) (hle.trans hL2) (Keeps.of_le hp hL2) (Ask.mono ⟨v, hp, hp0, hv, hvp⟩ hL2)
  simp only [Fr.cells, noFr] at fin
  generalize (H.new (.cells [.int .i64 f.kind, .int .i64 f.slot, .int .i64 f.inc, .int .i64 f.rid, .int .i64 f.floor, .int .i64 f.role, .str f.key, .int .i64 f.ver, .str f.data] 1)).new (.cells [.int .i64 (.ofNat 0), .int .i64 (.ofNat 0), .int .i64 (.ofNat 0), .int .i64 (.ofNat 0), .int .i64 (.ofNat 0), .int .i64 (.ofNat 0), .str [], .int .i64 (.ofNat 0), .str []] 1) = H1 at ga gz hOG hLG hp0G hv0 fin ⊢
  generalize H.next + 1 = nz at gz hn1 fin hnzp hnzv ⊢
  generalize H.next = na at ga ⊢
  obtain ⟨hv1l, _, _⟩ := Sl.lensG (g := Rq.cells) (fun _ => rfl) hv0.sl (by decide)
  refine Xk.iter [0, 3, 4, 6] (fun m k H' => ∃ i, m = L.length - i ∧ i ≤ L.length ∧ (∀ o ∈ L.take i, (rightB f && decide (.ofNat 6 ≤ f.kind)) = false ∨ hitB f o = false) ∧ k = [(0, .ptr p 0), (3, .ptr na 0), (4, .ptr nz 0), (6, .int .i64 (.ofNat i))] ∧ H'.Ok ∧ HLe H1 H') rfl
    ⟨_, 0, rfl, Nat.zero_le _, (fun o h => by cases h), rfl, hOG, HLe.refl _⟩ ?_
  rintro m k H' ⟨i, rfl, hi, hnh, rfl, hO', hle'⟩
  unfold l0_depotref17_Asks_Answer
  have ga2 := hle' _ _ ga
  have gz2 := hle' _ _ gz
  have hp2 := hle' _ _ hp0G
  have hv2 := hv0.keep fun c o l z x _ hg => hle' _ _ hg
  by_cases c : i < L.length
  case neg =>
    obtain rfl : i = L.length := by omega
    rw [List.take_length] at hnh
    repeat (first | ((first | apply Xk.sAny | apply Xk.tAny); (case hok => rfl); (case h => intro C hC; simp (disch := omega) only [w1, ↓reduceIte, Nat.reduceEqDiff, Nat.reduceLeDiff, Nat.reduceAdd, Nat.reduceSub, c, hp2, hv1l]; with_reducible exact hC); refine gc ?_) | refine gm ?_)
    repeat (first | ((first | apply Xk.sAny | apply Xk.tAny); (case hok => rfl); (case h => intro C hC; simp (disch := omega) only [w1, ↓reduceIte, Nat.reduceEqDiff, Nat.reduceLeDiff, Nat.reduceAdd, Nat.reduceSub, gz2]; with_reducible exact hC); refine gc ?_) | refine gm ?_)
    refine Ret.ret rfl (by simp only [resKs, resK, cond_true, w1, ↓reduceIte, Nat.reduceEqDiff, Nat.reduceLeDiff, Nat.reduceAdd, Nat.reduceSub, pf_depotref17_Asks_Answer, Heap.get_put_self]; rfl) rfl ?_
    refine fin ?_ H' hO' hle' _ gz2
    cases hb : (rightB f && decide (.ofNat 6 ≤ f.kind)) with
    | false => exact .inl rfl
    | true => exact .inr fun o ho => (hnh o ho).elim (fun h => by rw [hb] at h; cases h) id
  obtain ⟨bb, o, cl, w2, rfl, hg, hrow⟩ := Sl.rowG (g := Rq.cells) (fun _ => rfl) noRq hv2.sl (by omega) (by decide)
  obtain ⟨c1, rest, c2⟩ := hrow i c
  have hsn : L.take (i + 1) = L.take i ++ [L.getD i noRq] := by
    rw [List.take_add_one, List.getD_eq_getElem?_getD, List.getElem?_eq_getElem c]
    rfl
  have hyes := fun h1 h2 => hyes h1 h2 i c
  generalize L.getD i noRq = r at c2 hsn hyes
  have d9 : (cl.drop (o + i * 10)).take 9 = r.f.cells := by rw [c2]; rfl
  have k9 : o + i * 10 + 9 ≤ cl.length := by omega
  have hgz := Heap.get_new_self H' (.cells noFr.cells 1)
  have hst : (H'.new (.cells noFr.cells 1)).put H'.next (.cells r.f.cells 1) = H'.new (.cells r.f.cells 1) := Heap.new_put _ _ _
  have hgr := Heap.get_new_self H' (.cells r.f.cells 1)
  have hO2 := hO'.new (.cells r.f.cells 1)
  have hstep := HLe.new (hO' _ (Nat.le_refl _)) (.cells r.f.cells 1)
  have hrn : H'.next ≠ nz := fun e => by rw [← e, hO' _ (Nat.le_refl _)] at gz2; cases gz2
  have hrp : H'.next ≠ p := fun e => by rw [← e, hO' _ (Nat.le_refl _)] at hp2; cases hp2
  have ga3' := hstep _ _ ga2
  simp only [noFr, Fr.cells] at d9 hgz hst hgr hO2 hstep ga3'
  repeat (first | ((first | apply Xk.sAny | apply Xk.tAny); (case hok => rfl); (case h => intro C hC; simp (disch := omega) only [w1, ↓reduceIte, Nat.reduceEqDiff, Nat.reduceLeDiff, Nat.reduceAdd, Nat.reduceSub, c, hp2, hv1l, hg, k9, d9, hgz, hst, hgr, ga3']; with_reducible exact hC); refine gc ?_) | refine gm ?_)
  repeat (first | ((first | apply Xk.sAny | apply Xk.tAny); (case hok => rfl); (case h => intro C hC; simp (disch := omega) only [w1, ↓reduceIte, Nat.reduceEqDiff, Nat.reduceLeDiff, Nat.reduceAdd, Nat.reduceSub, ga3']; with_reducible exact hC); refine gc ?_) | refine gm ?_)
  refine refRight_ev f _ _ fun H3 hO3 hle3 => ?_
  have hl3 := hstep.trans hle3
  have hgr3 := hle3 _ _ hgr
  have ga3 := hl3 _ _ ga2
  have gz3 := hl3 _ _ gz2
  have hp3 := hl3 _ _ hp2
  have hg3 := hl3 _ _ hg
  have hv3 := hv2.keep fun c o l z x _ hg => hl3 _ _ hg
  have hL3 : HLe H1 H3 := hle'.trans hl3
  have hLH3 : HLe H H3 := hLG.trans hL3
  clear hstep hle3 hgz hst hgr hO2 ga3'
  have next : ((rightB f && decide (.ofNat 6 ≤ f.kind)) = false ∨ hitB f r = false) → ∀ o ∈ L.take (i + 1), (rightB f && decide (.ofNat 6 ≤ f.kind)) = false ∨ hitB f o = false := fun hf o' ho' => by
    rw [hsn] at ho'
    rcases List.mem_append.1 ho' with h | h
    · exact hnh o' h
    · rw [List.mem_singleton] at h
      rw [h]
      exact hf
  cases hr : rightB f with
  | false =>
    repeat (first | ((first | apply Xk.sAny | apply Xk.tAny); (case hok => rfl); (case h => intro C hC; simp (disch := omega) only [w1, ↓reduceIte, Nat.reduceEqDiff, Nat.reduceLeDiff, Nat.reduceAdd, Nat.reduceSub, hgr3]; with_reducible exact hC); refine gc ?_) | refine gm ?_)
    repeat (first | ((first | apply Xk.sAny | apply Xk.tAny); (case hok => rfl); (case h => intro C hC; simp (disch := omega) only [w1, ↓reduceIte, Nat.reduceEqDiff, Nat.reduceLeDiff, Nat.reduceAdd, Nat.reduceSub, hgr3]; with_reducible exact hC); refine gc ?_) | refine gm ?_)
    exact ⟨rfl, _, by omega, i + 1, rfl, by omega, by
      have h := next (.inl (by rw [hr]; rfl))
      rw [hr] at h
      exact h, rfl, hO3, hL3⟩
  | true =>
  by_cases hk : .ofNat 6 ≤ f.kind
  case neg =>
    repeat (first | ((first | apply Xk.sAny | apply Xk.tAny); (case hok => rfl); (case h => intro C hC; simp (disch := omega) only [w1, ↓reduceIte, Nat.reduceEqDiff, Nat.reduceLeDiff, Nat.reduceAdd, Nat.reduceSub, hgr3, ga3, hk]; with_reducible exact hC); refine gc ?_) | refine gm ?_)
    repeat (first | ((first | apply Xk.sAny | apply Xk.tAny); (case hok => rfl); (case h => intro C hC; simp (disch := omega) only [w1, ↓reduceIte, Nat.reduceEqDiff, Nat.reduceLeDiff, Nat.reduceAdd, Nat.reduceSub, hgr3, ga3, hk]; with_reducible exact hC); refine gc ?_) | refine gm ?_)
    exact ⟨rfl, _, by omega, i + 1, rfl, by omega, by
      have h := next (.inl (by rw [decide_eq_false hk, Bool.and_false]))
      rw [hr] at h
      exact h, rfl, hO3, hL3⟩
  by_cases e1 : r.f.rid = f.rid
  case neg =>
    have q1 := decide_eq_false e1
    repeat (first | ((first | apply Xk.sAny | apply Xk.tAny); (case hok => rfl); (case h => intro C hC; simp (disch := omega) only [w1, ↓reduceIte, Nat.reduceEqDiff, Nat.reduceLeDiff, Nat.reduceAdd, Nat.reduceSub, hgr3, ga3, hk, q1]; with_reducible exact hC); refine gc ?_) | refine gm ?_)
    exact ⟨rfl, _, by omega, i + 1, rfl, by omega, by
      have h := next (.inr (by unfold hitB; rw [q1]; rfl))
      rw [hr] at h
      exact h, rfl, hO3, hL3⟩
  have q1 := decide_eq_true e1
  by_cases e2 : r.f.slot = f.slot
  case neg =>
    have q2 := decide_eq_false e2
    repeat (first | ((first | apply Xk.sAny | apply Xk.tAny); (case hok => rfl); (case h => intro C hC; simp (disch := omega) only [w1, ↓reduceIte, Nat.reduceEqDiff, Nat.reduceLeDiff, Nat.reduceAdd, Nat.reduceSub, hgr3, ga3, hk, q1, q2]; with_reducible exact hC); refine gc ?_) | refine gm ?_)
    exact ⟨rfl, _, by omega, i + 1, rfl, by omega, by
      have h := next (.inr (by unfold hitB; rw [q1, q2]; rfl))
      rw [hr] at h
      exact h, rfl, hO3, hL3⟩
  have q2 := decide_eq_true e2
  by_cases e3 : r.f.inc = f.inc
  case neg =>
    have q3 := decide_eq_false e3
    repeat (first | ((first | apply Xk.sAny | apply Xk.tAny); (case hok => rfl); (case h => intro C hC; simp (disch := omega) only [w1, ↓reduceIte, Nat.reduceEqDiff, Nat.reduceLeDiff, Nat.reduceAdd, Nat.reduceSub, hgr3, ga3, hk, q1, q2, q3]; with_reducible exact hC); refine gc ?_) | refine gm ?_)
    exact ⟨rfl, _, by omega, i + 1, rfl, by omega, by
      have h := next (.inr (by unfold hitB; rw [q1, q2, q3]; rfl))
      rw [hr] at h
      exact h, rfl, hO3, hL3⟩
  have q3 := decide_eq_true e3
  have hbR : (rightB f && decide (.ofNat 6 ≤ f.kind)) = true := by rw [hr, decide_eq_true hk]; rfl
  have hy := hyes hr hk (fun o ho => (hnh o ho).elim (fun h => by rw [hbR] at h; cases h) id) (by unfold hitB; rw [q1, q2, q3]; rfl)
  have hoo : o = 0 := by
    rcases hv3 with ⟨hb, _⟩ | ⟨_, _, _, e, _⟩
    · cases hb
    · exact (AV.sl.inj e).2.1
  subst hoo
  obtain ⟨lo, v1, G4, v2, G5, hgl, hll, ea1, hgl4, ea2, hO5, hle5, hr5, old5⟩ := rqs_cut hO3 (hle.trans hLH3) hv3 hl c
  have m1 : (i ≤ lo.length / 10) = True := eq_true ((Nat.le_div_iff_mul_le (by decide)).2 (by omega))
  have m2 : (i + 1 ≤ L.length) = True := eq_true c
  have hglx := (HLe.new (hO3 _ (Nat.le_refl _)) (.cells [] 1)) _ _ hgl
  have hpx := (HLe.new (hO3 _ (Nat.le_refl _)) (.cells [] 1)) _ _ hp3
  have hp4 := (old5 _ _ hp3).1
  have hp5 := (old5 _ _ hp3).2.1
  have gz5 := (old5 _ _ gz3).2.1
  have gr5 := (old5 _ _ hgr3).2.1
  obtain ⟨vc, vs⟩ := hr5.sc
  repeat (first | ((first | apply Xk.sAny | apply Xk.tAny); (case hok => rfl); (case h => intro C hC; simp (disch := omega) only [w1, ↓reduceIte, Nat.reduceEqDiff, Nat.reduceLeDiff, Nat.reduceAdd, Nat.reduceSub, hgr3, ga3, hk, q1, q2, q3]; with_reducible exact hC); refine gc ?_) | refine gm ?_)
  repeat (first | ((first | apply Xk.sAny | apply Xk.tAny); (case hok => rfl); (case h => intro C hC; simp (disch := omega) only [w1, ↓reduceIte, Nat.reduceEqDiff, Nat.reduceLeDiff, Nat.reduceAdd, Nat.reduceSub, hp3, hpx, hgl, hglx, hgl4, ea1, ea2, m1, m2, vc, vs, hp4, hp5]; with_reducible exact hC); refine gc ?_) | refine gm ?_)
  have gz6 : (G5.put p (.cells [v2, .int .i64 (.ofNat last)] 1)).get nz = _ := (Heap.get_put_ne G5 p _ hnzp).trans gz5
  have gr6 : (G5.put p (.cells [v2, .int .i64 (.ofNat last)] 1)).get H'.next = _ := (Heap.get_put_ne G5 p _ hrp).trans gr5
  have hO6 := hO5.put hp5 (.cells [v2, .int .i64 (.ofNat last)] 1)
  repeat (first | ((first | apply Xk.sAny | apply Xk.tAny); (case hok => rfl); (case h => intro C hC; simp (disch := omega) only [w1, ↓reduceIte, Nat.reduceEqDiff, Nat.reduceLeDiff, Nat.reduceAdd, Nat.reduceSub, gz6, gr6]; with_reducible exact hC); refine gc ?_) | refine gm ?_)
  repeat (first | ((first | apply Xk.sAny | apply Xk.tAny); (case hok => rfl); (case h => intro C hC; simp (disch := omega) only [w1, ↓reduceIte, Nat.reduceEqDiff, Nat.reduceLeDiff, Nat.reduceAdd, Nat.reduceSub, gz6, gr6]; with_reducible exact hC); refine gc ?_) | refine gm ?_)
  refine Ret.ret rfl (by simp only [resKs, resK, cond_true, w1, ↓reduceIte, Nat.reduceEqDiff, Nat.reduceLeDiff, Nat.reduceAdd, Nat.reduceSub, pf_depotref17_Asks_Answer, Heap.get_put_self]; rfl) rfl ?_
  have hnz0 : H0.get nz = none := hle.none hn1
  refine hy _ (hO6.put gz6 _) ((hle5.put_ hp0 _).put_ hnz0 _) (fun b y hb hni => ?_) ⟨v2, ?_, hp0, ?_, (old5 _ _ hp3).2.2⟩
  · have n1 : b ≠ nz := fun e => by rw [e, hn1] at hb; cases hb
    have n2 : b ≠ p := fun e => hni (.inl e)
    obtain ⟨_, q4, q5⟩ := old5 b y (hLH3 b y hb)
    refine ⟨by rw [Heap.get_put_ne _ _ _ n1, Heap.get_put_ne _ _ _ n2]; exact q4, fun h => ?_⟩
    rcases h with h | ⟨v2', n2', w2', h1, o', l', z', rfl⟩
    · exact n2 h
    · rw [Heap.get_put_ne _ _ _ (Ne.symm hnzp), Heap.get_put_self] at h1
      cases h1
      exact q5 _ _ _ rfl
  · rw [Heap.get_put_ne _ _ _ (Ne.symm hnzp), Heap.get_put_self]
  · exact hr5.keep fun c o l z x hvc hg => by
      rw [Heap.get_put_ne _ _ _ (fun e => by subst e; exact (old5 _ _ gz3).2.2 _ _ _ hvc), Heap.get_put_ne _ _ _ (fun e => by subst e; exact (old5 _ _ hp3).2.2 _ _ _ hvc)]
      exact hg
end Go.Proofs.Ytcpcajfmkmgjeaa
