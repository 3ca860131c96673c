/- Layer 19: the law AskOnce, over the clean machine. Conditions: none. -/
import Derived.Test.YtcpcajfmkmgjeaaAkL
import Derived.Test.YtcpcajfmkmgjeaaAkK
namespace Go.Proofs.Ytcpcajfmkmgjeaa
open Go.Dp
set_option linter.unusedSimpArgs false
set_option linter.unusedVariables false
set_option maxHeartbeats 400000
set_option maxRecDepth 8000
attribute [local irreducible] Ex.thnK Ex.inK Ret

/-- what the law holds: requests, its own list of them, the floors -/
structure OS (H G : Heap) (p fb : Nat) (L : List Rq) (last : Nat) (v9 : AV) (O : List Fr) (fl : List Int) : Prop where
  ask : Ask H G p L last
  ok : G.Ok
  le : HLe H G
  fg : G.get fb = some (.cells (ints fl) 1)
  fn : ¬ InA G p fb
  fh : H.get fb = none
  rv : RV H G 0 9 v9 (frs O)
  rn : ∀ b o l z, v9 = .sl b o l z → ¬ InA G p b ∧ b ≠ fb
theorem OS.step {H G G' : Heap} {p fb last last' : Nat} {L L' : List Rq} {v9 : AV} {O : List Fr} {fl : List Int} (h : OS H G p fb L last v9 O fl) (hk : Keeps G G' p) (hO : G'.Ok) (hle : HLe H G') (hA : Ask H G' p L' last') : OS H G' p fb L' last' v9 O fl := by
  obtain ⟨q1, q2⟩ := hk _ _ h.fg h.fn
  refine ⟨hA, hO, hle, q1, q2, h.fh, h.rv.keep fun c o l z x hv hg => (hk c x hg (h.rn _ _ _ _ hv).1).1, fun b o l z hv => ?_⟩
  obtain ⟨x, hx, _⟩ := h.rv.at hv
  exact ⟨(hk b x hx (h.rn _ _ _ _ hv).1).2, (h.rn _ _ _ _ hv).2⟩
theorem OS.new {H G : Heap} {p fb last : Nat} {L : List Rq} {v9 : AV} {O : List Fr} {fl : List Int} (h : OS H G p fb L last v9 O fl) (x : Blk) : OS H (G.new x) p fb L last v9 O fl := by
  obtain ⟨h1, _, h3⟩ := h.ask.new h.ok x
  exact h.step h3 (h.ok.new x) (h.le.new_ h.ok x) h1
theorem OS.push {H G : Heap} {p fb last : Nat} {L : List Rq} {v9 : AV} {O : List Fr} {fl : List Int} (h : OS H G p fb L last v9 O fl) (f : Fr) (hO : O.length ≤ 1000) :
    ∃ v' G', evalApp 0 9 88 (G.new (.cells f.cells 1)) v9 (.sl G.next 0 1 9) = some (v', G') ∧ OS H G' p fb L last v' (O ++ [f]) fl ∧ v'.cells = [v'] ∧ v'.isSc = true ∧ (∀ b y, G.get b = some y → (∀ o l z, v9 ≠ .sl b o l z) → G'.get b = some y) := by
  have hlen : (frs O).length / 9 ≤ 1000 := by rw [frs_len, Nat.mul_div_cancel _ (by decide)]; exact hO
  obtain ⟨v', G', ea, hO6, hle6, _, hr6, old6⟩ := RV.push (bytes := 88) (w := 1) (row := f.cells) h.ok h.le h.rv rfl rfl (by decide) (by omega) (by omega)
  obtain ⟨vc, vs⟩ := hr6.sc
  have hask : ∀ b y, G.get b = some y → InA G p b → G'.get b = some y := fun b y hb hi => (old6 b y hb (fun o l z e => (h.rn _ _ _ _ e).1 hi)).1
  obtain ⟨a1, a2⟩ := h.ask.keep hask
  have hf6 := old6 _ _ h.fg (fun o l z e => (h.rn _ _ _ _ e).2 rfl)
  refine ⟨v', G', ea, ⟨a1, hO6, hle6, hf6.1, fun hi => h.fn ((a2 _).1 hi), h.fh, by rw [frs_snoc]; exact hr6, fun b o l z hv => ⟨fun hi => ?_, fun e => ?_⟩⟩, vc, vs, fun b y hb hn => (old6 b y hb hn).1⟩
  · have hi' := (a2 b).1 hi
    obtain ⟨x, hx⟩ := h.ask.old hi'
    exact (old6 b x hx (fun o l z e => (h.rn _ _ _ _ e).1 hi')).2 _ _ _ hv
  · subst e
    exact hf6.2 _ _ _ hv
theorem OS.seen {H G G' : Heap} {p fb last : Nat} {L : List Rq} {v9 : AV} {O : List Fr} {fl fl' : List Int} (h : OS H G p fb L last v9 O fl) (hO : G'.Ok) (hg : G'.get fb = some (.cells (ints fl') 1)) (hs : ∀ b y, G.get b = some y → b ≠ fb → G'.get b = some y) : OS H G' p fb L last v9 O fl' := by
  obtain ⟨a1, a2⟩ := h.ask.keep (H' := G') fun b y hb hi => hs b y hb (fun e => h.fn (e ▸ hi))
  refine ⟨a1, hO, fun b y hb => hs b y (h.le b y hb) (fun e => by rw [e, h.fh] at hb; cases hb), hg, fun hi => h.fn ((a2 _).1 hi), h.fh, h.rv.keep fun c o l z x hv hgc => hs c x hgc (h.rn _ _ _ _ hv).2, fun b o l z hv => ⟨fun hi => (h.rn _ _ _ _ hv).1 ((a2 _).1 hi), (h.rn _ _ _ _ hv).2⟩⟩

theorem frs_parts {H0 G : Heap} {c len : Nat} {O : List Fr} (h : RV H0 G 0 9 (.sl c 0 len 9) (frs O)) : O.length = len ∧ ∃ l, G.get c = some (.cells l 1) ∧ len * 9 ≤ l.length ∧
    (∀ k, k ≤ len → Sl G 9 (.sl c 0 k 9) (frs (O.take k)) ∧ Sl G 9 (.sl c (k * 9) (len - k) 9) (frs (O.drop k))) := by
  rcases h with ⟨hbad, _⟩ | ⟨c', len', l, e, h2, h3, h4, h5, h6⟩
  · cases hbad
  · obtain ⟨rfl, _, rfl, _⟩ := AV.sl.inj e
    rw [frs_len] at h2 h4 h5
    have hl : O.length = len := by omega
    rw [hl] at h4 h5
    refine ⟨hl, l, h3, h4, fun k hk => ⟨.inr ⟨c, 0, k, l, 1, l.drop (k * 9), rfl, by rw [frs_len, List.length_take]; omega, h3, Nat.zero_le _, ?_⟩, .inr ⟨c, k * 9, len - k, l, 1, l.drop (len * 9), rfl, by rw [frs_len, List.length_drop]; omega, h3, by omega, ?_⟩⟩⟩
    · have e1 : l.take (k * 9) = frs (O.take k) := by
        have : (l.take (len * 9)).take (k * 9) = frs (O.take k) := by rw [h5]; exact fm_take (g := Fr.cells) (fun _ => rfl) O k
        rw [List.take_take, Nat.min_eq_left (by omega)] at this
        exact this
      rw [← e1, List.drop_zero, List.take_append_drop]
    · have e1 : (l.take (len * 9)).drop (k * 9) = frs (O.drop k) := by rw [h5]; exact fm_dropn (g := Fr.cells) (fun _ => rfl) O k
      rw [← e1]
      have e2 : l = l.take (len * 9) ++ l.drop (len * 9) := (List.take_append_drop _ _).symm
      have e3 : k * 9 ≤ (l.take (len * 9)).length := by rw [List.length_take]; omega
      conv => lhs; rw [e2]
      rw [List.drop_append_of_le_length e3]
theorem OS.cut {H G : Heap} {p fb last c len : Nat} {L : List Rq} {O : List Fr} {fl : List Int} (h : OS H G p fb L last (.sl c 0 len 9) O fl) (hlen : len ≤ 1000) {k : Nat} (hk : k < len) :
    ∃ l v1 G1 v2 G2, G.get c = some (.cells l 1) ∧ len * 9 ≤ l.length ∧ evalApp 0 9 88 (G.new (.cells [] 1)) (.sl G.next 0 0 9) (.sl c 0 k 9) = some (v1, G1) ∧ G1.get c = some (.cells l 1) ∧ evalApp 0 9 88 G1 v1 (.sl c ((k + 1) * 9) (len - (k + 1)) 9) = some (v2, G2) ∧
      OS H G2 p fb L last v2 (O.eraseIdx k) fl ∧ v2.cells = [v2] ∧ v2.isSc = true ∧ G.next ≠ c := by
  obtain ⟨hl, l, hg, hll, hp⟩ := frs_parts h.rv
  have hn := HLe.new (h.ok _ (Nat.le_refl _)) (.cells [] 1)
  have hO' := h.ok.new (.cells [] 1)
  have hle' := h.le.new_ h.ok (.cells [] 1)
  have hne : ∀ b y, G.get b = some y → ∀ o l z, AV.sl G.next 0 0 9 ≠ .sl b o l z := fun b y hb o l z e => by
    have := (AV.sl.inj e).1
    rw [← this, h.ok _ (Nat.le_refl _)] at hb
    cases hb
  have own0 : RV H (G.new (.cells [] 1)) 0 9 (.sl G.next 0 0 9) [] := .inr ⟨G.next, 0, [], rfl, rfl, Heap.get_new_self _ _, Nat.le_refl _, rfl, h.le.none (h.ok _ (Nat.le_refl _))⟩
  have s1 := Sl.src ((hp k (Nat.le_of_lt hk)).1.mono hn) (frs_sc _) (by decide)
  rw [frs_len, Nat.mul_div_cancel _ (by decide), List.length_take, Nat.min_eq_left (by omega)] at s1
  obtain ⟨v1, G1, e1, hO1, hle1, _, r1, old1⟩ := RV.app (bytes := 88) hO' hle' own0 s1 (by rw [frs_len, List.length_take]; omega) (by decide) (by rw [List.length_nil]; omega) (by rw [List.length_nil]; omega)
  have k1 : ∀ b y, G.get b = some y → G1.get b = some y ∧ ∀ o l z, v1 ≠ .sl b o l z := fun b y hb => old1 b y (hn b y hb) (hne b y hb)
  have hg1 := (k1 _ _ hg).1
  have hp2 : Sl G1 9 (.sl c ((k + 1) * 9) (len - (k + 1)) 9) (frs (O.drop (k + 1))) := by
    rcases (hp (k + 1) hk).2 with ⟨hb, _⟩ | ⟨b, o, ln, l', w, rest, e, q2, q3, q4, q5⟩
    · cases hb
    · obtain ⟨rfl, rfl, rfl, _⟩ := AV.sl.inj e
      exact .inr ⟨_, _, _, l', w, rest, rfl, q2, (k1 _ _ q3).1, q4, q5⟩
  have s2 := Sl.src hp2 (frs_sc _) (by decide)
  rw [frs_len, Nat.mul_div_cancel _ (by decide), List.length_drop, hl] at s2
  rw [List.nil_append] at r1
  have hlk : (frs (O.take k)).length / 9 = k := by rw [frs_len, Nat.mul_div_cancel _ (by decide), List.length_take]; omega
  obtain ⟨v2, G2, e2, hO2, hle2, _, r2, old2⟩ := RV.app (bytes := 88) hO1 hle1 r1 s2 (by rw [frs_len, List.length_drop]; omega) (by decide) (by omega) (by omega)
  have k2 : ∀ b y, G.get b = some y → G2.get b = some y ∧ ∀ o l z, v2 ≠ .sl b o l z := fun b y hb => old2 b y (k1 b y hb).1 (k1 b y hb).2
  obtain ⟨vc, vs⟩ := r2.sc
  obtain ⟨a1, a2⟩ := h.ask.keep (H' := G2) fun b y hb _ => (k2 b y hb).1
  have er : frs (O.eraseIdx k) = frs (O.take k) ++ frs (O.drop (k + 1)) := by
    unfold frs
    rw [List.eraseIdx_eq_take_drop_succ, List.flatMap_append]
  refine ⟨l, v1, G1, v2, G2, hg, hll, e1, hg1, e2, ⟨a1, hO2, hle2, (k2 _ _ h.fg).1, fun hi => h.fn ((a2 _).1 hi), h.fh, by rw [er]; exact r2, fun b o l z hv => ⟨fun hi => ?_, fun e => ?_⟩⟩, vc, vs, fun e => by rw [← e, h.ok _ (Nat.le_refl _)] at hg; cases hg⟩
  · obtain ⟨x, hx⟩ := h.ask.old ((a2 b).1 hi)
    exact (k2 b x hx).2 _ _ _ hv
  · subst e
    exact (k2 _ _ h.fg).2 _ _ _ hv

theorem slints_row {H : Heap} {v : AV} {z : List Int} (hv : Sl H 1 v (ints z)) {i : Nat} (c : i < z.length) : ∃ b o l w, v = .sl b o z.length 1 ∧ H.get b = some (.cells l w) ∧ o + i + 1 ≤ l.length ∧ (l.drop (o + i)).take 1 = [.int .i64 (z.getD i 0)] := by
  rcases hv with ⟨rfl, hz⟩ | ⟨b, o, len, l, w, rest, rfl, h2, h3, h4, h5⟩
  · have : (ints z).length = 0 := by rw [hz]; rfl
    rw [ints_len] at this
    omega
  · rw [ints_len, Nat.mul_one] at h2
    subst h2
    have hl2 : l.length - o = (ints z).length + rest.length := by rw [← List.length_drop, h5, List.length_append]
    rw [ints_len] at hl2
    refine ⟨b, o, l, w, rfl, h3, by omega, ?_⟩
    rw [← List.drop_drop, h5]
    have hs : z = z.take i ++ z.getD i 0 :: z.drop (i + 1) := by
      have hd : z.drop i = z.getD i 0 :: z.drop (i + 1) := by
        rw [List.drop_eq_getElem_cons c, List.getD_eq_getElem?_getD, List.getElem?_eq_getElem c]
        rfl
      rw [← hd, List.take_append_drop]
    have := ints_at (z.take i) (z.getD i 0) (z.drop (i + 1)) rest
    rw [← hs, List.length_take, Nat.min_eq_left (by omega)] at this
    exact this
theorem slints_len {H : Heap} {v : AV} {z : List Int} (hv : Sl H 1 v (ints z)) : rLensl v = some (.int .i64 (.ofNat z.length)) := by
  have e : ints z = z.flatMap fun x => [AV.int .i64 x] := by
    unfold ints
    induction z with
    | nil => rfl
    | cons a z ih => rw [List.map_cons, List.flatMap_cons]; rw [show z.map (AV.int .i64) = z.flatMap fun x => [AV.int .i64 x] from ?_]; rfl
                     clear hv ih
                     induction z with
                     | nil => rfl
                     | cons b z ih => rw [List.map_cons, List.flatMap_cons, ih]; rfl
  rw [e] at hv
  exact (Sl.lensG (g := fun x => [AV.int .i64 x]) (fun _ => rfl) hv (by decide)).1

theorem Once_law (vs va vt : AV) (ls la lt : List Int) (H : Heap) (hvs : Sl H 1 vs (ints ls)) (hva : Sl H 1 va (ints la)) (hvt : Sl H 1 vt (ints lt)) (hns : ls.length < 9223372036854775808) (hna : la.length < 9223372036854775808) (hnt : lt.length < 9223372036854775808) :
    Eo lib n_depotlaw19_AskOnce [vs, va, vt] H fun v _ => v = .bool true := by
  refine Eo.ok fun hOk => ?_
  refine Eo.code at_depotlaw19_AskOnce rfl ?_
  repeat (first | ((first | apply Xk.sAny | apply Xk.tAny); (case hok => rfl); (case h => intro C hC; simp (disch := omega) only [w1, ↓reduceIte, Nat.reduceEqDiff, Nat.reduceLeDiff, Nat.reduceAdd, Nat.reduceSub]; with_reducible exact hC); refine gc ?_) | refine gm ?_)
  refine New_ev H H (HLe.refl H) _ fun H1 hO1 hle1 hA1 _ => ?_
  generalize H.next = p at hA1 ⊢
  have epn : ∀ (H : Heap), negIf false (rEqc H (.ptr p 0) .nilp) = some (.bool false) := fun _ => rfl
  have hr : rep 12 [AV.int .i64 (.ofNat 0)] = ints (List.replicate 12 0) := rfl
  repeat (first | ((first | apply Xk.sAny | apply Xk.tAny); (case hok => rfl); (case h => intro C hC; simp (disch := omega) only [w1, ↓reduceIte, Nat.reduceEqDiff, Nat.reduceLeDiff, Nat.reduceAdd, Nat.reduceSub, epn]; with_reducible exact hC); refine gc ?_) | refine gm ?_)
  rw [hr]
  have hA2 := hA1.new hO1 (.cells (ints (List.replicate 12 0)) 1)
  have hS0 : OS H (H1.new (.cells (ints (List.replicate 12 0)) 1)) p H1.next [] 0 .nils [] (List.replicate 12 0) :=
    ⟨hA2.1, hO1.new _, hle1.new_ hO1 _, Heap.get_new_self _ _, hA2.2.1, hle1.none (hO1 _ (Nat.le_refl _)), .inl ⟨rfl, rfl⟩, fun _ _ _ _ h => (by cases h)⟩
  have hF0 : Fen (List.replicate 12 0) [] 0 := ⟨rfl, fun o h => (by cases h), List.Pairwise.nil, fun o h => (by cases h), fun k => by
    rw [List.getD_eq_getElem?_getD, List.getElem?_replicate]
    split <;> exact Int.le_refl _, Nat.le_refl _⟩
  generalize H1.new (.cells (ints (List.replicate 12 0)) 1) = G0 at hS0 ⊢
  generalize H1.next = fb at hS0 ⊢
  clear hA1 hO1 hle1 hA2
  refine Xk.iter [0, 1, 2, 7, 8, 9, 10, 11, 12] (fun m k G => ∃ i L v9 fl, m = 60 - i ∧ i ≤ 60 ∧ OS H G p fb L i v9 (L.map Rq.f) fl ∧ Fen fl L i ∧ (∀ o ∈ L, o.t ≤ i) ∧
      k = [(0, vs), (1, va), (2, vt), (7, .ptr p 0), (8, .ptr fb 0), (9, v9), (10, .int .i64 (.ofNat i)), (11, .fn 11 [.ptr fb 0]), (12, .int .i64 (.ofNat i))]) rfl
    ⟨_, 0, [], .nils, List.replicate 12 0, rfl, Nat.zero_le _, hS0, hF0, fun o h => (by cases h), rfl⟩ ?_
  clear hS0 hF0
  rintro m k G ⟨i, L, v9, fl, rfl, hi, hS, hF, ht, rfl⟩
  unfold l2_depotlaw19_AskOnce
  have hsl := slints_len hvs
  by_cases c1 : i < ls.length
  case neg =>
    repeat (first | ((first | apply Xk.sAny | apply Xk.tAny); (case hok => rfl); (case h => intro C hC; simp (disch := omega) only [w1, ↓reduceIte, Nat.reduceEqDiff, Nat.reduceLeDiff, Nat.reduceAdd, Nat.reduceSub, c1, hsl]; with_reducible exact hC); refine gc ?_) | refine gm ?_)
    refine List_ev H G p L i hS.ask (by have := hF.cnt; omega) _ fun G2 out hO2 hle2 hr2 => ?_
    obtain ⟨ho, _, _⟩ := Sl.lensG (g := Fr.cells) (fun _ => rfl) hr2.sl (by decide)
    obtain ⟨h9, _, _⟩ := Sl.lensG (g := Fr.cells) (fun _ => rfl) hS.rv.sl (by decide)
    repeat (first | ((first | apply Xk.sAny | apply Xk.tAny); (case hok => rfl); (case h => intro C hC; simp (disch := omega) only [w1, ↓reduceIte, Nat.reduceEqDiff, Nat.reduceLeDiff, Nat.reduceAdd, Nat.reduceSub, ho, h9]; with_reducible exact hC); refine gc ?_) | refine gm ?_)
    refine KRuns_ev _ _ ?_
    repeat (first | ((first | apply Xk.sAny | apply Xk.tAny); (case hok => rfl); (case h => intro C hC; simp (disch := omega) only [w1, ↓reduceIte, Nat.reduceEqDiff, Nat.reduceLeDiff, Nat.reduceAdd, Nat.reduceSub]; with_reducible exact hC); refine gc ?_) | refine gm ?_)
    rfl
  by_cases c2 : i < 60
  case neg =>
    repeat (first | ((first | apply Xk.sAny | apply Xk.tAny); (case hok => rfl); (case h => intro C hC; simp (disch := omega) only [w1, ↓reduceIte, Nat.reduceEqDiff, Nat.reduceLeDiff, Nat.reduceAdd, Nat.reduceSub, c1, hsl, c2]; with_reducible exact hC); refine gc ?_) | refine gm ?_)
    refine List_ev H G p L i hS.ask (by have := hF.cnt; omega) _ fun G2 out hO2 hle2 hr2 => ?_
    obtain ⟨ho, _, _⟩ := Sl.lensG (g := Fr.cells) (fun _ => rfl) hr2.sl (by decide)
    obtain ⟨h9, _, _⟩ := Sl.lensG (g := Fr.cells) (fun _ => rfl) hS.rv.sl (by decide)
    repeat (first | ((first | apply Xk.sAny | apply Xk.tAny); (case hok => rfl); (case h => intro C hC; simp (disch := omega) only [w1, ↓reduceIte, Nat.reduceEqDiff, Nat.reduceLeDiff, Nat.reduceAdd, Nat.reduceSub, ho, h9]; with_reducible exact hC); refine gc ?_) | refine gm ?_)
    refine KRuns_ev _ _ ?_
    repeat (first | ((first | apply Xk.sAny | apply Xk.tAny); (case hok => rfl); (case h => intro C hC; simp (disch := omega) only [w1, ↓reduceIte, Nat.reduceEqDiff, Nat.reduceLeDiff, Nat.reduceAdd, Nat.reduceSub]; with_reducible exact hC); refine gc ?_) | refine gm ?_)
    rfl
  obtain ⟨bs, os, cls, ws, evs, hgs, hbs, hxs⟩ := slints_row hvs c1
  have hgs' := hS.le _ _ hgs
  rw [evs] at hsl ⊢
  repeat (first | ((first | apply Xk.sAny | apply Xk.tAny); (case hok => rfl); (case h => intro C hC; simp (disch := omega) only [w1, ↓reduceIte, Nat.reduceEqDiff, Nat.reduceLeDiff, Nat.reduceAdd, Nat.reduceSub, c1, hsl, c2, hgs', hbs, hxs]; with_reducible exact hC); refine gc ?_) | refine gm ?_)
  refine Within_ev (ls.getD i 0) 0 2 (by decide) (by decide) _ _ fun s _ hs => ?_
  repeat (first | ((first | apply Xk.sAny | apply Xk.tAny); (case hok => rfl); (case h => intro C hC; simp (disch := omega) only [w1, ↓reduceIte, Nat.reduceEqDiff, Nat.reduceLeDiff, Nat.reduceAdd, Nat.reduceSub]; with_reducible exact hC); refine gc ?_) | refine gm ?_)
  have hbeg := begB_scan (s := s) (last := i) (by omega) (by omega)
  have hcnt := hF.cnt
  refine Begin_ev H G p L i (scanF s) hS.le hS.ask (by omega) (by omega) _ fun G2 hO2 hle2 hk2 => ⟨(fun h => by rw [hbeg] at h; cases h), fun _ hA2 => ?_⟩
  have hS2 := hS.step hk2 hO2 hle2 hA2
  have hF2 := hF.begin hs
  have hfl2 := floor_le_rid L (scanF s).slot (.ofNat (i + 1))
  have hL2 : (L ++ [Rq.mk ((scanF s).begun (.ofNat (i + 1)) (floorP L (scanF s).slot (.ofNat (i + 1)))) 0]).map Rq.f = L.map Rq.f ++ [(scanF s).begun (.ofNat (i + 1)) (floorP L (scanF s).slot (.ofNat (i + 1)))] := by
    rw [List.map_append]; rfl
  have ht2 : ∀ o ∈ L ++ [Rq.mk ((scanF s).begun (.ofNat (i + 1)) (floorP L (scanF s).slot (.ofNat (i + 1)))) 0], o.t ≤ i := fun o ho => by
    rcases List.mem_append.1 ho with q | q
    · exact ht o q
    · rw [List.mem_singleton] at q
      subst q
      exact Nat.zero_le _
  have hfs : ((scanF s).begun (.ofNat (i + 1)) (floorP L (scanF s).slot (.ofNat (i + 1)))).slot = .ofNat s := rfl
  have hfr : ((scanF s).begun (.ofNat (i + 1)) (floorP L (scanF s).slot (.ofNat (i + 1)))).rid = .ofNat (i + 1) := rfl
  have hff : ((scanF s).begun (.ofNat (i + 1)) (floorP L (scanF s).slot (.ofNat (i + 1)))).floor = floorP L (scanF s).slot (.ofNat (i + 1)) := rfl
  generalize floorP L (scanF s).slot (.ofNat (i + 1)) = fv at hfl2 hff hS2 hF2 hL2 ht2 hfs hfr ⊢
  generalize (scanF s).begun (.ofNat (i + 1)) fv = f at hS2 hF2 hL2 ht2 hfs hfr hff ⊢
  have hpos : 1 ≤ (L ++ [Rq.mk f 0]).length := by rw [List.length_append]; exact Nat.le_add_left 1 _
  generalize L ++ [Rq.mk f 0] = L1 at hS2 hF2 hL2 ht2 hpos
  -- the new frame's own block
  have hS3 := hS2.new (.cells f.cells 1)
  have hg3 := Heap.get_new_self G2 (.cells f.cells 1)
  have hst := Heap.new_put G2 (.cells noFr.cells 1) (.cells f.cells 1)
  have hgz := Heap.get_new_self G2 (.cells noFr.cells 1)
  have hnv3 : ∀ o l z, v9 ≠ .sl G2.next o l z := fun o l z e => by
    obtain ⟨x, hx, _⟩ := hS2.rv.at e
    rw [hS2.ok _ (Nat.le_refl _)] at hx; cases hx
  have hnf3 : G2.next ≠ fb := fun e => by
    have := hS2.fg
    rw [← e, hS2.ok _ (Nat.le_refl _)] at this; cases this
  have hle1 : ¬ f.rid ≤ .ofNat i := by
    rw [hfr]
    intro h
    have h : ((i + 1 : Nat) : Int) ≤ ((i : Nat) : Int) := h
    omega
  have hgt1 : ¬ f.rid < f.floor := by rw [hfr, hff]; omega
  obtain ⟨v9', G4, e4, hS4, vc4, vs4, old4⟩ := hS3.push f (by rw [List.length_map]; omega)
  have gb4 := (G2.new (.cells f.cells 1)).get_new_self (.cells f.cells 1)
  have hg4 := old4 _ _ hg3 hnv3
  rw [← hL2] at hS4
  have hS4g := hS4.fg
  simp only [Fr.cells, noFr, Heap.next_new] at hg3 hst hgz e4 gb4 hg4 ⊢
  repeat (first | ((first | apply Xk.sAny | apply Xk.tAny); (case hok => rfl); (case h => intro C hC; simp (disch := omega) only [w1, ↓reduceIte, Nat.reduceEqDiff, Nat.reduceLeDiff, Nat.reduceAdd, Nat.reduceSub, hst, hgz, hg3, hle1, hgt1, e4, gb4, vc4, vs4, hg4]; with_reducible exact hC); refine gc ?_) | refine gm ?_)
  refine See_ev f s hfs (by omega) fl hF.len fb G4 hS4g _ fun G5 hO5 hg5 old5 hnx5 => ?_
  have hS5 := hS4.seen hO5 hg5 old5
  have ht5 := hS5.le
  clear hS2 hS3 hg3 hst hgz e4 gb4 hg4 old4 hS4 old5 hg5 hS hk2 hA2 hle2 hO2 hgs' hS4g
  generalize seeL fl f = fl1 at hF2 hS5
  have hla0 := slints_len hva
  have hcnt2 := hF2.cnt
  have hrem : ∀ (x : Int) (m : Nat), bin .rem (.int .i64 x) (.int .i64 (.ofNat (m + 1))) = some (.int .i64 (x.tmod (.ofNat (m + 1)))) := fun _ _ => rfl
  have hr3 := fun x => hrem x 2
  have hr2 := fun x => hrem x 1
  have nbt : (!true) = false := rfl
  have nbf : (!false) = true := rfl
  ((first | apply Xk.sAny | apply Xk.tAny); (case hok => rfl); (case h => intro C hC; simp (disch := omega) only [w1, ↓reduceIte, Nat.reduceEqDiff, Nat.reduceLeDiff, Nat.reduceAdd, Nat.reduceSub]; with_reducible exact hC)); refine gc ?_
  refine Xk.cut [0, 1, 2, 7, 8, 9, 10, 11, 12] (fun k' G' => ∃ L' v', k' = [(0, .sl bs os ls.length 1), (1, va), (2, vt), (7, .ptr p 0), (8, .ptr fb 0), (9, v'), (10, .int .i64 (.ofNat (i + 1))), (11, .fn 11 [.ptr fb 0]), (12, .int .i64 (.ofNat i))] ∧ OS H G' p fb L' (i + 1) v' (L'.map Rq.f) fl1 ∧ Fen fl1 L' (i + 1) ∧ ∀ o ∈ L', o.t ≤ i) ?_ ?_
  · by_cases ca : i < la.length
    case neg =>
      repeat (first | ((first | apply Xk.sAny | apply Xk.tAny); (case hok => rfl); (case h => intro C hC; simp (disch := omega) only [w1, ↓reduceIte, Nat.reduceEqDiff, Nat.reduceLeDiff, Nat.reduceAdd, Nat.reduceSub, hla0, ca]; with_reducible exact hC); refine gc ?_) | refine gm ?_)
      exact ⟨rfl, L1, v9', by rw [hfr]; rfl, hS5, hF2, ht2⟩
    obtain ⟨ba, oa, cla, wa, eva, hga, hba, hxa⟩ := slints_row hva ca
    have hga' := hS5.le _ _ hga
    rw [eva] at hla0 ⊢
    generalize la.getD i 0 = xa at hxa
    by_cases cr : xa.tmod (.ofNat 3) = .ofNat 0
    · have q := decide_eq_true cr
      repeat (first | ((first | apply Xk.sAny | apply Xk.tAny); (case hok => rfl); (case h => intro C hC; simp (disch := omega) only [w1, ↓reduceIte, Nat.reduceEqDiff, Nat.reduceLeDiff, Nat.reduceAdd, Nat.reduceSub, hla0, ca, hga', hba, hxa, hr3, q, nbt]; with_reducible exact hC); refine gc ?_) | refine gm ?_)
      exact ⟨rfl, L1, v9', by rw [hfr]; rfl, hS5, hF2, ht2⟩
    have q := decide_eq_false cr
    obtain ⟨h9, _, _⟩ := Sl.lensG (g := Fr.cells) (fun _ => rfl) hS5.rv.sl (by decide)
    rw [List.length_map] at h9
    repeat (first | ((first | apply Xk.sAny | apply Xk.tAny); (case hok => rfl); (case h => intro C hC; simp (disch := omega) only [w1, ↓reduceIte, Nat.reduceEqDiff, Nat.reduceLeDiff, Nat.reduceAdd, Nat.reduceSub, hla0, ca, hga', hba, hxa, hr3, q, nbf, h9, hpos]; with_reducible exact hC); refine gc ?_) | refine gm ?_)
    refine Within_ev xa 0 (L1.length - 1) (Nat.zero_le _) (by omega) _ _ fun k _ hk => ?_
    have hkl : k < L1.length := by omega
    have hkm : k < (L1.map Rq.f).length := by rw [List.length_map]; exact hkl
    obtain ⟨bo, oo, clo, wo, evo, hgo, hrowo⟩ := Sl.rowG (g := Fr.cells) (fun _ => rfl) noFr hS5.rv.sl (by omega) (by decide)
    subst evo
    obtain ⟨co, resto, cro⟩ := hrowo k hkm
    obtain ⟨_, _, d9⟩ := frs_at _ hkm clo oo cro
    have hgk : (L1.map Rq.f).getD k noFr = (L1.getD k noRq).f := by
      rw [List.getD_eq_getElem?_getD, List.getD_eq_getElem?_getD, List.getElem?_map, List.getElem?_eq_getElem hkl]
      rfl
    rw [hgk] at d9
    have hmem : L1.getD k noRq ∈ L1 := by
      rw [List.getD_eq_getElem?_getD, List.getElem?_eq_getElem hkl]
      exact List.getElem_mem hkl
    obtain ⟨gs, gr, hgsl, hgs2, hgrid, hgr1, hgr2, hginc⟩ := hF2.rng _ hmem
    have hinj := fun j (hj : j < L1.length) (e : (L1.getD j noRq).f.rid = (L1.getD k noRq).f.rid) => ris_inj hF2.ris hj hkl e
    have hera := fun o (ho : o ∈ L1.eraseIdx k) => ris_erase hF2.ris hkl ho
    -- the request's own block
    have hS6 := hS5.new (.cells (L1.getD k noRq).f.cells 1)
    have hg6 := Heap.get_new_self G5 (.cells (L1.getD k noRq).f.cells 1)
    have hst6 := Heap.new_put G5 (.cells noFr.cells 1) (.cells (L1.getD k noRq).f.cells 1)
    have hgz6 := Heap.get_new_self G5 (.cells noFr.cells 1)
    have hnb6 : ¬ InA (G5.new (.cells (L1.getD k noRq).f.cells 1)) p G5.next := (hS5.ask.new hS5.ok _).2.1
    rw [List.length_map]
    have hansF : (⟨.ofNat 6, (L1.getD k noRq).f.slot, .ofNat 0, (L1.getD k noRq).f.rid, .ofNat 0, .ofNat 0, [], .ofNat 0, []⟩ : Fr) = ansF 6 gs gr := by rw [hgsl, hgrid]; rfl
    generalize hgf : (L1.getD k noRq).f = g at d9 hS6 hg6 hst6 hgz6 hnb6 hgsl hgrid hginc hinj hera hansF ⊢
    simp only [Fr.cells, noFr] at d9 hg6 hst6 hgz6
    repeat (first | ((first | apply Xk.sAny | apply Xk.tAny); (case hok => rfl); (case h => intro C hC; simp (disch := omega) only [w1, ↓reduceIte, Nat.reduceEqDiff, Nat.reduceLeDiff, Nat.reduceAdd, Nat.reduceSub, hgo, co, d9, hkl]; with_reducible exact hC); refine gc ?_) | refine gm ?_)
    have hgd6 : G5.next < (G5.new (.cells g.cells 1)).next := Nat.lt_succ_self _
    have hg6' : (G5.new (.cells g.cells 1)).get G5.next = some (.cells g.cells 1) := Heap.get_new_self _ _
    simp only [Fr.cells] at hS6 hg6' hnb6
    generalize G5.new (.cells [.int .i64 g.kind, .int .i64 g.slot, .int .i64 g.inc, .int .i64 g.rid, .int .i64 g.floor, .int .i64 g.role, .str g.key, .int .i64 g.ver, .str g.data] 1) = G6 at hS6 hg6' hnb6 ⊢
    generalize G5.next = b16 at hg6' hnb6 ⊢
    have hright : rightB ⟨.ofNat 6, g.slot, .ofNat 0, g.rid, .ofNat 0, .ofNat 0, [], .ofNat 0, []⟩ = true := by rw [hansF]; exact rightB_ans (.inl rfl) (by omega) (by omega)
    have hhit : hitB ⟨.ofNat 6, g.slot, .ofNat 0, g.rid, .ofNat 0, .ofNat 0, [], .ofNat 0, []⟩ (L1.getD k noRq) = true := by
      unfold hitB
      rw [hgf, hginc, decide_eq_true rfl, decide_eq_true rfl]
      rfl
    refine Answer_ev H G6 p L1 (i + 1) ⟨.ofNat 6, g.slot, .ofNat 0, g.rid, .ofNat 0, .ofNat 0, [], .ofNat 0, []⟩ hS6.le hS6.ask (by omega) _ (fun hno => ?_) (fun _ _ i' hi' hbef hh G7 hO7 hle7 hk7 hA7 => ?_)
    · exfalso
      rcases hno with h | h
      · rw [hright] at h
        cases h
      · rw [h _ hmem] at hhit
        cases hhit
    obtain rfl : i' = k := hinj i' hi' (by
      unfold hitB at hh
      simp only [Bool.and_eq_true, decide_eq_true_eq] at hh
      exact hh.1.1)
    have hS7 := hS6.step hk7 hO7 hle7 hA7
    obtain ⟨hg7, _⟩ := hk7 _ _ hg6' hnb6
    rw [hgf]
    have hS8 := hS7.new (.cells g.cells 1)
    have hg8 := (HLe.new (hO7 _ (Nat.le_refl _)) (.cells g.cells 1)) _ _ hg7
    have hst8 := Heap.new_put G7 (.cells noFr.cells 1) (.cells g.cells 1)
    have hgz8 := Heap.get_new_self G7 (.cells noFr.cells 1)
    have hq8 := Heap.get_new_self G7 (.cells g.cells 1)
    simp only [Fr.cells, noFr] at hS8 hg8 hst8 hgz8 hq8 ⊢
    have hnn : (!decide (g.rid = g.rid)) = false := by rw [decide_eq_true rfl]; rfl
    repeat (first | ((first | apply Xk.sAny | apply Xk.tAny); (case hok => rfl); (case h => intro C hC; simp (disch := omega) only [w1, ↓reduceIte, Nat.reduceEqDiff, Nat.reduceLeDiff, Nat.reduceAdd, Nat.reduceSub, hgz8, hst8, hq8, hg8, hnn]; with_reducible exact hC); refine gc ?_) | refine gm ?_)
    generalize G7.new (.cells [.int .i64 g.kind, .int .i64 g.slot, .int .i64 g.inc, .int .i64 g.rid, .int .i64 g.floor, .int .i64 g.role, .str g.key, .int .i64 g.ver, .str g.data] 1) = G8 at hS8 hg8 hq8 ⊢
    refine Answer_ev H G8 p (L1.eraseIdx i') (i + 1) ⟨.ofNat 6, g.slot, .ofNat 0, g.rid, .ofNat 0, .ofNat 0, [], .ofNat 0, []⟩ hS8.le hS8.ask (by have := (List.eraseIdx_sublist L1 i').length_le; omega) _ (fun _ G9 hO9 hle9 hk9 hA9 => ?_) (fun _ _ j hj hbef2 hh2 G9 hO9 hle9 hk9 hA9 => ?_)
    case refine_2 =>
      exfalso
      have hm : (L1.eraseIdx i').getD j noRq ∈ L1.eraseIdx i' := by
        rw [List.getD_eq_getElem?_getD, List.getElem?_eq_getElem hj]
        exact List.getElem_mem hj
      unfold hitB at hh2
      simp only [Bool.and_eq_true, decide_eq_true_eq] at hh2
      exact hera _ hm hh2.1.1
    have hS9 := (hS8.step hk9 hO9 hle9 hA9).new (.cells noFr.cells 1)
    have hst9 := Heap.new_put G9 (.cells noFr.cells 1) (.cells noFr.cells 1)
    have hgz9 := Heap.get_new_self G9 (.cells noFr.cells 1)
    simp only [Fr.cells, noFr] at hS9 hst9 hgz9 ⊢
    have hoo : oo = 0 := by
      rcases hS9.rv with ⟨hb, _⟩ | ⟨_, _, _, e, _⟩
      · cases hb
      · exact (AV.sl.inj e).2.1
    subst hoo
    have hS9' := hS9
    rw [List.length_map] at hS9'
    obtain ⟨lo, v1, G11, v2, G12, hgl, hll, e1, hgl1, e2, hS12, vc12, vs12, hnc⟩ := hS9'.cut (by omega) hkl
    have m1 : (i' ≤ lo.length / 9) = True := eq_true ((Nat.le_div_iff_mul_le (by decide)).2 (by omega))
    have m2 : (i' + 1 ≤ L1.length) = True := eq_true hkl
    have hglx := (HLe.new (hS9.ok _ (Nat.le_refl _)) (.cells [] 1)) _ _ hgl
    simp only [Heap.next_new] at e1
    have hme : (L1.map Rq.f).eraseIdx i' = (L1.eraseIdx i').map Rq.f := by
      rw [List.eraseIdx_eq_take_drop_succ, List.eraseIdx_eq_take_drop_succ, List.map_append, List.map_take, List.map_drop]
    rw [hme] at hS12
    repeat (first | ((first | apply Xk.sAny | apply Xk.tAny); (case hok => rfl); (case h => intro C hC; simp (disch := omega) only [w1, ↓reduceIte, Nat.reduceEqDiff, Nat.reduceLeDiff, Nat.reduceAdd, Nat.reduceSub, hst9, hgz9, hgl, hglx, hgl1, e1, e2, m1, m2, vc12, vs12]; with_reducible exact hC); refine gc ?_) | refine gm ?_)
    exact ⟨rfl, L1.eraseIdx i', v2, by rw [hfr]; rfl, hS12, hF2.erase i', fun o ho => ht2 o ((List.eraseIdx_sublist L1 i').mem ho)⟩
  · clear hS5 hF2 ht2 hF ht hfs hfr hff hfl2 hle1 hgt1 vc4 vs4 hL2 hpos hcnt2 hcnt hla0 hnv3 hnf3
    rintro k' G' ⟨L', v', rfl, hS, hF, ht⟩
    have hlt0 := slints_len hvt
    have hcnt := hF.cnt
    refine Xk.cut [0, 1, 2, 7, 8, 9, 10, 11, 12] (fun k' G' => ∃ L2 fl2, k' = [(0, .sl bs os ls.length 1), (1, va), (2, vt), (7, .ptr p 0), (8, .ptr fb 0), (9, v'), (10, .int .i64 (.ofNat (i + 1))), (11, .fn 11 [.ptr fb 0]), (12, .int .i64 (.ofNat i))] ∧ OS H G' p fb L2 (i + 1) v' (L2.map Rq.f) fl2 ∧ Fen fl2 L2 (i + 1) ∧ ∀ o ∈ L2, o.t ≤ i + 1) ?_ ?_
    · by_cases ca : i < lt.length
      case neg =>
        repeat (first | ((first | apply Xk.sAny | apply Xk.tAny); (case hok => rfl); (case h => intro C hC; simp (disch := omega) only [w1, ↓reduceIte, Nat.reduceEqDiff, Nat.reduceLeDiff, Nat.reduceAdd, Nat.reduceSub, hlt0, ca]; with_reducible exact hC); refine gc ?_) | refine gm ?_)
        exact ⟨rfl, L', fl1, rfl, hS, hF, fun o ho => Nat.le_succ_of_le (ht o ho)⟩
      obtain ⟨ba, oa, cla, wa, eva, hga, hba, hxa⟩ := slints_row hvt ca
      have hga' := hS.le _ _ hga
      rw [eva] at hlt0 ⊢
      generalize lt.getD i 0 = xa at hxa
      by_cases cr : xa.tmod (.ofNat 2) = .ofNat 0
      case neg =>
        have q := decide_eq_false cr
        repeat (first | ((first | apply Xk.sAny | apply Xk.tAny); (case hok => rfl); (case h => intro C hC; simp (disch := omega) only [w1, ↓reduceIte, Nat.reduceEqDiff, Nat.reduceLeDiff, Nat.reduceAdd, Nat.reduceSub, hlt0, ca, hga', hba, hxa, hr2, q]; with_reducible exact hC); refine gc ?_) | refine gm ?_)
        exact ⟨rfl, L', fl1, rfl, hS, hF, fun o ho => Nat.le_succ_of_le (ht o ho)⟩
      have q := decide_eq_true cr
      repeat (first | ((first | apply Xk.sAny | apply Xk.tAny); (case hok => rfl); (case h => intro C hC; simp (disch := omega) only [w1, ↓reduceIte, Nat.reduceEqDiff, Nat.reduceLeDiff, Nat.reduceAdd, Nat.reduceSub, hlt0, ca, hga', hba, hxa, hr2, q]; with_reducible exact hC); refine gc ?_) | refine gm ?_)
      refine Tick_ev H G' p L' (i + 1) hS.le hS.ask (by omega) (fun o ho => ?_) _ fun G2 again late z hO2 hle2 hk2 hA2 hag hla hs hperm hfr => ?_
      · obtain ⟨s', r, a, b, _⟩ := hF.rng o ho
        have := ht o ho
        rw [a]
        exact ⟨by omega, Int.ofNat_le.2 (Nat.zero_le _), Int.ofNat_le.2 (by omega)⟩
      have hS2 := hS.step hk2 hO2 hle2 hA2
      have hF2 := hF.tick
      have hgood : ∀ g ∈ againP L' L', ∃ s' : Nat, g.slot = .ofNat s' ∧ s' ≤ 2 ∧ (∀ o ∈ L'.map inc, o.f.slot = g.slot → g.floor ≤ o.f.rid) ∧ g.floor ≤ ((i + 1 : Nat) : Int) := fun g hg => by
        unfold againP at hg
        obtain ⟨o, ho, rfl⟩ := List.mem_map.1 hg
        obtain ⟨o', ho', rfl⟩ := List.mem_map.1 (List.mem_filter.1 ho).1
        obtain ⟨s', r, a, b, c, _, e, _⟩ := hF.rng o' ho'
        refine ⟨s', a, b, fun x hx hxs => ?_, ?_⟩
        · obtain ⟨x', hx', rfl⟩ := List.mem_map.1 hx
          have := floor_le hF.ris hx' o'.f.rid
          rw [show x'.f.slot = o'.f.slot from hxs] at this
          exact this
        · refine Int.le_trans (floor_le_rid L' o'.f.slot o'.f.rid) ?_
          rw [c]
          exact Int.ofNat_le.2 e
      have hnf : ∀ o l z, again ≠ .sl fb o l z := (hfr fb _ hS.fg).1
      have hlenfs : (againP L' L').length ≤ 1000 := by
        unfold againP
        rw [List.length_map]
        refine Nat.le_trans (List.length_filter_le _ _) ?_
        rw [List.length_map]
        omega
      generalize againP L' L' = fs at hag hgood hlenfs
      obtain ⟨hal, hasc, _⟩ := Sl.lensG (g := Fr.cells) (fun _ => rfl) hag.sl (by decide)
      repeat (first | ((first | apply Xk.sAny | apply Xk.tAny); (case hok => rfl); (case h => intro C hC; simp (disch := omega) only [w1, ↓reduceIte, Nat.reduceEqDiff, Nat.reduceLeDiff, Nat.reduceAdd, Nat.reduceSub]; with_reducible exact hC); refine gc ?_) | refine gm ?_)
      refine Xk.iter [0, 1, 2, 7, 8, 9, 10, 11, 12, 21, 23] (fun m k G => ∃ j fl2, m = fs.length - j ∧ j ≤ fs.length ∧ OS H G p fb (L'.map inc) (i + 1) v' (L'.map Rq.f) fl2 ∧ Fen fl2 (L'.map inc) (i + 1) ∧ RV H G 0 9 again (frs fs) ∧
          k = [(0, .sl bs os ls.length 1), (1, va), (2, .sl ba oa lt.length 1), (7, .ptr p 0), (8, .ptr fb 0), (9, v'), (10, .int .i64 (.ofNat (i + 1))), (11, .fn 11 [.ptr fb 0]), (12, .int .i64 (.ofNat i)), (21, again), (23, .int .i64 (.ofNat j))]) rfl
        ⟨_, 0, fl1, rfl, Nat.zero_le _, hS2, hF2, hag, rfl⟩ ?_
      rintro m k G3 ⟨j, fl2, rfl, hj, hS3, hF3, hag3, rfl⟩
      unfold l0_depotlaw19_AskOnce
      by_cases cj : j < fs.length
      · obtain ⟨bo, oo, clo, wo, evo, hgo, hrowo⟩ := Sl.rowG (g := Fr.cells) (fun _ => rfl) noFr hag3.sl (by omega) (by decide)
        obtain ⟨co, resto, cro⟩ := hrowo j cj
        obtain ⟨_, _, d9⟩ := frs_at _ cj clo oo cro
        obtain ⟨s', g1, g2, g3, g4⟩ := hgood (fs.getD j noFr) (by rw [List.getD_eq_getElem?_getD, List.getElem?_eq_getElem cj]; exact List.getElem_mem cj)
        generalize fs.getD j noFr = g at d9 g1 g3 g4
        have d9' := d9
        simp only [Fr.cells] at d9'
        subst evo
        repeat (first | ((first | apply Xk.sAny | apply Xk.tAny); (case hok => rfl); (case h => intro C hC; simp (disch := omega) only [w1, ↓reduceIte, Nat.reduceEqDiff, Nat.reduceLeDiff, Nat.reduceAdd, Nat.reduceSub, cj, hal, hgo, co, d9']; with_reducible exact hC); refine gc ?_) | refine gm ?_)
        refine See_ev g s' g1 (by omega) fl2 hF3.len fb G3 hS3.fg _ fun G4 hO4 hg4 old4 _ => ?_
        repeat (first | ((first | apply Xk.sAny | apply Xk.tAny); (case hok => rfl); (case h => intro C hC; simp (disch := omega) only [w1, ↓reduceIte, Nat.reduceEqDiff, Nat.reduceLeDiff, Nat.reduceAdd, Nat.reduceSub, cj]; with_reducible exact hC); refine gc ?_) | refine gm ?_)
        exact ⟨rfl, _, by omega, j + 1, seeL fl2 g, rfl, by omega, hS3.seen hO4 hg4 old4, hF3.see g g1 g3 g4, hag3.keep fun c o l z x hv hgc => old4 c x hgc (fun e => by subst e; exact hnf _ _ _ hv), rfl⟩
      repeat (first | ((first | apply Xk.sAny | apply Xk.tAny); (case hok => rfl); (case h => intro C hC; simp (disch := omega) only [w1, ↓reduceIte, Nat.reduceEqDiff, Nat.reduceLeDiff, Nat.reduceAdd, Nat.reduceSub, cj, hal]; with_reducible exact hC); refine gc ?_) | refine gm ?_)
      have hmm : (L'.map inc).map Rq.f = L'.map Rq.f := by rw [List.map_map]; rfl
      refine ⟨rfl, L'.map inc, fl2, rfl, by rw [hmm]; exact hS3, hF3, fun o ho => ?_⟩
      obtain ⟨o', ho', rfl⟩ := List.mem_map.1 ho
      exact Nat.succ_le_succ (ht o' ho')
    · clear hS hF ht hcnt hlt0
      rintro k' G2 ⟨L2, fl2, rfl, hS, hF, ht⟩
      obtain ⟨h9, _, _⟩ := Sl.lensG (g := Fr.cells) (fun _ => rfl) hS.rv.sl (by decide)
      rw [List.length_map] at h9
      have hcnt := hF.cnt
      repeat (first | ((first | apply Xk.sAny | apply Xk.tAny); (case hok => rfl); (case h => intro C hC; simp (disch := omega) only [w1, ↓reduceIte, Nat.reduceEqDiff, Nat.reduceLeDiff, Nat.reduceAdd, Nat.reduceSub]; with_reducible exact hC); refine gc ?_) | refine gm ?_)
      refine Xk.iter [0, 1, 2, 7, 8, 9, 10, 11, 12, 24] (fun m k G => ∃ j, m = L2.length - j ∧ j ≤ L2.length ∧ G = G2 ∧
          k = [(0, .sl bs os ls.length 1), (1, va), (2, vt), (7, .ptr p 0), (8, .ptr fb 0), (9, v'), (10, .int .i64 (.ofNat (i + 1))), (11, .fn 11 [.ptr fb 0]), (12, .int .i64 (.ofNat i)), (24, .int .i64 (.ofNat j))]) rfl
        ⟨_, 0, rfl, Nat.zero_le _, rfl, rfl⟩ ?_
      rintro m k G3 ⟨j, rfl, hj, rfl, rfl⟩
      unfold l1_depotlaw19_AskOnce
      by_cases cj : j < L2.length
      · have cjm : j < (L2.map Rq.f).length := by rw [List.length_map]; exact cj
        obtain ⟨bo, oo, clo, wo, evo, hgo, hrowo⟩ := Sl.rowG (g := Fr.cells) (fun _ => rfl) noFr hS.rv.sl (by omega) (by decide)
        obtain ⟨co, resto, cro⟩ := hrowo j cjm
        obtain ⟨d3, d1, _⟩ := frs_at _ cjm clo oo cro
        have hgk : (L2.map Rq.f).getD j noFr = (L2.getD j noRq).f := by
          rw [List.getD_eq_getElem?_getD, List.getD_eq_getElem?_getD, List.getElem?_map, List.getElem?_eq_getElem cj]
          rfl
        rw [hgk] at d3 d1
        have hmem : L2.getD j noRq ∈ L2 := by
          rw [List.getD_eq_getElem?_getD, List.getElem?_eq_getElem cj]
          exact List.getElem_mem cj
        obtain ⟨s', r, q1, q2, q3, _⟩ := hF.rng _ hmem
        have hfen := hF.fen _ hmem
        rw [q1, q3] at hfen
        rw [q3] at d3
        rw [q1] at d1
        have hlt : s' < fl2.length := by rw [hF.len]; omega
        have k1 : ((ints fl2).drop s').take 1 = [.int .i64 (fl2.getD s' 0)] := by
          have hd : fl2.drop s' = fl2.getD s' 0 :: fl2.drop (s' + 1) := by
            rw [List.drop_eq_getElem_cons hlt, List.getD_eq_getElem?_getD, List.getElem?_eq_getElem hlt]
            rfl
          unfold ints
          rw [← List.map_drop, hd]
          rfl
        have k2 : s' + 1 ≤ (ints fl2).length := by rw [ints_len]; omega
        have k3 : s' < 12 := by omega
        have k4 : ¬ (.ofNat r : Int) < fl2.getD s' 0 := Int.not_lt.2 hfen
        have c3 : oo + j * 9 + 3 + 1 ≤ clo.length := by omega
        have c1' : oo + j * 9 + 1 + 1 ≤ clo.length := by omega
        have hfg := hS.fg
        subst evo
        rw [List.length_map] at h9 ⊢
        generalize fl2.getD s' 0 = fv at k1 k4
        repeat (first | ((first | apply Xk.sAny | apply Xk.tAny); (case hok => rfl); (case h => intro C hC; simp (disch := omega) only [w1, ↓reduceIte, Nat.reduceEqDiff, Nat.reduceLeDiff, Nat.reduceAdd, Nat.reduceSub, cj, h9, hgo, d3, d1, c3, c1', hfg, k1, k2, k3, k4, rIaarr]; with_reducible exact hC); refine gc ?_) | refine gm ?_)
        exact ⟨rfl, _, by omega, j + 1, rfl, by omega, rfl, rfl⟩
      repeat (first | ((first | apply Xk.sAny | apply Xk.tAny); (case hok => rfl); (case h => intro C hC; simp (disch := omega) only [w1, ↓reduceIte, Nat.reduceEqDiff, Nat.reduceLeDiff, Nat.reduceAdd, Nat.reduceSub, cj, h9]; with_reducible exact hC); refine gc ?_) | refine gm ?_)
      exact ⟨rfl, _, by omega, i + 1, L2, v', fl2, rfl, by omega, hS, hF, ht, rfl⟩
end Go.Proofs.Ytcpcajfmkmgjeaa
