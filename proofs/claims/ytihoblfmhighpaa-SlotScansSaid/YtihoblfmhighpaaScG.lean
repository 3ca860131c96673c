/- Layer 17: the law SlotScans, over the clean machine. Conditions: none. -/
import Derived.Test.YtihoblfmhighpaaScC
import Derived.Test.YtihoblfmhighpaaVrP
namespace Go.Proofs.Ytihoblfmhighpaa
open Go.Dp
set_option linter.unusedSimpArgs false
set_option linter.unusedVariables false
set_option maxHeartbeats 400000
set_option maxRecDepth 8000
attribute [local irreducible] Ex.thnK Ex.inK Ret

theorem SRuns_ev (H : Heap) (Q : AV → Heap → Prop) (hQ : Q (.bool true) H) : Eo lib n_depotlaw17_SlotRuns [] H Q := Eo.runs rfl hQ
abbrev OL : Tg → Prop := fun u => u.1 ≠ 1
theorem ol7 {u : Tg} (h : O7 10 u) : OL u := by have := h.1; show u.1 ≠ 1; omega
theorem ol0 {u : Tg} (h : u.1 = 0) : OL u := by show u.1 ≠ 1; omega
theorem n70 {a b : Nat} : ¬ O7 10 ((0 : Nat), a, b) := by rintro ⟨h, _⟩; dsimp only at h; omega
theorem nK0 {a b : Nat} {t : Tg} (h : Ok4 10 t) : ¬ t = ((0 : Nat), a, b) := by rintro rfl; have := h.1; dsimp only at this; omega
theorem hle_stp {H H' : Heap} {T' : Tags} (s : Stp OL (fun _ => ((1, 0, 0) : Tg)) H T' H') : HLe H H' := fun b y hb => s.kp b y hb (fun h => h rfl)
theorem fit8 {c n : Nat} (hc : c < 100) (hn : n ≤ 64) : Fit 8192 1 c (szs 8192 64) n := by
  have e : szs 8192 64 = 64 :: szs 8192 128 := by rw [szs, dif_pos (by decide)]
  refine ⟨0, by decide, ?_, ?_⟩
  · rw [e]
    show (if n ≤ 64 then some 0 else _) = _
    rw [if_pos hn]
  · rw [e]
    show c < 8192 / 64
    omega
def scF (rid : Int) (key : List UInt8) : Fr := ⟨.ofNat 4, .ofNat 1, .ofNat 3, rid, .ofNat 0, .ofNat 0, key, .ofNat 0, []⟩
theorem scF_lr {rid : Int} {key : List UInt8} (h1 : 0 ≤ rid) (h2 : rid ≤ 1000000) (h5 : key.length ≤ 250) : LR (scF rid key) := by
  refine ⟨?_, rfl, rfl, rfl, h1, Int.le_refl _, (show (Int.ofNat 0) ≤ 1000000 from by decide), h5, Nat.zero_le _⟩
  have i1 : ∀ n : Nat, 1000000 ≤ n → inB rid n = true := fun n hn => by
    unfold inB
    rw [decide_eq_true (show Int.ofNat 0 ≤ rid from h1), decide_eq_true (show rid ≤ Int.ofNat n by have : Int.ofNat n = (n : Int) := rfl; omega)]
    rfl
  unfold rightB scF
  dsimp only
  rw [i1 _ (by decide), decide_eq_true (show key.length ≤ 250 from h5)]
  rfl

theorem stl_at {H : Heap} {v : AV} {l : List (List UInt8)} (h : Sl H 1 v (strs l)) {i : Nat} (hi : i < l.length) :
    ∃ b o cl w, v = .sl b o l.length 1 ∧ H.get b = some (.cells cl w) ∧ o + i + 1 ≤ cl.length ∧ (cl.drop (o + i)).take 1 = [.str (gz l i)] := by
  rcases h with ⟨rfl, h⟩ | ⟨b, o, len, cl, w, rest, rfl, h2, h3, h4, h5⟩
  · have : l.length = 0 := by rw [← strs_len, h]; rfl
    omega
  · rw [strs_len, Nat.mul_one] at h2
    subst h2
    have hl : cl.length - o = l.length + rest.length := by rw [← List.length_drop, h5, List.length_append, strs_len]
    refine ⟨b, o, cl, w, rfl, h3, by omega, ?_⟩
    rw [← List.drop_drop, h5]
    exact strs_at hi rest
theorem stl_len {H : Heap} {v : AV} {l : List (List UInt8)} (h : Sl H 1 v (strs l)) : rLensl v = some (.int .i64 (.ofNat l.length)) := by
  rcases h with ⟨rfl, h⟩ | ⟨b, o, len, cl, w, rest, rfl, h2, _⟩
  · have : l.length = 0 := by rw [← strs_len, h]; rfl
    rw [this]; rfl
  · rw [strs_len, Nat.mul_one] at h2
    rw [h2]; rfl
theorem rt_lens {T : Tags} {H : Heap} {t : Tg} {v : AV} {z : List (List UInt8)} (h : RT T H t 0 1 v (strs z)) : rLensl v = some (.int .i64 (.ofNat z.length)) := by
  have := h.lens (by decide)
  rwa [strs_len, Nat.div_one] at this

theorem SameS_ev (T : Tags) (H : Heap) (t u : Tg) (v w : AV) (z : List (List UInt8)) (hv : RT T H t 0 1 v (strs z)) (hw : RT T H u 0 1 w (strs z)) (hz : z.length ≤ 1000000) (Q : AV → Heap → Prop) (hQ : Q (.bool true) H) : Eo lib n_depotbook_Same_string [v, w] H Q := by
  refine Eo.ok fun hOk => ?_
  refine Eo.code at_depotbook_Same_string rfl ?_
  have l1 := rt_lens hv
  have l2 := rt_lens hw
  have nbt : (!true) = false := rfl
  iterate 2 repeat (first | ((first | apply Xk.sAny | apply Xk.tAny); (case hok => rfl); (case h => intro C hC; simp (disch := omega) only [w1, ↓reduceIte, Nat.reduceEqDiff, Nat.reduceLeDiff, Nat.reduceAdd, Nat.reduceSub, l1, l2, nbt]; with_reducible exact hC); refine gc ?_) | refine gm ?_)
  refine Xk.iter [0, 1, 5] (fun m k G => ∃ i, m = z.length - i ∧ i ≤ z.length ∧ G = H ∧ k = [(0, v), (1, w), (5, .int .i64 (.ofNat i))]) rfl ⟨_, 0, rfl, Nat.zero_le _, rfl, rfl⟩ ?_
  rintro m k G ⟨i, rfl, hi, rfl, rfl⟩
  unfold l0_depotbook_Same_string
  by_cases c : i < z.length
  · obtain ⟨b1, c1, rfl, g1, _, _, a1⟩ := rt_txt hv (by omega)
    obtain ⟨b2, c2, rfl, g2, _, _, a2⟩ := rt_txt hw (by omega)
    obtain ⟨p1, q1⟩ := a1 i c
    obtain ⟨p2, q2⟩ := a2 i c
    iterate 2 repeat (first | ((first | apply Xk.sAny | apply Xk.tAny); (case hok => rfl); (case h => intro C hC; simp (disch := omega) only [w1, ↓reduceIte, Nat.reduceEqDiff, Nat.reduceLeDiff, Nat.reduceAdd, Nat.reduceSub, c, g1, g2, p1, p2, q1, q2, nbt]; with_reducible exact hC); refine gc ?_) | refine gm ?_)
    exact ⟨rfl, _, by omega, i + 1, rfl, by omega, rfl, rfl⟩
  · repeat (first | ((first | apply Xk.sAny | apply Xk.tAny); (case hok => rfl); (case h => intro C hC; simp (disch := omega) only [w1, ↓reduceIte, Nat.reduceEqDiff, Nat.reduceLeDiff, Nat.reduceAdd, Nat.reduceSub, c, l1]; with_reducible exact hC); refine gc ?_) | refine gm ?_)
    repeat (first | ((first | apply Xk.sAny | apply Xk.tAny); (case hok => rfl); (case h => intro C hC; simp (disch := omega) only [w1, ↓reduceIte, Nat.reduceEqDiff, Nat.reduceLeDiff, Nat.reduceAdd, Nat.reduceSub, c, l1]; with_reducible exact hC); refine gc ?_) | refine gm ?_)
    exact hQ

structure Wn (M : Mp) (want : List (List UInt8)) : Prop where
  ss : SS want
  nm : Names M want
  ne : ∀ x ∈ want, x ≠ [] ∧ x.length ≤ 40
  v1 : ∀ k v d, M k = some (v, d) → v = .ofNat 1
theorem Wn.start : Wn (fun _ => none) [] := ⟨List.Pairwise.nil, fun k => ⟨fun h => absurd rfl h, fun ⟨x, h, _⟩ => absurd h List.not_mem_nil⟩, fun x h => absurd h List.not_mem_nil, fun k v d h => nomatch h⟩
theorem putW {M : Mp} {want : List (List UInt8)} (h : Wn M want) (rid : Int) (k : List UInt8) : putR M (reqF 1 rid 1 k (.ofNat 1) []) = (M.set (109 :: k) (some (.ofNat 1, [])), ansL (reqF 1 rid 1 k (.ofNat 1) []) (.ofNat 1) []) := by
  have hn : nameB (reqF 1 rid 1 k (.ofNat 1) []) = 109 :: k := rfl
  unfold putR
  rw [hn]
  cases e : M (109 :: k) with
  | none => rfl
  | some x =>
    obtain ⟨v, d⟩ := x
    have := h.v1 _ _ _ e
    subst this
    rfl
theorem Wn.put {M : Mp} {want want' : List (List UInt8)} (h : Wn M want) {k : List UInt8} (hk : k ≠ [] ∧ k.length ≤ 40) (hs : SS want') (hm : ∀ x, x ∈ want' ↔ x = k ∨ x ∈ want) : Wn (M.set (109 :: k) (some (.ofNat 1, []))) want' := by
  refine ⟨hs, fun j => ?_, fun x hx => ?_, fun j v d hj => ?_⟩
  · unfold Mp.set
    by_cases e : 109 :: k = j
    · rw [if_pos e]
      exact ⟨fun _ => ⟨k, (hm k).2 (.inl rfl), e.symm⟩, fun _ => by simp⟩
    · rw [if_neg e, h.nm j]
      constructor
      · rintro ⟨x, hx, rfl⟩; exact ⟨x, (hm x).2 (.inr hx), rfl⟩
      · rintro ⟨x, hx, rfl⟩
        rcases (hm x).1 hx with rfl | hx
        · exact absurd rfl e
        · exact ⟨x, hx, rfl⟩
  · rcases (hm x).1 hx with rfl | hx
    · exact hk
    · exact h.ne x hx
  · unfold Mp.set at hj
    split at hj
    · cases hj; rfl
    · exact h.v1 _ _ _ hj

theorem txB_ne (k : List UInt8) : txB k ≠ [] := by
  unfold txB
  intro h
  have h1 := (List.append_eq_nil_iff.1 h).1
  have : ∀ u, vi u ≠ [] := fun u => by
    rw [vi]
    split <;> simp
  exact this _ h1
theorem txsB_nil {l : List (List UInt8)} : txsB l = [] ↔ l = [] := by
  cases l with
  | nil => exact ⟨fun _ => rfl, fun _ => rfl⟩
  | cons a l =>
    refine ⟨fun h => ?_, fun h => by cases h⟩
    have : txB a ++ txsB l = [] := h
    exact absurd (List.append_eq_nil_iff.1 this).1 (txB_ne a)
theorem txsB_len {l : List (List UInt8)} (h : ∀ k ∈ l, k.length ≤ 40) : (txsB l).length ≤ l.length * 50 := by
  induction l with
  | nil => exact Nat.le_refl _
  | cons a l ih =>
    have h1 := ih fun k hk => h k (List.mem_cons_of_mem _ hk)
    have h2 := h a (List.mem_cons_self ..)
    have h3 : (txB a).length ≤ 10 + a.length := by
      unfold txB
      rw [List.length_append]
      have := vi_len10 (u := zig ((a.length : Nat) : Int)) (zig_lt (by omega) (by omega))
      omega
    show (txB a ++ txsB l).length ≤ _
    rw [List.length_append, List.length_cons]
    omega
theorem take_split {l : List (List UInt8)} {j : Nat} (h : j < l.length) : l = l.take j ++ gz l j :: l.drop (j + 1) := by
  unfold gz
  rw [List.getD_eq_getElem?_getD, List.getElem?_eq_getElem h]
  show l = l.take j ++ l[j] :: l.drop (j + 1)
  rw [← List.drop_eq_getElem_cons h, List.take_append_drop]

theorem ins_app {T : Tags} {H : Heap} (hO : H.Ok) {q i : Nat} {v : AV} {kk : List UInt8} {z : List (List UInt8)} (hr : RT T H (0, 1, q) 0 1 v (strs z)) (hz : z.length ≤ 1000) (hi : i ≤ z.length) (x y : AV)
    (hx : ∀ H', (∀ b o l s w, v = .sl b o l s → H.get b = some w → H'.get b = some w) → srcCells H' 1 x = some (i, strs (z.take i))) (hy : ∀ H', (∀ b o l s w, v = .sl b o l s → H.get b = some w → H'.get b = some w) → srcCells H' 1 y = some (z.length - i, strs (z.drop i))) :
    ∃ v1 H1 v2 H2 v3 H3 T3, evalApp 0 1 16 ((H.new (.cells [] 1)).new (.cells [.str kk] 1)) (.sl H.next 0 0 1) x = some (v1, H1) ∧ evalApp 0 1 16 H1 v1 (.sl (H.next + 1) 0 1 1) = some (v2, H2) ∧ evalApp 0 1 16 H2 v2 y = some (v3, H3) ∧
      Stp (fun u => u = (0, 1, q + 1)) T H T3 H3 ∧ RT T3 H3 (0, 1, q + 1) 0 1 v3 (strs (z.take i ++ kk :: z.drop i)) ∧ (∀ b o l s w, v = .sl b o l s → H.get b = some w → H1.get b = some w ∧ H2.get b = some w) := by
  obtain ⟨T1, s1, a1⟩ := new1 (T := T) hO (0, 1, q + 1) (.cells [] 1)
  obtain ⟨T2, s2, a2⟩ := new1 (T := T1) s1.ok (0, 5, 0) (.cells [.str kk] 1)
  have r0 : RT T2 ((H.new (.cells [] 1)).new (.cells [.str kk] 1)) (0, 1, q + 1) 0 1 (.sl H.next 0 0 1) (strs []) := by
    have a1' := a1.step s2 (fun h => h)
    exact .inr ⟨H.next, 0, [], rfl, rfl, a1'.1, Nat.zero_le _, rfl, a1'.2⟩
  have st12 : Stp (fun u => u = (0, 1, q + 1)) T H T2 ((H.new (.cells [] 1)).new (.cells [.str kk] 1)) := (s1.trans s2).mono fun _ h => h.elim
  have hkeep : ∀ {T' : Tags} {H' : Heap}, Stp (fun u => u = (0, 1, q + 1)) T H T' H' → ∀ b o l s w, v = .sl b o l s → H.get b = some w → H'.get b = some w := fun st b o l s w e hb => by
    refine st.kp b w hb ?_
    rcases hr with ⟨rfl, _⟩ | ⟨c, len, cl, rfl, _, _, _, _, ht⟩
    · cases e
    · injection e with e _ _ _
      subst e
      rw [ht]
      exact tgn (.inr (by omega))
  have lt : (strs (z.take i)).length = i := by rw [strs_len, List.length_take]; omega
  have ld : (strs (z.drop i)).length = z.length - i := by rw [strs_len, List.length_drop]
  obtain ⟨v1, H1, T1', e1, f1, r1⟩ := RT.app (bytes := 16) s2.ok r0 (hx ((H.new (.cells [] 1)).new (.cells [.str kk] 1)) (hkeep st12)) (by rw [lt, Nat.mul_one]) (by decide) (by show (0 / 1 + i) * 16 ≤ _; omega) (by show 0 / 1 + i ≤ _; omega)
  have st1 := st12.trans f1
  have a2' := a2.step f1 (tgn (.inl (by decide)))
  have hsrc : srcCells H1 1 (.sl (H.next + 1) 0 1 1) = some (1, [.str kk]) := by
    have hg : H1.get (H.next + 1) = some (.cells [.str kk] 1) := a2'.1
    show (bif Nat.beq 1 1 then (match H1.ld (H.next + 1) 0 (1 * 1) with
    | some cs => bif cs.all AV.isSc then some (1, cs) else none
    | none => none) else none) = _
    rw [Heap.ld_of hg (show 0 + 1 * 1 ≤ 1 from Nat.le_refl 1)]
    rfl
  rw [show strs [] ++ strs (z.take i) = strs (z.take i) from rfl] at r1
  obtain ⟨v2, H2, T2', e2, f2, r2⟩ := RT.app (bytes := 16) f1.ok r1 hsrc rfl (by decide) (by rw [lt]; omega) (by rw [lt]; omega)
  have st2 := st1.trans f2
  obtain ⟨v3, H3, T3, e3, f3, r3⟩ := RT.app (bytes := 16) f2.ok r2 (hy _ (hkeep st2)) (by rw [ld, Nat.mul_one]) (by decide) (by rw [List.length_append, lt]; show ((i + 1) / 1 + _) * 16 ≤ _; omega) (by rw [List.length_append, lt]; show (i + 1) / 1 + _ ≤ _; omega)
  refine ⟨v1, H1, v2, H2, v3, H3, T3, e1, e2, e3, st2.trans f3, ?_, fun b o l s w e hb => ⟨hkeep st1 b o l s w e hb, hkeep st2 b o l s w e hb⟩⟩
  have e : strs (z.take i ++ kk :: z.drop i) = strs (z.take i) ++ [.str kk] ++ strs (z.drop i) := by rw [strs_app, List.append_assoc]; rfl
  rw [e]
  exact r3
theorem strs_src {H : Heap} {c o n : Nat} {cl rest : List AV} {z : List (List UInt8)} (hg : H.get c = some (.cells cl 1)) (hc : cl.drop o = strs z ++ rest) (hn : n = z.length) (ho : o ≤ cl.length) : srcCells H 1 (.sl c o n 1) = some (n, strs z) := by
  subst hn
  have hl : cl.length - o = z.length + rest.length := by rw [← List.length_drop, hc, List.length_append, strs_len]
  show (bif Nat.beq 1 1 then (match H.ld c o (z.length * 1) with
    | some cs => bif cs.all AV.isSc then some (z.length, cs) else none
    | none => none) else none) = _
  rw [Nat.mul_one, Heap.ld_of hg (by omega), hc, List.take_left' (strs_len z)]
  have : (strs z).all AV.isSc = true := by
    rw [List.all_eq_true]
    intro x hx
    obtain ⟨y, _, rfl⟩ := List.mem_map.1 hx
    rfl
  simp only [this, nbeq, decide_true, cond_true]
end Go.Proofs.Ytihoblfmhighpaa
namespace Go.Proofs.Ytihoblfmhighpaa
open Go.Dp
set_option linter.unusedSimpArgs false
set_option linter.unusedVariables false
set_option maxHeartbeats 400000
set_option maxRecDepth 8000
attribute [local irreducible] Ex.thnK Ex.inK Ret

structure KJ (H : Heap) (p r q : Nat) (want : List (List UInt8)) (wv : AV) (M : Mp) (done : List Dd) (T' : Tags) (H' : Heap) : Prop where
  wr : want.length ≤ r
  rt : RT T' H' (0, 1, q) 0 1 wv (strs want)
  wn : Wn M want
  ls : LS 10 T' H' p 8192 16 1 r (szs 8192 64) M done
  rid : ∀ d ∈ done, d.rid ≤ ((1 + r : Nat) : Int)
  dl : done.length = r
  st : Stp OL (fun _ => ((1, 0, 0) : Tg)) H T' H'

theorem keys_loop (ks : List (List UInt8)) (va : AV) (H : Heap) (hv : Sl H 1 va (strs ks)) (p : Nat) (M0 : Mp) (T1 : Tags) (H1 : Heap) (h0 : KJ H p 0 0 [] .nils M0 [] T1 H1) (Q : Ex → Kn → Heap → Prop)
    (hexit : ∀ k' G r q want wv M done T', [3, 5, 6].all (has k'.keys) = true → k'.only [3, 5, 6] = [(3, .ptr p 0), (5, wv), (6, .int .i64 (.ofNat (1 + r)))] → r ≤ 40 → KJ H p r q want wv M done T' G → Q (.exit 0) k' G) :
    Xk lib 155 (.loop l1_depotlaw17_SlotScans) [(0, va), (3, .ptr p 0), (5, .nils), (6, .int .i64 (.ofNat 1)), (7, .int .i64 (.ofNat 0))] H1 Q := by
  refine Xk.iter [0, 3, 5, 6, 7] (fun m k H' => ∃ i r q want wv M done T', m = 40 - i ∧ i ≤ 40 ∧ r ≤ i ∧ k = [(0, va), (3, .ptr p 0), (5, wv), (6, .int .i64 (.ofNat (1 + r))), (7, .int .i64 (.ofNat i))] ∧ KJ H p r q want wv M done T' H') rfl
    ⟨_, 0, 0, 0, [], .nils, M0, [], T1, rfl, Nat.zero_le _, Nat.le_refl _, rfl, h0⟩ ?_
  clear h0
  rintro m k H' ⟨i, r, q, want, wv, M, done, T1, rfl, hi, hri, rfl, J⟩
  have hv4 := hv.mono (hle_stp J.st)
  have k1 := stl_len hv4
  unfold l1_depotlaw17_SlotScans
  by_cases c : i < ks.length ∧ i < 40
  · obtain ⟨c1, c2⟩ := c
    obtain ⟨b, o, cl, w, rfl, hgb, e1, e2⟩ := stl_at hv4 c1
    generalize gz ks i = kk at e2
    iterate 2 repeat (first | ((first | apply Xk.sAny | apply Xk.tAny); (case hok => rfl); (case h => intro C hC; simp (disch := omega) only [w1, ↓reduceIte, Nat.reduceEqDiff, Nat.reduceLeDiff, Nat.reduceAdd, Nat.reduceSub, k1, c1, c2, hgb, e1, e2]; with_reducible exact hC); refine gc ?_) | refine gm ?_)
    by_cases d1 : kk = []
    · repeat (first | ((first | apply Xk.sAny | apply Xk.tAny); (case hok => rfl); (case h => intro C hC; simp (disch := omega) only [w1, ↓reduceIte, Nat.reduceEqDiff, Nat.reduceLeDiff, Nat.reduceAdd, Nat.reduceSub, d1, eq_self]; with_reducible exact hC); refine gc ?_) | refine gm ?_)
      exact ⟨rfl, _, by omega, i + 1, r, q, want, wv, M, done, T1, rfl, by omega, by omega, rfl, J⟩
    by_cases d2 : 40 < kk.length
    · repeat (first | ((first | apply Xk.sAny | apply Xk.tAny); (case hok => rfl); (case h => intro C hC; simp (disch := omega) only [w1, ↓reduceIte, Nat.reduceEqDiff, Nat.reduceLeDiff, Nat.reduceAdd, Nat.reduceSub, d1, d2]; with_reducible exact hC); refine gc ?_) | refine gm ?_)
      exact ⟨rfl, _, by omega, i + 1, r, q, want, wv, M, done, T1, rfl, by omega, by omega, rfl, J⟩
    repeat (first | ((first | apply Xk.sAny | apply Xk.tAny); (case hok => rfl); (case h => intro C hC; simp (disch := omega) only [w1, ↓reduceIte, Nat.reduceEqDiff, Nat.reduceLeDiff, Nat.reduceAdd, Nat.reduceSub, d1, d2]; with_reducible exact hC); refine gc ?_) | refine gm ?_)
    refine ask_ev 1 (.ofNat (1 + r + 1)) kk [] (.ofNat 1) H' _ fun H2 hO2 hle2 => ?_
    rw [askF_req _ _ _ _ (by decide)]
    have s2 : Stp (fun _ => False) T1 H' T1 H2 := Stp.le hO2 hle2
    have L2 := J.ls.step s2 (fun _ _ h => h)
    have r2 := J.rt.step s2 (fun h => h)
    have st2 := J.st.trans (s2.mono fun _ h => h.elim)
    have hf : LR (reqF 1 (.ofNat (1 + r + 1)) 1 kk (.ofNat 1) []) := reqF_lr (.inl rfl) (.inl rfl) (Int.natCast_nonneg _) (by show ((1 + r + 1 : Nat) : Int) ≤ _; omega) (by decide) (by decide) (by omega) (by decide)
    have hM : (M.set (109 :: kk) (some (.ofNat 1, []))).Ok := by
      obtain ⟨_, S⟩ := L2
      have := putR_ok S.mo hf
      rw [putW J.wn] at this
      exact this
    repeat (first | ((first | apply Xk.sAny | apply Xk.tAny); (case hok => rfl); (case h => intro C hC; simp (disch := omega) only [w1, ↓reduceIte, Nat.reduceEqDiff, Nat.reduceLeDiff, Nat.reduceAdd, Nat.reduceSub]; with_reducible exact hC); refine gc ?_) | refine gm ?_)
    refine tReq_ev 10 T1 H2 p L2 (by have := J.dl; omega) (reqF 1 (.ofNat (1 + r + 1)) 1 kk (.ofNat 1) []) hf (by show Int.ofNat 1 < Int.ofNat 6; decide) (by show Int.ofNat 1 ≠ Int.ofNat 5; decide) (M.set (109 :: kk) (some (.ofNat 1, [])), ansL (reqF 1 (.ofNat (1 + r + 1)) 1 kk (.ofNat 1) []) (.ofNat 1) []) hM
      (fun s S => by
        rw [← putW J.wn]
        refine putIs S (by omega) hf rfl (by decide) (fit8 (by omega) ?_)
        show (109 :: kk).length + (verB (.ofNat 1) []).length ≤ 64
        have := verB_len (.ofNat 1) [] (by decide) (by decide)
        rw [List.length_nil] at this
        rw [List.length_cons]
        omega) _ (fun d pre post e _ h2 => ?_) (fun _ T3 H3 s3 L3 => ?_)
    · have h3 := J.rid d (by rw [e]; exact List.mem_append_right _ (List.mem_cons_self ..))
      rw [h2] at h3
      have h4 : ((1 + r + 1 : Nat) : Int) ≤ ((1 + r : Nat) : Int) := h3
      omega
    have r3 := r2.step s3 n70
    have st3 := st2.trans (s3.mono fun u h => ol7 h)
    show Xk lib _ _ (kput _ _ (.tup [.agg [.int .i64 (.ofNat 6), .int .i64 (.ofNat 1), .int .i64 (.ofNat 3), .int .i64 (.ofNat (1 + r + 1)), .int .i64 (.ofNat 0), .int .i64 (.ofNat 1), .str kk, .int .i64 (.ofNat 1), .str []], .bool true])) H3 _
    obtain ⟨T4, s4, a4⟩ := new1 (T := T3) s3.ok (0, 2, 0) (.cells [.int .i64 (.ofNat 6), .int .i64 (.ofNat 1), .int .i64 (.ofNat 3), .int .i64 (.ofNat (1 + r + 1)), .int .i64 (.ofNat 0), .int .i64 (.ofNat 1), .str kk, .int .i64 (.ofNat 1), .str []] 1)
    have g4 := a4.1
    have L4 := L3.step s4 (fun _ _ h => h)
    have r4 := r3.step s4 (fun h => h)
    have st4 := st3.trans (s4.mono (P := OL) fun _ h => h.elim)
    repeat (first | ((first | apply Xk.sAny | apply Xk.tAny); (case hok => rfl); (case h => intro C hC; simp (disch := omega) only [w1, ↓reduceIte, Nat.reduceEqDiff, Nat.reduceLeDiff, Nat.reduceAdd, Nat.reduceSub]; with_reducible exact hC); refine gc ?_) | refine gm ?_)
    iterate 2 repeat (first | ((first | apply Xk.sAny | apply Xk.tAny); (case hok => rfl); (case h => intro C hC; simp (disch := omega) only [w1, ↓reduceIte, Nat.reduceEqDiff, Nat.reduceLeDiff, Nat.reduceAdd, Nat.reduceSub, g4, eq_self]; with_reducible exact hC); refine gc ?_) | refine gm ?_)
    generalize H3.new (.cells [.int .i64 (.ofNat 6), .int .i64 (.ofNat 1), .int .i64 (.ofNat 3), .int .i64 (.ofNat (1 + r + 1)), .int .i64 (.ofNat 0), .int .i64 (.ofNat 1), .str kk, .int .i64 (.ofNat 1), .str []] 1) = H4 at s4 a4 g4 L4 r4 st4 ⊢
    clear s2 L2 r2 st2 s3 L3 r3 st3 g4 a4 s4 hM hf
    have hrid4 : ∀ d ∈ done ++ [(⟨(reqF 1 (.ofNat (1 + r + 1)) 1 kk (.ofNat 1) []).rid, ansL (reqF 1 (.ofNat (1 + r + 1)) 1 kk (.ofNat 1) []) (.ofNat 1) []⟩ : Dd)], d.rid ≤ ((1 + (r + 1) : Nat) : Int) := fun d hd => by
      rcases List.mem_append.1 hd with hd | hd
      · have := J.rid d hd
        omega
      · rw [List.mem_singleton] at hd
        subst hd
        show ((1 + r + 1 : Nat) : Int) ≤ _
        omega
    have hdl4 : (done ++ [(⟨(reqF 1 (.ofNat (1 + r + 1)) 1 kk (.ofNat 1) []).rid, ansL (reqF 1 (.ofNat (1 + r + 1)) 1 kk (.ofNat 1) []) (.ofNat 1) []⟩ : Dd)]).length = r + 1 := by rw [List.length_append, List.length_singleton, J.dl]
    have hk : kk ≠ [] ∧ kk.length ≤ 40 := ⟨d1, by omega⟩
    have lw := rt_lens r4
    have hw40 : want.length ≤ 40 := by have := J.wr; omega
    refine lcut [0, 3, 5, 6, 7, 8, 11] (fun k G => ∃ a, a ≤ want.length ∧ (∀ x ∈ want.take a, bltB x kk = true) ∧ (a < want.length → bltB (gz want a) kk = false) ∧ G = H4 ∧
      k = [(0, .sl b o ks.length 1), (3, .ptr p 0), (5, wv), (6, .int .i64 (.ofNat (1 + r + 1))), (7, .int .i64 (.ofNat i)), (8, .str kk), (11, .int .i64 (.ofNat a))])
      (Xk.iter [0, 3, 5, 6, 7, 8, 11] (fun m k G => ∃ a, m = want.length - a ∧ a ≤ want.length ∧ (∀ x ∈ want.take a, bltB x kk = true) ∧ G = H4 ∧
        k = [(0, .sl b o ks.length 1), (3, .ptr p 0), (5, wv), (6, .int .i64 (.ofNat (1 + r + 1))), (7, .int .i64 (.ofNat i)), (8, .str kk), (11, .int .i64 (.ofNat a))]) rfl ⟨_, 0, rfl, Nat.zero_le _, fun x h => absurd h List.not_mem_nil, rfl, rfl⟩ ?_) ?_
    · rintro m k G ⟨a, rfl, ha, hlt, rfl, rfl⟩
      unfold l0_depotlaw17_SlotScans
      by_cases ca : a < want.length
      case neg =>
        iterate 2 repeat (first | ((first | apply Xk.sAny | apply Xk.tAny); (case hok => rfl); (case h => intro C hC; simp (disch := omega) only [w1, ↓reduceIte, Nat.reduceEqDiff, Nat.reduceLeDiff, Nat.reduceAdd, Nat.reduceSub, lw, ca]; with_reducible exact hC); refine gc ?_) | refine gm ?_)
        exact ⟨rfl, rfl, a, ha, hlt, fun h => absurd h ca, rfl, rfl⟩
      obtain ⟨c5, cl5, rfl, g5, _, _, a5⟩ := rt_txt r4 (by omega)
      obtain ⟨p5, q5⟩ := a5 a ca
      cases hb : bltB (gz want a) kk with
      | false =>
        iterate 2 repeat (first | ((first | apply Xk.sAny | apply Xk.tAny); (case hok => rfl); (case h => intro C hC; simp (disch := omega) only [w1, ↓reduceIte, Nat.reduceEqDiff, Nat.reduceLeDiff, Nat.reduceAdd, Nat.reduceSub, lw, ca, g5, p5, q5, lsss, hb]; with_reducible exact hC); refine gc ?_) | refine gm ?_)
        exact ⟨rfl, rfl, a, ha, hlt, fun _ => hb, rfl, rfl⟩
      | true =>
        iterate 2 repeat (first | ((first | apply Xk.sAny | apply Xk.tAny); (case hok => rfl); (case h => intro C hC; simp (disch := omega) only [w1, ↓reduceIte, Nat.reduceEqDiff, Nat.reduceLeDiff, Nat.reduceAdd, Nat.reduceSub, lw, ca, g5, p5, q5, lsss, hb]; with_reducible exact hC); refine gc ?_) | refine gm ?_)
        refine ⟨rfl, _, by omega, a + 1, rfl, by omega, fun x hx => ?_, rfl, rfl⟩
        have e : want.take (a + 1) = want.take a ++ [gz want a] := by
          unfold gz
          rw [List.take_add_one, List.getD_eq_getElem?_getD, List.getElem?_eq_getElem ca]
          rfl
        rw [e] at hx
        rcases List.mem_append.1 hx with hx | hx
        · exact hlt x hx
        · rw [List.mem_singleton] at hx
          rw [hx]
          exact hb
    · rintro k G ⟨a, ha, hlt, hge, rfl, rfl⟩
      by_cases hsame : a < want.length ∧ gz want a = kk
      · obtain ⟨ca, hsame⟩ := hsame
        have hna : (a = want.length) = False := eq_false (by omega)
        obtain ⟨c5, cl5, rfl, g5, _, _, a5⟩ := rt_txt r4 (by omega)
        obtain ⟨p5, q5⟩ := a5 a ca
        rw [hsame] at q5
        iterate 3 repeat (first | ((first | apply Xk.sAny | apply Xk.tAny); (case hok => rfl); (case h => intro C hC; simp (disch := omega) only [w1, ↓reduceIte, Nat.reduceEqDiff, Nat.reduceLeDiff, Nat.reduceAdd, Nat.reduceSub, lw, hna, ca, g5, p5, q5, eq_self]; with_reducible exact hC); refine gc ?_) | refine gm ?_)
        have hmem : kk ∈ want := by
          rw [← hsame]
          unfold gz
          rw [List.getD_eq_getElem?_getD, List.getElem?_eq_getElem ca]
          exact List.getElem_mem ca
        refine ⟨rfl, _, by omega, i + 1, r + 1, q, want, _, _, _, T4, rfl, by omega, by omega, rfl, ⟨by have := J.wr; omega, r4, J.wn.put hk J.wn.ss (fun x => ⟨fun h => .inr h, fun h => ?_⟩), L4, hrid4, hdl4, st4⟩⟩
        rcases h with rfl | h
        · exact hmem
        · exact h
      · have hss : SS (want.take a ++ kk :: want.drop a) := J.wn.ss.ins ha hlt (by
          by_cases ca : a < want.length
          · exact J.wn.ss.above ca (lt_of_ne (hge ca) fun e => hsame ⟨ca, e.symm⟩)
          · rw [List.drop_eq_nil_of_le (by omega)]
            intro x hx
            cases hx)
        have hW4 := J.wn.put hk hss (fun x => ins_mem)
        have hlen : (want.take a ++ kk :: want.drop a).length ≤ r + 1 := by
          have := J.wr
          rw [List.length_append, List.length_cons, List.length_take, List.length_drop]
          omega
        have hO4 := st4.ok
        rcases RT.sc r4 with ⟨q1, q2⟩
        by_cases hw0 : want.length = 0
        · have hwn : want = [] := List.eq_nil_of_length_eq_zero hw0
          subst hwn
          have ha0 : a = 0 := by rw [List.length_nil] at ha; omega
          subst ha0
          rcases r4 with ⟨rfl, h0⟩ | ⟨c5, len, cl5, rfl, h2, g5, h4, h5, h6⟩
          · obtain ⟨v1, H5, v2, H6, v3, H7, T7, f1, f2, f3, s7, r7, hkp⟩ := ins_app (kk := kk) (q := q) (i := 0) (z := []) hO4 (.inl ⟨rfl, h0⟩) (Nat.zero_le _) (Nat.le_refl _) .nils .nils (fun _ _ => rfl) (fun _ _ => rfl)
            have L7 := L4.step s7 (fun t ht => nK0 (a := 1) ht)
            have st7 := st4.trans (s7.mono (P := OL) fun u h => by rw [h]; exact ol0 rfl)
            obtain ⟨q3, q4⟩ := r7.sc
            have hn := fun (k : Kn) (H : Heap) (r : List Go.Dp.It) => agV_same k H r .nils rfl
            iterate 2 repeat (first | ((first | apply Xk.sAny | apply Xk.tAny); (case hok => rfl); (case h => intro C hC; simp (disch := omega) only [w1, ↓reduceIte, Nat.reduceEqDiff, Nat.reduceLeDiff, Nat.reduceAdd, Nat.reduceSub, lw, hw0, eq_self]; with_reducible exact hC); refine gc ?_) | refine gm ?_)
            repeat (first | ((first | apply Xk.sAny | apply Xk.tAny); (case hok => rfl); (case h => intro C hC; simp (disch := omega) only [w1, ↓reduceIte, Nat.reduceEqDiff, Nat.reduceLeDiff, Nat.reduceAdd, Nat.reduceSub, lw, hw0, eq_self, f1, f2, f3, q3, q4, hn]; with_reducible exact hC); refine gc ?_) | refine gm ?_)
            repeat (first | ((first | apply Xk.sAny | apply Xk.tAny); (case hok => rfl); (case h => intro C hC; simp (disch := omega) only [w1, ↓reduceIte, Nat.reduceEqDiff, Nat.reduceLeDiff, Nat.reduceAdd, Nat.reduceSub]; with_reducible exact hC); refine gc ?_) | refine gm ?_)
            refine ⟨rfl, _, by omega, i + 1, r + 1, q + 1, _, v3, _, _, T7, rfl, by omega, by omega, rfl, ⟨hlen, r7, hW4, L7, hrid4, hdl4, st7⟩⟩
          · have e0 : len = 0 := by rw [strs_len, hw0] at h2; omega
            subst e0
            obtain ⟨v1, H5, v2, H6, v3, H7, T7, f1, f2, f3, s7, r7, hkp⟩ := ins_app (kk := kk) (q := q) (i := 0) (z := []) hO4 (.inr ⟨c5, 0, cl5, rfl, h2, g5, h4, h5, h6⟩) (Nat.zero_le _) (Nat.le_refl _) (.sl c5 0 0 1) (.sl c5 0 0 1)
              (fun H' hk' => strs_src (hk' _ _ _ _ _ rfl g5) (rest := cl5) (by rfl) rfl (Nat.zero_le _)) (fun H' hk' => strs_src (hk' _ _ _ _ _ rfl g5) (rest := cl5) (by rfl) rfl (Nat.zero_le _))
            obtain ⟨g51, g52⟩ := hkp _ _ _ _ _ rfl g5
            have g5a : (G.new (.cells [] 1)).get c5 = some (.cells cl5 1) := HLe.new (hO4 _ (Nat.le_refl _)) _ _ _ g5
            have g5b : ((G.new (.cells [] 1)).new (.cells [.str kk] 1)).get c5 = some (.cells cl5 1) := HLe.new (hO4.new _ _ (Nat.le_refl _)) _ _ _ g5a
            have L7 := L4.step s7 (fun t ht => nK0 (a := 1) ht)
            have st7 := st4.trans (s7.mono (P := OL) fun u h => by rw [h]; exact ol0 rfl)
            obtain ⟨q3, q4⟩ := r7.sc
            iterate 2 repeat (first | ((first | apply Xk.sAny | apply Xk.tAny); (case hok => rfl); (case h => intro C hC; simp (disch := omega) only [w1, ↓reduceIte, Nat.reduceEqDiff, Nat.reduceLeDiff, Nat.reduceAdd, Nat.reduceSub, lw, hw0, eq_self]; with_reducible exact hC); refine gc ?_) | refine gm ?_)
            repeat (first | ((first | apply Xk.sAny | apply Xk.tAny); (case hok => rfl); (case h => intro C hC; simp (disch := omega) only [w1, ↓reduceIte, Nat.reduceEqDiff, Nat.reduceLeDiff, Nat.reduceAdd, Nat.reduceSub, lw, hw0, eq_self, g5, g5a, g5b, f1, f2, f3, g51, g52, q3, q4]; with_reducible exact hC); refine gc ?_) | refine gm ?_)
            repeat (first | ((first | apply Xk.sAny | apply Xk.tAny); (case hok => rfl); (case h => intro C hC; simp (disch := omega) only [w1, ↓reduceIte, Nat.reduceEqDiff, Nat.reduceLeDiff, Nat.reduceAdd, Nat.reduceSub]; with_reducible exact hC); refine gc ?_) | refine gm ?_)
            refine ⟨rfl, _, by omega, i + 1, r + 1, q + 1, _, v3, _, _, T7, rfl, by omega, by omega, rfl, ⟨hlen, r7, hW4, L7, hrid4, hdl4, st7⟩⟩
        · obtain ⟨c5, cl5, rfl, g5, t5, l5, a5⟩ := rt_txt r4 (by omega)
          have hs : cl5 = strs want ++ cl5.drop want.length := by
            rcases r4 with ⟨h, _⟩ | ⟨c, len, l, h1, h2, h3, h4, h5, h6⟩
            · cases h
            · injection h1 with e1 _ _ _
              subst e1
              rw [g5] at h3
              injection h3 with h3
              injection h3 with h3 _
              subst h3
              rw [strs_len] at h5
              rw [← h5, List.take_append_drop]
          obtain ⟨v1, H5, v2, H6, v3, H7, T7, f1, f2, f3, s7, r7, hkp⟩ := ins_app (kk := kk) hO4 r4 (by omega) ha (.sl c5 0 a 1) (.sl c5 a (want.length - a) 1)
            (fun H' hk' => strs_src (hk' _ _ _ _ _ rfl g5) (rest := strs (want.drop a) ++ cl5.drop want.length) (by
              rw [List.drop_zero, ← List.append_assoc, ← strs_app, List.take_append_drop]
              exact hs) (by rw [List.length_take]; omega) (Nat.zero_le _))
            (fun H' hk' => strs_src (hk' _ _ _ _ _ rfl g5) (rest := cl5.drop want.length) (by
              have : cl5.drop a = (strs want).drop a ++ cl5.drop want.length := by
                conv => lhs; rw [hs]
                rw [List.drop_append_of_le_length (by rw [strs_len]; exact ha)]
              rw [this]
              unfold strs
              rw [List.map_drop]) (by rw [List.length_drop]) (by omega))
          obtain ⟨g51, g52⟩ := hkp _ _ _ _ _ rfl g5
          have L7 := L4.step s7 (fun t ht => nK0 (a := 1) ht)
          have st7 := st4.trans (s7.mono (P := OL) fun u h => by rw [h]; exact ol0 rfl)
          obtain ⟨q3, q4⟩ := r7.sc
          have hal : a ≤ cl5.length := by omega
          have g5a : (G.new (.cells [] 1)).get c5 = some (.cells cl5 1) := HLe.new (hO4 _ (Nat.le_refl _)) _ _ _ g5
          have g5b : ((G.new (.cells [] 1)).new (.cells [.str kk] 1)).get c5 = some (.cells cl5 1) := HLe.new (hO4.new _ _ (Nat.le_refl _)) _ _ _ g5a
          by_cases ca : a = want.length
          · subst ca
            repeat (first | ((first | apply Xk.sAny | apply Xk.tAny); (case hok => rfl); (case h => intro C hC; simp (disch := omega) only [w1, ↓reduceIte, Nat.reduceEqDiff, Nat.reduceLeDiff, Nat.reduceAdd, Nat.reduceSub, lw, eq_self]; with_reducible exact hC); refine gc ?_) | refine gm ?_)
            repeat (first | ((first | apply Xk.sAny | apply Xk.tAny); (case hok => rfl); (case h => intro C hC; simp (disch := omega) only [w1, ↓reduceIte, Nat.reduceEqDiff, Nat.reduceLeDiff, Nat.reduceAdd, Nat.reduceSub, lw, eq_self, g5, g5a, g5b, hal, l5, f1, f2, f3, g51, g52, q3, q4]; with_reducible exact hC); refine gc ?_) | refine gm ?_)
            repeat (first | ((first | apply Xk.sAny | apply Xk.tAny); (case hok => rfl); (case h => intro C hC; simp (disch := omega) only [w1, ↓reduceIte, Nat.reduceEqDiff, Nat.reduceLeDiff, Nat.reduceAdd, Nat.reduceSub]; with_reducible exact hC); refine gc ?_) | refine gm ?_)
            refine ⟨rfl, _, by omega, i + 1, r + 1, q + 1, _, v3, _, _, T7, rfl, by omega, by omega, rfl, ⟨hlen, r7, hW4, L7, hrid4, hdl4, st7⟩⟩
          · have ca2 : a < want.length := by omega
            have hne : gz want a ≠ kk := fun e => hsame ⟨ca2, e⟩
            obtain ⟨p5, q5⟩ := a5 a ca2
            have hne' := eq_false hne
            iterate 2 repeat (first | ((first | apply Xk.sAny | apply Xk.tAny); (case hok => rfl); (case h => intro C hC; simp (disch := omega) only [w1, ↓reduceIte, Nat.reduceEqDiff, Nat.reduceLeDiff, Nat.reduceAdd, Nat.reduceSub, lw, ca, ca2, g5, p5, q5, hne']; with_reducible exact hC); refine gc ?_) | refine gm ?_)
            repeat (first | ((first | apply Xk.sAny | apply Xk.tAny); (case hok => rfl); (case h => intro C hC; simp (disch := omega) only [w1, ↓reduceIte, Nat.reduceEqDiff, Nat.reduceLeDiff, Nat.reduceAdd, Nat.reduceSub, lw, eq_self, g5, g5a, g5b, hal, ha, l5, f1, f2, f3, g51, g52, q3, q4]; with_reducible exact hC); refine gc ?_) | refine gm ?_)
            repeat (first | ((first | apply Xk.sAny | apply Xk.tAny); (case hok => rfl); (case h => intro C hC; simp (disch := omega) only [w1, ↓reduceIte, Nat.reduceEqDiff, Nat.reduceLeDiff, Nat.reduceAdd, Nat.reduceSub]; with_reducible exact hC); refine gc ?_) | refine gm ?_)
            refine ⟨rfl, _, by omega, i + 1, r + 1, q + 1, _, v3, _, _, T7, rfl, by omega, by omega, rfl, ⟨hlen, r7, hW4, L7, hrid4, hdl4, st7⟩⟩
  · have hc2 : (¬ i < ks.length ∧ True) ∨ (i < ks.length ∧ ¬ i < 40) := by
      by_cases c1 : i < ks.length
      · exact .inr ⟨c1, fun c2 => c ⟨c1, c2⟩⟩
      · exact .inl ⟨c1, trivial⟩
    rcases hc2 with ⟨c1, c2⟩ | ⟨c1, c2⟩
    all_goals
      iterate 2 repeat (first | ((first | apply Xk.sAny | apply Xk.tAny); (case hok => rfl); (case h => intro C hC; simp (disch := omega) only [w1, ↓reduceIte, Nat.reduceEqDiff, Nat.reduceLeDiff, Nat.reduceAdd, Nat.reduceSub, k1, c1, c2]; with_reducible exact hC); refine gc ?_) | refine gm ?_)
      exact hexit _ _ r q want wv M done T1 rfl rfl (by omega) J
end Go.Proofs.Ytihoblfmhighpaa
namespace Go.Proofs.Ytihoblfmhighpaa
open Go.Dp
set_option linter.unusedSimpArgs false
set_option linter.unusedVariables false
set_option maxHeartbeats 400000
set_option maxRecDepth 8000
attribute [local irreducible] Ex.thnK Ex.inK Ret

theorem gz_mem {l : List (List UInt8)} {j : Nat} (h : j < l.length) : gz l j ∈ l := by
  unfold gz
  rw [List.getD_eq_getElem?_getD, List.getElem?_eq_getElem h]
  exact List.getElem_mem h
theorem take_one {l : List (List UInt8)} {j : Nat} (h : j < l.length) : l.take (j + 1) = l.take j ++ [gz l j] := by
  unfold gz
  rw [List.take_add_one, List.getD_eq_getElem?_getD, List.getElem?_eq_getElem h]
  rfl
theorem txs_split {l : List (List UInt8)} {j : Nat} (h : j < l.length) : txsB l = txsB (l.take j) ++ (txB (gz l j) ++ txsB (l.drop (j + 1))) := by
  conv => lhs; rw [take_split h]
  rw [txsB_app]
  rfl
theorem txs_one {l : List (List UInt8)} {j : Nat} (h : j < l.length) : txsB (l.take (j + 1)) = txsB (l.take j) ++ txB (gz l j) := by
  rw [take_one h, txsB_app]
  show _ ++ (txB (gz l j) ++ []) = _
  rw [List.append_nil]

theorem read_loop (T : Tags) (H : Heap) (hO : H.Ok) (p pa pr : Nat) (wv : AV) (rid : Int) (got tk : List (List UInt8)) (fr0 : List UInt8) (v0 x0 x1 x2 x3 x4 x5 x6 x7 : AV) (htk : ∀ x ∈ tk, x.length ≤ 40) (htl : tk.length ≤ 16) (hgl : got.length ≤ 40)
    (ha : At T H (0, 6, 0) pa (.cells [x0, x1, x2, x3, x4, x5, x6, x7, .str (txsB tk)] 1)) (hr : RT T H (0, 2, 0) 0 1 v0 (strs got)) (hd : Rdr T H (0, 3, 0) (0, 3, 1) pr (txsB tk) (0, 0)) (Q : Ex → Kn → Heap → Prop)
    (hexit : ∀ k' G T' v, [3, 5, 6, 12, 13].all (has k'.keys) = true → k'.only [3, 5, 6, 12, 13] = [(3, .ptr p 0), (5, wv), (6, .int .i64 rid), (12, v), (13, .str (if tk.length = 0 then fr0 else gz tk (tk.length - 1)))] → Stp (fun u => u = (0, 2, 0) ∨ u = (0, 3, 0)) T H T' G → RT T' G (0, 2, 0) 0 1 v (strs (got ++ tk)) → Q (.exit 6) k' G) :
    Xk lib 155 (.loop l2_depotlaw17_SlotScans) [(3, .ptr p 0), (5, wv), (6, .int .i64 rid), (12, v0), (13, .str fr0), (15, .ptr pa 0), (17, .ptr pr 0)] H Q := by
  refine Xk.iter [3, 5, 6, 12, 13, 15, 17] (fun m k G => ∃ j v T', m = tk.length - j ∧ j ≤ tk.length ∧ Stp (fun u => u = (0, 2, 0) ∨ u = (0, 3, 0)) T H T' G ∧ RT T' G (0, 2, 0) 0 1 v (strs (got ++ tk.take j)) ∧ Rdr T' G (0, 3, 0) (0, 3, 1) pr (txsB tk) ((txsB (tk.take j)).length, 0) ∧
    k = [(3, .ptr p 0), (5, wv), (6, .int .i64 rid), (12, v), (13, .str (if j = 0 then fr0 else gz tk (j - 1))), (15, .ptr pa 0), (17, .ptr pr 0)]) rfl
    ⟨_, 0, v0, T, rfl, Nat.zero_le _, Stp.refl hO, by rw [List.take_zero, List.append_nil]; exact hr, hd, rfl⟩ ?_
  rintro m k G ⟨j, v, T', rfl, hj, st, hv, hR, rfl⟩
  unfold l2_depotlaw17_SlotScans
  have ha' := ha.step st (by rintro (h | h) <;> cases h)
  have hg := ha'.1
  generalize hfr : (if j = 0 then fr0 else gz tk (j - 1)) = fr
  have hsl : (txsB tk).length ≤ 800 := by
    have := txsB_len htk
    have := Nat.mul_le_mul_right 50 htl
    omega
  iterate 2 repeat (first | ((first | apply Xk.sAny | apply Xk.tAny); (case hok => rfl); (case h => intro C hC; simp (disch := omega) only [w1, ↓reduceIte, Nat.reduceEqDiff, Nat.reduceLeDiff, Nat.reduceAdd, Nat.reduceSub, hg]; with_reducible exact hC); refine gc ?_) | refine gm ?_)
  refine rAt_ev T' G (0, 3, 0) (0, 3, 1) pr (txsB tk) _ hR _ ?_
  by_cases cj : j < tk.length
  · have h1 := txs_split cj
    have h2 := txs_one cj
    have h3 := htk _ (gz_mem cj)
    have h4 := take_one cj
    have h5 : (txsB (tk.take j)).length < (txsB tk).length := by
      rw [h1, List.length_append, List.length_append]
      have : (txB (gz tk j)).length ≠ 0 := fun h => txB_ne _ (List.eq_nil_of_length_eq_zero h)
      omega
    iterate 2 repeat (first | ((first | apply Xk.sAny | apply Xk.tAny); (case hok => rfl); (case h => intro C hC; simp (disch := omega) only [w1, ↓reduceIte, Nat.reduceEqDiff, Nat.reduceLeDiff, Nat.reduceAdd, Nat.reduceSub, hg, h5]; with_reducible exact hC); refine gc ?_) | refine gm ?_)
    refine rWrong_ev T' G (0, 3, 0) (0, 3, 1) pr (txsB tk) _ hR _ ?_
    iterate 2 repeat (first | ((first | apply Xk.sAny | apply Xk.tAny); (case hok => rfl); (case h => intro C hC; simp (disch := omega) only [w1, ↓reduceIte, Nat.reduceEqDiff, Nat.reduceLeDiff, Nat.reduceAdd, Nat.reduceSub, hg, h5]; with_reducible exact hC); refine gc ?_) | refine gm ?_)
    rw [h1] at hR
    refine rText_ev T' G (0, 3, 0) (0, 3, 1) (by decide) pr (txsB (tk.take j)) (gz tk j) (txsB (tk.drop (j + 1))) 250 hR (by rw [← h1]; omega) (by omega) (by decide) _ fun G2 s2 R2 => ?_
    rw [← h1, ← h2] at R2
    have hv2 := hv.step s2 (by decide)
    iterate 2 repeat (first | ((first | apply Xk.sAny | apply Xk.tAny); (case hok => rfl); (case h => intro C hC; simp (disch := omega) only [w1, ↓reduceIte, Nat.reduceEqDiff, Nat.reduceLeDiff, Nat.reduceAdd, Nat.reduceSub]; with_reducible exact hC); refine gc ?_) | refine gm ?_)
    obtain ⟨v3, G3, T3, f1, s3, r3⟩ := RT.push (bytes := 16) (w := 1) (row := [.str (gz tk j)]) s2.ok hv2 rfl rfl (by decide) (by rw [strs_len, List.length_append, List.length_take]; omega) (by rw [strs_len, List.length_append, List.length_take]; omega)
    obtain ⟨q1, q2⟩ := hv2.sc
    obtain ⟨q3, q4⟩ := r3.sc
    iterate 2 repeat (first | ((first | apply Xk.sAny | apply Xk.tAny); (case hok => rfl); (case h => intro C hC; simp (disch := omega) only [w1, ↓reduceIte, Nat.reduceEqDiff, Nat.reduceLeDiff, Nat.reduceAdd, Nat.reduceSub, f1, q1, q2, q3, q4]; with_reducible exact hC); refine gc ?_) | refine gm ?_)
    refine ⟨rfl, _, by omega, j + 1, v3, T3, rfl, by omega, (st.trans (s2.mono fun u h => .inr h)).trans (s3.mono fun u h => .inl h), ?_, R2.step s3 (by decide) (by decide), ?_⟩
    · rw [h4, ← List.append_assoc, strs_app]
      exact r3
    · rw [if_neg (by omega), show j + 1 - 1 = j from rfl]
      rfl
  · have ej : j = tk.length := by omega
    subst ej
    rw [List.take_length] at hv hR ⊢
    have hlt := Nat.lt_irrefl (txsB tk).length
    iterate 2 repeat (first | ((first | apply Xk.sAny | apply Xk.tAny); (case hok => rfl); (case h => intro C hC; simp (disch := omega) only [w1, ↓reduceIte, Nat.reduceEqDiff, Nat.reduceLeDiff, Nat.reduceAdd, Nat.reduceSub, hg, hlt]; with_reducible exact hC); refine gc ?_) | refine gm ?_)
    refine hexit _ G T' v rfl ?_ st hv
    rw [← hfr]
    rfl
end Go.Proofs.Ytihoblfmhighpaa
namespace Go.Proofs.Ytihoblfmhighpaa
open Go.Dp
set_option linter.unusedSimpArgs false
set_option linter.unusedVariables false
set_option maxHeartbeats 800000
set_option maxRecDepth 8000
attribute [local irreducible] Ex.thnK Ex.inK Ret

theorem s2b_of (s : List UInt8) (h : s.length ≤ 1000000) : nS2b (.str s) = some (.cells (ofBytes s) 3, slTo s.length 1) := by
  unfold nS2b
  simp only [nble]
  rw [decide_eq_true (show s.length ≤ 35184372088832 by omega)]
  rfl

theorem Scans_law (ks : List (List UInt8)) (va : AV) (H : Heap) (hv : Sl H 1 va (strs ks)) : Eo lib n_depotlaw17_SlotScans [va] H fun v _ => v = .bool true := by
  refine Eo.ok fun hOk => ?_
  refine Eo.code at_depotlaw17_SlotScans rfl ?_
  iterate 2 repeat (first | ((first | apply Xk.sAny | apply Xk.tAny); (case hok => rfl); (case h => intro C hC; simp (disch := omega) only [w1, ↓reduceIte, Nat.reduceEqDiff, Nat.reduceLeDiff, Nat.reduceAdd, Nat.reduceSub]; with_reducible exact hC); refine gc ?_) | refine gm ?_)
  refine slNew_ev 10 (fun _ => (1, 0, 0)) H 1 16 8192 (by decide) (by decide) (by decide) (by decide) (by decide) _ fun p T1 H1 s1 W1 => ?_
  have epn : negIf false (rEqc H1 (.ptr p 0) .nilp) = some (.bool false) := rfl
  iterate 2 repeat (first | ((first | apply Xk.sAny | apply Xk.tAny); (case hok => rfl); (case h => intro C hC; simp (disch := omega) only [w1, ↓reduceIte, Nat.reduceEqDiff, Nat.reduceLeDiff, Nat.reduceAdd, Nat.reduceSub, epn, eq_self]; with_reducible exact hC); refine gc ?_) | refine gm ?_)
  refine ask_ev 5 (.ofNat 1) [] [] (.ofNat 0) H1 _ fun H2 hO2 hle2 => ?_
  have s2 : Stp (fun _ => False) T1 H1 T1 H2 := Stp.le hO2 hle2
  have W2 := W1.step s2 (fun _ _ h => h)
  repeat (first | ((first | apply Xk.sAny | apply Xk.tAny); (case hok => rfl); (case h => intro C hC; simp (disch := omega) only [w1, ↓reduceIte, Nat.reduceEqDiff, Nat.reduceLeDiff, Nat.reduceAdd, Nat.reduceSub]; with_reducible exact hC); refine gc ?_) | refine gm ?_)
  refine Take_reset_ev 10 T1 H2 p _ W2 (askF 5 (.ofNat 1) [] [] (.ofNat 0)) ⟨by decide, by decide, by decide, by decide⟩ (by decide) rfl rfl (by decide) _ fun T3 H3 s3 W3 => ?_
  have L3 := LS.begin (m := 1) W3
  have st3 : Stp OL (fun _ => (1, 0, 0)) H T3 H3 := ((s1.mono fun u h => ol7 h).trans (s2.mono fun _ h => h.elim)).trans (s3.mono fun u h => ol7 h)
  clear s1 W1 s2 W2 s3 W3 hle2 hO2 epn
  iterate 2 repeat (first | ((first | apply Xk.sAny | apply Xk.tAny); (case hok => rfl); (case h => intro C hC; simp (disch := omega) only [w1, ↓reduceIte, Nat.reduceEqDiff, Nat.reduceLeDiff, Nat.reduceAdd, Nat.reduceSub]; with_reducible exact hC); refine gc ?_) | refine gm ?_)
  refine Xk.only [0, 3, 5, 6, 7] rfl ?_
  refine keys_loop ks va H hv p (fun _ => none) T3 H3 ⟨Nat.le_refl _, RT.nil, Wn.start, L3, fun d h => absurd h List.not_mem_nil, rfl, st3⟩ _ fun k' G r q want wv M done T' hall hk hr J => Ex.in_hit (Ex.thn_n (Xk.only [3, 5, 6] hall ?_))
  rw [hk]
  clear L3 st3 hk hall k' hOk
  iterate 2 repeat (first | ((first | apply Xk.sAny | apply Xk.tAny); (case hok => rfl); (case h => intro C hC; simp (disch := omega) only [w1, ↓reduceIte, Nat.reduceEqDiff, Nat.reduceLeDiff, Nat.reduceAdd, Nat.reduceSub]; with_reducible exact hC); refine gc ?_) | refine gm ?_)
  have hbehind : behind want [] = want := behind_all fun x hx => (J.wn.ne x hx).1
  have hO := J.st.ok
  refine lcut [5, 12] (fun k G => ∃ v T', k = [(5, wv), (12, v)] ∧ RT T' G (0, 1, q) 0 1 wv (strs want) ∧ RT T' G (0, 2, 0) 0 1 v (strs want))
    (Xk.iter [3, 5, 6, 12, 13] (fun m k G => ∃ c got rem from_ v done T', m = rem.length + 1 ∧ G.Ok ∧ want = got ++ rem ∧ behind want from_ = rem ∧ from_.length ≤ 40 ∧ c ≤ 40 + got.length ∧
      LS 10 T' G p 8192 16 1 c (szs 8192 64) M done ∧ (∀ d ∈ done, d.rid ≤ ((1 + c : Nat) : Int)) ∧ done.length = c ∧ RT T' G (0, 1, q) 0 1 wv (strs want) ∧ RT T' G (0, 2, 0) 0 1 v (strs got) ∧
      k = [(3, .ptr p 0), (5, wv), (6, .int .i64 (.ofNat (1 + c))), (12, v), (13, .str from_)]) rfl
      ⟨_, r, [], want, [], .nils, done, T', rfl, hO, rfl, hbehind, Nat.zero_le _, by omega, J.ls, J.rid, J.dl, J.rt, RT.nil, rfl⟩ ?_) ?_
  · have hss := J.wn.ss
    have hnm := J.wn.nm
    have hne := J.wn.ne
    have hwl : want.length ≤ 40 := by have := J.wr; omega
    clear J
    rintro m k G1 ⟨c, got, rem, from_, v, done1, T1, rfl, hO1, hwe, hbe, hfl, hc, L1, hrid, hdl, rw1, rv1, rfl⟩
    unfold l3_depotlaw17_SlotScans
    have hgl : got.length + rem.length ≤ 40 := by rw [hwe, List.length_append] at hwl; exact hwl
    obtain ⟨T2, s2, a2⟩ := new1 (T := T1) hO1 (0, 5, 0) (.cells [.int .i64 (.ofNat 4), .int .i64 (.ofNat 1), .int .i64 (.ofNat 3), .int .i64 (.ofNat (1 + c + 1)), .int .i64 (.ofNat 0), .int .i64 (.ofNat 0), .str from_, .int .i64 (.ofNat 0), .str []] 1)
    have g2 := a2.1
    have L2 := L1.step s2 (fun _ _ h => h)
    have rw2 := rw1.step s2 (fun h => h)
    have rv2 := rv1.step s2 (fun h => h)
    iterate 2 repeat (first | ((first | apply Xk.sAny | apply Xk.tAny); (case hok => rfl); (case h => intro C hC; simp (disch := omega) only [w1, ↓reduceIte, Nat.reduceEqDiff, Nat.reduceLeDiff, Nat.reduceAdd, Nat.reduceSub, g2]; with_reducible exact hC); refine gc ?_) | refine gm ?_)
    generalize G1.new (.cells [.int .i64 (.ofNat 4), .int .i64 (.ofNat 1), .int .i64 (.ofNat 3), .int .i64 (.ofNat (1 + c + 1)), .int .i64 (.ofNat 0), .int .i64 (.ofNat 0), .str from_, .int .i64 (.ofNat 0), .str []] 1) = G2 at s2 a2 g2 L2 rw2 rv2 ⊢
    have hf : LR (scF (.ofNat (1 + c + 1)) from_) := scF_lr (Int.natCast_nonneg _) (by show ((1 + c + 1 : Nat) : Int) ≤ _; omega) (by omega)
    have hMo : M.Ok := by obtain ⟨_, S⟩ := L2; exact S.mo
    refine tReq_ev 10 T2 G2 p L2 (by omega) (scF (.ofNat (1 + c + 1)) from_) hf (by show Int.ofNat 4 < Int.ofNat 6; decide) (by show Int.ofNat 4 ≠ Int.ofNat 5; decide) (M, ansL (scF (.ofNat (1 + c + 1)) from_) (.ofNat 0) (txsB ((behind want from_).take 16))) hMo
      (fun s S => scanIs S (by omega) hf rfl hss hnm) _ (fun d pre post e _ h2 => ?_) (fun _ T3 G3 s3 L3 => ?_)
    · have h3 := hrid d (by rw [e]; exact List.mem_append_right _ (List.mem_cons_self ..))
      rw [h2] at h3
      have h4 : ((1 + c + 1 : Nat) : Int) ≤ ((1 + c : Nat) : Int) := h3
      omega
    rw [hbe]
    have rw3 := rw2.step s3 n70
    have rv3 := rv2.step s3 n70
    have htk : ∀ x ∈ rem.take 16, x ≠ [] ∧ x.length ≤ 40 := fun x hx => hne x (by rw [hwe]; exact List.mem_append_right _ (List.mem_of_mem_take hx))
    have htl : (rem.take 16).length ≤ 16 := by rw [List.length_take]; exact Nat.min_le_left _ _
    have hDl : (txsB (rem.take 16)).length ≤ 800 := by
      have := txsB_len fun k hk => (htk k hk).2
      have := Nat.mul_le_mul_right 50 htl
      omega
    have hDn := txsB_nil (l := rem.take 16)
    generalize hD : txsB (rem.take 16) = D at L3 hDl hDn ⊢
    show Xk lib _ _ (kput _ _ (.tup [.agg [.int .i64 (.ofNat 6), .int .i64 (.ofNat 1), .int .i64 (.ofNat 3), .int .i64 (.ofNat (1 + c + 1)), .int .i64 (.ofNat 0), .int .i64 (.ofNat 0), .str from_, .int .i64 (.ofNat 0), .str D], .bool true])) G3 _
    obtain ⟨T4, s4, a4⟩ := new1 (T := T3) s3.ok (0, 6, 0) (.cells [.int .i64 (.ofNat 6), .int .i64 (.ofNat 1), .int .i64 (.ofNat 3), .int .i64 (.ofNat (1 + c + 1)), .int .i64 (.ofNat 0), .int .i64 (.ofNat 0), .str from_, .int .i64 (.ofNat 0), .str D] 1)
    have L4 := L3.step s4 (fun _ _ h => h)
    have rw4 := rw3.step s4 (fun h => h)
    have rv4 := rv3.step s4 (fun h => h)
    have lv := rt_lens rv4
    obtain ⟨q1, q2⟩ := rv4.sc
    have h50 : (50 < got.length) = False := eq_false (by omega)
    have g4 := a4.1
    by_cases cr : rem = []
    · subst cr
      have hD0 : D = [] := hD.symm.trans rfl
      subst hD0
      rw [List.append_nil] at hwe
      subst hwe
      repeat (first | ((first | apply Xk.sAny | apply Xk.tAny); (case hok => rfl); (case h => intro C hC; simp (disch := omega) only [w1, ↓reduceIte, Nat.reduceEqDiff, Nat.reduceLeDiff, Nat.reduceAdd, Nat.reduceSub]; with_reducible exact hC); refine gc ?_) | refine gm ?_)
      iterate 2 repeat (first | ((first | apply Xk.sAny | apply Xk.tAny); (case hok => rfl); (case h => intro C hC; simp (disch := omega) only [w1, ↓reduceIte, Nat.reduceEqDiff, Nat.reduceLeDiff, Nat.reduceAdd, Nat.reduceSub, g4, lv, q1, q2, h50, eq_self]; with_reducible exact hC); refine gc ?_) | refine gm ?_)
      exact ⟨rfl, rfl, v, T4, rfl, rw4, rv4⟩
    · have hD0 : (D = []) = False := eq_false fun h => by
        have := hDn.1 h
        cases rem with
        | nil => exact cr rfl
        | cons x l => cases this
      repeat (first | ((first | apply Xk.sAny | apply Xk.tAny); (case hok => rfl); (case h => intro C hC; simp (disch := omega) only [w1, ↓reduceIte, Nat.reduceEqDiff, Nat.reduceLeDiff, Nat.reduceAdd, Nat.reduceSub]; with_reducible exact hC); refine gc ?_) | refine gm ?_)
      repeat (first | ((first | apply Xk.sAny | apply Xk.tAny); (case hok => rfl); (case h => intro C hC; simp (disch := omega) only [w1, ↓reduceIte, Nat.reduceEqDiff, Nat.reduceLeDiff, Nat.reduceAdd, Nat.reduceSub, g4, lv, q1, q2, h50, hD0]; with_reducible exact hC); refine gc ?_) | refine gm ?_)
      generalize G3.new (.cells [.int .i64 (.ofNat 6), .int .i64 (.ofNat 1), .int .i64 (.ofNat 3), .int .i64 (.ofNat (1 + c + 1)), .int .i64 (.ofNat 0), .int .i64 (.ofNat 0), .str from_, .int .i64 (.ofNat 0), .str D] 1) = G4 at s4 a4 g4 L4 rw4 rv4 ⊢
      generalize G3.next = pa at a4 g4 ⊢
      obtain ⟨T5, s5, a5⟩ := new1 (T := T4) s4.ok (0, 7, 0) (.cells (ofBytes D) 3)
      have hsl : Sl (G4.new (.cells (ofBytes D) 3)) 1 (.sl G4.next 0 D.length 1) (ofBytes D) := .inr ⟨_, 0, _, ofBytes D, 3, [], rfl, by rw [pk_len, Nat.mul_one], a5.1, Nat.zero_le _, by simp⟩
      have hsb := s2b_of D (by omega)
      iterate 2 repeat (first | ((first | apply Xk.sAny | apply Xk.tAny); (case hok => rfl); (case h => intro C hC; simp (disch := omega) only [w1, ↓reduceIte, Nat.reduceEqDiff, Nat.reduceLeDiff, Nat.reduceAdd, Nat.reduceSub, g4, hsb]; with_reducible exact hC); refine gc ?_) | refine gm ?_)
      refine Read_ev T5 _ (0, 3, 0) (0, 3, 1) (tgn (.inr (by decide))) _ D hsl (by omega) _ fun pr T6 G6 s6 rd => ?_
      have st6 : Stp (fun u => u = (0, 3, 1)) T4 G4 T6 G6 := (s5.mono fun _ h => h.elim).trans s6
      have L6 := L4.step st6 (fun t ht => nK0 ht)
      have rw6 := rw4.step st6 (tgn (.inl (by decide)))
      have rv6 := rv4.step st6 (tgn (.inl (by decide)))
      have a6 := a4.step st6 (tgn (.inl (by decide)))
      iterate 2 repeat (first | ((first | apply Xk.sAny | apply Xk.tAny); (case hok => rfl); (case h => intro C hC; simp (disch := omega) only [w1, ↓reduceIte, Nat.reduceEqDiff, Nat.reduceLeDiff, Nat.reduceAdd, Nat.reduceSub]; with_reducible exact hC); refine gc ?_) | refine gm ?_)
      refine Xk.only [3, 5, 6, 12, 13, 15, 17] rfl ?_
      rw [← hD] at a6 rd
      refine read_loop T6 G6 st6.ok p pa pr wv _ got (rem.take 16) from_ v _ _ _ _ _ _ _ _ (fun x hx => (htk x hx).2) htl (by omega) a6 rv6 rd _ fun k' G7 T7 v7 hall hk s7 r7 => Ex.in_hit ?_
      have hrl : 0 < rem.length := by
        cases rem with
        | nil => exact absurd rfl cr
        | cons x l => exact Nat.zero_lt_succ _
      have htkl : (rem.take 16).length ≠ 0 := by rw [List.length_take]; omega
      have htp : 0 < (rem.take 16).length := Nat.pos_of_ne_zero htkl
      rw [if_neg htkl] at hk
      have hlast := take_split (l := rem.take 16) (j := (rem.take 16).length - 1) (by omega)
      rw [(List.drop_eq_nil_of_le (by omega) : (rem.take 16).drop ((rem.take 16).length - 1 + 1) = [])] at hlast
      have hlm := gz_mem (l := rem.take 16) (j := (rem.take 16).length - 1) (by omega)
      generalize gz (rem.take 16) ((rem.take 16).length - 1) = x at hlast hk hlm
      have hwe2 : want = (got ++ rem.take 16) ++ rem.drop 16 := by rw [List.append_assoc, List.take_append_drop]; exact hwe
      have hbe2 : behind want x = rem.drop 16 := by
        have e : want = (got ++ (rem.take 16).take ((rem.take 16).length - 1)) ++ x :: rem.drop 16 := by
          conv => lhs; rw [hwe2, hlast]
          simp only [List.append_assoc, List.cons_append, List.nil_append]
        rw [e] at hss ⊢
        exact hss.cut
      refine Ex.in_n (Ex.thn_n ?_)
      refine ⟨hall, (rem.drop 16).length + 1, by rw [List.length_drop]; omega, c + 1, got ++ rem.take 16, rem.drop 16, x, v7, _, T7, rfl, s7.ok, hwe2, hbe2, (htk x hlm).2, by rw [List.length_append]; omega,
        L6.step s7 (fun t ht => by rintro (h | h) <;> exact nK0 ht h), ?_, by rw [List.length_append, List.length_singleton, hdl], rw6.step s7 (by rintro (h | h) <;> cases h), r7, hk⟩
      intro d hd
      rcases List.mem_append.1 hd with hd | hd
      · have := hrid d hd
        omega
      · rw [List.mem_singleton] at hd
        subst hd
        show ((1 + c + 1 : Nat) : Int) ≤ _
        omega
  · rintro k G8 ⟨v, T8, rfl, rw8, rv8⟩
    iterate 2 repeat (first | ((first | apply Xk.sAny | apply Xk.tAny); (case hok => rfl); (case h => intro C hC; simp (disch := omega) only [w1, ↓reduceIte, Nat.reduceEqDiff, Nat.reduceLeDiff, Nat.reduceAdd, Nat.reduceSub]; with_reducible exact hC); refine gc ?_) | refine gm ?_)
    refine SameS_ev T8 G8 _ _ _ _ want rv8 rw8 (by have := J.wr; omega) _ ?_
    iterate 2 repeat (first | ((first | apply Xk.sAny | apply Xk.tAny); (case hok => rfl); (case h => intro C hC; simp (disch := omega) only [w1, ↓reduceIte, Nat.reduceEqDiff, Nat.reduceLeDiff, Nat.reduceAdd, Nat.reduceSub]; with_reducible exact hC); refine gc ?_) | refine gm ?_)
    refine SRuns_ev _ _ ?_
    iterate 2 repeat (first | ((first | apply Xk.sAny | apply Xk.tAny); (case hok => rfl); (case h => intro C hC; simp (disch := omega) only [w1, ↓reduceIte, Nat.reduceEqDiff, Nat.reduceLeDiff, Nat.reduceAdd, Nat.reduceSub]; with_reducible exact hC); refine gc ?_) | refine gm ?_)
    rfl
end Go.Proofs.Ytihoblfmhighpaa
