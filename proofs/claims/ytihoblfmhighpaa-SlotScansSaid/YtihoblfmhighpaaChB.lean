/- The hash table: its blocks; bucket. Conditions: none. -/
import Derived.Test.YtihoblfmhighpaaChP
import Derived.Test.YtihoblfmhighpaaLibT
namespace Go.Proofs.Ytihoblfmhighpaa
open Go.Dp
set_option linter.unusedSimpArgs false
set_option linter.unusedVariables false
set_option maxHeartbeats 400000
set_option maxRecDepth 8000
attribute [local irreducible] Ex.thnK Ex.inK Ret

theorem bxor (a b : Int) : bin .xor (.int .u32 a) (.int .u32 b) = some (.int .u32 (wr .u32 ((BitVec.ofInt 32 a ^^^ BitVec.ofInt 32 b).toNat : Nat))) := rfl
theorem bmul32 (a b : Int) : bin .mul (.int .u32 a) (.int .u32 b) = some (.int .u32 (wr .u32 (a * b))) := rfl
theorem cu32 (j : IntKind) (a : Nat) (h : a < 4294967296) : rCint .u32 (.int j (.ofNat a)) = some (.int .u32 (.ofNat a)) := by
  show some (AV.int .u32 (wr .u32 (.ofNat a))) = _
  rw [wr_eq]
  simp [IntKind.wrap, IntKind.bits, IntKind.signed]
  omega
theorem Hash_ev (key : List UInt8) (hk : key.length ≤ 1000000) (H : Heap) (Q : AV → Heap → Prop) (hQ : Q (.int .u32 (.ofNat (hashN key))) H) : Eo lib n_chain_Hash [.str key] H Q := by
  refine Eo.ok fun hOk => ?_
  refine Eo.code at_chain_Hash rfl ?_
  repeat (first | ((first | apply Xk.sAny | apply Xk.tAny); (case hok => rfl); (case h => intro C hC; simp (disch := omega) only [w1, ↓reduceIte, Nat.reduceEqDiff, Nat.reduceLeDiff, Nat.reduceAdd, Nat.reduceSub]; with_reducible exact hC); refine gc ?_) | refine gm ?_)
  refine Xk.iter [0, 3, 6, 7] (fun m k H' => ∃ i, m = key.length - i ∧ i ≤ key.length ∧ k = [(0, .str key), (3, .int .u32 ((key.take i).foldl hstep (Int.ofNat 2166136261))), (6, .int .i64 (.ofNat key.length)), (7, .int .i64 (.ofNat i))] ∧ H' = H) rfl
    ⟨_, 0, rfl, Nat.zero_le _, rfl, rfl⟩ ?_
  rintro m k H' ⟨i, rfl, hi, rfl, rfl⟩
  unfold l0_chain_Hash
  by_cases c : i < key.length
  · have hs : (key.take (i + 1)).foldl hstep (Int.ofNat 2166136261) = hstep ((key.take i).foldl hstep (Int.ofNat 2166136261)) (key.getD i 0) := by
      rw [List.take_add_one, List.foldl_append, List.getElem?_eq_getElem c, List.getD_eq_getElem?_getD, List.getElem?_eq_getElem c]
      rfl
    generalize (key.take i).foldl hstep (Int.ofNat 2166136261) = z at hs
    have hb := (key.getD i 0).toNat_lt
    have hb2 := cu32 .u8 (key.getD i 0).toNat (by omega)
    iterate 2 repeat (first | ((first | apply Xk.sAny | apply Xk.tAny); (case hok => rfl); (case h => intro C hC; simp (disch := omega) only [w1, ↓reduceIte, Nat.reduceEqDiff, Nat.reduceLeDiff, Nat.reduceAdd, Nat.reduceSub, c, bxor, bmul32, hb2]; with_reducible exact hC); refine gc ?_) | refine gm ?_)
    refine ⟨rfl, _, by omega, i + 1, rfl, by omega, ?_, rfl⟩
    rw [hs]
    rfl
  · repeat (first | ((first | apply Xk.sAny | apply Xk.tAny); (case hok => rfl); (case h => intro C hC; simp (disch := omega) only [w1, ↓reduceIte, Nat.reduceEqDiff, Nat.reduceLeDiff, Nat.reduceAdd, Nat.reduceSub, c]; with_reducible exact hC); refine gc ?_) | refine gm ?_)
    obtain rfl : i = key.length := by omega
    rw [List.take_length]
    have he := (hashI_eq key).1
    unfold hashI at he
    rw [he]
    repeat (first | ((first | apply Xk.sAny | apply Xk.tAny); (case hok => rfl); (case h => intro C hC; simp (disch := omega) only [w1, ↓reduceIte, Nat.reduceEqDiff, Nat.reduceLeDiff, Nat.reduceAdd, Nat.reduceSub, c]; with_reducible exact hC); refine gc ?_) | refine gm ?_)
    exact hQ

theorem find_ev (T : Tags) (t : Tg) (v : AV) (b : List En) (key : List UInt8) (H : Heap) (hv : RT T H t 0 2 v (b.flatMap En.cells)) (hb : b.length ≤ 1000000) (Q : AV → Heap → Prop)
    (hno : (∀ e ∈ b, ¬ e.1 = key) → ∀ H', H'.Ok → HLe H H' → Q (.int .i64 (.negSucc 0)) H')
    (hyes : ∀ i, i < b.length → (b.getD i ([], 0)).1 = key → ∀ H', H'.Ok → HLe H H' → Q (.int .i64 (.ofNat i)) H') : Eo lib n_chain_find [v, .str key] H Q := by
  refine Eo.ok fun hOk => ?_
  refine Eo.code at_chain_find rfl ?_
  obtain ⟨hv1, hv2, hv3⟩ := RT.lensG (g := En.cells) (fun _ => rfl) hv (by decide)
  iterate 2 repeat (first | ((first | apply Xk.sAny | apply Xk.tAny); (case hok => rfl); (case h => intro C hC; simp (disch := omega) only [w1, ↓reduceIte, Nat.reduceEqDiff, Nat.reduceLeDiff, Nat.reduceAdd, Nat.reduceSub, hv1]; with_reducible exact hC); refine gc ?_) | refine gm ?_)
  refine Xk.iter [1, 5, 8, 9, 10] (fun m k H' => ∃ i, m = b.length - i ∧ i ≤ b.length ∧ (∀ e ∈ b.take i, ¬ e.1 = key) ∧ k = [(1, .str key), (5, .int .i64 (.negSucc 0)), (8, v), (9, .int .i64 (.ofNat b.length)), (10, .int .i64 (.ofNat i))] ∧ H'.Ok ∧ HLe H H') rfl
    ⟨_, 0, rfl, Nat.zero_le _, (fun o h => by cases h), rfl, hOk, HLe.refl _⟩ ?_
  rintro m k H' ⟨i, rfl, hi, hne, rfl, hO', hle'⟩
  unfold l0_chain_find
  by_cases c : i < b.length
  · obtain ⟨bc, cl, rfl, hg, _, _, _, hrow⟩ := RT.rowG (g := En.cells) (fun _ => rfl) ([], 0) hv (by omega) (by decide)
    obtain ⟨c1, rest, c2⟩ := hrow i c
    have hg := hle' _ _ hg
    have hsn : b.take (i + 1) = b.take i ++ [b.getD i ([], 0)] := by
      rw [List.take_add_one, List.getD_eq_getElem?_getD, List.getElem?_eq_getElem c]
      rfl
    have hy := hyes i c
    have d4 : (cl.drop (i * 2)).take 2 = (b.getD i ([], 0)).cells := by rw [c2]; exact List.take_left' rfl
    generalize b.getD i ([], 0) = e at d4 hsn hy
    unfold En.cells at d4
    have hgr := Heap.get_new_self H' (.cells [.str e.1, .int .i64 (.ofNat e.2)] 1)
    have hO2 := hO'.new (.cells [.str e.1, .int .i64 (.ofNat e.2)] 1)
    have hl2 := hle'.new_ hO' (.cells [.str e.1, .int .i64 (.ofNat e.2)] 1)
    by_cases d : e.1 = key
    · have d' := decide_eq_true d
      iterate 3 repeat (first | ((first | apply Xk.sAny | apply Xk.tAny); (case hok => rfl); (case h => intro C hC; simp (disch := omega) only [w1, ↓reduceIte, Nat.reduceEqDiff, Nat.reduceLeDiff, Nat.reduceAdd, Nat.reduceSub, c, hg, c1, d4, d']; with_reducible exact hC); refine gc ?_) | refine gm ?_)
      exact hy d _ hO2 hl2
    · have d' := decide_eq_false d
      iterate 3 repeat (first | ((first | apply Xk.sAny | apply Xk.tAny); (case hok => rfl); (case h => intro C hC; simp (disch := omega) only [w1, ↓reduceIte, Nat.reduceEqDiff, Nat.reduceLeDiff, Nat.reduceAdd, Nat.reduceSub, c, hg, c1, d4, d']; with_reducible exact hC); refine gc ?_) | refine gm ?_)
      refine ⟨rfl, _, by omega, i + 1, rfl, by omega, ?_, rfl, hO2, hl2⟩
      intro o' ho'
      rw [hsn] at ho'
      rcases List.mem_append.1 ho' with h | h
      · exact hne o' h
      · rw [List.mem_singleton] at h
        rw [h]
        exact d
  · repeat (first | ((first | apply Xk.sAny | apply Xk.tAny); (case hok => rfl); (case h => intro C hC; simp (disch := omega) only [w1, ↓reduceIte, Nat.reduceEqDiff, Nat.reduceLeDiff, Nat.reduceAdd, Nat.reduceSub, c]; with_reducible exact hC); refine gc ?_) | refine gm ?_)
    obtain rfl : i = b.length := by omega
    rw [List.take_length] at hne
    repeat (first | ((first | apply Xk.sAny | apply Xk.tAny); (case hok => rfl); (case h => intro C hC; simp (disch := omega) only [w1, ↓reduceIte, Nat.reduceEqDiff, Nat.reduceLeDiff, Nat.reduceAdd, Nat.reduceSub, c]; with_reducible exact hC); refine gc ?_) | refine gm ?_)
    exact hno hne _ hO' hle'
end Go.Proofs.Ytihoblfmhighpaa
namespace Go.Proofs.Ytihoblfmhighpaa
open Go.Dp
set_option linter.unusedSimpArgs false
set_option linter.unusedVariables false
set_option maxHeartbeats 400000
set_option maxRecDepth 8000
attribute [local irreducible] Ex.thnK Ex.inK Ret

def Arr (ω : Nat) (T : Tags) (H : Heap) (c : Nat) (vs : List AV) (bs : List (List En)) : Prop :=
  At T H (ω, bs.length, 0) c (.cells vs 1) ∧ vs.length = bs.length ∧ ∀ i, i < bs.length → RT T H (ω, bs.length, i + 1) 0 2 (vs.getD i .nils) ((bs.getD i []).flatMap En.cells)
theorem Arr.step {ω : Nat} {O : Tg → Prop} {T T' : Tags} {H H' : Heap} {c : Nat} {vs : List AV} {bs : List (List En)} (h : Arr ω T H c vs bs) (s : Stp O T H T' H') (ho : ∀ i, ¬ O (ω, bs.length, i)) : Arr ω T' H' c vs bs :=
  ⟨h.1.step s (ho _), h.2.1, fun i hi => (h.2.2 i hi).step s (ho _)⟩
theorem Arr.set {ω : Nat} {T T' : Tags} {H H' : Heap} {c : Nat} {vs : List AV} {bs : List (List En)} (h : Arr ω T H c vs bs) {j : Nat} (hj : j < bs.length) (s : Stp (fun t => t = (ω, bs.length, j + 1)) T H T' H') {v' : AV} {b' : List En}
    (hr : RT T' H' (ω, bs.length, j + 1) 0 2 v' (b'.flatMap En.cells)) : Arr ω T' (H'.put c (.cells (vs.set j v') 1)) c (vs.set j v') (bs.set j b') ∧ At T' H' (ω, bs.length, 0) c (.cells vs 1) := by
  have hne : ∀ i, i ≠ j → ¬ (ω, bs.length, i + 1) = (ω, bs.length, j + 1) := fun i hi e => by
    injection e with _ e; injection e with _ e; omega
  have ha : At T' H' (ω, bs.length, 0) c (.cells vs 1) := h.1.step s (fun e => by injection e with _ e; injection e with _ e; omega)
  have s2 : Stp (fun t => t = (ω, bs.length, 0)) T' H' T' (H'.put c (.cells (vs.set j v') 1)) := ha.stp1 s.ok _
  have hz : ∀ i, ¬ (ω, bs.length, i + 1) = (ω, bs.length, 0) := fun i e => by injection e with _ e; injection e with _ e; omega
  refine ⟨⟨by rw [List.length_set]; exact ha.put _, by rw [List.length_set, List.length_set]; exact h.2.1, fun i hi => ?_⟩, ha⟩
  rw [List.length_set] at hi ⊢
  rw [getD_set, getD_set]
  by_cases e : j = i
  · subst e
    rw [if_pos ⟨rfl, by rw [h.2.1]; exact hj⟩, if_pos ⟨rfl, hj⟩]
    exact hr.step s2 (hz _)
  · rw [if_neg (fun q => e q.1), if_neg (fun q => e q.1)]
    exact ((h.2.2 i hi).step s (hne i (fun q => e q.symm))).step s2 (hz _)
def OldA (ω : Nat) (T : Tags) (H : Heap) (vo : AV) (os : List (List En)) (n : Nat) : Prop := (vo = .nils ∧ os = []) ∨ ∃ c ws, vo = .sl c 0 os.length 1 ∧ 0 < os.length ∧ os.length < n ∧ Arr ω T H c ws os
theorem OldA.step {ω : Nat} {O : Tg → Prop} {T T' : Tags} {H H' : Heap} {vo : AV} {os : List (List En)} {n : Nat} (h : OldA ω T H vo os n) (s : Stp O T H T' H') (ho : ∀ i, ¬ O (ω, os.length, i)) : OldA ω T' H' vo os n := by
  rcases h with h | ⟨c, ws, h1, h2, h3, h4⟩
  · exact .inl h
  · exact .inr ⟨c, ws, h1, h2, h3, h4.step s ho⟩
def ChC (ω : Nat) (T : Tags) (H : Heap) (p : Nat) (M : List En) (c : Nat) (vs : List AV) (bs : List (List En)) (vo : AV) (os : List (List En)) (moved : Nat) : Prop :=
  At T H (ω, 0, 0) p (.cells [.sl c 0 bs.length 1, vo, .int .i64 (.ofNat moved), .int .i64 (.ofNat M.length)] 1) ∧ Arr ω T H c vs bs ∧ OldA ω T H vo os bs.length ∧ ChP bs os moved M ∧ bs.length ≤ 8192
def Ch (ω : Nat) (T : Tags) (H : Heap) (p : Nat) (M : List En) : Prop := ∃ c vs bs vo os moved, ChC ω T H p M c vs bs vo os moved
theorem Ch.step {ω : Nat} {O : Tg → Prop} {T T' : Tags} {H H' : Heap} {p : Nat} {M : List En} (h : Ch ω T H p M) (s : Stp O T H T' H') (ho : ∀ t : Tg, t.1 = ω → ¬ O t) : Ch ω T' H' p M := by
  obtain ⟨c, vs, bs, vo, os, moved, h1, h2, h3, h4, h5⟩ := h
  exact ⟨c, vs, bs, vo, os, moved, h1.step s (ho _ rfl), h2.step s (fun i => ho _ rfl), h3.step s (fun i => ho _ rfl), h4, h5⟩
theorem Ch.perm {ω : Nat} {T : Tags} {H : Heap} {p : Nat} {M M' : List En} (h : Ch ω T H p M) (hp : M.Perm M') : Ch ω T H p M' := by
  obtain ⟨c, vs, bs, vo, os, moved, h1, h2, h3, h4, h5⟩ := h
  rw [hp.length_eq] at h1
  exact ⟨c, vs, bs, vo, os, moved, h1, h2, h3, h4.perm hp, h5⟩

structure Bk (ω : Nat) (T : Tags) (H : Heap) (p : Nat) (M : List En) (key : List UInt8) (c j : Nat) (vs : List AV) (n : Nat) (bk : List En) (a b m : AV) : Prop where
  at_ : At T H (ω, 0, 0) p (.cells [a, b, m, .int .i64 (.ofNat M.length)] 1)
  arr : At T H (ω, n, 0) c (.cells vs 1)
  hn : 0 < n
  hj : j < vs.length
  row : RT T H (ω, n, j + 1) 0 2 (vs.getD j .nils) (bk.flatMap En.cells)
  mem : ∀ x, (key, x) ∈ M ↔ (key, x) ∈ bk
  nd : (bk.map (·.1)).Nodup
  len : bk.length ≤ M.length
  re : ∀ T' H' v' b' M', Stp (fun t => t = (ω, n, j + 1)) T H T' H' → RT T' H' (ω, n, j + 1) 0 2 v' (b'.flatMap En.cells) → (∀ e ∈ b', e ∈ bk ∨ e.1 = key) → (b' ++ M).Perm (bk ++ M') → (M'.map (·.1)).Nodup →
    Ch ω T' ((H'.put c (.cells (vs.set j v') 1)).put p (.cells [a, b, m, .int .i64 (.ofNat M'.length)] 1)) p M' ∧
    Stp (fun t => t.1 = ω) T H T' ((H'.put c (.cells (vs.set j v') 1)).put p (.cells [a, b, m, .int .i64 (.ofNat M'.length)] 1))

theorem tg_ne {a b c d e f : Nat} (h : b ≠ e ∨ c ≠ f) : ¬ ((a, b, c) : Tg) = (d, e, f) := fun q => by
  injection q with _ q; injection q with q1 q2
  rcases h with h | h
  · exact h q1
  · exact h q2

theorem bk_len {bs os : List (List En)} {moved : Nat} {M : List En} (h : ChP bs os moved M) (key : List UInt8) : (bkt bs os moved key).length ≤ M.length := by
  have sub : ∀ (L : List (List En)) (i : Nat), (L.getD i []).length ≤ L.flatten.length := by
    intro L i
    by_cases hi : i < L.length
    · rw [List.getD_eq_getElem?_getD, List.getElem?_eq_getElem hi]
      exact (List.sublist_flatten_of_mem (List.getElem_mem hi)).length_le
    · rw [getD_out _ _ _ hi]; exact Nat.zero_le _
  have := h.pm.length_eq
  rw [List.length_append] at this
  unfold bkt
  split
  · have := sub os (hashN key % os.length); omega
  · have := sub bs (hashN key % bs.length); omega

theorem bucket_ev (ω : Nat) (T : Tags) (H : Heap) (p : Nat) (M : List En) (key : List UInt8) (hC : Ch ω T H p M) (hk : key.length ≤ 1000000) (Q : AV → Heap → Prop)
    (hQ : ∀ c j vs n bk a b m, Bk ω T H p M key c j vs n bk a b m → Q (.ptr c j) H) : Eo lib n_chain_Chain_bucket [.ptr p 0, .str key] H Q := by
  refine Eo.ok fun hOk => ?_
  refine Eo.code at_chain_Chain_bucket rfl ?_
  obtain ⟨c, vs, bs, vo, os, moved, hp, ha, ho, hP, h8⟩ := hC
  have hh := (hashI_eq key).2
  have hlen := hP.hn
  have hpg := hp.1
  repeat (first | ((first | apply Xk.sAny | apply Xk.tAny); (case hok => rfl); (case h => intro C hC; simp (disch := omega) only [w1, ↓reduceIte, Nat.reduceEqDiff, Nat.reduceLeDiff, Nat.reduceAdd, Nat.reduceSub, hpg]; with_reducible exact hC); refine gc ?_) | refine gm ?_)
  refine Hash_ev key hk _ _ ?_
  have hcase : inOld os moved key = true ∨ inOld os moved key = false := by cases inOld os moved key <;> simp
  have hmem : ∀ x, (key, x) ∈ M ↔ (key, x) ∈ bkt bs os moved key := fun x => hP.mem (key, x)
  have hnd := hP.bnd key
  have hbl := bk_len hP key
  have hturn := fun M' => hP.turn (M' := M') key
  rcases ho with ⟨rfl, rfl⟩ | ⟨co, ws, rfl, h0, hlt, hao⟩
  · have hi : inOld ([] : List (List En)) moved key = false := rfl
    unfold bkt at hmem hnd hbl hturn
    rw [hi] at hmem hnd hbl hturn
    simp only [if_neg (show ¬ (false = true) by decide)] at hmem hnd hbl hturn
    have hj := Nat.mod_lt (hashN key) hlen
    have z00 : ((0 : Nat) < 0) = False := eq_false (Nat.lt_irrefl 0)
    iterate 2 repeat (first | ((first | apply Xk.sAny | apply Xk.tAny); (case hok => rfl); (case h => intro C hC; simp (disch := omega) only [w1, ↓reduceIte, Nat.reduceEqDiff, Nat.reduceLeDiff, Nat.reduceAdd, Nat.reduceSub, hpg, z00]; with_reducible exact hC); refine gc ?_) | refine gm ?_)
    repeat (first | ((first | apply Xk.sAny | apply Xk.tAny); (case hok => rfl); (case h => intro C hC; simp (disch := omega) only [w1, ↓reduceIte, Nat.reduceEqDiff, Nat.reduceLeDiff, Nat.reduceAdd, Nat.reduceSub, hpg, hj]; with_reducible exact hC); refine gc ?_) | refine gm ?_)
    refine hQ c (hashN key % bs.length) vs bs.length _ _ _ _ ⟨hp, ha.1, hlen, by rw [ha.2.1]; exact hj, ha.2.2 _ hj, hmem, hnd, hbl, fun T' H' v' b' M' s hr hb hpm hd => ?_⟩
    obtain ⟨q1, q2⟩ := ha.set hj s hr
    have hp' := hp.step s (tg_ne (.inl (by omega)))
    have s1 : Stp (fun t => t.1 = ω) T H T' H' := s.mono (fun t e => by rw [e])
    have s2 : Stp (fun t => t = (ω, bs.length, 0)) T' H' T' (H'.put c (.cells (vs.set (hashN key % bs.length) v') 1)) := q2.stp1 s.ok _
    have hp'' := hp'.step s2 (tg_ne (.inl (by omega)))
    have s3 : Stp (fun t => t = (ω, 0, 0)) T' (H'.put c (.cells (vs.set (hashN key % bs.length) v') 1)) T' ((H'.put c (.cells (vs.set (hashN key % bs.length) v') 1)).put p (.cells [.sl c 0 bs.length 1, .nils, .int .i64 (.ofNat moved), .int .i64 (.ofNat M'.length)] 1)) := hp''.stp1 s2.ok (.cells [.sl c 0 bs.length 1, .nils, .int .i64 (.ofNat moved), .int .i64 (.ofNat M'.length)] 1)
    refine ⟨⟨c, vs.set (hashN key % bs.length) v', bs.set (hashN key % bs.length) b', .nils, [], moved, ?_, q1.step s3 (fun i => tg_ne (.inl (by rw [List.length_set]; omega))), .inl ⟨rfl, rfl⟩, (hturn M' b' hb hpm hd).2 (by simp), by rw [List.length_set]; exact h8⟩, s1.trans ((s2.mono fun t e => by rw [e]).trans (s3.mono fun t e => by rw [e]))⟩
    rw [List.length_set]
    exact hp''.put _
  have hm : moved < os.length := by
    rcases hP.ho with ⟨e, _⟩ | e
    · rw [e] at h0; cases h0
    · exact e
  rcases hcase with hi | hi
  · unfold bkt at hmem hnd hbl hturn
    rw [hi] at hmem hnd hbl hturn
    simp only [if_pos] at hmem hnd hbl hturn
    have hi' := hi
    unfold inOld at hi'
    rw [Bool.and_eq_true, decide_eq_true_eq, decide_eq_true_eq] at hi'
    have hge := hi'.2
    have hj := Nat.mod_lt (hashN key) h0
    iterate 2 repeat (first | ((first | apply Xk.sAny | apply Xk.tAny); (case hok => rfl); (case h => intro C hC; simp (disch := omega) only [w1, ↓reduceIte, Nat.reduceEqDiff, Nat.reduceLeDiff, Nat.reduceAdd, Nat.reduceSub, hpg, h0, hge]; with_reducible exact hC); refine gc ?_) | refine gm ?_)
    repeat (first | ((first | apply Xk.sAny | apply Xk.tAny); (case hok => rfl); (case h => intro C hC; simp (disch := omega) only [w1, ↓reduceIte, Nat.reduceEqDiff, Nat.reduceLeDiff, Nat.reduceAdd, Nat.reduceSub, hpg, h0, hge, hj]; with_reducible exact hC); refine gc ?_) | refine gm ?_)
    refine hQ co (hashN key % os.length) ws os.length _ _ _ _ ⟨hp, hao.1, h0, by rw [hao.2.1]; exact hj, hao.2.2 _ hj, hmem, hnd, hbl, fun T' H' v' b' M' s hr hb hpm hd => ?_⟩
    obtain ⟨q1, q2⟩ := hao.set hj s hr
    have hp' := hp.step s (tg_ne (.inl (by omega)))
    have s1 : Stp (fun t => t.1 = ω) T H T' H' := s.mono (fun t e => by rw [e])
    have s2 : Stp (fun t => t = (ω, os.length, 0)) T' H' T' (H'.put co (.cells (ws.set (hashN key % os.length) v') 1)) := q2.stp1 s.ok _
    have hp'' := hp'.step s2 (tg_ne (.inl (by omega)))
    have s3 : Stp (fun t => t = (ω, 0, 0)) T' (H'.put co (.cells (ws.set (hashN key % os.length) v') 1)) T' ((H'.put co (.cells (ws.set (hashN key % os.length) v') 1)).put p (.cells [.sl c 0 bs.length 1, .sl co 0 os.length 1, .int .i64 (.ofNat moved), .int .i64 (.ofNat M'.length)] 1)) := hp''.stp1 s2.ok (.cells [.sl c 0 bs.length 1, .sl co 0 os.length 1, .int .i64 (.ofNat moved), .int .i64 (.ofNat M'.length)] 1)
    have ha' := ((ha.step s (fun i => tg_ne (.inl (by omega)))).step s2 (fun i => tg_ne (.inl (by omega)))).step s3 (fun i => tg_ne (.inl (by omega)))
    refine ⟨⟨c, vs, bs, _, os.set (hashN key % os.length) b', moved, hp''.put _, ha', .inr ⟨co, ws.set (hashN key % os.length) v', by rw [List.length_set], by rw [List.length_set]; exact h0, by rw [List.length_set]; exact hlt, q1.step s3 (fun i => tg_ne (.inl (by rw [List.length_set]; omega)))⟩, (hturn M' b' hb hpm hd).1 (by simp), h8⟩, s1.trans ((s2.mono fun t e => by rw [e]).trans (s3.mono fun t e => by rw [e]))⟩
  · unfold bkt at hmem hnd hbl hturn
    rw [hi] at hmem hnd hbl hturn
    simp only [if_neg (show ¬ (false = true) by decide)] at hmem hnd hbl hturn
    have hi' := hi
    unfold inOld at hi'
    rw [decide_eq_true h0, Bool.true_and, decide_eq_false_iff_not] at hi'
    have hj := Nat.mod_lt (hashN key) hlen
    iterate 2 repeat (first | ((first | apply Xk.sAny | apply Xk.tAny); (case hok => rfl); (case h => intro C hC; simp (disch := omega) only [w1, ↓reduceIte, Nat.reduceEqDiff, Nat.reduceLeDiff, Nat.reduceAdd, Nat.reduceSub, hpg, h0, hi']; with_reducible exact hC); refine gc ?_) | refine gm ?_)
    repeat (first | ((first | apply Xk.sAny | apply Xk.tAny); (case hok => rfl); (case h => intro C hC; simp (disch := omega) only [w1, ↓reduceIte, Nat.reduceEqDiff, Nat.reduceLeDiff, Nat.reduceAdd, Nat.reduceSub, hpg, hj]; with_reducible exact hC); refine gc ?_) | refine gm ?_)
    refine hQ c (hashN key % bs.length) vs bs.length _ _ _ _ ⟨hp, ha.1, hlen, by rw [ha.2.1]; exact hj, ha.2.2 _ hj, hmem, hnd, hbl, fun T' H' v' b' M' s hr hb hpm hd => ?_⟩
    obtain ⟨q1, q2⟩ := ha.set hj s hr
    have hp' := hp.step s (tg_ne (.inl (by omega)))
    have s1 : Stp (fun t => t.1 = ω) T H T' H' := s.mono (fun t e => by rw [e])
    have s2 : Stp (fun t => t = (ω, bs.length, 0)) T' H' T' (H'.put c (.cells (vs.set (hashN key % bs.length) v') 1)) := q2.stp1 s.ok _
    have hp'' := hp'.step s2 (tg_ne (.inl (by omega)))
    have s3 : Stp (fun t => t = (ω, 0, 0)) T' (H'.put c (.cells (vs.set (hashN key % bs.length) v') 1)) T' ((H'.put c (.cells (vs.set (hashN key % bs.length) v') 1)).put p (.cells [.sl c 0 bs.length 1, .sl co 0 os.length 1, .int .i64 (.ofNat moved), .int .i64 (.ofNat M'.length)] 1)) := hp''.stp1 s2.ok (.cells [.sl c 0 bs.length 1, .sl co 0 os.length 1, .int .i64 (.ofNat moved), .int .i64 (.ofNat M'.length)] 1)
    have ho' := ((hao.step s (fun i => tg_ne (.inl (by omega)))).step s2 (fun i => tg_ne (.inl (by omega)))).step s3 (fun i => tg_ne (.inl (by omega)))
    refine ⟨⟨c, vs.set (hashN key % bs.length) v', bs.set (hashN key % bs.length) b', _, os, moved, ?_, q1.step s3 (fun i => tg_ne (.inl (by rw [List.length_set]; omega))), .inr ⟨co, ws, rfl, h0, by rw [List.length_set]; exact hlt, ho'⟩, (hturn M' b' hb hpm hd).2 (by simp), by rw [List.length_set]; exact h8⟩, s1.trans ((s2.mono fun t e => by rw [e]).trans (s3.mono fun t e => by rw [e]))⟩
    rw [List.length_set]
    exact hp''.put _
end Go.Proofs.Ytihoblfmhighpaa
