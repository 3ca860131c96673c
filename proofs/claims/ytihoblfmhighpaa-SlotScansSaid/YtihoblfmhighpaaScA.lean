/- The store's keys; texts as bytes, written and read. Conditions: none. -/
import Derived.Test.YtihoblfmhighpaaSlG
import Derived.Test.YtihoblfmhighpaaSoG
import Derived.Test.YtihoblfmhighpaaScP
namespace Go.Proofs.Ytihoblfmhighpaa
open Go.Dp
set_option linter.unusedSimpArgs false
set_option linter.unusedVariables false
set_option maxHeartbeats 400000
set_option maxRecDepth 8000
attribute [local irreducible] Ex.thnK Ex.inK Ret

theorem neqn (k : IntKind) (a b : Nat) : bin .neq (.int k (.ofNat a)) (.int k (.ofNat b)) = some (.bool (!decide (a = b))) := by
  rw [neqi]
  by_cases h : a = b
  · subst h; simp
  · rw [decide_eq_false (fun e => h (Int.ofNat.inj e)), decide_eq_false h]
theorem strs_app (a b : List (List UInt8)) : strs (a ++ b) = strs a ++ strs b := List.map_append

theorem Keys_ev (τ : Nat) (T : Tags) (H : Heap) (p : Nat) (st : St) (h : SH τ T H p st) (hf : st.Few) (t : Tg) (ht : ¬ Ot τ t) (Q : AV → Heap → Prop)
    (hQ : ∀ v T' H', Stp (fun u => u = t) T H T' H' → RT T' H' t 0 1 v (strs (st.l.map (·.key))) → Q v H') : Eo lib n_item_Store_Keys [.ptr p 0] H Q := by
  refine Eo.ok fun hOk => ?_
  refine Eo.code at_item_Store_Keys rfl ?_
  obtain ⟨ps, pc, c, cn, vs, ns, S⟩ := h
  have hg := S.head.1
  have hok := S.ok
  have hN := hf.n
  have h0n : 0 < st.n := hok.lt 0 (List.mem_cons_self ..)
  obtain ⟨cl, hc, hcl, hat⟩ := ndAt S.row S.ring.ln h0n
  have hgc := hc.1
  obtain ⟨b6, _, _, _, _, _, d4, _⟩ := hat 0 h0n
  have b4 : 0 * 6 + 4 + 1 ≤ cl.length := by omega
  have hz := S.ring.chn.zero.1
  have d4 : (cl.drop 4).take 1 = [.int .i64 (.ofNat (nxt ns 0))] := d4
  have b4' : 4 + 1 ≤ cl.length := by omega
  have b5 : 5 ≤ cl.length := by omega
  iterate 2 repeat (first | ((first | apply Xk.sAny | apply Xk.tAny); (case hok => rfl); (case h => intro C hC; simp (disch := omega) only [w1, ↓reduceIte, Nat.reduceEqDiff, Nat.reduceLeDiff, Nat.reduceAdd, Nat.reduceSub, hg, h0n, hgc, b4', b5, d4]; with_reducible exact hC); refine gc ?_) | refine gm ?_)
  refine Xk.iter [0, 3, 4] (fun m k G => ∃ pre post v T', m = post.length ∧ st.l = pre ++ post ∧ Stp (fun u => u = t) T H T' G ∧ RT T' G t 0 1 v (strs (pre.map (·.key))) ∧ k = [(0, .ptr p 0), (3, v), (4, .int .i64 (.ofNat ((post.map (·.node)).headD 0)))]) rfl
    ⟨_, [], st.l, .nils, T, rfl, rfl, Stp.refl hOk, RT.nil, by rw [hz]; rfl⟩ ?_
  rintro m k G ⟨pre, post, v, T', rfl, hl, hst, hr, rfl⟩
  unfold l0_item_Store_Keys
  cases post with
  | nil =>
    rw [List.append_nil] at hl
    have hne : (!decide ((0 : Nat) = 0)) = false := rfl
    show Xk lib _ _ [_, _, (4, .int .i64 (.ofNat 0))] _ _
    iterate 2 repeat (first | ((first | apply Xk.sAny | apply Xk.tAny); (case hok => rfl); (case h => intro C hC; simp (disch := omega) only [w1, ↓reduceIte, Nat.reduceEqDiff, Nat.reduceLeDiff, Nat.reduceAdd, Nat.reduceSub, neqn, hne]; with_reducible exact hC); refine gc ?_) | refine gm ?_)
    rw [hl] at hQ
    exact hQ v T' G hst hr
  | cons x post =>
    have hx : x ∈ st.l := by rw [hl]; exact List.mem_append_right _ (List.mem_cons_self ..)
    have hxn : x.node < st.n := hok.lt _ (List.mem_cons_of_mem _ (List.mem_append_left _ (List.mem_map_of_mem hx)))
    have hx0 : x.node ≠ 0 := fun e => by
      have := (List.nodup_cons.1 hok.nd).1
      exact this (List.mem_append_left _ (e ▸ List.mem_map_of_mem hx))
    have hne : (!decide (x.node = 0)) = true := by rw [decide_eq_false hx0]; rfl
    obtain ⟨b6, _, dk, _, _, _, d4, _⟩ := hat _ hxn
    obtain ⟨e1, _, _⟩ := S.ring.nd x hx
    rw [e1] at dk
    have hch := S.ring.chn
    rw [hl, List.map_append, List.map_cons] at hch
    have hnx := hch.at_.2.1
    rw [hnx] at d4
    have hgG := (S.head.step hst (fun h => ht (h ▸ ot0 ..))).1
    have hgcG := (hc.step hst (fun h => ht (h ▸ ot0 ..))).1
    have hlen := hf.l
    rw [hl, List.length_append, List.length_cons] at hlen
    obtain ⟨v2, G2, T2, f1, f2, f3⟩ := RT.push (bytes := 16) (w := 1) (row := [.str x.key]) hst.ok hr rfl rfl (by decide) (by rw [strs_len, List.length_map]; omega) (by rw [strs_len, List.length_map]; omega)
    have hst2 := hst.trans f2
    have hgG2 := (S.head.step hst2 (fun h => ht (h ▸ ot0 ..))).1
    have hgcG2 := (hc.step hst2 (fun h => ht (h ▸ ot0 ..))).1
    have b1 : x.node * 6 + 1 ≤ cl.length := by omega
    have b5' : x.node * 6 + 4 + 1 ≤ cl.length := by omega
    obtain ⟨q1, q2⟩ := hr.sc
    obtain ⟨q3, q4⟩ := f3.sc
    show Xk lib _ _ [_, _, (4, .int .i64 (.ofNat x.node))] _ _
    have neX : ∀ {b : Nat} {y : Blk}, G.get b = some y → ∀ z, (G.new z).get b = some y := fun hb z => by rw [Heap.get_new_ne _ _ (Nat.ne_of_lt (Heap.lt_get hst.ok hb))]; exact hb
    repeat (first | ((first | apply Xk.sAny | apply Xk.tAny); (case hok => rfl); (case h => intro C hC; simp (disch := omega) only [w1, ↓reduceIte, Nat.reduceEqDiff, Nat.reduceLeDiff, Nat.reduceAdd, Nat.reduceSub, neqn, hne, hgG, hgcG, hxn, b1, dk, q1, q2, f1]; with_reducible exact hC); refine gc ?_) | refine gm ?_)
    iterate 2 repeat (first | ((first | apply Xk.sAny | apply Xk.tAny); (case hok => rfl); (case h => intro C hC; simp (disch := omega) only [w1, ↓reduceIte, Nat.reduceEqDiff, Nat.reduceLeDiff, Nat.reduceAdd, Nat.reduceSub, neqn, hne, hgG, hgcG, hxn, b1, dk, q1, q2, f1, hgG2, hgcG2, b5', d4]; with_reducible exact hC); refine gc ?_) | refine gm ?_)
    refine ⟨rfl, _, Nat.lt_succ_self _, pre ++ [x], post, v2, T2, rfl, by rw [hl]; simp, hst2, ?_, rfl⟩
    rw [List.map_append, strs_app]
    exact f3

def txB (k : List UInt8) : List UInt8 := vi (zig k.length) ++ k
def txsB (l : List (List UInt8)) : List UInt8 := l.flatMap txB
theorem txsB_app (a b : List (List UInt8)) : txsB (a ++ b) = txsB a ++ txsB b := List.flatMap_append
theorem Text_ev (T : Tags) (H : Heap) (t : Tg) (v : AV) (s k : List UInt8) (hv : Sl H 1 v (ofBytes s)) (hs : s.length ≤ 1000000) (hk : k.length ≤ 1000000) (Q : AV → Heap → Prop)
    (hQ : ∀ v' T' H', Stp (fun u => u = t) T H T' H' → RT T' H' t 2 1 v' (ofBytes (s ++ txB k)) → Q v' H') : Eo lib n_pack_Text [v, .str k] H Q := by
  refine Eo.ok fun hOk => ?_
  refine Eo.code at_pack_Text rfl ?_
  iterate 2 repeat (first | ((first | apply Xk.sAny | apply Xk.tAny); (case hok => rfl); (case h => intro C hC; simp (disch := omega) only [w1, ↓reduceIte, Nat.reduceEqDiff, Nat.reduceLeDiff, Nat.reduceAdd, Nat.reduceSub]; with_reducible exact hC); refine gc ?_) | refine gm ?_)
  refine grown_ev T H t v s (10 + k.length) hv (by omega) _ fun v1 T1 H1 s1 r1 => ?_
  repeat (first | ((first | apply Xk.sAny | apply Xk.tAny); (case hok => rfl); (case h => intro C hC; simp (disch := omega) only [w1, ↓reduceIte, Nat.reduceEqDiff, Nat.reduceLeDiff, Nat.reduceAdd, Nat.reduceSub]; with_reducible exact hC); refine gc ?_) | refine gm ?_)
  refine num_ev T1 H1 t v1 s (.ofNat k.length) r1 (by omega) (by show (-9223372036854775808 : Int) ≤ ((k.length : Nat) : Int); omega) (by show ((k.length : Nat) : Int) ≤ _; omega) _ fun v2 T2 H2 s2 r2 => ?_
  have hvl := vi_len10 (u := zig (Int.ofNat k.length)) (zig_lt (by show (-9223372036854775808 : Int) ≤ ((k.length : Nat) : Int); omega) (by show ((k.length : Nat) : Int) ≤ _; omega))
  have hsrc : srcCells H2 1 (.str k) = some (k.length, ofBytes k) := rfl
  obtain ⟨v3, H3, T3, f1, f2, f3⟩ := RT.app (bytes := 1) s2.ok r2 hsrc (by rw [pk_len, Nat.mul_one]) (by decide) (by rw [pk_len, List.length_append]; omega) (by rw [pk_len, List.length_append]; omega)
  iterate 2 repeat (first | ((first | apply Xk.sAny | apply Xk.tAny); (case hok => rfl); (case h => intro C hC; simp (disch := omega) only [w1, ↓reduceIte, Nat.reduceEqDiff, Nat.reduceLeDiff, Nat.reduceAdd, Nat.reduceSub, f1]; with_reducible exact hC); refine gc ?_) | refine gm ?_)
  refine hQ v3 T3 H3 ((s1.trans s2).trans f2) ?_
  have e : s ++ txB k = s ++ vi (zig (Int.ofNat k.length)) ++ k := by unfold txB; rw [List.append_assoc]; rfl
  rw [e, pk_app]
  exact f3

theorem rText_ev (T : Tags) (H : Heap) (tr tb : Tg) (hne : tr ≠ tb) (p : Nat) (pre k post : List UInt8) (most : Nat) (hr : Rdr T H tr tb p (pre ++ (txB k ++ post)) (pre.length, 0)) (hb : (pre ++ (txB k ++ post)).length ≤ 1000000) (hk : k.length ≤ most) (hm : most ≤ 1000000) (Q : AV → Heap → Prop)
    (hQ : ∀ H', Stp (fun u => u = tr) T H T H' → Rdr T H' tr tb p (pre ++ (txB k ++ post)) ((pre ++ txB k).length, 0) → Q (.str k) H') : Eo lib n_pack_Reader_Text [.ptr p 0, .int .i64 (.ofNat most)] H Q := by
  refine Eo.ok fun hOk => ?_
  refine Eo.code at_pack_Reader_Text rfl ?_
  have hlen : (pre ++ (txB k ++ post)).length = pre.length + (vi (zig (Int.ofNat k.length))).length + k.length + post.length := by
    unfold txB
    simp only [List.length_append]
    show _ + ((vi (zig ((k.length : Nat) : Int))).length + _ + _) = _
    have : zig ((k.length : Nat) : Int) = zig (Int.ofNat k.length) := rfl
    rw [this]
    omega
  have hrn : rn (pre ++ (txB k ++ post)) (pre.length, 0) = ((pre.length + (vi (zig (Int.ofNat k.length))).length, 0), Int.ofNat k.length) := by
    have := rn_vi pre (k ++ post) (n := Int.ofNat k.length) (by show (-9223372036854775808 : Int) ≤ ((k.length : Nat) : Int); omega) (by show ((k.length : Nat) : Int) ≤ _; omega)
    rw [← List.append_assoc] at this
    unfold txB
    rw [← this]
    simp only [List.append_assoc]
    rfl
  have hsub : (pre ++ (txB k ++ post)).drop (pre.length + (vi (zig (Int.ofNat k.length))).length) = k ++ post := by
    rw [← List.drop_drop, List.drop_left]
    unfold txB
    rw [List.append_assoc]
    exact List.drop_left
  have hend : (pre ++ txB k).length = pre.length + (vi (zig (Int.ofNat k.length))).length + k.length := by
    unfold txB
    simp only [List.length_append]
    show _ + ((vi (zig ((k.length : Nat) : Int))).length + _) = _
    have : zig ((k.length : Nat) : Int) = zig (Int.ofNat k.length) := rfl
    rw [this]
    omega
  rw [hend] at hQ
  generalize pre ++ (txB k ++ post) = b at *
  generalize pre.length = a at *
  generalize (vi (zig (Int.ofNat k.length))).length = d at *
  clear hend
  have hr0 := hr
  obtain ⟨v, ha, hrow⟩ := hr
  have hg := ha.1
  iterate 2 repeat (first | ((first | apply Xk.sAny | apply Xk.tAny); (case hok => rfl); (case h => intro C hC; simp (disch := omega) only [w1, ↓reduceIte, Nat.reduceEqDiff, Nat.reduceLeDiff, Nat.reduceAdd, Nat.reduceSub, hg]; with_reducible exact hC); refine gc ?_) | refine gm ?_)
  have cnt : ∀ Q : AV → Heap → Prop, (∀ H', Stp (fun u => u = tr) T H T H' → Rdr T H' tr tb p b (a + d, 0) → Q (.int .i64 (.ofNat k.length)) H') → Eo lib n_pack_Reader_count [.ptr p 0, .int .i64 (.ofNat most)] H Q := by
    intro Q hQ
    refine Eo.code at_pack_Reader_count rfl ?_
    iterate 2 repeat (first | ((first | apply Xk.sAny | apply Xk.tAny); (case hok => rfl); (case h => intro C hC; simp (disch := omega) only [w1, ↓reduceIte, Nat.reduceEqDiff, Nat.reduceLeDiff, Nat.reduceAdd, Nat.reduceSub, hg]; with_reducible exact hC); refine gc ?_) | refine gm ?_)
    refine rNum_ev T H tr tb hne p b (a, 0) hr0 (by omega) (by show a ≤ _; omega) _ fun H1 s1 r1 => ?_
    rw [hrn] at r1 ⊢
    obtain ⟨v1, ha1, hrow1⟩ := r1
    have hg1 := ha1.1
    have hg1 : H1.get p = some (.cells [v1, .int .i64 (.ofNat (a + d)), .int .i64 (.ofNat 0)] 1) := hg1
    have c1 : ¬ most < k.length := by omega
    show Xk lib _ _ (kput _ _ (.int .i64 (.ofNat k.length))) H1 _
    iterate 3 repeat (first | ((first | apply Xk.sAny | apply Xk.tAny); (case hok => rfl); (case h => intro C hC; simp (disch := omega) only [w1, ↓reduceIte, Nat.reduceEqDiff, Nat.reduceLeDiff, Nat.reduceAdd, Nat.reduceSub, hg1, c1, Nat.not_lt_zero]; with_reducible exact hC); refine gc ?_) | refine gm ?_)
    exact hQ H1 s1 ⟨v1, ha1, hrow1⟩
  refine cnt _ fun H1 s1 r1 => ?_
  obtain ⟨v1, ha1, hrow1⟩ := r1
  have hg1 : H1.get p = some (.cells [v1, .int .i64 (.ofNat (a + d)), .int .i64 (.ofNat 0)] 1) := ha1.1
  obtain ⟨k1, k2, k3⟩ := rt_len hrow1
  have c1 : ¬ b.length - (a + d) < k.length := by omega
  have c2 : a + d ≤ b.length := by omega
  have c3 : a + d + k.length ≤ b.length := by omega
  have hfin : ∀ v2, Q (.str k) (H1.put p (.cells [v1, .int .i64 (.ofNat (a + d + k.length)), v2] 1)) → True := fun _ _ => trivial
  have s2 := ha1.stp1 s1.ok (.cells [v1, .int .i64 (.ofNat (a + d + k.length)), .int .i64 (.ofNat 0)] 1)
  have hQ2 := hQ _ (s1.trans s2) ⟨v1, ha1.put _, hrow1.step s2 (fun h => hne h.symm)⟩
  rcases hrow1 with ⟨rfl, h2⟩ | ⟨c, len, l, rfl, h2, h3, h4, h5, h6⟩
  · have hb0 : b.length = 0 := by rw [← pk_len, h2]; rfl
    have e1 : a + d = 0 := by omega
    have hk0 : k = [] := List.eq_nil_of_length_eq_zero (by omega)
    subst hk0
    rw [e1] at hg1 hQ2
    have hb2 : rB2s H1 .nils = some (.str []) := rfl
    iterate 3 repeat (first | ((first | apply Xk.sAny | apply Xk.tAny); (case hok => rfl); (case h => intro C hC; simp (disch := omega) only [w1, ↓reduceIte, Nat.reduceEqDiff, Nat.reduceLeDiff, Nat.reduceAdd, Nat.reduceSub, hg1, k1, k2, k3, hb0, hb2, Nat.not_lt_zero]; with_reducible exact hC); refine gc ?_) | refine gm ?_)
    exact hQ2
  · rw [pk_len, Nat.mul_one] at h2
    subst h2
    rw [pk_len] at h4 h5
    have c4 : a + d + k.length ≤ l.length := by omega
    have c5 : a + d ≤ a + d + k.length := by omega
    have e3 : a + d + k.length - (a + d) = k.length := by omega
    have e4 : (l.drop (a + d)).take k.length = ofBytes k := by
      have e5 : (l.take b.length).drop (a + d) = ofBytes (k ++ post) := by
        rw [h5, ← hsub]
        exact List.map_drop.symm
      have e6 : ((l.take b.length).drop (a + d)).take k.length = ofBytes k := by
        rw [e5, pk_app]
        exact List.take_left' (pk_len k)
      rw [← e6, List.drop_take, List.take_take, Nat.min_eq_left (by omega)]
    have hx2 : rB2s H1 (.sl c (a + d) k.length 1) = some (.str k) := by
      show (bif Nat.beq 1 1 then strOf (H1.ld c (a + d) k.length) else none) = _
      rw [Heap.ld_of h3 (by omega), e4, pk_strOf]
      rfl
    iterate 3 repeat (first | ((first | apply Xk.sAny | apply Xk.tAny); (case hok => rfl); (case h => intro C hC; simp (disch := omega) only [w1, ↓reduceIte, Nat.reduceEqDiff, Nat.reduceLeDiff, Nat.reduceAdd, Nat.reduceSub, hg1, k1, k2, k3, c1, c2, c3, c4, c5, e3, h3, hx2]; with_reducible exact hC); refine gc ?_) | refine gm ?_)
    exact hQ2
theorem rWrong_ev (T : Tags) (H : Heap) (tr tb : Tg) (p : Nat) (b : List UInt8) (s : Nat × Nat) (hr : Rdr T H tr tb p b s) (Q : AV → Heap → Prop) (hQ : Q (.int .i64 (.ofNat s.2)) H) : Eo lib n_pack_Reader_Wrong [.ptr p 0] H Q := by
  refine Eo.code at_pack_Reader_Wrong rfl ?_
  obtain ⟨v, ha, _⟩ := hr
  have hg := ha.1
  iterate 2 repeat (first | ((first | apply Xk.sAny | apply Xk.tAny); (case hok => rfl); (case h => intro C hC; simp (disch := omega) only [w1, ↓reduceIte, Nat.reduceEqDiff, Nat.reduceLeDiff, Nat.reduceAdd, Nat.reduceSub, hg]; with_reducible exact hC); refine gc ?_) | refine gm ?_)
  exact hQ
end Go.Proofs.Ytihoblfmhighpaa
