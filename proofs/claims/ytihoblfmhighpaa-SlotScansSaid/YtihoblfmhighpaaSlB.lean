/- The slot in a heap; what stands. Conditions: none. -/
import Derived.Test.YtihoblfmhighpaaItF
import Derived.Test.YtihoblfmhighpaaSlP
import Derived.Test.YtihoblfmhighpaaPkD
import Derived.Test.YtihoblfmhighpaaAkB
namespace Go.Proofs.Ytihoblfmhighpaa
open Go.Dp
set_option linter.unusedSimpArgs false
set_option linter.unusedVariables false
set_option maxHeartbeats 400000
set_option maxRecDepth 8000
attribute [local irreducible] Ex.thnK Ex.inK Ret

def nameB (f : Fr) : List UInt8 := if f.role = 1 then 109 :: f.key else 112 :: (vi (zig f.ver) ++ f.key)
theorem nameB_len (f : Fr) (h1 : -9223372036854775808 ≤ f.ver) (h2 : f.ver ≤ 9223372036854775807) : (nameB f).length ≤ f.key.length + 11 := by
  unfold nameB
  have := vi_len10 (zig_lt h1 h2)
  split
  · rw [List.length_cons]; omega
  · rw [List.length_cons, List.length_append]; omega

theorem add_str (a b : List UInt8) (h : a.length + b.length ≤ 4611686018427387904) : bin .add (.str a) (.str b) = some (.str (a ++ b)) := by
  show (bif Nat.ble (a.length + b.length) 4611686018427387904 then some (AV.str (a ++ b)) else none) = _
  rw [nble, decide_eq_true h]
  rfl
theorem mark_of {H : Heap} {b o len sz : Nat} {l : List AV} (h : H.get b = some (.cells l 3)) : eMark H (.sl b o len sz) = some (.sl b o len sz, H) := by
  simp only [eMark, h]
  rfl

theorem name_ev (μ : Nat) (T : Tags) (H : Heap) (f : Fr) (h1 : -9223372036854775808 ≤ f.ver) (h2 : f.ver ≤ 9223372036854775807) (hk : f.key.length ≤ 1000000) (Q : AV → Heap → Prop)
    (hQ : ∀ T' H', Stp (fun u => u.1 = μ) T H T' H' → Q (.str (nameB f)) H') : Eo lib n_slot_name [.agg f.cells] H Q := by
  refine Eo.ok fun hOk => ?_
  refine Eo.code at_slot_name rfl ?_
  have hbx := box_fr f
  have hf : f.cells = [.int .i64 f.kind, .int .i64 f.slot, .int .i64 f.inc, .int .i64 f.rid, .int .i64 f.floor, .int .i64 f.role, .str f.key, .int .i64 f.ver, .str f.data] := rfl
  obtain ⟨T1, s1, a1⟩ := new1 (T := T) hOk (μ, 0, 0) (.cells f.cells 1)
  by_cases c : f.role = 1
  · have c' : (f.role = Int.ofNat 1) = True := eq_true c
    have hn : nameB f = 109 :: f.key := if_pos c
    rw [hf] at hbx a1 s1
    rw [hf]
    have hadd := add_str [109] f.key (by simp; omega)
    iterate 2 repeat (first | ((first | apply Xk.sAny | apply Xk.tAny); (case hok => rfl); (case h => intro C hC; simp (disch := omega) only [w1, ↓reduceIte, Nat.reduceEqDiff, Nat.reduceLeDiff, Nat.reduceAdd, Nat.reduceSub, hbx, c', hadd]; with_reducible exact hC); refine gc ?_) | refine gm ?_)
    rw [hn] at hQ
    exact hQ _ _ (s1.mono fun _ h => h.elim)
  · have c' : (f.role = Int.ofNat 1) = False := eq_false c
    have hn : nameB f = 112 :: (vi (zig f.ver) ++ f.key) := if_neg c
    rw [hn] at hQ
    obtain ⟨T2, s2, a2, b2⟩ := new2 (T := T) hOk (μ, 0, 0) (μ, 0, 1) (.cells f.cells 1) (.cells [.int .u8 (.ofNat 112)] 3)
    rw [hf] at hbx a2 b2 s2
    rw [hf]
    have hmk := mark_of (o := 0) (len := 1) (sz := 1) b2.1
    iterate 2 repeat (first | ((first | apply Xk.sAny | apply Xk.tAny); (case hok => rfl); (case h => intro C hC; simp (disch := omega) only [w1, ↓reduceIte, Nat.reduceEqDiff, Nat.reduceLeDiff, Nat.reduceAdd, Nat.reduceSub, hbx, c', hmk]; with_reducible exact hC); refine gc ?_) | refine gm ?_)
    have hsl : Sl ((H.new (.cells [.int .i64 f.kind, .int .i64 f.slot, .int .i64 f.inc, .int .i64 f.rid, .int .i64 f.floor, .int .i64 f.role, .str f.key, .int .i64 f.ver, .str f.data] 1)).new (.cells [.int .u8 (.ofNat 112)] 3)) 1 (.sl (H.next + 1) 0 1 1) (ofBytes [112]) :=
      .inr ⟨_, 0, 1, [.int .u8 (.ofNat 112)], 3, [], rfl, rfl, b2.1, Nat.zero_le _, rfl⟩
    refine Num_ev T2 _ (μ, 1, 0) _ [112] f.ver hsl (by decide) h1 h2 _ fun v' T3 H3 s3 hr => ?_
    have a3 := a2.step s3 (tg3 (by decide))
    have hg3 := a3.1
    have hstr := rt_str hr
    obtain ⟨q1, q2⟩ := hr.sc
    have hl10 := vi_len10 (zig_lt h1 h2)
    have hadd := add_str (112 :: vi (zig f.ver)) f.key (by rw [List.length_cons]; omega)
    have hstr : rB2s H3 v' = some (.str (112 :: vi (zig f.ver))) := hstr
    iterate 2 repeat (first | ((first | apply Xk.sAny | apply Xk.tAny); (case hok => rfl); (case h => intro C hC; simp (disch := omega) only [w1, ↓reduceIte, Nat.reduceEqDiff, Nat.reduceLeDiff, Nat.reduceAdd, Nat.reduceSub, hg3, hstr, q1, q2, hadd]; with_reducible exact hC); refine gc ?_) | refine gm ?_)
    exact hQ T3 H3 ((s2.mono fun _ h => h.elim).trans (s3.mono fun u h => by rw [h]))
end Go.Proofs.Ytihoblfmhighpaa
namespace Go.Proofs.Ytihoblfmhighpaa
open Go.Dp
set_option linter.unusedSimpArgs false
set_option linter.unusedVariables false
set_option maxHeartbeats 400000
set_option maxRecDepth 8000
attribute [local irreducible] Ex.thnK Ex.inK Ret

structure Dd where
  rid : Int
  f : Fr
def Dd.cells (d : Dd) : List AV := .int .i64 d.rid :: d.f.cells
def noDd : Dd := ⟨.ofNat 0, noFr⟩
structure Sw where
  id : Int
  a : Nat
  b : Nat
  on : Bool
  inc : Int
  floor : Int
  st : St
  done : List Dd
structure SWo (κ : Nat) (T : Tags) (H : Heap) (p : Nat) (s : Sw) (ps : Nat) (vd : AV) : Prop where
  head : At T H (κ, 0, 0) p (.cells [.int .i64 s.id, .int .i64 (.ofNat s.a), .int .i64 (.ofNat s.b), .bool s.on, .int .i64 s.inc, .int .i64 s.floor, .ptr ps 0, vd] 1)
  store : SH (κ + 1) T H ps s.st
  row : RT T H (κ, 1, 0) 0 10 vd (s.done.flatMap Dd.cells)
def SW (κ : Nat) (T : Tags) (H : Heap) (p : Nat) (s : Sw) : Prop := ∃ ps vd, SWo κ T H p s ps vd
abbrev Ok4 (κ : Nat) : Tg → Prop := fun u => κ ≤ u.1 ∧ u.1 ≤ κ + 4
theorem SWo.step {κ : Nat} {O : Tg → Prop} {T T' : Tags} {H H' : Heap} {p : Nat} {s : Sw} {ps : Nat} {vd : AV} (h : SWo κ T H p s ps vd) (st : Stp O T H T' H') (h1 : ¬ O (κ, 0, 0)) (h2 : ¬ O (κ, 1, 0)) (h3 : ∀ t, Ot (κ + 1) t → ¬ O t) : SWo κ T' H' p s ps vd :=
  ⟨h.head.step st h1, h.store.step st h3, h.row.step st h2⟩
theorem SW.step {κ : Nat} {O : Tg → Prop} {T T' : Tags} {H H' : Heap} {p : Nat} {s : Sw} (h : SW κ T H p s) (st : Stp O T H T' H') (ho : ∀ t, Ok4 κ t → ¬ O t) : SW κ T' H' p s := by
  obtain ⟨ps, vd, h⟩ := h
  exact ⟨ps, vd, h.step st (ho _ ⟨Nat.le_refl _, Nat.le_add_right _ _⟩) (ho _ ⟨Nat.le_refl _, Nat.le_add_right _ _⟩) (fun t ht => ho t ⟨by have := ht.1; omega, by have := ht.2; omega⟩)⟩
theorem k4 {κ : Nat} {u : Tg} (h : u.1 = κ + 4) : Ok4 κ u := ⟨by omega, by omega⟩
theorem k3 {κ : Nat} {u : Tg} (h : Ot (κ + 1) u) : Ok4 κ u := ⟨by have := h.1; omega, by have := h.2; omega⟩
abbrev O5 (κ : Nat) : Tg → Prop := fun u => κ + 1 ≤ u.1 ∧ u.1 ≤ κ + 4
theorem k4' {κ : Nat} {u : Tg} (h : u.1 = κ + 4) : O5 κ u := ⟨by omega, by omega⟩
theorem k3' {κ : Nat} {u : Tg} (h : Ot (κ + 1) u) : O5 κ u := ⟨h.1, by have := h.2; omega⟩
theorem k0 (κ a b : Nat) : Ok4 κ (κ, a, b) := ⟨Nat.le_refl _, Nat.le_add_right _ _⟩
theorem no4 {κ a b : Nat} : ¬ ((κ, a, b) : Tg).1 = κ + 4 := by dsimp only; omega
theorem noT {κ a b : Nat} : ¬ Ot (κ + 1) (κ, a, b) := by rintro ⟨h, _⟩; dsimp only at h; omega
theorem noT4 {κ : Nat} {t : Tg} (h : Ot (κ + 1) t) : ¬ t.1 = κ + 4 := by have := h.2; omega
theorem noT0 {κ a b : Nat} {t : Tg} (h : Ot (κ + 1) t) : ¬ t = (κ, a, b) := by rintro rfl; exact noT h
def TextOk (t : List UInt8) : Prop := ∃ v d, t = vi (zig v) ++ d ∧ -9223372036854775808 ≤ v ∧ v ≤ 9223372036854775807
structure Fr.Ok (f : Fr) : Prop where
  v1 : -9223372036854775808 ≤ f.ver
  v2 : f.ver ≤ 9223372036854775807
  ky : f.key.length ≤ 10000
  dt : f.data.length ≤ 10000

theorem rAt_ev (T : Tags) (H : Heap) (tr tb : Tg) (p : Nat) (b : List UInt8) (s : Nat × Nat) (hr : Rdr T H tr tb p b s) (Q : AV → Heap → Prop) (hQ : Q (.int .i64 (.ofNat s.1)) H) : Eo lib n_pack_Reader_At [.ptr p 0] H Q := by
  refine Eo.ok fun hOk => ?_
  refine Eo.code at_pack_Reader_At rfl ?_
  obtain ⟨v, ha, _⟩ := hr
  have hg := ha.1
  iterate 2 repeat (first | ((first | apply Xk.sAny | apply Xk.tAny); (case hok => rfl); (case h => intro C hC; simp (disch := omega) only [w1, ↓reduceIte, Nat.reduceEqDiff, Nat.reduceLeDiff, Nat.reduceAdd, Nat.reduceSub, hg]; with_reducible exact hC); refine gc ?_) | refine gm ?_)
  exact hQ

theorem stands_ev (κ : Nat) (T : Tags) (H : Heap) (p : Nat) (s : Sw) (h : SW κ T H p s) (hf : s.st.Few) (ht : ∀ x ∈ s.st.l, TextOk x.data) (f : Fr) (hfo : f.Ok) (Q : AV → Heap → Prop)
    (hno : (∀ x ∈ s.st.l, x.key ≠ nameB f) → ∀ T' H', Stp (O5 κ) T H T' H' → SW κ T' H' p s → Q (.tup [.int .i64 (.ofNat 0), .str [], .bool false]) H')
    (hyes : ∀ pre x post v d, s.st.l = pre ++ x :: post → x.key = nameB f → x.data = vi (zig v) ++ d → -9223372036854775808 ≤ v → v ≤ 9223372036854775807 → ∀ T' H', Stp (O5 κ) T H T' H' → SW κ T' H' p { s with st := s.st.touch pre post x } → Q (.tup [.int .i64 v, .str d, .bool true]) H') :
    Eo lib n_slot_Slot_stands [.ptr p 0, .agg f.cells] H Q := by
  refine Eo.ok fun hOk => ?_
  refine Eo.code at_slot_Slot_stands rfl ?_
  obtain ⟨ps, vd, S⟩ := h
  have hbx := box_fr f
  have hfc : f.cells = [.int .i64 f.kind, .int .i64 f.slot, .int .i64 f.inc, .int .i64 f.rid, .int .i64 f.floor, .int .i64 f.role, .str f.key, .int .i64 f.ver, .str f.data] := rfl
  obtain ⟨T1, s1, a1⟩ := new1 (T := T) hOk (κ, 9, 0) (.cells f.cells 1)
  have S1 := S.step s1 (fun h => h) (fun h => h) (fun _ _ h => h)
  rw [hfc] at hbx a1 s1 S1
  rw [hfc]
  have hg1 := S1.head.1
  iterate 2 repeat (first | ((first | apply Xk.sAny | apply Xk.tAny); (case hok => rfl); (case h => intro C hC; simp (disch := omega) only [w1, ↓reduceIte, Nat.reduceEqDiff, Nat.reduceLeDiff, Nat.reduceAdd, Nat.reduceSub, hbx, hg1]; with_reducible exact hC); refine gc ?_) | refine gm ?_)
  have hst1 : Stp (O5 κ) T H T1 _ := s1.mono fun _ h => h.elim
  generalize H.new (.cells [.int .i64 f.kind, .int .i64 f.slot, .int .i64 f.inc, .int .i64 f.rid, .int .i64 f.floor, .int .i64 f.role, .str f.key, .int .i64 f.ver, .str f.data] 1) = H1 at s1 a1 S1 hg1 hst1 ⊢
  generalize H.next = pf at a1 ⊢
  refine name_ev (κ + 4) T1 H1 f hfo.v1 hfo.v2 (by have := hfo.ky; omega) _ fun T2 H2 s2 => ?_
  have S2 := S1.step s2 no4 no4 (fun t ht => noT4 ht)
  have hst2 := hst1.trans (s2.mono fun u h => k4' h)
  have hg2 := S2.head.1
  have hnl := nameB_len f hfo.v1 hfo.v2
  have hky := hfo.ky
  iterate 2 repeat (first | ((first | apply Xk.sAny | apply Xk.tAny); (case hok => rfl); (case h => intro C hC; simp (disch := omega) only [w1, ↓reduceIte, Nat.reduceEqDiff, Nat.reduceLeDiff, Nat.reduceAdd, Nat.reduceSub, hg2]; with_reducible exact hC); refine gc ?_) | refine gm ?_)
  refine iGet_ev (κ + 1) T2 H2 ps s.st S2.store hf (nameB f) (by omega) _ (fun hn T3 H3 s3 S3 => ?_) (fun pre x post e hkx T3 H3 s3 S3 => ?_)
  · repeat (first | ((first | apply Xk.sAny | apply Xk.tAny); (case hok => rfl); (case h => intro C hC; simp (disch := omega) only [w1, ↓reduceIte, Nat.reduceEqDiff, Nat.reduceLeDiff, Nat.reduceAdd, Nat.reduceSub]; with_reducible exact hC); refine gc ?_) | refine gm ?_)
    repeat (first | ((first | apply Xk.sAny | apply Xk.tAny); (case hok => rfl); (case h => intro C hC; simp (disch := omega) only [w1, ↓reduceIte, Nat.reduceEqDiff, Nat.reduceLeDiff, Nat.reduceAdd, Nat.reduceSub]; with_reducible exact hC); refine gc ?_) | refine gm ?_)
    exact hno hn T3 H3 (hst2.trans (s3.mono fun u h => k3' h)) ⟨ps, vd, S2.head.step s3 noT, S3, S2.row.step s3 noT⟩
  · obtain ⟨v, d, hxd, hv1, hv2⟩ := ht x (by rw [e]; exact List.mem_append_right _ (List.mem_cons_self ..))
    have hdl := hf.dt x (by rw [e]; exact List.mem_append_right _ (List.mem_cons_self ..))
    have hsb : nS2b (.str x.data) = some (.cells (ofBytes x.data) 3, slTo x.data.length 1) := by
      unfold nS2b
      simp only [nble]
      rw [decide_eq_true (show x.data.length ≤ 35184372088832 by omega)]
      rfl
    obtain ⟨T4, s4, a4⟩ := new1 (T := T3) s3.ok (κ, 9, 1) (.cells (ofBytes x.data) 3)
    have hsl : Sl (H3.new (.cells (ofBytes x.data) 3)) 1 (.sl H3.next 0 x.data.length 1) (ofBytes x.data) := .inr ⟨_, 0, _, ofBytes x.data, 3, [], rfl, by rw [pk_len, Nat.mul_one], a4.1, Nat.zero_le _, by simp⟩
    iterate 2 repeat (first | ((first | apply Xk.sAny | apply Xk.tAny); (case hok => rfl); (case h => intro C hC; simp (disch := omega) only [w1, ↓reduceIte, Nat.reduceEqDiff, Nat.reduceLeDiff, Nat.reduceAdd, Nat.reduceSub, hsb]; with_reducible exact hC); refine gc ?_) | refine gm ?_)
    refine Read_ev T4 _ (κ + 4, 2, 0) (κ + 4, 3, 0) (tgn (.inl (by decide))) _ x.data hsl (by omega) _ fun pr T5 H5 s5 rd => ?_
    iterate 2 repeat (first | ((first | apply Xk.sAny | apply Xk.tAny); (case hok => rfl); (case h => intro C hC; simp (disch := omega) only [w1, ↓reduceIte, Nat.reduceEqDiff, Nat.reduceLeDiff, Nat.reduceAdd, Nat.reduceSub]; with_reducible exact hC); refine gc ?_) | refine gm ?_)
    refine rNum_ev T5 H5 (κ + 4, 2, 0) (κ + 4, 3, 0) (tgn (.inl (by decide))) pr x.data (0, 0) rd (by omega) (Nat.zero_le _) _ fun H6 s6 rd6 => ?_
    have hrn : rn x.data (0, 0) = (((vi (zig v)).length, 0), v) := by
      have h0 : rn (vi (zig v) ++ d) (0, 0) = ((0 + (vi (zig v)).length, 0), v) := rn_vi [] d hv1 hv2
      rw [← hxd, Nat.zero_add] at h0
      exact h0
    rw [hrn] at rd6
    rw [hrn]
    iterate 2 repeat (first | ((first | apply Xk.sAny | apply Xk.tAny); (case hok => rfl); (case h => intro C hC; simp (disch := omega) only [w1, ↓reduceIte, Nat.reduceEqDiff, Nat.reduceLeDiff, Nat.reduceAdd, Nat.reduceSub]; with_reducible exact hC); refine gc ?_) | refine gm ?_)
    refine rAt_ev T5 H6 _ _ pr x.data _ rd6 _ ?_
    have hvl : (vi (zig v)).length ≤ x.data.length := by rw [hxd, List.length_append]; omega
    have hdt : (x.data.drop (vi (zig v)).length).take (x.data.length - (vi (zig v)).length) = d := by
      rw [hxd, List.drop_left, List.length_append, Nat.add_sub_cancel_left, List.take_length]
    have hvd : ((vi (zig v)).length, 0).1 = (vi (zig v)).length := rfl
    generalize hvv : (vi (zig v)).length = vl at *
    iterate 2 repeat (first | ((first | apply Xk.sAny | apply Xk.tAny); (case hok => rfl); (case h => intro C hC; simp (disch := omega) only [w1, ↓reduceIte, Nat.reduceEqDiff, Nat.reduceLeDiff, Nat.reduceAdd, Nat.reduceSub, hvl, hdt]; with_reducible exact hC); refine gc ?_) | refine gm ?_)
    have hs4 : Stp (O5 κ) T3 H3 T5 H6 := ((s4.mono (P := O5 κ) fun _ h => h.elim).trans (s5.mono (P := O5 κ) fun u h => by rw [h]; exact k4' rfl)).trans (s6.mono (P := O5 κ) fun u h => by rw [h]; exact k4' rfl)
    have hs4' : Stp (fun u => u.1 = κ + 4) T3 H3 T5 H6 := ((s4.mono (P := fun u => u.1 = κ + 4) fun _ h => h.elim).trans (s5.mono (P := fun u => u.1 = κ + 4) fun u h => by rw [h])).trans (s6.mono (P := fun u => u.1 = κ + 4) fun u h => by rw [h])
    exact hyes pre x post v d e hkx hxd hv1 hv2 T5 H6 ((hst2.trans (s3.mono fun u h => k3' h)).trans hs4) ⟨ps, vd, (S2.head.step s3 noT).step hs4' no4, S3.step hs4' (fun t ht => noT4 ht), (S2.row.step s3 noT).step hs4' no4⟩
end Go.Proofs.Ytihoblfmhighpaa
