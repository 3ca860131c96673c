/- Rows of values and answers among a law's arguments: from what the row tells to the clean machine's first heap. Conditions: none. -/
import Derived.Test.YtkjmelfgopammaaDoorStT
import Derived.Test.YtkjmelfgopammaaDoorAnJ
import Derived.Deep.Slices
import Derived.OpenShut
namespace Go.Dp

/-- Many cells an element: memory that comes in. -/
theorem arg_rows {c : Cx} {ρ : Rho} {H : Heap} {W : World} (R : Rel c W.heap.size ρ H W) (hO : H.Ok) (hro : H.RO) {a : Addr} {len cap sz : Nat} {l : List AV} (hz : 0 < sz) (hspot : a.spot = none) (hl : l.length = len * sz) (hlc : len ≤ cap) {e : TypeId} {n : Nat} (hsh : W.shape? a.block = some (e, n))
    (hcell : ∀ i, i < cap * sz → ∃ v, W.cell? (a.add i) = some v ∧ ∀ x, l[i]? = some x → SRel c ρ x v) :
    ∃ ρ' H', Rel c W.heap.size ρ' H' W ∧ H'.Ok ∧ H'.RO ∧ Ext ρ ρ' ∧ HLe H H' ∧ Sl H' sz (.sl H.next 0 len sz) l ∧ SRel c ρ' (.sl H.next 0 len sz) (.slice (some a) len cap) := by
  obtain ⟨ab, off, sp⟩ := a
  simp only at hspot hsh
  subst hspot
  have hn : ρ H.next = none := by
    cases h : ρ H.next with
    | none => rfl
    | some q => have := R.dom _ _ h; omega
  unfold World.shape? at hsh
  obtain ⟨cs, e', fz, hh⟩ : ∃ cs e' fz, W.heap[ab]? = some (.cells cs e' fz) := by
    split at hsh
    · rename_i cs e' fz h
      exact ⟨cs, e', _, h⟩
    · cases hsh
  have hin : ab < W.heap.size := by
    rcases Nat.lt_or_ge ab W.heap.size with h | h
    · exact h
    · rw [Array.getElem?_eq_none h] at hh; cases hh
  have hlz : len * sz ≤ cap * sz := Nat.mul_le_mul_right _ hlc
  have hc' : ∀ i, i < cap * sz → ∃ v, cs[off + i]? = some v ∧ ∀ x, l[i]? = some x → SRel c ρ x v := by
    intro i hi
    obtain ⟨v, h1, h2⟩ := hcell i hi
    refine ⟨v, ?_, h2⟩
    rw [Addr.add_lit] at h1
    unfold World.cell? at h1
    simp only [hh] at h1
    simpa using h1
  have key : ∃ p : Pl, p.c = ab ∧ p.n = len * sz ∧ (off = p.s ∨ cap = 0) ∧ p.e = cap * sz - len * sz ∧ BlkRel c ρ p W (.cells l 0) := by
    by_cases h0 : cap = 0
    · have hl0 : l.length = 0 := by
        have : len = 0 := by omega
        rw [hl, this, Nat.zero_mul]
      refine ⟨⟨ab, 0, len * sz, cap * sz - len * sz⟩, rfl, rfl, .inr h0, rfl, hl, cs, e', fz, hh, by rw [h0]; simp; omega, fun i x hx => ?_, ⟨fun h => absurd rfl h, fun h => (by cases h), fun h => (by cases h)⟩⟩
      have := (List.getElem?_eq_some_iff.1 hx).1
      omega
    · have h1 : 0 < cap * sz := Nat.mul_pos (by omega) hz
      refine ⟨⟨ab, off, len * sz, cap * sz - len * sz⟩, rfl, rfl, .inl rfl, rfl, hl, cs, e', fz, hh, ?_, fun i x hx => ?_, ⟨fun h => absurd rfl h, fun h => (by cases h), fun h => (by cases h)⟩⟩
      · obtain ⟨v, h1, _⟩ := hc' (cap * sz - 1) (by omega)
        have := (Array.getElem?_eq_some_iff.1 h1).1
        simp only
        omega
      · have hi := (List.getElem?_eq_some_iff.1 hx).1
        obtain ⟨v, h1, h2⟩ := hc' i (by omega)
        exact ⟨v, h1, h2 x hx⟩
  obtain ⟨p, rfl, hpn, hps, hpe, hb⟩ := key
  refine ⟨ρ.at_ H.next p, H.new (.cells l 0), R.addArg hO hro hb hin, hO.new _, hro.new _, Rho.ext_at hn, HLe.new (hO _ (Nat.le_refl _)) _, ?_, ?_⟩
  · exact .inr ⟨H.next, 0, len, l, 0, [], rfl, by omega, Heap.get_new_self _ _, Nat.zero_le _, by simp⟩
  · exact ⟨p, off, cap, by simp [Rho.at_], rfl, hlc, by omega, by omega, by omega, by omega, by omega⟩

/-- What the row tells of a slice whose elements have many cells. -/
def ArgR (c : Cx) (sz : Nat) (W : World) (v : Value) (C : List AV → Prop) : Prop :=
  (v = .slice none 0 0 ∧ C []) ∨ ∃ (a : Addr) (len cap : Nat) (cs : List AV) (e : TypeId) (n : Nat), v = .slice (some a) len cap ∧ a.spot = none ∧ cs.length = len * sz ∧ len ≤ cap ∧ W.shape? a.block = some (e, n) ∧
    (∀ ρ i, i < cap * sz → ∃ x, W.cell? (a.add i) = some x ∧ ∀ y, cs[i]? = some y → SRel c ρ y x) ∧ C cs
theorem arg_r {c : Cx} {ρ : Rho} {H : Heap} {W : World} {sz : Nat} (R : Rel c W.heap.size ρ H W) (hO : H.Ok) (hro : H.RO) {v : Value} {C : List AV → Prop} (hz : 0 < sz) (h : ArgR c sz W v C) :
    ∃ ρ' H' av cs, Rel c W.heap.size ρ' H' W ∧ H'.Ok ∧ H'.RO ∧ Ext ρ ρ' ∧ HLe H H' ∧ Sl H' sz av cs ∧ (∀ ρ'', Ext ρ' ρ'' → SRel c ρ'' av v) ∧ VRel c ρ' av v ∧ C cs := by
  rcases h with ⟨rfl, h⟩ | ⟨a, len, cap, cs, e, n, rfl, h1, h2, h3, h4, h5, h6⟩
  · exact ⟨ρ, H, .nils, [], R, hO, hro, Ext.refl _, HLe.refl _, .inl ⟨rfl, rfl⟩, fun _ _ => rfl, by rw [VRel_nils], h⟩
  · obtain ⟨ρ', H', a1, a2, a3, a4, a5, a6, a7⟩ := arg_rows R hO hro hz h1 h2 h3 h4 (h5 ρ)
    refine ⟨ρ', H', _, cs, a1, a2, a3, a4, a5, a6, fun ρ'' hx => ?_, a7, h6⟩
    obtain ⟨p, off, cap', b1, b2⟩ := a7
    exact ⟨p, off, cap', hx _ _ b1, b2⟩
end Go.Dp

namespace Go.Proofs.YtkjmelfgopammaaDoor
open Go.Dp
set_option linter.unusedSimpArgs false
set_option linter.unusedVariables false
set_option maxRecDepth 8000

theorem rows_at : ∀ (l : List Fd) (i r : Nat), r < 4 → (rows l)[i * 4 + r]? = (l[i]?).bind fun f => f.cells[r]?
  | [], i, r, _ => rfl
  | a :: l, 0, r, h => by
    show (a.cells ++ rows l)[0 * 4 + r]? = a.cells[r]?
    rw [Nat.zero_mul, Nat.zero_add, List.getElem?_append_left h]
  | a :: l, i + 1, r, h => by
    show (a.cells ++ rows l)[(i + 1) * 4 + r]? = _
    have e : a.cells.length = 4 := rfl
    rw [List.getElem?_append_right (by omega), e, show (i + 1) * 4 + r - 4 = i * 4 + r by omega, rows_at l i r h]
    rfl

def FdOk (l : List Fd) : Prop := l.length < 9223372036854775808 ∧ ∀ f ∈ l, (f.flags < 9223372036854775808 ∧ f.cas < 9223372036854775808) ∧ f.key.length ≤ 281474976710656 ∧ f.val.length ≤ 281474976710656
def FdB (cs : List AV) : Prop := ∃ l : List Fd, cs = rows l ∧ FdOk l

theorem wt_cons {H : Type} {P : Program} {t : TypeId} {ts : List TypeId} {d : DataW H} {r : List (DataW H)} {p : Nat → Bool} (h : (DataW.weightsEach P (t :: ts) (d :: r)).all p = true) : (DataW.weights P t d).all p = true ∧ (DataW.weightsEach P ts r).all p = true := by
  simp only [DataW.weightsEach, List.all_append, Bool.and_eq_true] at h
  exact h
theorem wt_allOf {H : Type} {P : Program} {e : TypeId} {p : Nat → Bool} : ∀ {l : List (DataW H)}, (DataW.weightsAll P e l).all p = true → ∀ d ∈ l, (DataW.weights P e d).all p = true
  | a :: l, h, d, hd => by
    simp only [DataW.weightsAll, List.all_append, Bool.and_eq_true] at h
    rcases List.mem_cons.1 hd with rfl | hd
    · exact h.1
    · exact wt_allOf h.2 d hd

theorem open_founds {H : Type} {enc : TypeId × Value → H} {W : World} {base fuel : Nat} {v : Value} {x : DataW H × List MemPlace} (hv : Cell.okWide Tryd.prog W .any base 24 v) (h : DataW.trod enc Tryd.prog W 0 (fun _ => true) true fuel 24 [v] = some x)
    (hw : (DataW.weights Tryd.prog 24 x.1).all (fun n => decide (n ≤ reachBytes)) = true) : ArgR cx 4 W v FdB := by
  have c23 : Tryd.prog.cellsOf 23 = 4 := by kernel_rfl
  have c9 : Tryd.prog.cellsOf 9 = 1 := by kernel_rfl
  have c3 : Tryd.prog.cellsOf 3 = 1 := by kernel_rfl
  have hrb : reachBytes ≤ 281474976710656 := by decide
  rcases Go.Deep.open_slice Tryd.underlying24 h with ⟨h1, _⟩ | ⟨a, len, cap, m, n, D, Pl, h1, hb, hl, hm, hmm, hx, hcell⟩
  · obtain rfl : v = .slice none 0 0 := by simpa using h1
    exact .inl ⟨rfl, [], rfl, by decide, fun f hf => by cases hf⟩
  · obtain rfl : v = .slice (some a) len cap := by simpa using h1
    obtain rfl : m = cap := by simpa using hmm
    subst hx
    simp only [Cell.okWide, Tryd.underlying24, Cell.ok] at hv
    obtain ⟨_, _, _, hspot, row, nn, hsh, _⟩ := hv
    have each : ∀ i, i < m → ∃ q : ByteArray × Int × ByteArray × Int, W.cell? (a.add (i * 4 + 0)) = some (.string q.1) ∧ W.cell? (a.add (i * 4 + 1)) = some (.int .i64 q.2.1) ∧ W.cell? (a.add (i * 4 + 2)) = some (.string q.2.2.1) ∧ W.cell? (a.add (i * 4 + 3)) = some (.int .i64 q.2.2.2) ∧
        D i = .agg [.lit (.string q.1.data.toList), .lit (.int .i64 q.2.1), .lit (.string q.2.2.1.data.toList), .lit (.int .i64 q.2.2.2)] ∧ (Lit.int .i64 q.2.1).wf = true ∧ (Lit.int .i64 q.2.2.2).wf = true := by
      intro i hi
      obtain ⟨cs', g1, g2⟩ := hcell i hi
      rw [c23] at g1
      obtain ⟨_, hlen, hc⟩ := World.cells?_some g1
      obtain ⟨xs, k, hk, hxy, _, hxl, hf⟩ := DataW.trod_struct Tryd.underlying23 g2
      match xs, hxl, cs', hlen with
      | [y0, y1, y2, y3], _, [v0, v1, v2, v3], _ =>
        have f0 := hf 0 _ rfl
        have f1 := hf 1 _ rfl
        have f2 := hf 2 _ rfl
        have f3 := hf 3 _ rfl
        simp [c9, c3] at f0 f1 f2 f3
        have e0 := hc 0 (by omega)
        have e1 := hc 1 (by omega)
        have e2 := hc 2 (by omega)
        have e3 := hc 3 (by omega)
        rw [Go.Deep.add_add] at e0 e1 e2 e3
        obtain ⟨s0, q0, rfl, hs0⟩ := DataW.trod_string Tryd.underlying9 f0
        obtain ⟨z1, q1, rfl, hz1⟩ := DataW.trod_int Tryd.underlying3 f1
        obtain ⟨s2, q2, rfl, hs2⟩ := DataW.trod_string Tryd.underlying9 f2
        obtain ⟨z3, q3, rfl, hz3⟩ := DataW.trod_int Tryd.underlying3 f3
        simp only [List.cons.injEq, and_true] at q0 q1 q2 q3
        subst q0 q1 q2 q3
        simp only [Prod.mk.injEq] at hxy
        exact ⟨(s0, z1, s2, z3), by simpa using e0, by simpa using e1, by simpa using e2, by simpa using e3, by simpa using hxy.1, hz1, hz3⟩
    obtain ⟨q, hq⟩ := Go.Deep.choose_lt each
    have hfd : ∀ f ∈ (List.range len).map (fun i => (⟨(q i).1.data.toList, (q i).2.1, (q i).2.2.1.data.toList, (q i).2.2.2⟩ : Fd)), ∃ i, i < len ∧ f = ⟨(q i).1.data.toList, (q i).2.1, (q i).2.2.1.data.toList, (q i).2.2.2⟩ := by
      intro f hf
      obtain ⟨i, hi, rfl⟩ := List.mem_map.1 hf
      exact ⟨i, List.mem_range.1 hi, rfl⟩
    refine .inr ⟨a, len, m, rows ((List.range len).map fun i => ⟨(q i).1.data.toList, (q i).2.1, (q i).2.2.1.data.toList, (q i).2.2.2⟩), row, nn, rfl, hspot, by rw [rows_len, List.length_map, List.length_range], hl, hsh, fun ρ i hi => ?_, _, rfl, ?_, ?_⟩
    · have hj : i / 4 < m := by omega
      obtain ⟨e0, e1, e2, e3, _⟩ := hq (i / 4) hj
      have hi4 : i = i / 4 * 4 + i % 4 := by omega
      have hr : i % 4 < 4 := Nat.mod_lt _ (by decide)
      have hg := rows_at ((List.range len).map fun i => ⟨(q i).1.data.toList, (q i).2.1, (q i).2.2.1.data.toList, (q i).2.2.2⟩) (i / 4) (i % 4) hr
      rw [← hi4] at hg
      rw [hg]
      have hy : ∀ y, ((((List.range len).map fun i => (⟨(q i).1.data.toList, (q i).2.1, (q i).2.2.1.data.toList, (q i).2.2.2⟩ : Fd))[i / 4]?).bind fun f => f.cells[i % 4]?) = some y → (Fd.cells ⟨(q (i / 4)).1.data.toList, (q (i / 4)).2.1, (q (i / 4)).2.2.1.data.toList, (q (i / 4)).2.2.2⟩)[i % 4]? = some y := by
        intro y hy
        rw [List.getElem?_map] at hy
        cases hr : (List.range len)[i / 4]? with
        | none => rw [hr] at hy; cases hy
        | some j =>
          rw [hr] at hy
          obtain ⟨h2, rfl⟩ := List.getElem?_eq_some_iff.1 hr
          rw [List.getElem_range] at hy
          exact hy
      have : i % 4 = 0 ∨ i % 4 = 1 ∨ i % 4 = 2 ∨ i % 4 = 3 := by omega
      rcases this with r | r | r | r <;> rw [r] at hy hi4
      · refine ⟨_, by rw [hi4]; exact e0, fun y h => ?_⟩
        rw [r] at h
        cases hy y h
        exact ⟨_, rfl, rfl⟩
      · refine ⟨_, by rw [hi4]; exact e1, fun y h => ?_⟩
        rw [r] at h
        cases hy y h
        rfl
      · refine ⟨_, by rw [hi4]; exact e2, fun y h => ?_⟩
        rw [r] at h
        cases hy y h
        exact ⟨_, rfl, rfl⟩
      · refine ⟨_, by rw [hi4]; exact e3, fun y h => ?_⟩
        rw [r] at h
        cases hy y h
        rfl
    · rw [List.length_map, List.length_range]
      have : maxLen < 9223372036854775808 := by decide
      omega
    · intro f hf
      obtain ⟨i, hi, rfl⟩ := hfd f hf
      obtain ⟨_, _, _, _, eD, w1, w3⟩ := hq i (by omega)
      simp only [DataW.weights, Tryd.underlying24, List.all_cons, List.all_append, Bool.and_eq_true] at hw
      have hwd := wt_allOf hw.2.1 (D i) (List.mem_map.2 ⟨i, List.mem_range.2 hi, rfl⟩)
      rw [eD] at hwd
      simp only [DataW.weights, Tryd.underlying23, DataW.weightsEach, List.map_cons, List.map_nil, List.all_cons, List.all_append, List.all_nil, Bool.and_true, Bool.true_and, Bool.and_eq_true, decide_eq_true_eq] at hwd
      simp only [Lit.wf, Bool.and_eq_true, decide_eq_true_eq] at w1 w3
      have m1 : (q i).2.1 ≤ 9223372036854775807 := w1.2
      have m3 : (q i).2.2.2 ≤ 9223372036854775807 := w3.2
      exact ⟨⟨by show (q i).2.1 < _; omega, by show (q i).2.2.2 < _; omega⟩, Nat.le_trans hwd.1 hrb, Nat.le_trans hwd.2 hrb⟩

theorem argR_fd {W : World} {v : Value} (h : ArgR cx 4 W v FdB) : ∃ l, FdOk l ∧ ArgR cx 4 W v (fun cs => cs = rows l) := by
  rcases h with ⟨h1, l, h2, h3⟩ | ⟨a, len, cap, cs, e, n, h1, h2, h3, h4, h5, h6, l, rfl, h7⟩
  · exact ⟨l, h3, .inl ⟨h1, h2⟩⟩
  · exact ⟨l, h7, .inr ⟨a, len, cap, rows l, e, n, h1, h2, h3, h4, h5, h6, rfl⟩⟩

/-- What the row tells of an answer. -/
def ArgA (W : World) (v : Value) : Prop := ∃ (a : An) (c1 : Value) (t : ByteArray), a.Ok ∧ a.text = t.data.toList ∧
  v = .agg #[.int .i64 a.k, c1, .bool a.gets, .int .u64 (.ofNat a.num), .string t, .int .i64 a.s0, .int .i64 a.s1, .int .i64 a.s2, .int .i64 a.s3] ∧ ArgR cx 4 W c1 (fun cs => cs = rows a.l)

theorem open_answer {H : Type} {enc : TypeId × Value → H} {W : World} {base : Nat} {v : Value} {d : DataW H} {ps : List MemPlace} (hv : Value.okWide Tryd.prog W .any base 28 v) (h : DataW.Trod enc Tryd.prog W 0 (fun _ => true) true 28 v d ps)
    (hw : (DataW.weights Tryd.prog 28 d).all (fun n => decide (n ≤ reachBytes)) = true) : ArgA W v := by
  have c3 : Tryd.prog.cellsOf 3 = 1 := by kernel_rfl
  have c24 : Tryd.prog.cellsOf 24 = 1 := by kernel_rfl
  have c4 : Tryd.prog.cellsOf 4 = 1 := by kernel_rfl
  have c25 : Tryd.prog.cellsOf 25 = 1 := by kernel_rfl
  have c9 : Tryd.prog.cellsOf 9 = 1 := by kernel_rfl
  have c26 : Tryd.prog.cellsOf 26 = 4 := by kernel_rfl
  have c28 : Tryd.prog.cellsOf 28 = 9 := by kernel_rfl
  have hct : Tryd.prog.cellTypes Tryd.prog.depth 28 = some [3, 24, 4, 25, 9, 3, 3, 3, 3] := by kernel_rfl
  have hrb : reachBytes ≤ 281474976710656 := by decide
  simp only [Value.okWide, Tryd.underlying28] at hv
  obtain ⟨cs, rfl, hsz, ts, hts, _, hcw⟩ := hv
  obtain rfl : [3, 24, 4, 25, 9, 3, 3, 3, 3] = ts := Option.some.inj (hct.symm.trans hts)
  rw [c28] at hsz
  obtain ⟨cs⟩ := cs
  match cs, hsz with
  | [v0, v1, v2, v3, v4, v5, v6, v7, v8], _ =>
    obtain ⟨u1, hu1, hw1⟩ := hcw 1 v1 rfl
    obtain rfl : 24 = u1 := Option.some.inj hu1
    obtain ⟨fuel, h⟩ := h
    obtain ⟨xs, k, rfl, hxy, _, hxl, hf⟩ := DataW.trod_struct Tryd.underlying28 h
    match xs, hxl with
    | [y0, y1, y2, y3, y4, y5], _ =>
      have f0 := hf 0 _ rfl
      have f1 := hf 1 _ rfl
      have f2 := hf 2 _ rfl
      have f3 := hf 3 _ rfl
      have f4 := hf 4 _ rfl
      have f5 := hf 5 _ rfl
      simp [Value.cells, c3, c24, c4, c25, c9, c26] at f0 f1 f2 f3 f4 f5
      obtain ⟨z0, q0, rfl, g0⟩ := DataW.trod_int Tryd.underlying3 f0
      obtain ⟨b2, q2, rfl⟩ := DataW.trod_bool Tryd.underlying4 f2
      obtain ⟨z3, q3, rfl, g3⟩ := DataW.trod_int Tryd.underlying25 f3
      obtain ⟨t4, q4, rfl, g4⟩ := DataW.trod_string Tryd.underlying9 f4
      obtain ⟨xs5, k5, _, hxy5, _, hxl5, hf5⟩ := DataW.trod_array Tryd.underlying26 f5
      match xs5, hxl5 with
      | [w0, w1, w2, w3], _ =>
        have e0 := hf5 0 (by decide)
        have e1 := hf5 1 (by decide)
        have e2 := hf5 2 (by decide)
        have e3 := hf5 3 (by decide)
        simp [c3] at e0 e1 e2 e3
        obtain ⟨s0, p0, _, r0⟩ := DataW.trod_int Tryd.underlying3 e0
        obtain ⟨s1, p1, _, r1⟩ := DataW.trod_int Tryd.underlying3 e1
        obtain ⟨s2, p2, _, r2⟩ := DataW.trod_int Tryd.underlying3 e2
        obtain ⟨s3, p3, _, r3⟩ := DataW.trod_int Tryd.underlying3 e3
        simp only [List.cons.injEq, and_true] at q0 q2 q3 q4 p0 p1 p2 p3
        subst q0 q2 q3 q4 p0 p1 p2 p3
        simp only [Prod.mk.injEq] at hxy
        obtain ⟨rfl, _⟩ := hxy
        simp only [DataW.weights, Tryd.underlying28, DataW.weightsEach, List.map_cons, List.map_nil, List.all_cons, List.all_append, List.all_nil, Bool.and_true, Bool.true_and, Bool.and_eq_true, decide_eq_true_eq] at hw
        obtain ⟨l, hl, hA⟩ := argR_fd (open_founds hw1 f1 hw.1)
        simp only [Lit.wf, Bool.and_eq_true, decide_eq_true_eq] at g3 r0 r1 r2 r3
        have m0 : (0 : Int) ≤ z3 := g3.1
        have m1 : z3 ≤ 18446744073709551615 := g3.2
        have n0 : s0 ≤ 9223372036854775807 := r0.2
        have n1 : s1 ≤ 9223372036854775807 := r1.2
        have n2 : s2 ≤ 9223372036854775807 := r2.2
        have n3 : s3 ≤ 9223372036854775807 := r3.2
        obtain ⟨z, rfl⟩ := Int.eq_ofNat_of_zero_le m0
        refine ⟨⟨z0, l, b2, z, t4.data.toList, s0, s1, s2, s3⟩, v1, t4, ⟨Nat.le_trans hw.2.1 hrb, fun f hf => (hl.2 f hf).2, hl.1, ?_, fun f hf => (hl.2 f hf).1, ?_, ?_, ?_, ?_⟩, rfl, rfl, hA⟩
        · show z < _
          omega
        · show s0 < _
          omega
        · show s1 < _
          omega
        · show s2 < _
          omega
        · show s3 < _
          omega

/-- An answer in the first heap. -/
theorem arg_ans {ρ : Rho} {H : Heap} {W : World} (R : Rel cx W.heap.size ρ H W) (hO : H.Ok) (hro : H.RO) {v : Value} (h : ArgA W v) :
    ∃ ρ' H' av, ∃ a : An, Rel cx W.heap.size ρ' H' W ∧ H'.Ok ∧ H'.RO ∧ Ext ρ ρ' ∧ HLe H H' ∧ Sl H' 4 av (rows a.l) ∧ (∀ ρ'', Ext ρ' ρ'' → VRel cx ρ'' (.agg (a.cells av)) v) ∧ a.Ok := by
  obtain ⟨a, c1, t, hok, ht, rfl, hr⟩ := h
  obtain ⟨ρ', H', av, cs, a1, a2, a3, a4, a5, a6, a7, a8, rfl⟩ := arg_r R hO hro (by decide) hr
  refine ⟨ρ', H', av, a, a1, a2, a3, a4, a5, a6, fun ρ'' hx => ⟨_, rfl, ?_⟩, hok⟩
  have := a7 ρ'' hx
  unfold An.cells ansC
  rw [ht]
  exact ⟨rfl, this, rfl, rfl, ⟨t, rfl, rfl⟩, rfl, rfl, rfl, rfl, trivial⟩
end Go.Proofs.YtkjmelfgopammaaDoor
