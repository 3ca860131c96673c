/- The arguments of ClusterIgnores: a configuration, a row of steps. Conditions: none. -/
import Derived.Test.YtobnlhfgebfebaaGreatDoorCgA
import Derived.Test.YtobnlhfgebfebaaGreatDoorRows
import Derived.Deep.Slices
import Derived.OpenShut
import Derived.ChangeMaps5
namespace Go.Dp
theorem arg_rows {c : Cx} {ρ : Rho} {H : Heap} {W : World} (R : Rel c W.heap.size ρ H W) (hO : H.Ok) (hro : H.RO) {a : Addr} {len cap sz : Nat} {l : List AV} (hz : 0 < sz) (hspot : a.spot = none) (hl : l.length = len * sz) (hlc : len ≤ cap) {e : TypeId} {n : Nat} (hsh : W.shape? a.block = some (e, n))
    (hcell : ∀ i, i < cap * sz → ∃ v, W.cell? (a.add i) = some v ∧ ∀ x, l[i]? = some x → SRel c ρ x v) :
    ∃ ρ' H', Rel c W.heap.size ρ' H' W ∧ H'.Ok ∧ H'.RO ∧ Ext ρ ρ' ∧ HLe H H' ∧ Sl H' sz (.sl H.next 0 len sz) l ∧ SRel c ρ' (.sl H.next 0 len sz) (.slice (some a) len cap) ∧ H' = H.new (.cells l 0) := by
  obtain ⟨ab, off, sp⟩ := a
  simp only at hspot hsh
  subst hspot
  have hn : ρ H.next = none := by
    cases h : ρ H.next with
    | none => rfl
    | some q => have := R.dom _ _ h; omega
  unfold World.shape? at hsh
  obtain ⟨cs, e', fz, hh⟩ : ∃ cs e' fz, W.heap[ab]? = some (.cells cs e' fz) := by
    split at hsh
    · rename_i cs e' fz h
      exact ⟨cs, e', _, h⟩
    · cases hsh
  have hin : ab < W.heap.size := by
    rcases Nat.lt_or_ge ab W.heap.size with h | h
    · exact h
    · rw [Array.getElem?_eq_none h] at hh; cases hh
  have hlz : len * sz ≤ cap * sz := Nat.mul_le_mul_right _ hlc
  have hc' : ∀ i, i < cap * sz → ∃ v, cs[off + i]? = some v ∧ ∀ x, l[i]? = some x → SRel c ρ x v := by
    intro i hi
    obtain ⟨v, h1, h2⟩ := hcell i hi
    refine ⟨v, ?_, h2⟩
    rw [Addr.add_lit] at h1
    unfold World.cell? at h1
    simp only [hh] at h1
    simpa using h1
  have key : ∃ p : Pl, p.c = ab ∧ p.n = len * sz ∧ (off = p.s ∨ cap = 0) ∧ p.e = cap * sz - len * sz ∧ BlkRel c ρ p W (.cells l 0) := by
    by_cases h0 : cap = 0
    · have hl0 : l.length = 0 := by
        have : len = 0 := by omega
        rw [hl, this, Nat.zero_mul]
      refine ⟨⟨ab, 0, len * sz, cap * sz - len * sz⟩, rfl, rfl, .inr h0, rfl, hl, cs, e', fz, hh, by rw [h0]; simp; omega, fun i x hx => ?_, ⟨fun h => absurd rfl h, fun h => (by cases h), fun h => (by cases h)⟩⟩
      have := (List.getElem?_eq_some_iff.1 hx).1
      omega
    · have h1 : 0 < cap * sz := Nat.mul_pos (by omega) hz
      refine ⟨⟨ab, off, len * sz, cap * sz - len * sz⟩, rfl, rfl, .inl rfl, rfl, hl, cs, e', fz, hh, ?_, fun i x hx => ?_, ⟨fun h => absurd rfl h, fun h => (by cases h), fun h => (by cases h)⟩⟩
      · obtain ⟨v, h1, _⟩ := hc' (cap * sz - 1) (by omega)
        have := (Array.getElem?_eq_some_iff.1 h1).1
        simp only
        omega
      · have hi := (List.getElem?_eq_some_iff.1 hx).1
        obtain ⟨v, h1, h2⟩ := hc' i (by omega)
        exact ⟨v, h1, h2 x hx⟩
  obtain ⟨p, rfl, hpn, hps, hpe, hb⟩ := key
  refine ⟨ρ.at_ H.next p, H.new (.cells l 0), R.addArg hO hro hb hin, hO.new _, hro.new _, Rho.ext_at hn, HLe.new (hO _ (Nat.le_refl _)) _, ?_, ?_, rfl⟩
  · exact .inr ⟨H.next, 0, len, l, 0, [], rfl, by omega, Heap.get_new_self _ _, Nat.zero_le _, by simp⟩
  · exact ⟨p, off, cap, by simp [Rho.at_], rfl, hlc, by omega, by omega, by omega, by omega, by omega⟩

/-- What the row tells of a slice whose elements have many cells. -/
def ArgR (c : Cx) (sz : Nat) (W : World) (v : Value) (C : List AV → Prop) : Prop :=
  (v = .slice none 0 0 ∧ C []) ∨ ∃ (a : Addr) (len cap : Nat) (cs : List AV) (e : TypeId) (n : Nat), v = .slice (some a) len cap ∧ a.spot = none ∧ cs.length = len * sz ∧ len ≤ cap ∧ W.shape? a.block = some (e, n) ∧
    (∀ ρ i, i < cap * sz → ∃ x, W.cell? (a.add i) = some x ∧ ∀ y, cs[i]? = some y → SRel c ρ y x) ∧ C cs
/-- A block that nothing leads to. -/
theorem Rel.addFree {c : Cx} {ρ : Rho} {H : Heap} {W : World} (R : Rel c W.heap.size ρ H W) (hro : H.RO) : Rel c W.heap.size ρ (H.new (.cells [] 0)) W := by
  have hne : ∀ {i q}, ρ i = some q → i ≠ H.next := fun h => by have := R.dom _ _ h; omega
  have hro' := hro.new []
  refine ⟨R.size, fun i q hq => Nat.lt_succ_of_lt (R.dom i q hq), R.in_, fun i q hq => ?_, fun i q y hq hy hwr => ?_, fun i j q q' y y' hn hq hq' hy hy' hl hwr => ?_, R.glob⟩
  · obtain ⟨y, hy, hyr⟩ := R.blk i q hq
    exact ⟨y, by rw [Heap.get_new_ne _ _ (hne hq)]; exact hy, hyr⟩
  · rw [hro' _ _ hy] at hwr; cases hwr
  · rw [hro' _ _ hy'] at hwr; cases hwr
/-- a slice among the arguments: it lies in one new block, whichever it is -/
theorem arg_x {c : Cx} {ρ : Rho} {H : Heap} {W : World} {sz : Nat} (R : Rel c W.heap.size ρ H W) (hO : H.Ok) (hro : H.RO) {v : Value} {C : List AV → Prop} (hz : 0 < sz) (h : ArgR c sz W v C) :
    ∃ ρ' X av cs, Rel c W.heap.size ρ' (H.new (.cells X 0)) W ∧ (H.new (.cells X 0)).Ok ∧ (H.new (.cells X 0)).RO ∧ Ext ρ ρ' ∧ Sl (H.new (.cells X 0)) sz av cs ∧ VRel c ρ' av v ∧ C cs ∧ X.length = cs.length := by
  rcases h with ⟨rfl, h⟩ | ⟨a, len, cap, cs, e, n, rfl, h1, h2, h3, h4, h5, h6⟩
  · exact ⟨ρ, [], .nils, [], R.addFree hro, hO.new _, hro.new _, Ext.refl _, .inl ⟨rfl, rfl⟩, by rw [VRel_nils], h, rfl⟩
  · obtain ⟨ρ', H', a1, a2, a3, a4, _, a6, a7, rfl⟩ := arg_rows R hO hro hz h1 h2 h3 h4 (h5 ρ)
    exact ⟨ρ', cs, _, cs, a1, a2, a3, a4, a6, a7, h6, rfl⟩
end Go.Dp

namespace Go.Proofs.YtobnlhfgebfebaaGreatDoor
open Go.Dp
set_option linter.unusedSimpArgs false
set_option linter.unusedVariables false
set_option maxRecDepth 8000

/-- a step -/
structure Sp where
  kind : Int
  n : Int
  text : List UInt8
def Sp.cells (x : Sp) : List AV := [.int .i64 x.kind, .int .i64 x.n, .str x.text]
def noSp : Sp := ⟨.ofNat 0, .ofNat 0, []⟩
def sps (l : List Sp) : List AV := l.flatMap Sp.cells
theorem sps_len (l : List Sp) : (sps l).length = l.length * 3 := by
  induction l with
  | nil => rfl
  | cons a l ih => show (a.cells ++ sps l).length = _; rw [List.length_append, ih, List.length_cons, show a.cells.length = 3 from rfl]; omega
theorem sps_at : ∀ (l : List Sp) (i r : Nat), r < 3 → (sps l)[i * 3 + r]? = (l[i]?).bind fun f => f.cells[r]?
  | [], i, r, _ => rfl
  | a :: l, 0, r, h => by
    show (a.cells ++ sps l)[0 * 3 + r]? = a.cells[r]?
    rw [Nat.zero_mul, Nat.zero_add, List.getElem?_append_left h]
  | a :: l, i + 1, r, h => by
    show (a.cells ++ sps l)[(i + 1) * 3 + r]? = _
    have e : a.cells.length = 3 := rfl
    rw [List.getElem?_append_right (by omega), e, show (i + 1) * 3 + r - 3 = i * 3 + r by omega, sps_at l i r h]
    rfl
def SpOk (l : List Sp) : Prop := l.length < 9223372036854775808 ∧ ∀ x ∈ l, x.text.length ≤ 281474976710656
def ArgQ (W : World) (v : Value) : Prop := ArgR cx 3 W v fun cs => ∃ l : List Sp, cs = sps l ∧ SpOk l
theorem wt_cons {H : Type} {P : Program} {t : TypeId} {ts : List TypeId} {d : DataW H} {r : List (DataW H)} {p : Nat → Bool} (h : (DataW.weightsEach P (t :: ts) (d :: r)).all p = true) : (DataW.weights P t d).all p = true ∧ (DataW.weightsEach P ts r).all p = true := by
  simp only [DataW.weightsEach, List.all_append, Bool.and_eq_true] at h
  exact h
theorem wt_allOf {H : Type} {P : Program} {e : TypeId} {p : Nat → Bool} : ∀ {l : List (DataW H)}, (DataW.weightsAll P e l).all p = true → ∀ d ∈ l, (DataW.weights P e d).all p = true
  | a :: l, h, d, hd => by
    simp only [DataW.weightsAll, List.all_append, Bool.and_eq_true] at h
    rcases List.mem_cons.1 hd with rfl | hd
    · exact h.1
    · exact wt_allOf h.2 d hd

structure SpV where
  kind : Int
  n : Int
  text : ByteArray
  deriving Inhabited
def SpV.sp (x : SpV) : Sp := ⟨x.kind, x.n, x.text.data.toList⟩
def SpV.vals (x : SpV) : List Value := [.int .i64 x.kind, .int .i64 x.n, .string x.text]
theorem SpV.rel (x : SpV) (ρ : Rho) {r : Nat} (hr : r < 3) : ∃ v, x.vals[r]? = some v ∧ ∀ y, x.sp.cells[r]? = some y → SRel cx ρ y v := by
  have : r = 0 ∨ r = 1 ∨ r = 2 := by omega
  rcases this with rfl | rfl | rfl
  · exact ⟨_, rfl, fun y h => by cases h; rfl⟩
  · exact ⟨_, rfl, fun y h => by cases h; rfl⟩
  · exact ⟨_, rfl, fun y h => by cases h; exact ⟨_, rfl, rfl⟩⟩

theorem open_qc {H : Type} {enc : TypeId × Value → H} {W : World} {base fuel : Nat} {v : Value} {x : DataW H × List MemPlace} (hv : Cell.okWide Tryz.prog W .any base 36 v) (h : DataW.trod enc Tryz.prog W 0 (fun _ => true) true fuel 36 [v] = some x)
    (hw : (DataW.weights Tryz.prog 36 x.1).all (fun n => decide (n ≤ reachBytes)) = true) : ArgQ W v := by
  have c42 : Tryz.prog.cellsOf 30 = 3 := by kernel_rfl
  have c9 : Tryz.prog.cellsOf 9 = 1 := by kernel_rfl
  have c3 : Tryz.prog.cellsOf 3 = 1 := by kernel_rfl
  have hrb : reachBytes ≤ 281474976710656 := by decide
  rcases Go.Deep.open_slice Tryz.underlying36 h with ⟨h1, _⟩ | ⟨a, len, cap, m, n, D, Pl, h1, hb, hl, hm, hmm, hx, hcell⟩
  · obtain rfl : v = .slice none 0 0 := by simpa using h1
    exact .inl ⟨rfl, [], rfl, by decide, fun f hf => by cases hf⟩
  · obtain rfl : v = .slice (some a) len cap := by simpa using h1
    obtain rfl : m = cap := by simpa using hmm
    subst hx
    simp only [Cell.okWide, Tryz.underlying36, Cell.ok] at hv
    obtain ⟨_, _, _, hspot, row, nn, hsh, _⟩ := hv
    have each : ∀ i, i < m → ∃ q : SpV, (∀ r, r < 3 → W.cell? (a.add (i * 3 + r)) = q.vals[r]?) ∧
        D i = .agg [.lit (.int .i64 q.kind), .lit (.int .i64 q.n), .lit (.string q.text.data.toList)] := by
      intro i hi
      obtain ⟨cs', g1, g2⟩ := hcell i hi
      rw [c42] at g1
      obtain ⟨_, hlen, hc⟩ := World.cells?_some g1
      obtain ⟨xs, k, hk, hxy, _, hxl, hf⟩ := DataW.trod_struct Tryz.underlying30 g2
      match xs, hxl, cs', hlen with
      | [y0, y1, y2], _, [v0, v1, v2], _ =>
        have e0 := hf 0 _ rfl
        have e1 := hf 1 _ rfl
        have e2 := hf 2 _ rfl
        simp [c9, c3] at e0 e1 e2
        obtain ⟨s0, q0, rfl, _⟩ := DataW.trod_int Tryz.underlying3 e0
        obtain ⟨s1, q1, rfl, _⟩ := DataW.trod_int Tryz.underlying3 e1
        obtain ⟨s2, q2, rfl, _⟩ := DataW.trod_string Tryz.underlying9 e2
        simp only [List.cons.injEq, and_true] at q0 q1 q2
        subst q0 q1 q2
        simp only [Prod.mk.injEq] at hxy
        refine ⟨⟨s0, s1, s2⟩, fun r hr => ?_, by simpa using hxy.1⟩
        have := hc r hr
        rw [Go.Deep.add_add] at this
        exact this
    obtain ⟨q, hq⟩ := Go.Deep.choose_lt each
    refine .inr ⟨a, len, m, sps ((List.range len).map fun i => (q i).sp), row, nn, rfl, hspot, by rw [sps_len, List.length_map, List.length_range], hl, hsh, fun ρ i hi => ?_, _, rfl, ?_, ?_⟩
    · have hj : i / 3 < m := by omega
      have hi4 : i = i / 3 * 3 + i % 3 := by omega
      have hr : i % 3 < 3 := Nat.mod_lt _ (by decide)
      obtain ⟨e0, _⟩ := hq (i / 3) hj
      obtain ⟨x, hx1, hx2⟩ := (q (i / 3)).rel ρ hr
      have hg := sps_at ((List.range len).map fun i => (q i).sp) (i / 3) (i % 3) hr
      rw [← hi4] at hg
      refine ⟨x, ?_, fun y hy => hx2 y ?_⟩
      · have := e0 (i % 3) hr
        rw [← hi4] at this
        exact this.trans hx1
      · rw [hg, List.getElem?_map] at hy
        cases hr2 : (List.range len)[i / 3]? with
        | none => rw [hr2] at hy; cases hy
        | some j =>
          rw [hr2] at hy
          obtain ⟨h2, rfl⟩ := List.getElem?_eq_some_iff.1 hr2
          rw [List.getElem_range] at hy
          exact hy
    · rw [List.length_map, List.length_range]
      have : maxLen < 9223372036854775808 := by decide
      omega
    · intro f hf
      obtain ⟨i, hi, rfl⟩ := List.mem_map.1 hf
      have hi := List.mem_range.1 hi
      obtain ⟨_, eD⟩ := hq i (by omega)
      simp only [DataW.weights, Tryz.underlying36, List.all_cons, List.all_append, Bool.and_eq_true] at hw
      have hwd := wt_allOf hw.2.1 (D i) (List.mem_map.2 ⟨i, List.mem_range.2 hi, rfl⟩)
      rw [eD] at hwd
      simp only [DataW.weights, Tryz.underlying30, DataW.weightsEach, List.map_cons, List.map_nil, List.all_cons, List.all_append, List.all_nil, Bool.and_true, Bool.true_and, Bool.and_eq_true, decide_eq_true_eq] at hwd
      exact Nat.le_trans hwd hrb

theorem open_q {H : Type} {enc : TypeId × Value → H} {W : World} {base : Nat} {v : Value} {d : DataW H} {ps : List MemPlace} (hv : Value.okWide Tryz.prog W .any base 36 v) (h : DataW.Trod enc Tryz.prog W 0 (fun _ => true) true 36 v d ps)
    (hw : (DataW.weights Tryz.prog 36 d).all (fun n => decide (n ≤ reachBytes)) = true) : ArgQ W v := by
  obtain ⟨a, len, cap, rfl⟩ := Go.WideShapes.okWide_slice Tryz.underlying36 hv
  obtain ⟨fuel, hf⟩ := h
  simp only [Value.okWide, Tryz.underlying36] at hv
  exact open_qc hv hf hw

def ArgCfg (v : Value) : Prop := ∃ x0 x1 x2 x3 x4 x5 : Int, v = .agg #[.int .i64 x0, .int .i64 x1, .int .i64 x2, .int .i64 x3, .int .i64 x4, .int .i64 x5]
theorem arg_cfg {c : Cx} {v : Value} (h : ArgCfg v) : ∃ x0 x1 x2 x3 x4 x5 : Int, ∀ {ρ : Rho}, VRel c ρ (.agg [.int .i64 x0, .int .i64 x1, .int .i64 x2, .int .i64 x3, .int .i64 x4, .int .i64 x5]) v := by
  obtain ⟨x0, x1, x2, x3, x4, x5, rfl⟩ := h
  exact ⟨x0, x1, x2, x3, x4, x5, fun {ρ} => ⟨_, rfl, rfl, rfl, rfl, rfl, rfl, rfl, trivial⟩⟩
theorem open_cfg {H : Type} {enc : TypeId × Value → H} {W : World} {base : Nat} {v : Value} {d : DataW H} {ps : List MemPlace} (hv : Value.okWide Tryz.prog W .any base 27 v) (h : DataW.Trod enc Tryz.prog W 0 (fun _ => true) true 27 v d ps) : ArgCfg v := by
  have c3 : Tryz.prog.cellsOf 3 = 1 := by kernel_rfl
  have c23 : Tryz.prog.cellsOf 27 = 6 := by kernel_rfl
  have hct : Tryz.prog.cellTypes Tryz.prog.depth 27 = some [3, 3, 3, 3, 3, 3] := by kernel_rfl
  simp only [Value.okWide, Tryz.underlying27] at hv
  obtain ⟨cs, rfl, hsz, ts, hts, _, hcw⟩ := hv
  obtain rfl : [3, 3, 3, 3, 3, 3] = ts := Option.some.inj (hct.symm.trans hts)
  rw [c23] at hsz
  obtain ⟨cs⟩ := cs
  match cs, hsz with
  | [v0, v1, v2, v3, v4, v5], _ =>
    obtain ⟨fuel, h⟩ := h
    obtain ⟨xs, k, rfl, hxy, _, hxl, hf⟩ := DataW.trod_struct Tryz.underlying27 h
    match xs, hxl with
    | [y0, y1, y2, y3, y4, y5], _ =>
      have f0 := hf 0 _ rfl
      have f1 := hf 1 _ rfl
      have f2 := hf 2 _ rfl
      have f3 := hf 3 _ rfl
      have f4 := hf 4 _ rfl
      have f5 := hf 5 _ rfl
      simp [Value.cells, c3] at f0 f1 f2 f3 f4 f5
      obtain ⟨z0, q0, _, _⟩ := DataW.trod_int Tryz.underlying3 f0
      obtain ⟨z1, q1, _, _⟩ := DataW.trod_int Tryz.underlying3 f1
      obtain ⟨z2, q2, _, _⟩ := DataW.trod_int Tryz.underlying3 f2
      obtain ⟨z3, q3, _, _⟩ := DataW.trod_int Tryz.underlying3 f3
      obtain ⟨z4, q4, _, _⟩ := DataW.trod_int Tryz.underlying3 f4
      obtain ⟨z5, q5, _, _⟩ := DataW.trod_int Tryz.underlying3 f5
      simp only [List.cons.injEq, and_true] at q0 q1 q2 q3 q4 q5
      subst q0 q1 q2 q3 q4 q5
      exact ⟨z0, z1, z2, z3, z4, z5, rfl⟩
end Go.Proofs.YtobnlhfgebfebaaGreatDoor
