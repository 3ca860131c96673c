/- Layer 17: the calls asked for, among a law's arguments. Conditions: none. -/
import Derived.Test.YtihoblfmhighpaaFnA
import Derived.Test.YtihoblfmhighpaaRows
import Derived.Deep.Slices
import Derived.OpenShut
namespace Go.Dp

/-- Many cells an element: memory that comes in. -/
theorem arg_rows {c : Cx} {ρ : Rho} {H : Heap} {W : World} (R : Rel c W.heap.size ρ H W) (hO : H.Ok) (hro : H.RO) {a : Addr} {len cap sz : Nat} {l : List AV} (hz : 0 < sz) (hspot : a.spot = none) (hl : l.length = len * sz) (hlc : len ≤ cap) {e : TypeId} {n : Nat} (hsh : W.shape? a.block = some (e, n))
    (hcell : ∀ i, i < cap * sz → ∃ v, W.cell? (a.add i) = some v ∧ ∀ x, l[i]? = some x → SRel c ρ x v) :
    ∃ ρ' H', Rel c W.heap.size ρ' H' W ∧ H'.Ok ∧ H'.RO ∧ Ext ρ ρ' ∧ HLe H H' ∧ Sl H' sz (.sl H.next 0 len sz) l ∧ SRel c ρ' (.sl H.next 0 len sz) (.slice (some a) len cap) := by
  obtain ⟨ab, off, sp⟩ := a
  simp only at hspot hsh
  subst hspot
  have hn : ρ H.next = none := by
    cases h : ρ H.next with
    | none => rfl
    | some q => have := R.dom _ _ h; omega
  unfold World.shape? at hsh
  obtain ⟨cs, e', fz, hh⟩ : ∃ cs e' fz, W.heap[ab]? = some (.cells cs e' fz) := by
    split at hsh
    · rename_i cs e' fz h
      exact ⟨cs, e', _, h⟩
    · cases hsh
  have hin : ab < W.heap.size := by
    rcases Nat.lt_or_ge ab W.heap.size with h | h
    · exact h
    · rw [Array.getElem?_eq_none h] at hh; cases hh
  have hlz : len * sz ≤ cap * sz := Nat.mul_le_mul_right _ hlc
  have hc' : ∀ i, i < cap * sz → ∃ v, cs[off + i]? = some v ∧ ∀ x, l[i]? = some x → SRel c ρ x v := by
    intro i hi
    obtain ⟨v, h1, h2⟩ := hcell i hi
    refine ⟨v, ?_, h2⟩
    rw [Addr.add_lit] at h1
    unfold World.cell? at h1
    simp only [hh] at h1
    simpa using h1
  have key : ∃ p : Pl, p.c = ab ∧ p.n = len * sz ∧ (off = p.s ∨ cap = 0) ∧ p.e = cap * sz - len * sz ∧ BlkRel c ρ p W (.cells l 0) := by
    by_cases h0 : cap = 0
    · have hl0 : l.length = 0 := by
        have : len = 0 := by omega
        rw [hl, this, Nat.zero_mul]
      refine ⟨⟨ab, 0, len * sz, cap * sz - len * sz⟩, rfl, rfl, .inr h0, rfl, hl, cs, e', fz, hh, by rw [h0]; simp; omega, fun i x hx => ?_, ⟨fun h => absurd rfl h, fun h => (by cases h), fun h => (by cases h)⟩⟩
      have := (List.getElem?_eq_some_iff.1 hx).1
      omega
    · have h1 : 0 < cap * sz := Nat.mul_pos (by omega) hz
      refine ⟨⟨ab, off, len * sz, cap * sz - len * sz⟩, rfl, rfl, .inl rfl, rfl, hl, cs, e', fz, hh, ?_, fun i x hx => ?_, ⟨fun h => absurd rfl h, fun h => (by cases h), fun h => (by cases h)⟩⟩
      · obtain ⟨v, h1, _⟩ := hc' (cap * sz - 1) (by omega)
        have := (Array.getElem?_eq_some_iff.1 h1).1
        simp only
        omega
      · have hi := (List.getElem?_eq_some_iff.1 hx).1
        obtain ⟨v, h1, h2⟩ := hc' i (by omega)
        exact ⟨v, h1, h2 x hx⟩
  obtain ⟨p, rfl, hpn, hps, hpe, hb⟩ := key
  refine ⟨ρ.at_ H.next p, H.new (.cells l 0), R.addArg hO hro hb hin, hO.new _, hro.new _, Rho.ext_at hn, HLe.new (hO _ (Nat.le_refl _)) _, ?_, ?_⟩
  · exact .inr ⟨H.next, 0, len, l, 0, [], rfl, by omega, Heap.get_new_self _ _, Nat.zero_le _, by simp⟩
  · exact ⟨p, off, cap, by simp [Rho.at_], rfl, hlc, by omega, by omega, by omega, by omega, by omega⟩

/-- What the row tells of a slice whose elements have many cells. -/
def ArgR (c : Cx) (sz : Nat) (W : World) (v : Value) (C : List AV → Prop) : Prop :=
  (v = .slice none 0 0 ∧ C []) ∨ ∃ (a : Addr) (len cap : Nat) (cs : List AV) (e : TypeId) (n : Nat), v = .slice (some a) len cap ∧ a.spot = none ∧ cs.length = len * sz ∧ len ≤ cap ∧ W.shape? a.block = some (e, n) ∧
    (∀ ρ i, i < cap * sz → ∃ x, W.cell? (a.add i) = some x ∧ ∀ y, cs[i]? = some y → SRel c ρ y x) ∧ C cs
theorem arg_r {c : Cx} {ρ : Rho} {H : Heap} {W : World} {sz : Nat} (R : Rel c W.heap.size ρ H W) (hO : H.Ok) (hro : H.RO) {v : Value} {C : List AV → Prop} (hz : 0 < sz) (h : ArgR c sz W v C) :
    ∃ ρ' H' av cs, Rel c W.heap.size ρ' H' W ∧ H'.Ok ∧ H'.RO ∧ Ext ρ ρ' ∧ HLe H H' ∧ Sl H' sz av cs ∧ (∀ ρ'', Ext ρ' ρ'' → SRel c ρ'' av v) ∧ VRel c ρ' av v ∧ C cs := by
  rcases h with ⟨rfl, h⟩ | ⟨a, len, cap, cs, e, n, rfl, h1, h2, h3, h4, h5, h6⟩
  · exact ⟨ρ, H, .nils, [], R, hO, hro, Ext.refl _, HLe.refl _, .inl ⟨rfl, rfl⟩, fun _ _ => rfl, by rw [VRel_nils], h⟩
  · obtain ⟨ρ', H', a1, a2, a3, a4, a5, a6, a7⟩ := arg_rows R hO hro hz h1 h2 h3 h4 (h5 ρ)
    refine ⟨ρ', H', _, cs, a1, a2, a3, a4, a5, a6, fun ρ'' hx => ?_, a7, h6⟩
    obtain ⟨p, off, cap', b1, b2⟩ := a7
    exact ⟨p, off, cap', hx _ _ b1, b2⟩
end Go.Dp

namespace Go.Proofs.Ytihoblfmhighpaa
open Go.Dp
set_option linter.unusedSimpArgs false
set_option linter.unusedVariables false
set_option maxRecDepth 8000

theorem aks_at : ∀ (l : List Ak) (i r : Nat), r < 10 → (aks l)[i * 10 + r]? = (l[i]?).bind fun f => f.cells[r]?
  | [], i, r, _ => rfl
  | a :: l, 0, r, h => by
    show (a.cells ++ aks l)[0 * 10 + r]? = a.cells[r]?
    rw [Nat.zero_mul, Nat.zero_add, List.getElem?_append_left h]
  | a :: l, i + 1, r, h => by
    show (a.cells ++ aks l)[(i + 1) * 10 + r]? = _
    have e : a.cells.length = 10 := rfl
    rw [List.getElem?_append_right (by omega), e, show (i + 1) * 10 + r - 10 = i * 10 + r by omega, aks_at l i r h]
    rfl
theorem aks_len2 (l : List Ak) : (aks l).length = l.length * 10 := fm_len (g := Ak.cells) (fun _ => rfl) l
def AkOk (l : List Ak) : Prop := l.length < 9223372036854775808 ∧ ∀ x ∈ l, x.f.key.length ≤ 281474976710656 ∧ x.f.data.length ≤ 281474976710656
def ArgQ (W : World) (v : Value) : Prop := ArgR cx 10 W v fun cs => ∃ l : List Ak, cs = aks l ∧ AkOk l
theorem wt_cons {H : Type} {P : Program} {t : TypeId} {ts : List TypeId} {d : DataW H} {r : List (DataW H)} {p : Nat → Bool} (h : (DataW.weightsEach P (t :: ts) (d :: r)).all p = true) : (DataW.weights P t d).all p = true ∧ (DataW.weightsEach P ts r).all p = true := by
  simp only [DataW.weightsEach, List.all_append, Bool.and_eq_true] at h
  exact h
theorem wt_allOf {H : Type} {P : Program} {e : TypeId} {p : Nat → Bool} : ∀ {l : List (DataW H)}, (DataW.weightsAll P e l).all p = true → ∀ d ∈ l, (DataW.weights P e d).all p = true
  | a :: l, h, d, hd => by
    simp only [DataW.weightsAll, List.all_append, Bool.and_eq_true] at h
    rcases List.mem_cons.1 hd with rfl | hd
    · exact h.1
    · exact wt_allOf h.2 d hd

structure AkV where
  w : Bool
  kind : Int
  slot : Int
  inc : Int
  rid : Int
  floor : Int
  role : Int
  key : ByteArray
  ver : Int
  data : ByteArray
  deriving Inhabited
def AkV.aq (x : AkV) : Ak := ⟨x.w, ⟨x.kind, x.slot, x.inc, x.rid, x.floor, x.role, x.key.data.toList, x.ver, x.data.data.toList⟩⟩
def AkV.vals (x : AkV) : List Value := [.bool x.w, .int .i64 x.kind, .int .i64 x.slot, .int .i64 x.inc, .int .i64 x.rid, .int .i64 x.floor, .int .i64 x.role, .string x.key, .int .i64 x.ver, .string x.data]
theorem AkV.rel (x : AkV) (ρ : Rho) {r : Nat} (hr : r < 10) : ∃ v, x.vals[r]? = some v ∧ ∀ y, x.aq.cells[r]? = some y → SRel cx ρ y v := by
  have : r = 0 ∨ r = 1 ∨ r = 2 ∨ r = 3 ∨ r = 4 ∨ r = 5 ∨ r = 6 ∨ r = 7 ∨ r = 8 ∨ r = 9 := by omega
  rcases this with rfl | rfl | rfl | rfl | rfl | rfl | rfl | rfl | rfl | rfl
  · exact ⟨_, rfl, fun y h => by cases h; rfl⟩
  · exact ⟨_, rfl, fun y h => by cases h; rfl⟩
  · exact ⟨_, rfl, fun y h => by cases h; rfl⟩
  · exact ⟨_, rfl, fun y h => by cases h; rfl⟩
  · exact ⟨_, rfl, fun y h => by cases h; rfl⟩
  · exact ⟨_, rfl, fun y h => by cases h; rfl⟩
  · exact ⟨_, rfl, fun y h => by cases h; rfl⟩
  · exact ⟨_, rfl, fun y h => by cases h; exact ⟨_, rfl, rfl⟩⟩
  · exact ⟨_, rfl, fun y h => by cases h; rfl⟩
  · exact ⟨_, rfl, fun y h => by cases h; exact ⟨_, rfl, rfl⟩⟩

theorem open_qc {H : Type} {enc : TypeId × Value → H} {W : World} {base fuel : Nat} {v : Value} {x : DataW H × List MemPlace} (hv : Cell.okWide Try.prog W .any base 40 v) (h : DataW.trod enc Try.prog W 0 (fun _ => true) true fuel 40 [v] = some x)
    (hw : (DataW.weights Try.prog 40 x.1).all (fun n => decide (n ≤ reachBytes)) = true) : ArgQ W v := by
  have c42 : Try.prog.cellsOf 42 = 10 := by kernel_rfl
  have c27 : Try.prog.cellsOf 27 = 9 := by kernel_rfl
  have c9 : Try.prog.cellsOf 9 = 1 := by kernel_rfl
  have c3 : Try.prog.cellsOf 3 = 1 := by kernel_rfl
  have c4 : Try.prog.cellsOf 4 = 1 := by kernel_rfl
  have hrb : reachBytes ≤ 281474976710656 := by decide
  rcases Go.Deep.open_slice Try.underlying40 h with ⟨h1, _⟩ | ⟨a, len, cap, m, n, D, Pl, h1, hb, hl, hm, hmm, hx, hcell⟩
  · obtain rfl : v = .slice none 0 0 := by simpa using h1
    exact .inl ⟨rfl, [], rfl, by decide, fun f hf => by cases hf⟩
  · obtain rfl : v = .slice (some a) len cap := by simpa using h1
    obtain rfl : m = cap := by simpa using hmm
    subst hx
    simp only [Cell.okWide, Try.underlying40, Cell.ok] at hv
    obtain ⟨_, _, _, hspot, row, nn, hsh, _⟩ := hv
    have each : ∀ i, i < m → ∃ q : AkV, (∀ r, r < 10 → W.cell? (a.add (i * 10 + r)) = q.vals[r]?) ∧
        D i = .agg [.lit (.bool q.w), .agg [.lit (.int .i64 q.kind), .lit (.int .i64 q.slot), .lit (.int .i64 q.inc), .lit (.int .i64 q.rid), .lit (.int .i64 q.floor), .lit (.int .i64 q.role), .lit (.string q.key.data.toList), .lit (.int .i64 q.ver), .lit (.string q.data.data.toList)]] := by
      intro i hi
      obtain ⟨cs', g1, g2⟩ := hcell i hi
      rw [c42] at g1
      obtain ⟨_, hlen, hc⟩ := World.cells?_some g1
      obtain ⟨xs, k, hk, hxy, _, hxl, hf⟩ := DataW.trod_struct Try.underlying42 g2
      match xs, hxl, cs', hlen with
      | [y0, y1], _, [v0, v1, v2, v3, v4, v5, v6, v7, v8, v9], _ =>
        have f0 := hf 0 _ rfl
        have f1 := hf 1 _ rfl
        simp [c9, c3, c4, c27] at f0 f1
        obtain ⟨z0, p0, rfl, _⟩ := DataW.trod_bool Try.underlying4 f0
        obtain ⟨xs2, k2, _, hxy2, _, hxl2, hf2⟩ := DataW.trod_struct Try.underlying27 f1
        match xs2, hxl2 with
        | [u0, u1, u2, u3, u4, u5, u6, u7, u8], _ =>
          have e0 := hf2 0 _ rfl
          have e1 := hf2 1 _ rfl
          have e2 := hf2 2 _ rfl
          have e3 := hf2 3 _ rfl
          have e4 := hf2 4 _ rfl
          have e5 := hf2 5 _ rfl
          have e6 := hf2 6 _ rfl
          have e7 := hf2 7 _ rfl
          have e8 := hf2 8 _ rfl
          simp [c9, c3] at e0 e1 e2 e3 e4 e5 e6 e7 e8
          obtain ⟨s0, q0, rfl, _⟩ := DataW.trod_int Try.underlying3 e0
          obtain ⟨s1, q1, rfl, _⟩ := DataW.trod_int Try.underlying3 e1
          obtain ⟨s2, q2, rfl, _⟩ := DataW.trod_int Try.underlying3 e2
          obtain ⟨s3, q3, rfl, _⟩ := DataW.trod_int Try.underlying3 e3
          obtain ⟨s4, q4, rfl, _⟩ := DataW.trod_int Try.underlying3 e4
          obtain ⟨s5, q5, rfl, _⟩ := DataW.trod_int Try.underlying3 e5
          obtain ⟨s6, q6, rfl, _⟩ := DataW.trod_string Try.underlying9 e6
          obtain ⟨s7, q7, rfl, _⟩ := DataW.trod_int Try.underlying3 e7
          obtain ⟨s8, q8, rfl, _⟩ := DataW.trod_string Try.underlying9 e8
          simp only [List.cons.injEq, and_true] at p0 q0 q1 q2 q3 q4 q5 q6 q7 q8
          subst p0 q0 q1 q2 q3 q4 q5 q6 q7 q8
          subst hxy2
          simp only [Prod.mk.injEq] at hxy
          refine ⟨⟨z0, s0, s1, s2, s3, s4, s5, s6, s7, s8⟩, fun r hr => ?_, by simpa using hxy.1⟩
          have := hc r hr
          rw [Go.Deep.add_add] at this
          exact this
    obtain ⟨q, hq⟩ := Go.Deep.choose_lt each
    refine .inr ⟨a, len, m, aks ((List.range len).map fun i => (q i).aq), row, nn, rfl, hspot, by rw [aks_len2, List.length_map, List.length_range], hl, hsh, fun ρ i hi => ?_, _, rfl, ?_, ?_⟩
    · have hj : i / 10 < m := by omega
      have hi4 : i = i / 10 * 10 + i % 10 := by omega
      have hr : i % 10 < 10 := Nat.mod_lt _ (by decide)
      obtain ⟨e0, _⟩ := hq (i / 10) hj
      obtain ⟨x, hx1, hx2⟩ := (q (i / 10)).rel ρ hr
      have hg := aks_at ((List.range len).map fun i => (q i).aq) (i / 10) (i % 10) hr
      rw [← hi4] at hg
      refine ⟨x, ?_, fun y hy => hx2 y ?_⟩
      · have := e0 (i % 10) hr
        rw [← hi4] at this
        exact this.trans hx1
      · rw [hg, List.getElem?_map] at hy
        cases hr2 : (List.range len)[i / 10]? with
        | none => rw [hr2] at hy; cases hy
        | some j =>
          rw [hr2] at hy
          obtain ⟨h2, rfl⟩ := List.getElem?_eq_some_iff.1 hr2
          rw [List.getElem_range] at hy
          exact hy
    · rw [List.length_map, List.length_range]
      have : maxLen < 9223372036854775808 := by decide
      omega
    · intro f hf
      obtain ⟨i, hi, rfl⟩ := List.mem_map.1 hf
      have hi := List.mem_range.1 hi
      obtain ⟨_, eD⟩ := hq i (by omega)
      simp only [DataW.weights, Try.underlying40, List.all_cons, List.all_append, Bool.and_eq_true] at hw
      have hwd := wt_allOf hw.2.1 (D i) (List.mem_map.2 ⟨i, List.mem_range.2 hi, rfl⟩)
      rw [eD] at hwd
      simp only [DataW.weights, Try.underlying42, Try.underlying27, DataW.weightsEach, List.map_cons, List.map_nil, List.all_cons, List.all_append, List.all_nil, Bool.and_true, Bool.true_and, Bool.and_eq_true, decide_eq_true_eq] at hwd
      exact ⟨Nat.le_trans hwd.1 hrb, Nat.le_trans hwd.2 hrb⟩

theorem open_q {H : Type} {enc : TypeId × Value → H} {W : World} {base : Nat} {v : Value} {d : DataW H} {ps : List MemPlace} (hv : Value.okWide Try.prog W .any base 40 v) (h : DataW.Trod enc Try.prog W 0 (fun _ => true) true 40 v d ps)
    (hw : (DataW.weights Try.prog 40 d).all (fun n => decide (n ≤ reachBytes)) = true) : ArgQ W v := by
  obtain ⟨a, len, cap, rfl⟩ := Go.WideShapes.okWide_slice Try.underlying40 hv
  obtain ⟨fuel, hf⟩ := h
  simp only [Value.okWide, Try.underlying40] at hv
  exact open_qc hv hf hw
theorem arg_q {ρ : Rho} {H : Heap} {W : World} (R : Rel cx W.heap.size ρ H W) (hO : H.Ok) (hro : H.RO) {v : Value} (h : ArgQ W v) :
    ∃ ρ' H' av, ∃ l : List Ak, Rel cx W.heap.size ρ' H' W ∧ H'.Ok ∧ H'.RO ∧ Ext ρ ρ' ∧ HLe H H' ∧ Sl H' 10 av (aks l) ∧ VRel cx ρ' av v ∧ AkOk l := by
  obtain ⟨ρ', H', av, cs, a1, a2, a3, a4, a5, a6, _, a8, l, rfl, a9⟩ := arg_r R hO hro (by decide) h
  exact ⟨ρ', H', av, l, a1, a2, a3, a4, a5, a6, a8, a9⟩
end Go.Proofs.Ytihoblfmhighpaa
