/- strconv: the digits of a number, written. Conditions: none. -/
import Derived.Test.YtihoblfmhighpaaDoorStA
namespace Go.Proofs.YtihoblfmhighpaaDoor
open Go.Dp
set_option linter.unusedSimpArgs false
set_option linter.unusedVariables false
set_option maxHeartbeats 2000000
set_option maxRecDepth 8000
attribute [local irreducible] Ex.thnK Ex.inK Ret

/-- cells: as many as before, the first o as before, those behind o + m given -/
structure Gd (N o m : Nat) (A T : List AV) (l : List AV) : Prop where
  len : l.length = N
  pre : l.take o = A
  suf : l.drop (o + m) = T
  le : o + m ≤ N
theorem over_one (l : List AV) (p : Nat) (x : AV) : over l p [x] = l.take p ++ (x :: l.drop (p + 1)) := rfl
theorem Gd.one {N o m : Nat} {A T l : List AV} (g : Gd N o (m + 1) A T l) {p : Nat} (hp : p = o + m) (x : AV) : Gd N o m A (x :: T) (over l p [x]) := by
  subst hp
  obtain ⟨h1, h2, h3, h4⟩ := g
  have hl : (l.take (o + m)).length = o + m := by rw [List.length_take]; omega
  rw [over_one]
  have e : o + m + 1 = o + (m + 1) := by omega
  rw [e, h3]
  have h5 : (l.drop (o + (m + 1))).length = N - (o + (m + 1)) := by rw [List.length_drop, h1]
  rw [h3] at h5
  refine ⟨by rw [List.length_append, hl, List.length_cons]; omega, ?_, ?_, by omega⟩
  · rw [List.take_append_of_le_length (by omega), List.take_take, Nat.min_eq_left (by omega)]
    exact h2
  · rw [List.drop_append_of_le_length (by omega), List.drop_eq_nil_of_le (by omega)]
    rfl
theorem Gd.pair {N o m : Nat} {A T l : List AV} (g : Gd N o (m + 2) A T l) {p1 p : Nat} (h1 : p1 = o + (m + 1)) (h0 : p = o + m) (x y : AV) : Gd N o m A (x :: y :: T) (over (over l p1 [y]) p [x]) :=
  Gd.one (Gd.one g h1 y) h0 x

theorem _root_.Go.Dp.Xk.gen {L : Lib} {n : Nat} {c : PC} {k : Kn} {H : Heap} {b w : Nat} {Q : Ex → Kn → Heap → Prop} {l : List AV} {good : List AV → Prop} (hg : good l) (h : ∀ l, good l → Xk L n c k (H.put b (.cells l w)) Q) : Xk L n c k (H.put b (.cells l w)) Q := h l hg

theorem enc_pr (p : Nat) (h : p < 100) : ofBytes (pr p) = [.int .u8 (.ofNat (48 + p / 10)), .int .u8 (.ofNat (48 + p % 10))] := by
  have h1 : (UInt8.ofNat (48 + p / 10)).toNat = 48 + p / 10 := by
    rw [UInt8.toNat_ofNat']; omega
  have h2 : (UInt8.ofNat (48 + p % 10)).toNat = 48 + p % 10 := by
    rw [UInt8.toNat_ofNat']; omega
  show [AV.int .u8 (Int.ofNat (UInt8.ofNat (48 + p / 10)).toNat), AV.int .u8 (Int.ofNat (UInt8.ofNat (48 + p % 10)).toNat)] = _
  rw [h1, h2]
theorem enc_app (a b : List UInt8) : ofBytes (a ++ b) = ofBytes a ++ ofBytes b := List.map_append
theorem enc_cons2 (p : Nat) (h : p < 100) (T : List AV) : AV.int .u8 (.ofNat (48 + p / 10)) :: AV.int .u8 (.ofNat (48 + p % 10)) :: T = ofBytes (pr p) ++ T := by
  rw [enc_pr p h]; rfl

theorem over_len (l : List AV) (p : Nat) (h : p + 1 ≤ l.length) (y : AV) : (l.take p ++ y :: l.drop (p + 1)).length = l.length := by
  rw [List.length_append, List.length_cons, List.length_take, List.length_drop]; omega
/-- all blocks but b are as they were -/
structure Sbk (b : Nat) (H H' : Heap) : Prop where
  ok : H'.Ok
  next : H'.next = H.next
  keep : ∀ c, c ≠ b → H'.get c = H.get c
theorem Sbk.put {b : Nat} {H H' : Heap} (h : Sbk b H H') {y : Blk} (hb : H'.get b = some y) (x : Blk) : Sbk b H (H'.put b x) :=
  ⟨h.ok.put hb x, h.next, fun c hc => by rw [Heap.get_put_ne _ _ _ hc]; exact h.keep c hc⟩

/-- behind a part of the digits: nd digits of u are still to be written; low: those that were -/
def Fb (H : Heap) (b o n0 N : Nat) (A P : List AV) (u0 : Nat) (nd u : Nat) (H' : Heap) : Prop :=
  ∃ l low, Sbk b H H' ∧ H'.get b = some (.cells l 1) ∧ nd ≤ n0 ∧ Gd N o nd A (ofBytes low ++ P) l ∧ dgs n0 u0 = dgs nd u ++ low ∧ u < 10 ^ nd

theorem div_pow {u m : Nat} (c : Nat) (h : u < 10 ^ (m + c)) : u / 10 ^ c < 10 ^ m := by
  rw [Nat.div_lt_iff_lt_mul (Nat.pow_pos (by decide)), ← Nat.pow_add]
  exact h

theorem formatBase10_ev (b o n0 u0 : Nat) (l0 : List AV) (H : Heap) (hb : H.get b = some (.cells l0 1)) (hn : n0 ≤ 20) (ho : o + n0 ≤ l0.length) (hu : u0 < 10 ^ n0) (hu2 : u0 < 18446744073709551616) (Q : AV → Heap → Prop)
    (hQ : ∀ l H', Sbk b H H' → H'.get b = some (.cells l 1) → l.length = l0.length → l.take o = l0.take o → l.drop o = ofBytes (dgs n0 u0) ++ l0.drop (o + n0) → Q (.tup []) H') :
    Eo lib n_internal_strconv_formatBase10 [.sl b o n0 1, .int .u64 (.ofNat u0)] H Q := by
  refine Eo.ok fun hOk => ?_
  refine Eo.code at_internal_strconv_formatBase10 rfl ?_
  repeat (first | ((first | apply Xk.sAny | apply Xk.tAny); (case hok => rfl); (case h => intro C hC; simp (disch := omega) only [w1, ↓reduceIte, Nat.reduceEqDiff, Nat.reduceLeDiff, Nat.reduceAdd, Nat.reduceSub]; with_reducible exact hC); refine gc ?_) | refine gm ?_)
  refine Xk.iter [0, 1, 4] (fun m k H' => ∃ u, k = [(0, .sl b o n0 1), (1, .int .u64 (.ofNat u)), (4, .int .i64 (.ofNat m))] ∧ u < 18446744073709551616 ∧ Fb H b o n0 l0.length (l0.take o) (l0.drop (o + n0)) u0 m u H') rfl
    ⟨n0, u0, rfl, hu2, l0, [], ⟨hOk, rfl, fun _ _ => rfl⟩, hb, Nat.le_refl _, ⟨rfl, rfl, rfl, ho⟩, (List.append_nil _).symm, hu⟩ ?_
  rintro nd k H' ⟨u, rfl, hu3, l, low, hS, hbl, hnd, g, hdg, hlt⟩
  unfold l0_internal_strconv_formatBase10
  by_cases c8 : 8 ≤ nd
  · have c8' := eq_true c8
    obtain ⟨m, rfl⟩ : ∃ m, nd = m + 8 := ⟨nd - 8, by omega⟩
    have e1 : m + 8 - 1 = m + 7 := rfl
    have e2 : m + 8 - 2 = m + 6 := rfl
    have e3 : m + 8 - 3 = m + 5 := rfl
    have e4 : m + 8 - 4 = m + 4 := rfl
    have e5 : m + 8 - 5 = m + 3 := rfl
    have e6 : m + 8 - 6 = m + 2 := rfl
    have e7 : m + 8 - 7 = m + 1 := rfl
    have e8 : m + 8 - 8 = m := rfl
    have hle := g.le
    have hll := g.len
    repeat (first | ((first | apply Xk.sAny | apply Xk.tAny); (case hok => rfl); (case h => intro C hC; simp (disch := omega) only [w1, ↓reduceIte, Nat.reduceEqDiff, Nat.reduceLeDiff, Nat.reduceAdd, Nat.reduceSub, c8']; with_reducible exact hC); refine gc ?_) | refine gm ?_)
    (apply Xk.sRun; (case hok => rfl); (case h => intro C hC; simp (disch := omega) only [w1, ↓reduceIte, Nat.reduceEqDiff, Nat.reduceLeDiff, Nat.reduceAdd, Nat.reduceSub, cint_u32]; with_reducible exact hC))
    (apply Xk.sRun; (case hok => rfl); (case h => intro C hC; simp (disch := omega) only [w1, ↓reduceIte, Nat.reduceEqDiff, Nat.reduceLeDiff, Nat.reduceAdd, Nat.reduceSub]; with_reducible exact hC))
    (apply Xk.sRun; (case hok => rfl); (case h => intro C hC; simp (disch := omega) only [w1, ↓reduceIte, Nat.reduceEqDiff, Nat.reduceLeDiff, Nat.reduceAdd, Nat.reduceSub, quon_u32]; with_reducible exact hC))
    (apply Xk.sRun; (case hok => rfl); (case h => intro C hC; simp (disch := omega) only [w1, ↓reduceIte, Nat.reduceEqDiff, Nat.reduceLeDiff, Nat.reduceAdd, Nat.reduceSub, quon_u32, muln_u32]; with_reducible exact hC))
    (apply Xk.sRun; (case hok => rfl); (case h => intro C hC; simp (disch := omega) only [w1, ↓reduceIte, Nat.reduceEqDiff, Nat.reduceLeDiff, Nat.reduceAdd, Nat.reduceSub, quon_u32, muln_u32]; with_reducible exact hC))
    have k1 : m + 7 < n0 := by omega
    have k2 : m + 6 < n0 := by omega
    have k3 : m + 5 < n0 := by omega
    have k4 : m + 4 < n0 := by omega
    have k5 : m + 3 < n0 := by omega
    have k6 : m + 2 < n0 := by omega
    have k7 : m + 1 < n0 := by omega
    have k8 : m < n0 := by omega
    have hb' := hbl
    have j1 : o + (m + 7) + 1 ≤ l.length := by omega
    have j2 : o + (m + 6) + 1 ≤ l.length := by omega
    have j3 := over_len l (o + (m + 7)) j1
    (apply Xk.sRun; (case hok => rfl); (case h => intro C hC; simp (disch := omega) only [w1, ↓reduceIte, Nat.reduceEqDiff, Nat.reduceLeDiff, Nat.reduceAdd, Nat.reduceSub, hbl, addn_u32, sm0, sm1, e1, e2, k1, k2, j1, j2, j3]; with_reducible exact hC))
    have g1 := g.pair (p1 := o + (m + 7)) (p := o + (m + 6)) rfl rfl (.int .u8 (.ofNat (48 + (u % 100000000 % 10000 % 100) / 10))) (.int .u8 (.ofNat (48 + (u % 100000000 % 10000 % 100) % 10)))
    rw [enc_cons2 _ (by omega)] at g1
    refine Xk.gen g1 fun l g1 => ?_
    have hll := g1.len
    have hbl := Heap.get_put_self H' b (.cells l 1)
    have j1 : o + (m + 5) + 1 ≤ l.length := by omega
    have j2 : o + (m + 4) + 1 ≤ l.length := by omega
    have j3 := over_len l (o + (m + 5)) j1
    (apply Xk.sRun; (case hok => rfl); (case h => intro C hC; simp (disch := omega) only [w1, ↓reduceIte, Nat.reduceEqDiff, Nat.reduceLeDiff, Nat.reduceAdd, Nat.reduceSub, hbl, addn_u32, sm0, sm1, e3, e4, k3, k4, j1, j2, j3]; with_reducible exact hC))
    have g2 := g1.pair (p1 := o + (m + 5)) (p := o + (m + 4)) rfl rfl (.int .u8 (.ofNat (48 + (u % 100000000 % 10000 / 100) / 10))) (.int .u8 (.ofNat (48 + (u % 100000000 % 10000 / 100) % 10)))
    rw [enc_cons2 _ (by omega)] at g2
    refine Xk.gen g2 fun l g2 => ?_
    have hll := g2.len
    have hbl := Heap.get_put_self H' b (.cells l 1)
    have j1 : o + (m + 3) + 1 ≤ l.length := by omega
    have j2 : o + (m + 2) + 1 ≤ l.length := by omega
    have j3 := over_len l (o + (m + 3)) j1
    (apply Xk.sRun; (case hok => rfl); (case h => intro C hC; simp (disch := omega) only [w1, ↓reduceIte, Nat.reduceEqDiff, Nat.reduceLeDiff, Nat.reduceAdd, Nat.reduceSub, hbl, addn_u32, sm0, sm1, e5, e6, k5, k6, j1, j2, j3]; with_reducible exact hC))
    have g3 := g2.pair (p1 := o + (m + 3)) (p := o + (m + 2)) rfl rfl (.int .u8 (.ofNat (48 + (u % 100000000 / 10000 % 100) / 10))) (.int .u8 (.ofNat (48 + (u % 100000000 / 10000 % 100) % 10)))
    rw [enc_cons2 _ (by omega)] at g3
    refine Xk.gen g3 fun l g3 => ?_
    have hll := g3.len
    have hbl := Heap.get_put_self H' b (.cells l 1)
    have j1 : o + (m + 1) + 1 ≤ l.length := by omega
    have j2 : o + m + 1 ≤ l.length := by omega
    have j3 := over_len l (o + (m + 1)) j1
    (apply Xk.sRun; (case hok => rfl); (case h => intro C hC; simp (disch := omega) only [w1, ↓reduceIte, Nat.reduceEqDiff, Nat.reduceLeDiff, Nat.reduceAdd, Nat.reduceSub, hbl, addn_u32, sm0, sm1, e7, e8, k7, k8, j1, j2, j3]; with_reducible exact hC))
    have g4 := g3.pair (p1 := o + (m + 1)) (p := o + m) rfl rfl (.int .u8 (.ofNat (48 + (u % 100000000 / 10000 / 100) / 10))) (.int .u8 (.ofNat (48 + (u % 100000000 / 10000 / 100) % 10)))
    rw [enc_cons2 _ (by omega)] at g4
    refine Xk.gen g4 fun l g4 => ?_
    have hll := g4.len
    have hbl := Heap.get_put_self H' b (.cells l 1)
    repeat (first | ((first | apply Xk.sAny | apply Xk.tAny); (case hok => rfl); (case h => intro C hC; simp (disch := omega) only [w1, ↓reduceIte, Nat.reduceEqDiff, Nat.reduceLeDiff, Nat.reduceAdd, Nat.reduceSub, e8]; with_reducible exact hC); refine gc ?_) | refine gm ?_)
    refine ⟨rfl, m, by omega, u / 100000000, rfl, by omega, l, pr (u % 100000000 / 10000 / 100) ++ (pr (u % 100000000 / 10000 % 100) ++ (pr (u % 100000000 % 10000 / 100) ++ (pr (u % 100000000 % 10000 % 100) ++ low))), hS.put hb' _, hbl, by omega, ?_, ?_, div_pow 8 hlt⟩
    · simp only [enc_app, List.append_assoc]
      exact g4
    · have d1 := dgs2 (m + 6) u
      have d2 := dgs2 (m + 4) (u / 100)
      have d3 := dgs2 (m + 2) (u / 100 / 100)
      have d4 := dgs2 m (u / 100 / 100 / 100)
      have x1 : u % 100 = u % 100000000 % 10000 % 100 := by omega
      have x2 : u / 100 % 100 = u % 100000000 % 10000 / 100 := by omega
      have x3 : u / 100 / 100 % 100 = u % 100000000 / 10000 % 100 := by omega
      have x4 : u / 100 / 100 / 100 % 100 = u % 100000000 / 10000 / 100 := by omega
      have x5 : u / 100 / 100 / 100 / 100 = u / 100000000 := by omega
      rw [x1] at d1; rw [x2] at d2; rw [x3] at d3; rw [x4, x5] at d4
      rw [hdg, d1, d2, d3, d4]
      simp only [List.append_assoc]
  · have c8' := eq_false c8
    have hsmall : u < 10000000 := by
      have : (10 : Nat) ^ nd ≤ 10 ^ 7 := Nat.pow_le_pow_right (by decide) (by omega)
      omega
    repeat (first | ((first | apply Xk.sAny | apply Xk.tAny); (case hok => rfl); (case h => intro C hC; simp (disch := omega) only [w1, ↓reduceIte, Nat.reduceEqDiff, Nat.reduceLeDiff, Nat.reduceAdd, Nat.reduceSub, c8', cint_u32]; with_reducible exact hC); refine gc ?_) | refine gm ?_)
    refine Xk.cut [0, 4, 12] (fun k H' => ∃ nd x, nd < 4 ∧ k = [(0, .sl b o n0 1), (4, .int .i64 (.ofNat nd)), (12, .int .u32 (.ofNat x))] ∧ Fb H b o n0 l0.length (l0.take o) (l0.drop (o + n0)) u0 nd x H') ?_ ?_
    · refine Xk.if_ rfl rfl (fun c4 => ?_) (fun c4 => ?_)
      case refine_2 =>
        repeat (first | ((first | apply Xk.sAny | apply Xk.tAny); (case hok => rfl); (case h => intro C hC; simp (disch := omega) only [w1, ↓reduceIte, Nat.reduceEqDiff, Nat.reduceLeDiff, Nat.reduceAdd, Nat.reduceSub]; with_reducible exact hC); refine gc ?_) | refine gm ?_)
        exact ⟨rfl, nd, u, by omega, rfl, l, low, hS, hbl, hnd, g, hdg, hlt⟩
      obtain ⟨m, rfl⟩ : ∃ m, nd = m + 4 := ⟨nd - 4, by omega⟩
      have e1 : m + 4 - 1 = m + 3 := rfl
      have e2 : m + 4 - 2 = m + 2 := rfl
      have e3 : m + 4 - 3 = m + 1 := rfl
      have e4 : m + 4 - 4 = m := rfl
      have hle := g.le
      have hll := g.len
      have hb' := hbl
      (apply Xk.sRun; (case hok => rfl); (case h => intro C hC; simp (disch := omega) only [w1, ↓reduceIte, Nat.reduceEqDiff, Nat.reduceLeDiff, Nat.reduceAdd, Nat.reduceSub]; with_reducible exact hC))
      (apply Xk.sRun; (case hok => rfl); (case h => intro C hC; simp (disch := omega) only [w1, ↓reduceIte, Nat.reduceEqDiff, Nat.reduceLeDiff, Nat.reduceAdd, Nat.reduceSub, quon_u32]; with_reducible exact hC))
      (apply Xk.sRun; (case hok => rfl); (case h => intro C hC; simp (disch := omega) only [w1, ↓reduceIte, Nat.reduceEqDiff, Nat.reduceLeDiff, Nat.reduceAdd, Nat.reduceSub, quon_u32, muln_u32]; with_reducible exact hC))
      have j1 : o + (m + 3) + 1 ≤ l.length := by omega
      have j2 : o + (m + 2) + 1 ≤ l.length := by omega
      have j3 := over_len l (o + (m + 3)) j1
      have k1 : m + 3 < n0 := by omega
      have k2 : (m + 2) < n0 := by omega
      (apply Xk.sRun; (case hok => rfl); (case h => intro C hC; simp (disch := omega) only [w1, ↓reduceIte, Nat.reduceEqDiff, Nat.reduceLeDiff, Nat.reduceAdd, Nat.reduceSub, hbl, addn_u32, sm0, sm1, e1, e2, k1, k2, j1, j2, j3]; with_reducible exact hC))
      have g1 := g.pair (p1 := o + (m + 3)) (p := o + (m + 2)) rfl rfl (.int .u8 (.ofNat (48 + (u % 10000 % 100) / 10))) (.int .u8 (.ofNat (48 + (u % 10000 % 100) % 10)))
      rw [enc_cons2 _ (by omega)] at g1
      refine Xk.gen g1 fun l g1 => ?_
      have hll := g1.len
      have hbl := Heap.get_put_self H' b (.cells l 1)
      have j1 : o + (m + 1) + 1 ≤ l.length := by omega
      have j2 : o + m + 1 ≤ l.length := by omega
      have j3 := over_len l (o + (m + 1)) j1
      have k1 : m + 1 < n0 := by omega
      have k2 : m < n0 := by omega
      (apply Xk.sRun; (case hok => rfl); (case h => intro C hC; simp (disch := omega) only [w1, ↓reduceIte, Nat.reduceEqDiff, Nat.reduceLeDiff, Nat.reduceAdd, Nat.reduceSub, hbl, addn_u32, sm0, sm1, e3, e4, k1, k2, j1, j2, j3]; with_reducible exact hC))
      have g2 := g1.pair (p1 := o + (m + 1)) (p := o + m) rfl rfl (.int .u8 (.ofNat (48 + (u % 10000 / 100) / 10))) (.int .u8 (.ofNat (48 + (u % 10000 / 100) % 10)))
      rw [enc_cons2 _ (by omega)] at g2
      refine Xk.gen g2 fun l g2 => ?_
      have hll := g2.len
      have hbl := Heap.get_put_self H' b (.cells l 1)
      repeat (first | ((first | apply Xk.sAny | apply Xk.tAny); (case hok => rfl); (case h => intro C hC; simp (disch := omega) only [w1, ↓reduceIte, Nat.reduceEqDiff, Nat.reduceLeDiff, Nat.reduceAdd, Nat.reduceSub, e4]; with_reducible exact hC); refine gc ?_) | refine gm ?_)
      refine ⟨rfl, m, u / 10000, by omega, rfl, l, pr (u % 10000 / 100) ++ (pr (u % 10000 % 100) ++ low), hS.put hb' _, hbl, by omega, ?_, ?_, div_pow 4 hlt⟩
      · simp only [enc_app, List.append_assoc]
        exact g2
      · have d1 := dgs2 (m + 2) u
        have d2 := dgs2 m (u / 100)
        have x1 : u % 100 = u % 10000 % 100 := by omega
        have x2 : u / 100 % 100 = u % 10000 / 100 := by omega
        have x5 : u / 100 / 100 = u / 10000 := by omega
        rw [x1] at d1; rw [x2, x5] at d2
        rw [hdg, d1, d2]
        simp only [List.append_assoc]
    rintro k H' ⟨nd, u, h4, rfl, l, low, hS, hbl, hnd, g, hdg, hlt⟩
    have hsmall : u < 1000 := by
      have : (10 : Nat) ^ nd ≤ 10 ^ 3 := Nat.pow_le_pow_right (by decide) (by omega)
      omega
    refine Xk.cut [0, 4, 12] (fun k H' => ∃ nd x, nd < 2 ∧ k = [(0, .sl b o n0 1), (4, .int .i64 (.ofNat nd)), (12, .int .u32 (.ofNat x))] ∧ Fb H b o n0 l0.length (l0.take o) (l0.drop (o + n0)) u0 nd x H') ?_ ?_
    · (apply Xk.sRun; (case hok => rfl); (case h => intro C hC; simp (disch := omega) only [w1, ↓reduceIte, Nat.reduceEqDiff, Nat.reduceLeDiff, Nat.reduceAdd, Nat.reduceSub]; with_reducible exact hC))
      refine Xk.if_ rfl rfl (fun c2 => ?_) (fun c2 => ?_)
      case refine_2 =>
        repeat (first | ((first | apply Xk.sAny | apply Xk.tAny); (case hok => rfl); (case h => intro C hC; simp (disch := omega) only [w1, ↓reduceIte, Nat.reduceEqDiff, Nat.reduceLeDiff, Nat.reduceAdd, Nat.reduceSub]; with_reducible exact hC); refine gc ?_) | refine gm ?_)
        exact ⟨rfl, nd, u, by omega, rfl, l, low, hS, hbl, hnd, g, hdg, hlt⟩
      obtain ⟨m, rfl⟩ : ∃ m, nd = m + 2 := ⟨nd - 2, by omega⟩
      have e1 : m + 2 - 1 = m + 1 := rfl
      have e2 : m + 2 - 2 = m := rfl
      have hle := g.le
      have hll := g.len
      have hb' := hbl
      (apply Xk.sRun; (case hok => rfl); (case h => intro C hC; simp (disch := omega) only [w1, ↓reduceIte, Nat.reduceEqDiff, Nat.reduceLeDiff, Nat.reduceAdd, Nat.reduceSub, muln_u32]; with_reducible exact hC))
      (apply Xk.sRun; (case hok => rfl); (case h => intro C hC; simp (disch := omega) only [w1, ↓reduceIte, Nat.reduceEqDiff, Nat.reduceLeDiff, Nat.reduceAdd, Nat.reduceSub, quon_u32]; with_reducible exact hC))
      have j1 : o + (m + 1) + 1 ≤ l.length := by omega
      have j2 : o + m + 1 ≤ l.length := by omega
      have j3 := over_len l (o + (m + 1)) j1
      have k1 : m + 1 < n0 := by omega
      have k2 : m < n0 := by omega
      (apply Xk.sRun; (case hok => rfl); (case h => intro C hC; simp (disch := omega) only [w1, ↓reduceIte, Nat.reduceEqDiff, Nat.reduceLeDiff, Nat.reduceAdd, Nat.reduceSub, hbl, addn_u32, sm0, sm1, e1, e2, k1, k2, j1, j2, j3]; with_reducible exact hC))
      have g1 := g.pair (p1 := o + (m + 1)) (p := o + m) rfl rfl (.int .u8 (.ofNat (48 + (u % 100) / 10))) (.int .u8 (.ofNat (48 + (u % 100) % 10)))
      rw [enc_cons2 _ (by omega)] at g1
      refine Xk.gen g1 fun l g1 => ?_
      have hll := g1.len
      have hbl := Heap.get_put_self H' b (.cells l 1)
      repeat (first | ((first | apply Xk.sAny | apply Xk.tAny); (case hok => rfl); (case h => intro C hC; simp (disch := omega) only [w1, ↓reduceIte, Nat.reduceEqDiff, Nat.reduceLeDiff, Nat.reduceAdd, Nat.reduceSub, e2]; with_reducible exact hC); refine gc ?_) | refine gm ?_)
      refine ⟨rfl, m, u / 100, by omega, rfl, l, pr (u % 100) ++ low, hS.put hb' _, hbl, by omega, ?_, ?_, div_pow 2 hlt⟩
      · simp only [enc_app, List.append_assoc]
        exact g1
      · rw [hdg, dgs2 m u]
        simp only [List.append_assoc]
    rintro k H' ⟨nd, u, h2, rfl, l, low, hS, hbl, hnd, g, hdg, hlt⟩
    have hle := g.le
    have hll := g.len
    by_cases c0 : 0 < nd
    case neg =>
      have c0' := eq_false c0
      obtain rfl : nd = 0 := by omega
      repeat (first | ((first | apply Xk.sAny | apply Xk.tAny); (case hok => rfl); (case h => intro C hC; simp (disch := omega) only [w1, ↓reduceIte, Nat.reduceEqDiff, Nat.reduceLeDiff, Nat.reduceAdd, Nat.reduceSub, c0']; with_reducible exact hC); refine gc ?_) | refine gm ?_)
      refine hQ l _ hS hbl hll g.pre ?_
      have := g.suf
      rw [Nat.add_zero] at this
      rw [this, hdg]
      rfl
    have c0' := eq_true c0
    obtain rfl : nd = 1 := by omega
    have hu10 : u < 10 := hlt
    have hb' := hbl
    have k1 : 0 < n0 := by omega
    have j1 : o + 1 ≤ l.length := by omega
    have g1 := Gd.one (m := 0) g (p := o) rfl (.int .u8 (.ofNat (48 + u)))
    repeat (first | ((first | apply Xk.sAny | apply Xk.tAny); (case hok => rfl); (case h => intro C hC; simp (disch := omega) only [w1, ↓reduceIte, Nat.reduceEqDiff, Nat.reduceLeDiff, Nat.reduceAdd, Nat.reduceSub, c0', addn_u32, k1, j1, hbl]; with_reducible exact hC); refine gc ?_) | refine gm ?_)
    refine hQ _ _ (hS.put hb' _) (Heap.get_put_self _ _ _) g1.len g1.pre ?_
    have := g1.suf
    rw [Nat.add_zero] at this
    rw [hdg, enc_app]
    refine this.trans ?_
    have e : dgs 1 u = [UInt8.ofNat (48 + u)] := by
      show [] ++ [UInt8.ofNat (48 + u % 10)] = _
      rw [Nat.mod_eq_of_lt hu10]; rfl
    have e2 : (UInt8.ofNat (48 + u)).toNat = 48 + u := by rw [UInt8.toNat_ofNat']; omega
    rw [e]
    show _ = [AV.int .u8 (Int.ofNat (UInt8.ofNat (48 + u)).toNat)] ++ ofBytes low ++ _
    rw [e2]
    rfl
end Go.Proofs.YtihoblfmhighpaaDoor
