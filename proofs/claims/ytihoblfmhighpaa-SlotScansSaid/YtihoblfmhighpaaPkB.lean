/- Numbers as bytes: the program's writer, its loop. Conditions: none. -/
import Derived.Test.YtihoblfmhighpaaPkP
import Derived.Test.YtihoblfmhighpaaTgB
import Derived.Test.YtihoblfmhighpaaLibT
namespace Go.Proofs.Ytihoblfmhighpaa
open Go.Dp
set_option linter.unusedSimpArgs false
set_option linter.unusedVariables false
set_option maxHeartbeats 400000
set_option maxRecDepth 8000
attribute [local irreducible] Ex.thnK Ex.inK Ret

theorem pk_bytesOf : ∀ s : List UInt8, bytesOf (ofBytes s) = some s
  | [] => rfl
  | c :: r => by
    have h : Go.Dp.byteOf (.int .u8 (Int.ofNat c.toNat)) = some c := by
      show some (UInt8.ofNat c.toNat) = _
      rw [UInt8.ofNat_toNat]
    show (match Go.Dp.byteOf (.int .u8 (Int.ofNat c.toNat)) with
      | some c => (match bytesOf (ofBytes r) with
        | some l => some (c :: l)
        | none => none)
      | none => none) = _
    rw [h, pk_bytesOf r]
theorem pk_strOf (s : List UInt8) : strOf (some (ofBytes s)) = some (.str s) := by
  unfold strOf
  simp only [pk_bytesOf]
theorem pk_len (s : List UInt8) : (ofBytes s).length = s.length := List.length_map ..
theorem pk_app (s t : List UInt8) : ofBytes (s ++ t) = ofBytes s ++ ofBytes t := List.map_append
theorem pk_one {x : Nat} (h : x < 256) : ofBytes [UInt8.ofNat x] = [.int .u8 (.ofNat x)] := by
  show [AV.int .u8 (Int.ofNat (UInt8.ofNat x).toNat)] = _
  rw [u8n h]
theorem pk_cons (c : UInt8) (s : List UInt8) : ofBytes (c :: s) = .int .u8 (.ofNat c.toNat) :: ofBytes s := rfl
theorem pk_sc (s : List UInt8) : (ofBytes s).all AV.isSc = true := by
  induction s with
  | nil => rfl
  | cons c r ih => rw [pk_cons, List.all_cons, ih]; rfl

theorem bv64 (a : Nat) : BitVec.ofInt 64 (Int.ofNat a) = BitVec.ofNat 64 a := BitVec.ofInt_natCast 64 a
theorem zig_ops (n : Int) (h1 : -9223372036854775808 ≤ n) (h2 : n ≤ 9223372036854775807) : ∃ a b m d,
    rCint .u64 (.int .i64 n) = some (.int .u64 (.ofNat a)) ∧ bin .shl (.int .u64 (.ofNat a)) (.int .u64 (.ofNat 1)) = some (.int .u64 (.ofNat b)) ∧
    bin .shr (.int .i64 n) (.int .u64 (.ofNat 63)) = some (.int .i64 m) ∧ rCint .u64 (.int .i64 m) = some (.int .u64 (.ofNat d)) ∧
    bin .xor (.int .u64 (.ofNat b)) (.int .u64 (.ofNat d)) = some (.int .u64 (.ofNat (zig n))) := by
  cases n with
  | ofNat k =>
    have hk : k < 9223372036854775808 := by have : Int.ofNat k = (k : Int) := rfl; omega
    refine ⟨k, 2 * k, 0, 0, cint_u64 _ _ (by omega), ?_, ?_, rfl, ?_⟩
    · show some (AV.int .u64 (wr .u64 (Int.ofNat k * 2 ^ (min (1 : Nat) 64)))) = _
      rw [show Int.ofNat k * 2 ^ (min (1 : Nat) 64) = Int.ofNat (2 * k) by rw [show min (1 : Nat) 64 = 1 by decide, Int.pow_succ, Int.pow_zero, Int.one_mul, Int.mul_comm]; rfl, wrn_u64 _ (by omega)]
    · show some (AV.int .i64 ((Int.ofNat k).fdiv (2 ^ (min (63 : Nat) 64)))) = _
      have : (Int.ofNat k).fdiv (2 ^ (min (63 : Nat) 64)) = 0 := by
        rw [show ((2 : Int) ^ (min (63 : Nat) 64)) = 9223372036854775808 by decide, Int.fdiv_eq_ediv_of_nonneg _ (by decide)]
        exact Int.ediv_eq_zero_of_lt (Int.natCast_nonneg k) (by show (k : Int) < _; omega)
      rw [this]
    · show some (AV.int .u64 (wr .u64 (((BitVec.ofInt 64 (Int.ofNat (2 * k)) ^^^ BitVec.ofInt 64 (Int.ofNat 0)).toNat : Nat) : Int))) = _
      have e : (BitVec.ofInt 64 (Int.ofNat (2 * k)) ^^^ BitVec.ofInt 64 (Int.ofNat 0)).toNat = zig (Int.ofNat k) := by
        rw [bv64, bv64, BitVec.toNat_xor, BitVec.toNat_ofNat, BitVec.toNat_ofNat, Nat.zero_mod, Nat.xor_zero, Nat.mod_eq_of_lt (by omega)]
        simp only [zig]
        have h0 : (0 : Int) ≤ Int.ofNat k := Int.natCast_nonneg k
        rw [if_pos h0]
        rfl
      rw [e]
      have := wrn_u64 (zig (Int.ofNat k)) (zig_lt h1 h2)
      exact congrArg (fun z => some (AV.int .u64 z)) this
  | negSucc k =>
    have hk : k < 9223372036854775808 := by have : Int.negSucc k = -(k : Int) - 1 := by omega
                                            omega
    refine ⟨18446744073709551615 - k, 18446744073709551614 - 2 * k, .negSucc 0, 18446744073709551615, ?_, ?_, ?_, rfl, ?_⟩
    · show some (AV.int .u64 (wr .u64 (Int.negSucc k))) = _
      rw [wr_eq]
      have : IntKind.u64.wrap (Int.negSucc k) = Int.ofNat (18446744073709551615 - k) := by
        simp only [IntKind.wrap, IntKind.bits, IntKind.signed]
        have e : Int.ofNat (18446744073709551615 - k) = 18446744073709551615 - (k : Int) := by
          show ((18446744073709551615 - k : Nat) : Int) = _; omega
        rw [e]
        simp
        omega
      rw [this]
    · show some (AV.int .u64 (wr .u64 (Int.ofNat (18446744073709551615 - k) * 2 ^ (min (1 : Nat) 64)))) = _
      rw [wr_eq]
      have : IntKind.u64.wrap (Int.ofNat (18446744073709551615 - k) * 2 ^ (min (1 : Nat) 64)) = Int.ofNat (18446744073709551614 - 2 * k) := by
        rw [show min (1 : Nat) 64 = 1 by decide, Int.pow_succ, Int.pow_zero, Int.one_mul]
        have e : Int.ofNat (18446744073709551614 - 2 * k) = 18446744073709551614 - 2 * (k : Int) := by
          show ((18446744073709551614 - 2 * k : Nat) : Int) = _; omega
        have e2 : Int.ofNat (18446744073709551615 - k) = 18446744073709551615 - (k : Int) := by
          show ((18446744073709551615 - k : Nat) : Int) = _; omega
        rw [e, e2]
        simp only [IntKind.wrap, IntKind.bits, IntKind.signed]
        simp
        omega
      rw [this]
    · show some (AV.int .i64 ((Int.negSucc k).fdiv (2 ^ (min (63 : Nat) 64)))) = _
      have : (Int.negSucc k).fdiv (2 ^ (min (63 : Nat) 64)) = Int.negSucc 0 := by
        rw [show ((2 : Int) ^ (min (63 : Nat) 64)) = 9223372036854775808 by decide, Int.fdiv_eq_ediv_of_nonneg _ (by decide)]
        omega
      rw [this]
    · show some (AV.int .u64 (wr .u64 (((BitVec.ofInt 64 (Int.ofNat (18446744073709551614 - 2 * k)) ^^^ BitVec.ofInt 64 (Int.ofNat 18446744073709551615)).toNat : Nat) : Int))) = _
      have e : (BitVec.ofInt 64 (Int.ofNat (18446744073709551614 - 2 * k)) ^^^ BitVec.ofInt 64 (Int.ofNat 18446744073709551615)).toNat = zig (Int.negSucc k) := by
        have ea : BitVec.ofNat 64 18446744073709551615 = BitVec.allOnes 64 := by decide
        rw [bv64, bv64, ea, BitVec.xor_allOnes, BitVec.toNat_not, BitVec.toNat_ofNat, Nat.mod_eq_of_lt (by omega)]
        simp only [zig]
        rw [if_neg (by omega)]
        have : (-(Int.negSucc k)).toNat = k + 1 := by rw [Int.neg_negSucc]; rfl
        omega
      rw [e]
      have := wrn_u64 (zig (Int.negSucc k)) (zig_lt h1 h2)
      exact congrArg (fun z => some (AV.int .u64 z)) this

theorem cint_lo (u : Nat) : rCint .u8 (.int .u64 (.ofNat u)) = some (.int .u8 (.ofNat (u % 256))) := by
  show some (AV.int .u8 (wr .u8 (.ofNat u))) = _
  rw [wr_eq]
  have : IntKind.u8.wrap (Int.ofNat u) = Int.ofNat (u % 256) := by
    simp only [IntKind.wrap, IntKind.bits, IntKind.signed]
    have e : Int.ofNat (u % 256) = (u : Int) % 256 := by show ((u % 256 : Nat) : Int) = _; omega
    rw [e]
    simp
  rw [this]
theorem or_128 : ∀ x : Fin 256, (BitVec.ofInt 8 (Int.ofNat x.1) ||| BitVec.ofInt 8 (Int.ofNat 128)).toNat = x.1 % 128 + 128 := by decide +kernel
theorem bor128 (x : Nat) (h : x < 256) : bin .or (.int .u8 (.ofNat x)) (.int .u8 (.ofNat 128)) = some (.int .u8 (.ofNat (x % 128 + 128))) := by
  show some (AV.int .u8 (wr .u8 (((BitVec.ofInt 8 (Int.ofNat x) ||| BitVec.ofInt 8 (Int.ofNat 128)).toNat : Nat) : Int))) = _
  rw [or_128 ⟨x, h⟩]
  exact congrArg (fun z => some (AV.int .u8 z)) (wrn_u8 _ (by omega))
theorem shr64 (a s : Nat) (h : s ≤ 64) : bin .shr (.int .u64 (.ofNat a)) (.int .u64 (.ofNat s)) = some (.int .u64 (.ofNat (a / 2 ^ s))) := by
  show some (AV.int .u64 ((Int.ofNat a).fdiv (2 ^ (min s 64)))) = _
  rw [Nat.min_eq_left h]
  have : (Int.ofNat a).fdiv (2 ^ s) = Int.ofNat (a / 2 ^ s) := by
    rw [Int.fdiv_eq_ediv_of_nonneg _ (Int.le_of_lt (Int.pow_pos (by decide)))]
    show (a : Int) / 2 ^ s = ((a / 2 ^ s : Nat) : Int)
    rw [Int.natCast_ediv, Int.natCast_pow]
    rfl
  rw [this]

theorem rep1 (n : Nat) (x : AV) : rep n [x] = List.replicate n x := by
  induction n with
  | zero => rfl
  | succ n ih => show [x] ++ rep n [x] = _; rw [ih]; rfl
theorem mksl_bytes (a b : Nat) (h : a ≤ b) (h2 : b ≤ 35184372088832) : nMksl 2 1 1 [.int .u8 (.ofNat 0)] (.int .i64 (.ofNat a)) (.int .i64 (.ofNat b)) = some (.cells (List.replicate b (.int .u8 (.ofNat 0))) 3, slTo a 1) := by
  unfold nMksl
  simp only [natOf, nble, rep1]
  rw [decide_eq_true h, decide_eq_true (show 1 * b ≤ 140737488355328 by omega), decide_eq_true (show b ≤ 140737488355328 by omega)]
  rfl

theorem sl_len {H : Heap} {v : AV} {s : List UInt8} (h : Sl H 1 v (ofBytes s)) : rLensl v = some (.int .i64 (.ofNat s.length)) ∧ v.isSc = true ∧ v.cells = [v] := by
  rcases h with ⟨rfl, h2⟩ | ⟨b, o, len, l, w, rest, rfl, h2, _⟩
  · have : s = [] := by cases s with
      | nil => rfl
      | cons c r => cases h2
    subst this
    exact ⟨rfl, rfl, rfl⟩
  · rw [pk_len, Nat.mul_one] at h2
    rw [h2]
    exact ⟨rfl, rfl, rfl⟩
theorem rt_len {T : Tags} {H : Heap} {t : Tg} {v : AV} {s : List UInt8} (h : RT T H t 2 1 v (ofBytes s)) : rLensl v = some (.int .i64 (.ofNat s.length)) ∧ v.isSc = true ∧ v.cells = [v] := sl_len h.sl
theorem rt_str {T : Tags} {H : Heap} {t : Tg} {v : AV} {s : List UInt8} (h : RT T H t 2 1 v (ofBytes s)) : rB2s H v = some (.str s) := by
  rcases h with ⟨rfl, h2⟩ | ⟨c, len, l, rfl, h2, h3, h4, h5, h6⟩
  · have : s = [] := by cases s with
      | nil => rfl
      | cons c r => cases h2
    subst this
    rfl
  · rw [pk_len, Nat.mul_one] at h2
    rw [pk_len] at h4 h5
    subst h2
    show (bif Nat.beq 1 1 then strOf (H.ld c 0 s.length) else none) = _
    rw [Heap.ld_of h3 (by omega), List.drop_zero, h5, pk_strOf]
    rfl

theorem grown_ev (T : Tags) (H : Heap) (t : Tg) (v : AV) (s : List UInt8) (n : Nat) (hv : Sl H 1 v (ofBytes s)) (hn : s.length + n ≤ 1000000000) (Q : AV → Heap → Prop)
    (hQ : ∀ v' T' H', Stp (fun u => u = t) T H T' H' → RT T' H' t 2 1 v' (ofBytes s) → Q v' H') : Eo lib n_pack_grown [v, .int .i64 (.ofNat n)] H Q := by
  refine Eo.ok fun hOk => ?_
  refine Eo.code at_pack_grown rfl ?_
  obtain ⟨k1, k2, k3⟩ := sl_len hv
  have hmk := mksl_bytes 0 (s.length + n) (Nat.zero_le _) (by omega)
  have hsrc := (hv.mono (HLe.new (hOk _ (Nat.le_refl _)) (.cells (List.replicate (s.length + n) (.int .u8 (.ofNat 0))) 3))).src (pk_sc s) (by decide)
  rw [pk_len, Nat.div_one] at hsrc
  have s1 := Stp.new (O := fun _ => False) (T := T) hOk t (.cells (List.replicate (s.length + n) (.int .u8 (.ofNat 0))) 3)
  have hr : RT (T.lay H.next t) (H.new (.cells (List.replicate (s.length + n) (.int .u8 (.ofNat 0))) 3)) t 2 1 (.sl H.next 0 0 1) [] := .inr ⟨H.next, 0, _, rfl, rfl, Heap.get_new_self _ _, Nat.zero_le _, rfl, Tags.lay_self _ _ _⟩
  obtain ⟨v', H', T', e1, e2, e3⟩ := RT.app (bytes := 1) s1.ok hr hsrc (by rw [pk_len, Nat.mul_one]) (by decide) (by simp; omega) (by simp; omega)
  repeat (first | ((first | apply Xk.sAny | apply Xk.tAny); (case hok => rfl); (case h => intro C hC; simp (disch := omega) only [w1, ↓reduceIte, Nat.reduceEqDiff, Nat.reduceLeDiff, Nat.reduceAdd, Nat.reduceSub, k1, k2, k3, hmk, e1]; with_reducible exact hC); refine gc ?_) | refine gm ?_)
  exact hQ _ _ _ ((s1.mono fun _ h => h.elim).trans e2) e3
end Go.Proofs.Ytihoblfmhighpaa
namespace Go.Proofs.Ytihoblfmhighpaa
open Go.Dp
set_option linter.unusedSimpArgs false
set_option linter.unusedVariables false
set_option maxHeartbeats 400000
set_option maxRecDepth 8000
attribute [local irreducible] Ex.thnK Ex.inK Ret

theorem num_ev (T : Tags) (H : Heap) (t : Tg) (v : AV) (s : List UInt8) (n : Int) (hv : RT T H t 2 1 v (ofBytes s)) (hn : s.length ≤ 1000000000) (h1 : -9223372036854775808 ≤ n) (h2 : n ≤ 9223372036854775807) (Q : AV → Heap → Prop)
    (hQ : ∀ v' T' H', Stp (fun u => u = t) T H T' H' → RT T' H' t 2 1 v' (ofBytes (s ++ vi (zig n))) → Q v' H') : Eo lib n_pack_num [v, .int .i64 n] H Q := by
  refine Eo.ok fun hOk => ?_
  refine Eo.code at_pack_num rfl ?_
  obtain ⟨a, b, m, d, z1, z2, z3, z4, z5⟩ := zig_ops n h1 h2
  have hz := zig_lt h1 h2
  generalize zig n = z at z5 hz hQ
  obtain ⟨k1, k2, k3⟩ := rt_len hv
  iterate 2 repeat (first | ((first | apply Xk.sAny | apply Xk.tAny); (case hok => rfl); (case h => intro C hC; simp (disch := omega) only [w1, ↓reduceIte, Nat.reduceEqDiff, Nat.reduceLeDiff, Nat.reduceAdd, Nat.reduceSub, k2, k3, z1, z2, z3, z4, z5]; with_reducible exact hC); refine gc ?_) | refine gm ?_)
  refine Xk.iter [0, 5] (fun m k H' => ∃ v1 s1 T1, k = [(0, v1), (5, .int .u64 (.ofNat m))] ∧ m < 2 ^ 64 ∧ s1.length + (vi m).length = s.length + (vi z).length ∧ s1 ++ vi m = s ++ vi z ∧ Stp (fun u => u = t) T H T1 H' ∧ RT T1 H' t 2 1 v1 (ofBytes s1)) rfl
    ⟨_, v, s, T, rfl, hz, rfl, rfl, Stp.refl hOk, hv⟩ ?_
  rintro m k H' ⟨v1, s1, T1, rfl, hm, hle, heq, st1, hr⟩
  unfold l0_pack_num
  obtain ⟨k1, k2, k3⟩ := rt_len hr
  have hz10 := vi_len10 hz
  by_cases c : 128 ≤ m
  · have hsz : s1.length ≤ 1000000010 := by omega
    have f1 := cint_lo m
    have f2 := bor128 (m % 256) (by omega)
    rw [show m % 256 % 128 = m % 128 by omega] at f2
    obtain ⟨v', H2, T2, e1, e2, e3⟩ := RT.push (bytes := 1) (w := 3) (row := [.int .u8 (.ofNat (m % 128 + 128))]) st1.ok hr rfl rfl (by decide) (by rw [pk_len]; omega) (by rw [pk_len]; omega)
    obtain ⟨q1, q2⟩ := e3.sc
    have f3 := shr64 m 7 (by omega)
    rw [show m / 2 ^ 7 = m / 128 from rfl] at f3
    repeat (first | ((first | apply Xk.sAny | apply Xk.tAny); (case hok => rfl); (case h => intro C hC; simp (disch := omega) only [w1, ↓reduceIte, Nat.reduceEqDiff, Nat.reduceLeDiff, Nat.reduceAdd, Nat.reduceSub, c, k2, k3, f1, f2]; with_reducible exact hC); refine gc ?_) | refine gm ?_)
    iterate 2 repeat (first | ((first | apply Xk.sAny | apply Xk.tAny); (case hok => rfl); (case h => intro C hC; simp (disch := omega) only [w1, ↓reduceIte, Nat.reduceEqDiff, Nat.reduceLeDiff, Nat.reduceAdd, Nat.reduceSub, c, k2, k3, f1, f2, e1, q1, q2, f3]; with_reducible exact hC); refine gc ?_) | refine gm ?_)
    rw [vi_large c] at hle heq
    rw [List.length_cons] at hle
    refine ⟨rfl, _, by omega, v', s1 ++ [UInt8.ofNat (m % 128 + 128)], T2, rfl, by omega, ?_, ?_, st1.trans e2, ?_⟩
    · rw [List.length_append, List.length_singleton]; omega
    · rw [List.append_assoc]; exact heq
    · rw [pk_app, pk_one (by omega)]; exact e3
  · have hsz : s1.length ≤ 1000000010 := by omega
    have f1 := cint_lo m
    rw [show m % 256 = m by omega] at f1
    obtain ⟨v', H2, T2, e1, e2, e3⟩ := RT.push (bytes := 1) (w := 3) (row := [.int .u8 (.ofNat m)]) st1.ok hr rfl rfl (by decide) (by rw [pk_len]; omega) (by rw [pk_len]; omega)
    obtain ⟨q1, q2⟩ := e3.sc
    repeat (first | ((first | apply Xk.sAny | apply Xk.tAny); (case hok => rfl); (case h => intro C hC; simp (disch := omega) only [w1, ↓reduceIte, Nat.reduceEqDiff, Nat.reduceLeDiff, Nat.reduceAdd, Nat.reduceSub, c]; with_reducible exact hC); refine gc ?_) | refine gm ?_)
    iterate 2 repeat (first | ((first | apply Xk.sAny | apply Xk.tAny); (case hok => rfl); (case h => intro C hC; simp (disch := omega) only [w1, ↓reduceIte, Nat.reduceEqDiff, Nat.reduceLeDiff, Nat.reduceAdd, Nat.reduceSub, c, k2, k3, f1, e1, q1, q2]; with_reducible exact hC); refine gc ?_) | refine gm ?_)
    rw [vi_small (by omega)] at heq
    refine hQ _ _ _ (st1.trans e2) ?_
    rw [← heq, pk_app, pk_one (by omega)]
    exact e3

theorem Num_ev (T : Tags) (H : Heap) (t : Tg) (v : AV) (s : List UInt8) (n : Int) (hv : Sl H 1 v (ofBytes s)) (hn : s.length ≤ 100000000) (h1 : -9223372036854775808 ≤ n) (h2 : n ≤ 9223372036854775807) (Q : AV → Heap → Prop)
    (hQ : ∀ v' T' H', Stp (fun u => u = t) T H T' H' → RT T' H' t 2 1 v' (ofBytes (s ++ vi (zig n))) → Q v' H') : Eo lib n_pack_Num [v, .int .i64 n] H Q := by
  refine Eo.ok fun hOk => ?_
  refine Eo.code at_pack_Num rfl ?_
  obtain ⟨k1, k2, k3⟩ := sl_len hv
  iterate 2 repeat (first | ((first | apply Xk.sAny | apply Xk.tAny); (case hok => rfl); (case h => intro C hC; simp (disch := omega) only [w1, ↓reduceIte, Nat.reduceEqDiff, Nat.reduceLeDiff, Nat.reduceAdd, Nat.reduceSub, k2, k3]; with_reducible exact hC); refine gc ?_) | refine gm ?_)
  refine grown_ev T H t v s 10 hv (by omega) _ fun v' T' H' st hr => ?_
  obtain ⟨q1, q2⟩ := hr.sc
  repeat (first | ((first | apply Xk.sAny | apply Xk.tAny); (case hok => rfl); (case h => intro C hC; simp (disch := omega) only [w1, ↓reduceIte, Nat.reduceEqDiff, Nat.reduceLeDiff, Nat.reduceAdd, Nat.reduceSub, q1, q2]; with_reducible exact hC); refine gc ?_) | refine gm ?_)
  refine num_ev T' H' t v' s n hr (by omega) h1 h2 _ fun v2 T2 H2 st2 hr2 => ?_
  obtain ⟨q1, q2⟩ := hr2.sc
  repeat (first | ((first | apply Xk.sAny | apply Xk.tAny); (case hok => rfl); (case h => intro C hC; simp (disch := omega) only [w1, ↓reduceIte, Nat.reduceEqDiff, Nat.reduceLeDiff, Nat.reduceAdd, Nat.reduceSub, q1, q2]; with_reducible exact hC); refine gc ?_) | refine gm ?_)
  exact hQ _ _ _ (st.trans st2) hr2
end Go.Proofs.Ytihoblfmhighpaa
