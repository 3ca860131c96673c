/- Numbers as bytes: the program's reader. Conditions: none. -/
import Derived.Test.YtihoblfmhighpaaPkB
namespace Go.Proofs.Ytihoblfmhighpaa
open Go.Dp
set_option linter.unusedSimpArgs false
set_option linter.unusedVariables false
set_option maxHeartbeats 400000
set_option maxRecDepth 8000
attribute [local irreducible] Ex.thnK Ex.inK Ret

theorem rt_at {T : Tags} {H : Heap} {t : Tg} {v : AV} {b : List UInt8} (h : RT T H t 2 1 v (ofBytes b)) (hl : 0 < b.length) :
    ∃ c l, v = .sl c 0 b.length 1 ∧ H.get c = some (.cells l 3) ∧ T c = t ∧ l.take b.length = ofBytes b ∧ b.length ≤ l.length ∧ ∀ j, j < b.length → j + 1 ≤ l.length ∧ (l.drop j).take 1 = [.int .u8 (.ofNat (b.getD j 0).toNat)] := by
  rcases h with ⟨rfl, h2⟩ | ⟨c, len, l, rfl, h2, h3, h4, h5, h6⟩
  · have : (ofBytes b).length = 0 := by rw [h2]; rfl
    rw [pk_len] at this
    omega
  · rw [pk_len, Nat.mul_one] at h2
    rw [pk_len] at h4 h5
    subst h2
    refine ⟨c, l, rfl, h3, h6, h5, h4, fun j hj => ⟨by omega, ?_⟩⟩
    have e : (l.take b.length).drop j = (l.drop j).take (b.length - j) := List.drop_take
    have e2 : (l.drop j).take 1 = ((l.take b.length).drop j).take 1 := by
      rw [e, List.take_take, Nat.min_eq_left (by omega)]
    rw [e2, h5]
    show ((b.map fun c => AV.int .u8 c.toNat).drop j).take 1 = _
    rw [← List.map_drop, List.drop_eq_getElem_cons hj, List.getD_eq_getElem?_getD, List.getElem?_eq_getElem hj]
    rfl

theorem and_127 : ∀ x : Fin 256, (BitVec.ofInt 8 (Int.ofNat x.1) &&& BitVec.ofInt 8 (Int.ofNat 127)).toNat = x.1 % 128 := by decide +kernel
theorem band127 (x : Nat) (h : x < 256) : bin .and (.int .u8 (.ofNat x)) (.int .u8 (.ofNat 127)) = some (.int .u8 (.ofNat (x % 128))) := by
  show some (AV.int .u8 (wr .u8 (((BitVec.ofInt 8 (Int.ofNat x) &&& BitVec.ofInt 8 (Int.ofNat 127)).toNat : Nat) : Int))) = _
  rw [and_127 ⟨x, h⟩]
  exact congrArg (fun z => some (AV.int .u8 z)) (wrn_u8 _ (by omega))
theorem shl64 (j : IntKind) (a s : Nat) (h : a * 2 ^ s < 2 ^ 64) (hs : s ≤ 64) : bin .shl (.int .u64 (.ofNat a)) (.int j (.ofNat s)) = some (.int .u64 (.ofNat (a * 2 ^ s))) := by
  show some (AV.int .u64 (wr .u64 (Int.ofNat a * 2 ^ (min s 64)))) = _
  rw [Nat.min_eq_left hs]
  have e : Int.ofNat a * 2 ^ s = Int.ofNat (a * 2 ^ s) := by
    show (a : Int) * 2 ^ s = ((a * 2 ^ s : Nat) : Int)
    rw [Int.natCast_mul, Int.natCast_pow]
    rfl
  rw [e, wrn_u64 _ h]
theorem bor64 (u a s : Nat) (h : u < 2 ^ s) (h2 : u + a * 2 ^ s < 2 ^ 64) : bin .or (.int .u64 (.ofNat u)) (.int .u64 (.ofNat (a * 2 ^ s))) = some (.int .u64 (.ofNat (u + a * 2 ^ s))) := by
  show some (AV.int .u64 (wr .u64 (((BitVec.ofInt 64 (Int.ofNat u) ||| BitVec.ofInt 64 (Int.ofNat (a * 2 ^ s))).toNat : Nat) : Int))) = _
  have e : (BitVec.ofInt 64 (Int.ofNat u) ||| BitVec.ofInt 64 (Int.ofNat (a * 2 ^ s))).toNat = u + a * 2 ^ s := by
    rw [bv64, bv64, BitVec.toNat_or, BitVec.toNat_ofNat, BitVec.toNat_ofNat, Nat.mod_eq_of_lt (by omega), Nat.mod_eq_of_lt (by omega), Nat.or_comm, ← Nat.shiftLeft_eq, ← Nat.shiftLeft_add_eq_or_of_lt h, Nat.add_comm]
  rw [e]
  exact congrArg (fun z => some (AV.int .u64 z)) (wrn_u64 _ h2)
theorem band1 (u : Nat) (h : u < 2 ^ 64) : bin .and (.int .u64 (.ofNat u)) (.int .u64 (.ofNat 1)) = some (.int .u64 (.ofNat (u % 2))) := by
  show some (AV.int .u64 (wr .u64 (((BitVec.ofInt 64 (Int.ofNat u) &&& BitVec.ofInt 64 (Int.ofNat 1)).toNat : Nat) : Int))) = _
  have e : (BitVec.ofInt 64 (Int.ofNat u) &&& BitVec.ofInt 64 (Int.ofNat 1)).toNat = u % 2 := by
    rw [bv64, bv64, BitVec.toNat_and, BitVec.toNat_ofNat, BitVec.toNat_ofNat, Nat.mod_eq_of_lt h, show 1 % 2 ^ 64 = 2 ^ 1 - 1 by decide, Nat.and_two_pow_sub_one_eq_mod]
  rw [e]
  exact congrArg (fun z => some (AV.int .u64 z)) (wrn_u64 _ (by omega))
theorem bvn1 : BitVec.ofInt 64 (Int.negSucc 0) = BitVec.allOnes 64 := by decide
theorem not64 (a : Nat) (h : a < 2 ^ 63) : wr .i64 (((BitVec.ofInt 64 (Int.ofNat a) ^^^ BitVec.allOnes 64).toNat : Nat) : Int) = -(a : Int) - 1 := by
  have e : (BitVec.ofInt 64 (Int.ofNat a) ^^^ BitVec.allOnes 64).toNat = 18446744073709551615 - a := by
    rw [bv64, BitVec.xor_allOnes, BitVec.toNat_not, BitVec.toNat_ofNat, Nat.mod_eq_of_lt (by omega)]
  rw [e, wr_eq]
  simp only [IntKind.wrap, IntKind.bits, IntKind.signed]
  have e2 : ((18446744073709551615 - a : Nat) : Int) = 18446744073709551615 - (a : Int) := by omega
  rw [e2]
  simp
  omega
theorem unz_ops (u : Nat) (h : u < 2 ^ 64) : ∃ m, un .neg (.int .i64 (.ofNat (u % 2))) = some (.int .i64 m) ∧ bin .xor (.int .i64 (.ofNat (u / 2))) (.int .i64 m) = some (.int .i64 (unz u)) := by
  by_cases he : u % 2 = 0
  · refine ⟨0, by rw [he]; rfl, ?_⟩
    show some (AV.int .i64 (wr .i64 (((BitVec.ofInt 64 (Int.ofNat (u / 2)) ^^^ BitVec.ofInt 64 (Int.ofNat 0)).toNat : Nat) : Int))) = _
    have e : (BitVec.ofInt 64 (Int.ofNat (u / 2)) ^^^ BitVec.ofInt 64 (Int.ofNat 0)).toNat = u / 2 := by
      rw [bv64, bv64, BitVec.toNat_xor, BitVec.toNat_ofNat, BitVec.toNat_ofNat, Nat.zero_mod, Nat.xor_zero, Nat.mod_eq_of_lt (by omega)]
    rw [e]
    have e2 : unz u = ((u / 2 : Nat) : Int) := by simp only [unz]; rw [if_pos he]
    rw [e2]
    exact congrArg (fun z => some (AV.int .i64 z)) (wrn_i64 _ (by omega))
  · have h1 : u % 2 = 1 := by omega
    refine ⟨.negSucc 0, by rw [h1]; rfl, ?_⟩
    show some (AV.int .i64 (wr .i64 (((BitVec.ofInt 64 (Int.ofNat (u / 2)) ^^^ BitVec.ofInt 64 (Int.negSucc 0)).toNat : Nat) : Int))) = _
    rw [bvn1, not64 _ (by omega)]
    have e2 : unz u = -((u / 2 : Nat) : Int) - 1 := by simp only [unz]; rw [if_neg he]
    rw [e2]

theorem tgn {a b c d e f : Nat} (h : b ≠ e ∨ c ≠ f) : ¬ ((a, b, c) : Tg) = (d, e, f) := fun q => by
  injection q with _ q; injection q with q1 q2
  rcases h with h | h
  · exact h q1
  · exact h q2
def Rdr (T : Tags) (H : Heap) (tr tb : Tg) (p : Nat) (b : List UInt8) (s : Nat × Nat) : Prop := ∃ v, At T H tr p (.cells [v, .int .i64 (.ofNat s.1), .int .i64 (.ofNat s.2)] 1) ∧ RT T H tb 2 1 v (ofBytes b)
theorem Rdr.step {O : Tg → Prop} {T T' : Tags} {H H' : Heap} {tr tb : Tg} {p : Nat} {b : List UInt8} {s : Nat × Nat} (h : Rdr T H tr tb p b s) (st : Stp O T H T' H') (h1 : ¬ O tr) (h2 : ¬ O tb) : Rdr T' H' tr tb p b s := by
  obtain ⟨v, ha, hr⟩ := h
  exact ⟨v, ha.step st h1, hr.step st h2⟩

theorem Read_ev (T : Tags) (H : Heap) (tr tb : Tg) (hne : tr ≠ tb) (v : AV) (s : List UInt8) (hv : Sl H 1 v (ofBytes s)) (hn : s.length ≤ 100000000) (Q : AV → Heap → Prop)
    (hQ : ∀ p T' H', Stp (fun u => u = tb) T H T' H' → Rdr T' H' tr tb p s (0, 0) → Q (.ptr p 0) H') : Eo lib n_pack_Read [v] H Q := by
  refine Eo.ok fun hOk => ?_
  refine Eo.code at_pack_Read rfl ?_
  obtain ⟨k1, k2, k3⟩ := sl_len hv
  iterate 2 repeat (first | ((first | apply Xk.sAny | apply Xk.tAny); (case hok => rfl); (case h => intro C hC; simp (disch := omega) only [w1, ↓reduceIte, Nat.reduceEqDiff, Nat.reduceLeDiff, Nat.reduceAdd, Nat.reduceSub, k2, k3]; with_reducible exact hC); refine gc ?_) | refine gm ?_)
  refine grown_ev T H tb v s 0 hv (by omega) _ fun v' T' H' st hr => ?_
  obtain ⟨q1, q2⟩ := hr.sc
  have hbx : nBox [v', .int .i64 (.ofNat 0), .int .i64 (.ofNat 0)] = some (.cells [v', .int .i64 (.ofNat 0), .int .i64 (.ofNat 0)] 1, ptrTo) := by
    unfold nBox
    rw [List.all_cons, q2]
    rfl
  repeat (first | ((first | apply Xk.sAny | apply Xk.tAny); (case hok => rfl); (case h => intro C hC; simp (disch := omega) only [w1, ↓reduceIte, Nat.reduceEqDiff, Nat.reduceLeDiff, Nat.reduceAdd, Nat.reduceSub, q1, q2, hbx]; with_reducible exact hC); refine gc ?_) | refine gm ?_)
  have s2 := Stp.new (O := fun u => u = tb) (T := T') st.ok tr (.cells [v', .int .i64 (.ofNat 0), .int .i64 (.ofNat 0)] 1)
  have s3 := Stp.new (O := fun _ => False) (T := T') st.ok tr (.cells [v', .int .i64 (.ofNat 0), .int .i64 (.ofNat 0)] 1)
  exact hQ _ _ _ (st.trans s2) ⟨v', At.new _ _, hr.step s3 (fun h => h)⟩

theorem fail_ev (H : Heap) (p a e : Nat) (v x y : AV) (hg : H.get p = some (.cells [v, x, y] 1)) (Q : AV → Heap → Prop)
    (hQ : Q (.tup []) (H.put p (.cells [v, .int .i64 (.ofNat a), .int .i64 (.ofNat e)] 1))) : Eo lib n_pack_Reader_fail [.ptr p 0, .int .i64 (.ofNat a), .int .i64 (.ofNat e)] H Q := by
  refine Eo.code at_pack_Reader_fail rfl ?_
  repeat (first | ((first | apply Xk.sAny | apply Xk.tAny); (case hok => rfl); (case h => intro C hC; simp (disch := omega) only [w1, ↓reduceIte, Nat.reduceEqDiff, Nat.reduceLeDiff, Nat.reduceAdd, Nat.reduceSub, hg]; with_reducible exact hC); refine gc ?_) | refine gm ?_)
  exact hQ

theorem drop_at {b : List UInt8} {j : Nat} (h : j < b.length) : b.drop j = b.getD j 0 :: b.drop (j + 1) := by
  rw [List.drop_eq_getElem_cons h, List.getD_eq_getElem?_getD, List.getElem?_eq_getElem h]
  rfl
theorem load_agg {H : Heap} {p w n : Nat} {l : List AV} (h : H.get p = some (.cells l w)) (hn : n = l.length) : rLoad H true n (.ptr p 0) = some (.agg l) := by
  subst hn
  unfold rLoad
  simp only [Heap.ld_of h (show 0 + l.length ≤ l.length by omega), List.drop_zero, List.take_length, cond_true]
  rfl
theorem ret_cell {k : Kn} {H : Heap} {t1 t2 n p : Nat} {l : List AV} {b : AV} {Q : AV → Heap → Prop} (h1 : k.get t1 = .ptr p 0) (h2 : k.get t2 = b) (hl : rLoad H true n (.ptr p 0) = some (.agg l)) (ok : okRes [.cell t1 true n, .tmp t2] k.keys = true)
    (hv : resV [.agg l, b] = some (.tup [.agg l, b])) (hQ : Q (.tup [.agg l, b]) H) : Ret [.cell t1 true n, .tmp t2] Q .ret k H := by
  refine Ret.ret (vs := [.agg l, b]) ok ?_ hv hQ
  simp only [resKs, resK, h1, h2, hl]

theorem new1 {T : Tags} {H : Heap} (hO : H.Ok) (t : Tg) (x : Blk) : ∃ T', Stp (fun _ => False) T H T' (H.new x) ∧ At T' (H.new x) t H.next x := ⟨_, Stp.new hO t x, At.new t x⟩
theorem new2 {T : Tags} {H : Heap} (hO : H.Ok) (t1 t2 : Tg) (x y : Blk) : ∃ T', Stp (fun _ => False) T H T' ((H.new x).new y) ∧ At T' ((H.new x).new y) t1 H.next x ∧ At T' ((H.new x).new y) t2 (H.next + 1) y := by
  obtain ⟨T1, s1, a1⟩ := new1 (T := T) hO t1 x
  obtain ⟨T2, s2, a2⟩ := new1 (T := T1) s1.ok t2 y
  exact ⟨T2, s1.trans s2, a1.step s2 (fun h => h), a2⟩
theorem new3 {T : Tags} {H : Heap} (hO : H.Ok) (t1 t2 t3 : Tg) (x y z : Blk) : ∃ T', Stp (fun _ => False) T H T' (((H.new x).new y).new z) ∧ At T' (((H.new x).new y).new z) t1 H.next x ∧ At T' (((H.new x).new y).new z) t2 (H.next + 1) y ∧ At T' (((H.new x).new y).new z) t3 (H.next + 2) z := by
  obtain ⟨T1, s1, a1, b1⟩ := new2 (T := T) hO t1 t2 x y
  obtain ⟨T2, s2, a2⟩ := new1 (T := T1) s1.ok t3 z
  exact ⟨T2, s1.trans s2, a1.step s2 (fun h => h), b1.step s2 (fun h => h), a2⟩
end Go.Proofs.Ytihoblfmhighpaa
