/- The field's tables: what making them comes to, on every heap. Conditions: none. -/
import Derived.Test.YtkjmelfgopammaaQrA
namespace Go.Dp
set_option linter.unusedSimpArgs false

theorem Rel.dead {c : Cx} {base : Nat} {ρ : Rho} {H H' : Heap} {W : World} (R : Rel c base ρ H W) (hn : H'.next = H.next) (h : ∀ b, H'.get b = H.get b ∨ H'.get b = some .dead) : Rel c base ρ H' W := by
  refine ⟨R.size, fun b p hp => by rw [hn]; exact R.dom b p hp, R.in_, fun b p hp => ?_, fun b p x hp hx hw => ?_, fun b b' p p' x x' hne hp hp' hx hx' hl hw => ?_, R.glob⟩
  · rcases h b with e | e
    · rw [e]; exact R.blk b p hp
    · exact ⟨.dead, e, trivial⟩
  · rcases h b with e | e
    · rw [e] at hx; exact R.low b p x hp hx hw
    · rw [e] at hx; cases hx; cases hw
  · rcases h b with e | e
    · rcases h b' with e' | e'
      · rw [e] at hx; rw [e'] at hx'; exact R.apart b b' p p' x x' hne hp hp' hx hx' hl hw
      · rw [e'] at hx'; cases hx'; cases hw
    · rw [e] at hx; cases hx; cases hl

theorem Goes.dead {c : Cx} {base : Nat} {ρ ρ' : Rho} {H H1 H' : Heap} {W W' : World} (G : Goes c base ρ H W ρ' H1 W') (hn : H'.next = H1.next) (h : ∀ b, H'.get b = H1.get b ∨ (H'.get b = some .dead ∧ H.next ≤ b)) : Goes c base ρ H W ρ' H' W' :=
  ⟨G.ext, G.rel.dead hn fun b => (h b).imp id fun h => h.1, G.below, by rw [hn]; exact G.next, G.new, fun b hb hno => by
    rcases h b with e | ⟨_, e⟩
    · rw [e]; exact G.kept b hb hno
    · omega⟩

namespace Mk
def z8 : AV := .int .u8 (.ofNat 0)
def rgA : List It := [.op ⟨(some 0), none, (.n (.new 0 (rep 766 [z8])))⟩]
def rgB : List It := [.op ⟨(some 1), none, (.n (.new 0 (rep 766 [z8])))⟩]
def rgC : List It := [.op ⟨(some 2), none, (.r (.mv (.c (.int .i64 (.ofNat 1)))))⟩]
def rgD : List It := [.op ⟨(some 4), none, (.r (.mv (.c (.int .i64 (.ofNat 0)))))⟩]
def rgE : List It := [.op ⟨(some 5), none, (.r (.bin .lss (.t 4) (.c (.int .i64 (.ofNat 510)))))⟩]
def rgF : List It := [.op ⟨(some 6), none, (.r (.mv (.t 4)))⟩,
       .op ⟨(some 3), none, (.r (.mv (.t 6)))⟩]
def rgG : List It := [.op ⟨(some 7), none, (.r (.mv (.t 3)))⟩,
       .op ⟨(some 8), none, (.r (.mv (.t 2)))⟩,
       .op ⟨(some 9), none, (.r (.cint .u8 (.t 8)))⟩,
       .op ⟨(some 10), none, (.r (.faddr 0 (.t 1)))⟩,
       .op ⟨(some 11), none, (.r (.iaarr 510 1 (.t 10) (.t 7)))⟩,
       .op ⟨none, none, (.e (.store 1 (.t 11) (.t 9)))⟩]
def rgH : List It := [.op ⟨(some 12), none, (.r (.mv (.t 3)))⟩,
       .op ⟨(some 13), none, (.r (.bin .lss (.t 12) (.c (.int .i64 (.ofNat 255)))))⟩]
def rgI : List It := [.op ⟨(some 14), none, (.r (.mv (.t 2)))⟩,
        .op ⟨(some 15), none, (.r (.mv (.t 3)))⟩,
        .op ⟨(some 16), none, (.r (.cint .u8 (.t 15)))⟩,
        .op ⟨(some 17), none, (.r (.faddr 510 (.t 1)))⟩,
        .op ⟨(some 18), none, (.r (.iaarr 256 1 (.t 17) (.t 14)))⟩,
        .op ⟨none, none, (.e (.store 1 (.t 18) (.t 16)))⟩]
def rgJ : List It := [.op ⟨(some 19), none, (.r (.mv (.t 2)))⟩,
       .op ⟨(some 20), none, (.r (.bin .shl (.t 19) (.c (.int .u64 (.ofNat 1)))))⟩,
       .op ⟨(some 2), none, (.r (.mv (.t 20)))⟩]
def rgK : List It := [.op ⟨(some 21), none, (.r (.mv (.t 2)))⟩,
       .op ⟨(some 22), none, (.r (.bin .gtr (.t 21) (.c (.int .i64 (.ofNat 255)))))⟩]
def rgL : List It := [.op ⟨(some 23), none, (.r (.mv (.t 2)))⟩,
        .op ⟨(some 24), none, (.r (.bin .xor (.t 23) (.c (.int .i64 (.ofNat 285)))))⟩,
        .op ⟨(some 2), none, (.r (.mv (.t 24)))⟩]
def rgM : List It := [.op ⟨(some 25), none, (.r (.bin .add (.t 4) (.c (.int .i64 (.ofNat 1)))))⟩,
      .op ⟨(some 4), none, (.r (.mv (.t 25)))⟩]
def rgN : List It := [.op ⟨(some 26), none, (.r (.load true 766 (.t 1)))⟩,
    .op ⟨none, none, (.e (.store 766 (.t 0) (.t 26)))⟩]
def lp : PC := .seq (.region rgE)
    (.seq (.cond (.t 5)
     .skip
     (.exit 0))
    (.seq (.block 1 (.seq (.region rgF)
     (.seq (.region rgG)
     (.seq (.seq (.region rgH)
     (.cond (.t 13)
      (.region rgI)
      .skip))
     (.seq (.region rgJ)
     (.seq (.region rgK)
     (.cond (.t 22)
      (.region rgL)
      .skip)))))))
    (.region rgM)))
def body : PC := .seq (.region rgA)
  (.seq (.region rgB)
  (.seq (.region rgC)
  (.seq (.seq (.region rgD)
  (.block 0 (.loop lp)))
  (.seq (.region rgN)
  .ret))))
def pf : PF := { ntmps := 27, results := [.cell 0 true 766], body := body }

/-- the next power -/
def nx (x : Nat) : Nat := bif Nat.blt 255 (2 * x) then Nat.xor (2 * x) 285 else 2 * x
/-- one round: the cells -/
def put (i x : Nat) (l : List AV) : List AV :=
  let l1 := over l i [.int .u8 (.ofNat x)]
  bif Nat.blt i 255 then over l1 (510 + x) [.int .u8 (.ofNat i)] else l1
def run : Nat → Nat → Nat → List AV → List AV
  | 0, _, _, l => l
  | n + 1, i, x, l => run n (i + 1) (nx x) (put i x l)

theorem nx_lt : ∀ x, x < 256 → nx x < 256 := by decide +kernel
def isI (v : Option AV) (n : Nat) : Bool := match v with
  | some (.int .i64 (.ofNat m)) => Nat.beq m n
  | _ => false
theorem isI_inv {v : Option AV} {n : Nat} (h : isI v n = true) : v = some (.int .i64 (.ofNat n)) := by
  unfold isI at h
  split at h
  · rw [Nat.eq_of_beq_eq_true h]
  · cases h
theorem shl_ok (x : Nat) (h : x < 256) : shiftInt .shl .i64 (Int.ofNat x) (Int.ofNat 1) = some (.int .i64 (Int.ofNat (2 * x))) := by
  have : ∀ x, x < 256 → isI (shiftInt .shl .i64 (Int.ofNat x) (Int.ofNat 1)) (2 * x) = true := by decide +kernel
  exact isI_inv (this x h)
theorem xor_ok (x : Nat) (h : x < 512) : binInt .xor .i64 (Int.ofNat x) (Int.ofNat 285) = some (.int .i64 (Int.ofNat (Nat.xor x 285))) := by
  have : ∀ x, x < 512 → isI (binInt .xor .i64 (Int.ofNat x) (Int.ofNat 285)) (Nat.xor x 285) = true := by decide +kernel
  exact isI_inv (this x h)
theorem add_ok (x : Nat) (h : x < 512) : binInt .add .i64 (Int.ofNat x) (Int.ofNat 1) = some (.int .i64 (Int.ofNat (x + 1))) := by
  have : ∀ x, x < 512 → isI (binInt .add .i64 (Int.ofNat x) (Int.ofNat 1)) (x + 1) = true := by decide +kernel
  exact isI_inv (this x h)
theorem wr8 {x : Nat} (h : x < 256) : wr .u8 (.ofNat x) = .ofNat x := by
  have : Nat.blt x 256 = true := by rw [nblt]; simpa using h
  simp only [wr, lim, this, cond_true]

abbrev no : Cal := fun _ _ _ => none

/-- the frame in the loop -/
structure Fr (b0 b1 x i : Nat) (fr : List AV) : Prop where
  len : fr.length = 27
  g0 : fr.getD 0 .undef = .ptr b0 0
  g1 : fr.getD 1 .undef = .ptr b1 0
  g2 : fr.getD 2 .undef = .int .i64 (.ofNat x)
  g4 : fr.getD 4 .undef = .int .i64 (.ofNat i)

section
variable {L : Lib} {b0 b1 x i : Nat} {fr : List AV} {H : Heap}

theorem Fr.set (F : Fr b0 b1 x i fr) {d : Nat} (hd : d ≠ 0 ∧ d ≠ 1 ∧ d ≠ 2 ∧ d ≠ 4) (v : AV) : Fr b0 b1 x i (fr.set d v) := by
  obtain ⟨h0, h1, h2, h4⟩ := hd
  refine ⟨by rw [List.length_set]; exact F.len, ?_, ?_, ?_, ?_⟩ <;> rw [getD_set, if_neg (fun h => by omega)]
  · exact F.g0
  · exact F.g1
  · exact F.g2
  · exact F.g4
theorem Fr.setx (F : Fr b0 b1 x i fr) (y : Nat) : Fr b0 b1 y i (fr.set 2 (.int .i64 (.ofNat y))) := by
  refine ⟨by rw [List.length_set]; exact F.len, ?_, ?_, ?_, ?_⟩ <;> rw [getD_set]
  · rw [if_neg (fun h => by omega)]; exact F.g0
  · rw [if_neg (fun h => by omega)]; exact F.g1
  · rw [if_pos ⟨rfl, by rw [F.len]; decide⟩]
  · rw [if_neg (fun h => by omega)]; exact F.g4
theorem Fr.seti (F : Fr b0 b1 x i fr) (y : Nat) : Fr b0 b1 x y (fr.set 4 (.int .i64 (.ofNat y))) := by
  refine ⟨by rw [List.length_set]; exact F.len, ?_, ?_, ?_, ?_⟩ <;> rw [getD_set]
  · rw [if_neg (fun h => by omega)]; exact F.g0
  · rw [if_neg (fun h => by omega)]; exact F.g1
  · rw [if_neg (fun h => by omega)]; exact F.g2
  · rw [if_pos ⟨rfl, by rw [F.len]; decide⟩]

/-- one block turned, the others as they were -/
structure Hp (b1 : Nat) (H : Heap) (l : List AV) (H' : Heap) : Prop where
  at_ : H'.get b1 = some (.cells l 1)
  other : ∀ b, b ≠ b1 → H'.get b = H.get b
  next : H'.next = H.next

theorem Hp.put {l l' : List AV} {H' : Heap} (h : Hp b1 H l H') : Hp b1 H l' (H'.put b1 (.cells l' 1)) :=
  ⟨by rw [Heap.get_put, if_pos rfl], fun b hb => by rw [Heap.get_put, if_neg hb]; exact h.other b hb, h.next⟩

theorem rE (F : Fr b0 b1 x i fr) : steps no rgE fr H = some (fr.set 5 (.bool (!ible (.ofNat 510) (.ofNat i))), H) := by
  simp only [rgE, F.g4, bin, binII, kbeq, binInt, steps_cons, steps_nil, thenDo, doIt, Dp.step, wanted, putR, setD, evalO, evalE, evalN, withH, withN, evalR, X.ev, cond_true, cond_false, getD_set, List.length_set, reduceIte, Nat.reduceEqDiff, Nat.reduceLT, true_and, false_and, and_true, Nat.add_zero, Nat.zero_add, Nat.mul_one, List.length_cons, List.length_nil, nbeq, decide_true, unit, List.all_cons, List.all_nil, AV.isSc, Bool.and_self, AV.cells]
theorem rF (F : Fr b0 b1 x i fr) : steps no rgF fr H = some ((fr.set 6 (.int .i64 (.ofNat i))).set 3 (.int .i64 (.ofNat i)), H) := by
  simp only [rgF, F.g4, F.len, steps_cons, steps_nil, thenDo, doIt, Dp.step, wanted, putR, setD, evalO, evalE, evalN, withH, withN, evalR, X.ev, cond_true, cond_false, getD_set, List.length_set, reduceIte, Nat.reduceEqDiff, Nat.reduceLT, true_and, false_and, and_true, Nat.add_zero, Nat.zero_add, Nat.mul_one, List.length_cons, List.length_nil, nbeq, decide_true, unit, List.all_cons, List.all_nil, AV.isSc, Bool.and_self, AV.cells]
theorem rG (F : Fr b0 b1 x i fr) (hx : x < 256) (hi : i < 510) {l : List AV} (hl : l.length = 766) (hH : H.get b1 = some (.cells l 1)) (h3 : fr.getD 3 .undef = .int .i64 (.ofNat i)) :
    steps no rgG fr H = some (((((fr.set 7 (.int .i64 (.ofNat i))).set 8 (.int .i64 (.ofNat x))).set 9 (.int .u8 (.ofNat x))).set 10 (.ptr b1 0)).set 11 (.ptr b1 i), H.put b1 (.cells (over l i [.int .u8 (.ofNat x)]) 1)) := by
  have hb : Nat.blt i 510 = true := by rw [nblt]; simpa using hi
  have hle : Nat.ble (i + 1) 766 = true := by rw [nble]; simp; omega
  simp only [rgG, F.len, F.g0, F.g1, F.g2, F.g4, h3, rCint, rFaddr, rIaarr, idx, natOf, hb, wr8 hx, eStore, Heap.st, hH, hl, hle, steps_cons, steps_nil, thenDo, doIt, Dp.step, wanted, putR, setD, evalO, evalE, evalN, withH, withN, evalR, X.ev, cond_true, cond_false, getD_set, List.length_set, reduceIte, Nat.reduceEqDiff, Nat.reduceLT, true_and, false_and, and_true, Nat.add_zero, Nat.zero_add, Nat.mul_one, List.length_cons, List.length_nil, nbeq, decide_true, unit, List.all_cons, List.all_nil, AV.isSc, Bool.and_self, AV.cells]
theorem rH (F : Fr b0 b1 x i fr) (h3 : fr.getD 3 .undef = .int .i64 (.ofNat i)) : steps no rgH fr H = some ((fr.set 12 (.int .i64 (.ofNat i))).set 13 (.bool (!ible (.ofNat 255) (.ofNat i))), H) := by
  simp only [rgH, F.len, h3, bin, binII, kbeq, binInt, steps_cons, steps_nil, thenDo, doIt, Dp.step, wanted, putR, setD, evalO, evalE, evalN, withH, withN, evalR, X.ev, cond_true, cond_false, getD_set, List.length_set, reduceIte, Nat.reduceEqDiff, Nat.reduceLT, true_and, false_and, and_true, Nat.add_zero, Nat.zero_add, Nat.mul_one, List.length_cons, List.length_nil, nbeq, decide_true, unit, List.all_cons, List.all_nil, AV.isSc, Bool.and_self, AV.cells]
theorem rI (F : Fr b0 b1 x i fr) (hx : x < 256) (hi : i < 255) {l : List AV} (hl : l.length = 766) (hH : H.get b1 = some (.cells l 1)) (h3 : fr.getD 3 .undef = .int .i64 (.ofNat i)) :
    steps no rgI fr H = some (((((fr.set 14 (.int .i64 (.ofNat x))).set 15 (.int .i64 (.ofNat i))).set 16 (.int .u8 (.ofNat i))).set 17 (.ptr b1 510)).set 18 (.ptr b1 (510 + x)), H.put b1 (.cells (over l (510 + x) [.int .u8 (.ofNat i)]) 1)) := by
  have hb : Nat.blt x 256 = true := by rw [nblt]; simpa using hx
  have hle : Nat.ble (510 + x + 1) 766 = true := by rw [nble]; simp; omega
  have hi' : i < 256 := by omega
  simp only [rgI, F.len, F.g0, F.g1, F.g2, F.g4, h3, rCint, rFaddr, rIaarr, idx, natOf, hb, wr8 hi', eStore, Heap.st, hH, hl, hle, steps_cons, steps_nil, thenDo, doIt, Dp.step, wanted, putR, setD, evalO, evalE, evalN, withH, withN, evalR, X.ev, cond_true, cond_false, getD_set, List.length_set, reduceIte, Nat.reduceEqDiff, Nat.reduceLT, true_and, false_and, and_true, Nat.add_zero, Nat.zero_add, Nat.mul_one, List.length_cons, List.length_nil, nbeq, decide_true, unit, List.all_cons, List.all_nil, AV.isSc, Bool.and_self, AV.cells]
theorem rJ (F : Fr b0 b1 x i fr) (hx : x < 256) : steps no rgJ fr H = some (((fr.set 19 (.int .i64 (.ofNat x))).set 20 (.int .i64 (.ofNat (2 * x)))).set 2 (.int .i64 (.ofNat (2 * x))), H) := by
  simp only [rgJ, F.len, F.g2, bin, binII, shl_ok x hx, steps_cons, steps_nil, thenDo, doIt, Dp.step, wanted, putR, setD, evalO, evalE, evalN, withH, withN, evalR, X.ev, cond_true, cond_false, getD_set, List.length_set, reduceIte, Nat.reduceEqDiff, Nat.reduceLT, true_and, false_and, and_true, Nat.add_zero, Nat.zero_add, Nat.mul_one, List.length_cons, List.length_nil, nbeq, decide_true, unit, List.all_cons, List.all_nil, AV.isSc, Bool.and_self, AV.cells]
theorem rK {y : Nat} (F : Fr b0 b1 y i fr) : steps no rgK fr H = some ((fr.set 21 (.int .i64 (.ofNat y))).set 22 (.bool (!ible (.ofNat y) (.ofNat 255))), H) := by
  simp only [rgK, F.len, F.g2, bin, binII, kbeq, binInt, steps_cons, steps_nil, thenDo, doIt, Dp.step, wanted, putR, setD, evalO, evalE, evalN, withH, withN, evalR, X.ev, cond_true, cond_false, getD_set, List.length_set, reduceIte, Nat.reduceEqDiff, Nat.reduceLT, true_and, false_and, and_true, Nat.add_zero, Nat.zero_add, Nat.mul_one, List.length_cons, List.length_nil, nbeq, decide_true, unit, List.all_cons, List.all_nil, AV.isSc, Bool.and_self, AV.cells]
theorem rL {y : Nat} (F : Fr b0 b1 y i fr) (hy : y < 512) : steps no rgL fr H = some (((fr.set 23 (.int .i64 (.ofNat y))).set 24 (.int .i64 (.ofNat (Nat.xor y 285)))).set 2 (.int .i64 (.ofNat (Nat.xor y 285))), H) := by
  simp only [rgL, F.len, F.g2, bin, binII, kbeq, xor_ok y hy, steps_cons, steps_nil, thenDo, doIt, Dp.step, wanted, putR, setD, evalO, evalE, evalN, withH, withN, evalR, X.ev, cond_true, cond_false, getD_set, List.length_set, reduceIte, Nat.reduceEqDiff, Nat.reduceLT, true_and, false_and, and_true, Nat.add_zero, Nat.zero_add, Nat.mul_one, List.length_cons, List.length_nil, nbeq, decide_true, unit, List.all_cons, List.all_nil, AV.isSc, Bool.and_self, AV.cells]
theorem rM (F : Fr b0 b1 x i fr) (hi : i < 510) : steps no rgM fr H = some ((fr.set 25 (.int .i64 (.ofNat (i + 1)))).set 4 (.int .i64 (.ofNat (i + 1))), H) := by
  simp only [rgM, F.len, F.g4, bin, binII, kbeq, add_ok i (by omega), steps_cons, steps_nil, thenDo, doIt, Dp.step, wanted, putR, setD, evalO, evalE, evalN, withH, withN, evalR, X.ev, cond_true, cond_false, getD_set, List.length_set, reduceIte, Nat.reduceEqDiff, Nat.reduceLT, true_and, false_and, and_true, Nat.add_zero, Nat.zero_add, Nat.mul_one, List.length_cons, List.length_nil, nbeq, decide_true, unit, List.all_cons, List.all_nil, AV.isSc, Bool.and_self, AV.cells]

/-- One round. -/
theorem round (F : Fr b0 b1 x i fr) (hx : x < 256) (hi : i < 510) {l : List AV} (hl : l.length = 766) (hH : H.get b1 = some (.cells l 1)) {Q : Ex → List AV → Heap → Prop}
    (hQ : ∀ fr' H', Fr b0 b1 (nx x) (i + 1) fr' → Hp b1 H (put i x l) H' → Q .normal fr' H') : Xc L lp fr H Q := by
  have t1 : ible (.ofNat 510) (.ofNat i) = false := by rw [ible_eq]; simp; omega
  unfold lp
  refine Xc.seq (Xc.region (Xs.all (rE F) ?_))
  have F1 := F.set (d := 5) (by decide) (.bool (!ible (.ofNat 510) (.ofNat i)))
  refine Xc.seq (Xc.cond_true (by show (fr.set 5 _).getD 5 .undef = _; rw [getD_set, if_pos ⟨rfl, by rw [F.len]; decide⟩, t1]; rfl) (Xc.skip ?_))
  refine Xc.seq (Xc.block (Xc.seq (Xc.region (Xs.all (rF F1) ?_))))
  have F2 := (F1.set (d := 6) (by decide) (.int .i64 (.ofNat i))).set (d := 3) (by decide) (.int .i64 (.ofNat i))
  have h3 : (((fr.set 5 (.bool (!ible (.ofNat 510) (.ofNat i)))).set 6 (.int .i64 (.ofNat i))).set 3 (.int .i64 (.ofNat i))).getD 3 .undef = .int .i64 (.ofNat i) := by
    rw [getD_set, if_pos ⟨rfl, by simp only [List.length_set, F.len]; decide⟩]
  generalize ((fr.set 5 (.bool (!ible (.ofNat 510) (.ofNat i)))).set 6 (.int .i64 (.ofNat i))).set 3 (.int .i64 (.ofNat i)) = f2 at F2 h3 ⊢
  refine Xc.seq (Xc.region (Xs.all (rG F2 hx hi hl hH h3) ?_))
  have F3 := ((((F2.set (d := 7) (by decide) (.int .i64 (.ofNat i))).set (d := 8) (by decide) (.int .i64 (.ofNat x))).set (d := 9) (by decide) (.int .u8 (.ofNat x))).set (d := 10) (by decide) (.ptr b1 0)).set (d := 11) (by decide) (.ptr b1 i)
  have h3' : (((((f2.set 7 (.int .i64 (.ofNat i))).set 8 (.int .i64 (.ofNat x))).set 9 (.int .u8 (.ofNat x))).set 10 (.ptr b1 0)).set 11 (.ptr b1 i)).getD 3 .undef = .int .i64 (.ofNat i) := by
    simp only [getD_set, reduceIte, Nat.reduceEqDiff, false_and, h3]
  generalize ((((f2.set 7 (.int .i64 (.ofNat i))).set 8 (.int .i64 (.ofNat x))).set 9 (.int .u8 (.ofNat x))).set 10 (.ptr b1 0)).set 11 (.ptr b1 i) = f3 at F3 h3' ⊢
  have hp1 : Hp b1 H (over l i [.int .u8 (.ofNat x)]) (H.put b1 (.cells (over l i [.int .u8 (.ofNat x)]) 1)) := Hp.put (l := l) ⟨hH, fun _ _ => rfl, rfl⟩
  generalize H.put b1 (.cells (over l i [.int .u8 (.ofNat x)]) 1) = H1 at hp1 ⊢
  have hl1 : (over l i [.int .u8 (.ofNat x)] : List AV).length = 766 := by rw [over_length _ _ _ (by simp; omega)]; exact hl
  -- the second half
  have tail : ∀ (f : List AV) (H2 : Heap), Fr b0 b1 x i f → Hp b1 H (put i x l) H2 → Xc L (.seq (.region rgJ) (.seq (.region rgK) (.cond (.t 22) (.region rgL) .skip))) f H2 (Ex.inB 1 (Ex.thn (fun fr' H' => Xc L (.region rgM) fr' H' Q) Q)) := by
    intro f H2 Ff hp
    refine Xc.seq (Xc.region (Xs.all (rJ Ff hx) ?_))
    have G1 := ((Ff.set (d := 19) (by decide) (.int .i64 (.ofNat x))).set (d := 20) (by decide) (.int .i64 (.ofNat (2 * x)))).setx (2 * x)
    generalize ((f.set 19 (.int .i64 (.ofNat x))).set 20 (.int .i64 (.ofNat (2 * x)))).set 2 (.int .i64 (.ofNat (2 * x))) = f4 at G1 ⊢
    refine Xc.seq (Xc.region (Xs.all (rK G1) ?_))
    have G2 := (G1.set (d := 21) (by decide) (.int .i64 (.ofNat (2 * x)))).set (d := 22) (by decide) (.bool (!ible (.ofNat (2 * x)) (.ofNat 255)))
    have h22 : ((f4.set 21 (.int .i64 (.ofNat (2 * x)))).set 22 (.bool (!ible (.ofNat (2 * x)) (.ofNat 255)))).getD 22 .undef = .bool (!ible (.ofNat (2 * x)) (.ofNat 255)) := by
      rw [getD_set, if_pos ⟨rfl, by simp only [List.length_set, G1.len]; decide⟩]
    generalize (f4.set 21 (.int .i64 (.ofNat (2 * x)))).set 22 (.bool (!ible (.ofNat (2 * x)) (.ofNat 255))) = f5 at G2 h22 ⊢
    refine Xc.cond h22 (fun ht => Xc.region (Xs.all (rL G2 (by omega)) ?_)) (fun ht => Xc.skip ?_)
    · have hn : nx x = Nat.xor (2 * x) 285 := by
        have : Nat.blt 255 (2 * x) = true := by rw [ible_eq] at ht; rw [nblt]; simp at ht ⊢; omega
        simp only [nx, this, cond_true]
      have G3 := ((G2.set (d := 23) (by decide) (.int .i64 (.ofNat (2 * x)))).set (d := 24) (by decide) (.int .i64 (.ofNat (Nat.xor (2 * x) 285)))).setx (Nat.xor (2 * x) 285)
      show Xc L (.region rgM) _ H2 Q
      refine Xc.region (Xs.all (rM G3 hi) ?_)
      refine hQ _ _ ?_ hp
      rw [hn]
      exact (G3.set (d := 25) (by decide) _).seti (i + 1)
    · have hn : nx x = 2 * x := by
        have : Nat.blt 255 (2 * x) = false := by rw [ible_eq] at ht; rw [nblt]; simp at ht ⊢; omega
        simp only [nx, this, cond_false]
      show Xc L (.region rgM) _ H2 Q
      refine Xc.region (Xs.all (rM G2 hi) ?_)
      refine hQ _ _ ?_ hp
      rw [hn]
      exact (G2.set (d := 25) (by decide) _).seti (i + 1)
  refine Xc.seq (Xc.seq (Xc.region (Xs.all (rH F3 h3') ?_)))
  have F4 := (F3.set (d := 12) (by decide) (.int .i64 (.ofNat i))).set (d := 13) (by decide) (.bool (!ible (.ofNat 255) (.ofNat i)))
  have h13 : ((f3.set 12 (.int .i64 (.ofNat i))).set 13 (.bool (!ible (.ofNat 255) (.ofNat i)))).getD 13 .undef = .bool (!ible (.ofNat 255) (.ofNat i)) := by
    rw [getD_set, if_pos ⟨rfl, by simp only [List.length_set, F3.len]; decide⟩]
  have h3'' : ((f3.set 12 (.int .i64 (.ofNat i))).set 13 (.bool (!ible (.ofNat 255) (.ofNat i)))).getD 3 .undef = .int .i64 (.ofNat i) := by
    simp only [getD_set, reduceIte, Nat.reduceEqDiff, false_and, h3']
  generalize (f3.set 12 (.int .i64 (.ofNat i))).set 13 (.bool (!ible (.ofNat 255) (.ofNat i))) = f4 at F4 h13 h3'' ⊢
  refine Xc.cond h13 (fun ht => Xc.region (Xs.all (rI F4 hx ?_ hl1 hp1.at_ h3'') ?_)) (fun ht => Xc.skip ?_)
  · rw [ible_eq] at ht; simp at ht; omega
  · have hput : put i x l = over (over l i [.int .u8 (.ofNat x)]) (510 + x) [.int .u8 (.ofNat i)] := by
      have : Nat.blt i 255 = true := by rw [ible_eq] at ht; rw [nblt]; simp at ht ⊢; omega
      simp only [put, this, cond_true]
    refine tail _ _ (((((F4.set (by decide) _).set (by decide) _).set (by decide) _).set (by decide) _).set (by decide) _) ?_
    rw [hput]
    exact hp1.put
  · have hput : put i x l = over l i [.int .u8 (.ofNat x)] := by
      have : Nat.blt i 255 = false := by rw [ible_eq] at ht; rw [nblt]; simp at ht ⊢; omega
      simp only [put, this, cond_false]
    refine tail _ _ F4 ?_
    rw [hput]
    exact hp1
end

theorem put_len {i x : Nat} (hi : i < 510) (hx : x < 256) {l : List AV} (hl : l.length = 766) : (put i x l).length = 766 := by
  have h1 : (over l i [.int .u8 (.ofNat x)] : List AV).length = 766 := by rw [over_length _ _ _ (by simp; omega)]; exact hl
  unfold put
  cases Nat.blt i 255 with
  | false => exact h1
  | true =>
    simp only [cond_true]
    rw [over_length _ _ _ (by rw [h1]; show 510 + x + 1 ≤ 766; omega)]
    exact h1

theorem loop {L : Lib} {b0 b1 : Nat} : ∀ (k i x : Nat) (l : List AV) (fr : List AV) (H : Heap) (Q : Ex → List AV → Heap → Prop), i + k = 510 → x < 256 → l.length = 766 → Fr b0 b1 x i fr → H.get b1 = some (.cells l 1) →
    (∀ x' fr' H', Fr b0 b1 x' 510 fr' → Hp b1 H (run k i x l) H' → Q (.exit 0) fr' H') → Xc L (.loop lp) fr H Q
  | 0, i, x, l, fr, H, Q, hi, hx, hl, F, hH, hQ => by
    have hi' : i = 510 := by omega
    subst hi'
    refine Xc.loop ?_
    unfold lp
    refine Xc.seq (Xc.region (Xs.all (rE F) ?_))
    refine Xc.seq (Xc.cond_false ?_ (Xc.exit ?_))
    · show (fr.set 5 _).getD 5 .undef = _
      rw [getD_set, if_pos ⟨rfl, by rw [F.len]; decide⟩]
      rfl
    · exact hQ x _ H (F.set (by decide) _) ⟨hH, fun _ _ => rfl, rfl⟩
  | k + 1, i, x, l, fr, H, Q, hi, hx, hl, F, hH, hQ => by
    refine Xc.loop (round F hx (by omega) hl hH fun fr' H' F' hp => ?_)
    show Xc L (.loop lp) fr' H' Q
    refine loop k (i + 1) (nx x) (put i x l) fr' H' Q (by omega) (nx_lt x hx) (put_len (by omega) hx hl) F' hp.at_ fun x2 fr2 H2 F2 hp2 => ?_
    exact hQ x2 fr2 H2 F2 ⟨hp2.at_, fun b hb => (hp2.other b hb).trans (hp.other b hb), hp2.next.trans hp.next⟩

def u (n : Nat) : AV := .int .u8 (.ofNat n)
def table : List AV := [u 1, u 2, u 4, u 8, u 16, u 32, u 64, u 128, u 29, u 58, u 116, u 232, u 205, u 135, u 19, u 38, u 76, u 152, u 45, u 90, u 180, u 117, u 234, u 201, u 143, u 3, u 6, u 12, u 24, u 48, u 96, u 192, u 157, u 39, u 78, u 156, u 37, u 74, u 148, u 53, u 106, u 212, u 181, u 119, u 238, u 193, u 159, u 35, u 70, u 140, u 5, u 10, u 20, u 40, u 80, u 160, u 93, u 186, u 105, u 210, u 185, u 111, u 222, u 161, u 95, u 190, u 97, u 194, u 153, u 47, u 94, u 188, u 101, u 202, u 137, u 15, u 30, u 60, u 120, u 240, u 253, u 231, u 211, u 187, u 107, u 214, u 177, u 127, u 254, u 225, u 223, u 163, u 91, u 182, u 113, u 226, u 217, u 175, u 67, u 134, u 17, u 34, u 68, u 136, u 13, u 26, u 52, u 104, u 208, u 189, u 103, u 206, u 129, u 31, u 62, u 124, u 248, u 237, u 199, u 147, u 59, u 118, u 236, u 197, u 151, u 51, u 102, u 204, u 133, u 23, u 46, u 92, u 184, u 109, u 218, u 169, u 79, u 158, u 33, u 66, u 132, u 21, u 42, u 84, u 168, u 77, u 154, u 41, u 82, u 164, u 85, u 170, u 73, u 146, u 57, u 114, u 228, u 213, u 183, u 115, u 230, u 209, u 191, u 99, u 198, u 145, u 63, u 126, u 252, u 229, u 215, u 179, u 123, u 246, u 241, u 255, u 227, u 219, u 171, u 75, u 150, u 49, u 98, u 196, u 149, u 55, u 110, u 220, u 165, u 87, u 174, u 65, u 130, u 25, u 50, u 100, u 200, u 141, u 7, u 14, u 28, u 56, u 112, u 224, u 221, u 167, u 83, u 166, u 81, u 162, u 89, u 178, u 121, u 242, u 249, u 239, u 195, u 155, u 43, u 86, u 172, u 69, u 138, u 9, u 18, u 36, u 72, u 144, u 61, u 122, u 244, u 245, u 247, u 243, u 251, u 235, u 203, u 139, u 11, u 22, u 44, u 88, u 176, u 125, u 250, u 233, u 207, u 131, u 27, u 54, u 108, u 216, u 173, u 71, u 142, u 1, u 2, u 4, u 8, u 16, u 32, u 64, u 128, u 29, u 58, u 116, u 232, u 205, u 135, u 19, u 38, u 76, u 152, u 45, u 90, u 180, u 117, u 234, u 201, u 143, u 3, u 6, u 12, u 24, u 48, u 96, u 192, u 157, u 39, u 78, u 156, u 37, u 74, u 148, u 53, u 106, u 212, u 181, u 119, u 238, u 193, u 159, u 35, u 70, u 140, u 5, u 10, u 20, u 40, u 80, u 160, u 93, u 186, u 105, u 210, u 185, u 111, u 222, u 161, u 95, u 190, u 97, u 194, u 153, u 47, u 94, u 188, u 101, u 202, u 137, u 15, u 30, u 60, u 120, u 240, u 253, u 231, u 211, u 187, u 107, u 214, u 177, u 127, u 254, u 225, u 223, u 163, u 91, u 182, u 113, u 226, u 217, u 175, u 67, u 134, u 17, u 34, u 68, u 136, u 13, u 26, u 52, u 104, u 208, u 189, u 103, u 206, u 129, u 31, u 62, u 124, u 248, u 237, u 199, u 147, u 59, u 118, u 236, u 197, u 151, u 51, u 102, u 204, u 133, u 23, u 46, u 92, u 184, u 109, u 218, u 169, u 79, u 158, u 33, u 66, u 132, u 21, u 42, u 84, u 168, u 77, u 154, u 41, u 82, u 164, u 85, u 170, u 73, u 146, u 57, u 114, u 228, u 213, u 183, u 115, u 230, u 209, u 191, u 99, u 198, u 145, u 63, u 126, u 252, u 229, u 215, u 179, u 123, u 246, u 241, u 255, u 227, u 219, u 171, u 75, u 150, u 49, u 98, u 196, u 149, u 55, u 110, u 220, u 165, u 87, u 174, u 65, u 130, u 25, u 50, u 100, u 200, u 141, u 7, u 14, u 28, u 56, u 112, u 224, u 221, u 167, u 83, u 166, u 81, u 162, u 89, u 178, u 121, u 242, u 249, u 239, u 195, u 155, u 43, u 86, u 172, u 69, u 138, u 9, u 18, u 36, u 72, u 144, u 61, u 122, u 244, u 245, u 247, u 243, u 251, u 235, u 203, u 139, u 11, u 22, u 44, u 88, u 176, u 125, u 250, u 233, u 207, u 131, u 27, u 54, u 108, u 216, u 173, u 71, u 142, u 0, u 0, u 1, u 25, u 2, u 50, u 26, u 198, u 3, u 223, u 51, u 238, u 27, u 104, u 199, u 75, u 4, u 100, u 224, u 14, u 52, u 141, u 239, u 129, u 28, u 193, u 105, u 248, u 200, u 8, u 76, u 113, u 5, u 138, u 101, u 47, u 225, u 36, u 15, u 33, u 53, u 147, u 142, u 218, u 240, u 18, u 130, u 69, u 29, u 181, u 194, u 125, u 106, u 39, u 249, u 185, u 201, u 154, u 9, u 120, u 77, u 228, u 114, u 166, u 6, u 191, u 139, u 98, u 102, u 221, u 48, u 253, u 226, u 152, u 37, u 179, u 16, u 145, u 34, u 136, u 54, u 208, u 148, u 206, u 143, u 150, u 219, u 189, u 241, u 210, u 19, u 92, u 131, u 56, u 70, u 64, u 30, u 66, u 182, u 163, u 195, u 72, u 126, u 110, u 107, u 58, u 40, u 84, u 250, u 133, u 186, u 61, u 202, u 94, u 155, u 159, u 10, u 21, u 121, u 43, u 78, u 212, u 229, u 172, u 115, u 243, u 167, u 87, u 7, u 112, u 192, u 247, u 140, u 128, u 99, u 13, u 103, u 74, u 222, u 237, u 49, u 197, u 254, u 24, u 227, u 165, u 153, u 119, u 38, u 184, u 180, u 124, u 17, u 68, u 146, u 217, u 35, u 32, u 137, u 46, u 55, u 63, u 209, u 91, u 149, u 188, u 207, u 205, u 144, u 135, u 151, u 178, u 220, u 252, u 190, u 97, u 242, u 86, u 211, u 171, u 20, u 42, u 93, u 158, u 132, u 60, u 57, u 83, u 71, u 109, u 65, u 162, u 31, u 45, u 67, u 216, u 183, u 123, u 164, u 118, u 196, u 23, u 73, u 236, u 127, u 12, u 111, u 246, u 108, u 161, u 59, u 82, u 41, u 157, u 85, u 170, u 251, u 96, u 134, u 177, u 187, u 204, u 62, u 90, u 203, u 89, u 95, u 176, u 156, u 169, u 160, u 81, u 11, u 245, u 22, u 235, u 122, u 117, u 44, u 215, u 79, u 174, u 213, u 233, u 230, u 231, u 173, u 232, u 116, u 214, u 244, u 234, u 168, u 80, u 88, u 175]
theorem table_run : run 510 0 1 (rep 766 [z8]) = table := sameCells_eq (by decide +kernel)
theorem table_len : table.length = 766 := by decide +kernel
theorem table_sc : table.all AV.isSc = true := by decide +kernel
theorem rep_len : (rep 766 [z8]).length = 766 := by rw [rep_length]; rfl

/-- What making the tables comes to. -/
theorem ev {L : Lib} {f : Nat} (hf : L f = some (.code pf)) {H : Heap} (h0 : H.get H.next = none) (h1 : H.get (H.next + 1) = none) {Q : AV → Heap → Prop}
    (hQ : ∀ H', H'.next = H.next + 2 → (∀ b, b < H.next → H'.get b = H.get b) → (∀ b, H.next + 1 < b → H'.get b = H.get b) → Q (.agg table) H') : Ev L f [] H Q := by
  refine Ev.code hf ?_
  have hg1 : (H.new (.cells (rep 766 [z8]) 1)).get (H.next + 1) = none := by rw [Heap.get_new, if_neg (by omega)]; exact h1
  have hA : steps no rgA (enter pf []) H = some ((enter pf []).set 0 (.ptr H.next 0), H.new (.cells (rep 766 [z8]) 1)) := by
    simp only [rgA, steps_cons, steps_nil, thenDo, doIt, Dp.step, wanted, putR, setD, evalO, withN, evalN, cond_true, h0, ptrTo]
  have hB : steps no rgB ((enter pf []).set 0 (.ptr H.next 0)) (H.new (.cells (rep 766 [z8]) 1)) = some (((enter pf []).set 0 (.ptr H.next 0)).set 1 (.ptr (H.next + 1) 0), (H.new (.cells (rep 766 [z8]) 1)).new (.cells (rep 766 [z8]) 1)) := by
    simp only [rgB, steps_cons, steps_nil, thenDo, doIt, Dp.step, wanted, putR, setD, evalO, withN, evalN, cond_true, Heap.next_new, hg1, ptrTo]
  show Xc L body (enter pf []) H _
  unfold body
  refine Xc.seq (Xc.region (Xs.all hA ?_))
  refine Xc.seq (Xc.region (Xs.all hB ?_))
  have hg0 : ((H.new (.cells (rep 766 [z8]) 1)).new (.cells (rep 766 [z8]) 1)).get H.next = some (.cells (rep 766 [z8]) 1) := by
    rw [Heap.get_new, Heap.next_new, if_neg (by omega), Heap.get_new, if_pos rfl]
  have hgb : ((H.new (.cells (rep 766 [z8]) 1)).new (.cells (rep 766 [z8]) 1)).get (H.next + 1) = some (.cells (rep 766 [z8]) 1) := by
    rw [Heap.get_new, Heap.next_new, if_pos rfl]
  have hgo : ∀ b, b < H.next ∨ H.next + 1 < b → ((H.new (.cells (rep 766 [z8]) 1)).new (.cells (rep 766 [z8]) 1)).get b = H.get b := by
    intro b hb
    rw [Heap.get_new, Heap.next_new, if_neg (by omega), Heap.get_new, if_neg (by omega)]
  have hgn : ((H.new (.cells (rep 766 [z8]) 1)).new (.cells (rep 766 [z8]) 1)).next = H.next + 2 := rfl
  generalize (H.new (.cells (rep 766 [z8]) 1)).new (.cells (rep 766 [z8]) 1) = H2 at hg0 hgb hgo hgn ⊢
  have hC : steps no rgC (((enter pf []).set 0 (.ptr H.next 0)).set 1 (.ptr (H.next + 1) 0)) H2 = some ((((enter pf []).set 0 (.ptr H.next 0)).set 1 (.ptr (H.next + 1) 0)).set 2 (.int .i64 (.ofNat 1)), H2) := rfl
  refine Xc.seq (Xc.region (Xs.all hC ?_))
  have hD : steps no rgD ((((enter pf []).set 0 (.ptr H.next 0)).set 1 (.ptr (H.next + 1) 0)).set 2 (.int .i64 (.ofNat 1))) H2 = some (((((enter pf []).set 0 (.ptr H.next 0)).set 1 (.ptr (H.next + 1) 0)).set 2 (.int .i64 (.ofNat 1))).set 4 (.int .i64 (.ofNat 0)), H2) := rfl
  refine Xc.seq (Xc.seq (Xc.region (Xs.all hD ?_)))
  have F : Fr H.next (H.next + 1) 1 0 (((((enter pf []).set 0 (.ptr H.next 0)).set 1 (.ptr (H.next + 1) 0)).set 2 (.int .i64 (.ofNat 1))).set 4 (.int .i64 (.ofNat 0))) := ⟨rfl, rfl, rfl, rfl, rfl⟩
  refine Xc.block (loop 510 0 1 (rep 766 [z8]) _ H2 _ rfl (by decide) rep_len F hgb fun x' fr' H' F' hp => ?_)
  show Xc L (.seq (.region rgN) .ret) fr' H' _
  have hT := hp.at_
  rw [table_run] at hT
  have h0' : H'.get H.next = some (.cells (rep 766 [z8]) 1) := by rw [hp.other _ (by omega)]; exact hg0
  have htake : (table.drop 0).take 766 = table := by rw [List.drop_zero, ← table_len, List.take_length]
  have hover : over (rep 766 [z8]) 0 table = table := by
    unfold over
    rw [List.take_zero, List.nil_append, Nat.zero_add, table_len, List.drop_eq_nil_of_le (Nat.le_of_eq rep_len), List.append_nil]
  have hN : steps no rgN fr' H' = some (fr'.set 26 (.agg table), H'.put H.next (.cells table 1)) := by
    simp only [rgN, steps_cons, steps_nil, thenDo, doIt, Dp.step, wanted, putR, setD, evalO, evalE, withH, evalR, X.ev, cond_true, getD_set, List.length_set, F'.len, F'.g0, F'.g1, reduceIte, Nat.reduceEqDiff, Nat.reduceLT, true_and, false_and, and_true, rLoad, Heap.ld, hT, Nat.zero_add, table_len, show Nat.ble 766 766 = true from rfl, oneOf, htake, eStore, AV.cells, nbeq, decide_true, table_sc, Bool.and_self, Heap.st, h0', rep_len, hover, unit]
  refine Xc.seq (Xc.region (Xs.all hN (Xc.ret ⟨fun _ h => (by cases h), [.agg table], .agg table, ?_, rfl, ?_⟩)))
  · have : ((fr'.set 26 (.agg table)).getD 0 .undef) = .ptr H.next 0 := by rw [getD_set, if_neg (by omega)]; exact F'.g0
    show resList _ _ [.cell 0 true 766] = _
    simp only [resList, resOf, this, rLoad, Heap.ld, Heap.get_put, if_true, Nat.zero_add, table_len, show Nat.ble 766 766 = true from rfl, cond_true, htake, oneOf]
  · refine hQ _ ?_ (fun b hb => ?_) (fun b hb => ?_)
    · rw [Heap.next_put, hp.next, hgn]
    · rw [Heap.get_put, if_neg (by omega), hp.other _ (by omega), hgo _ (.inl hb)]
    · rw [Heap.get_put, if_neg (by omega), hp.other _ (by omega), hgo _ (.inr hb)]

/-- The tables in one step. -/
def prim (args : List AV) (H : Heap) : Option (AV × Heap) := match args with
  | [] => (match H.get H.next with
    | none => (match H.get (H.next + 1) with
      | none => some (.agg table, (H.new .dead).new .dead)
      | some _ => none)
    | some _ => none)
  | _ => none

theorem prim_ok {c : Cx} (O : ProgOk c) {g f : Nat} {fn : Func} (hg : ∀ g', c.fm g' = some f → g' = g) (hf : c.fm g = some f) (hfn : c.P.funcs[g]? = some fn) (htr : trF c fn = pf) (base : Nat) (ρ : Rho) (H : Heap) (W : World) (args : List AV) (vs : Array Value) (v : AV) (H' : Heap) (R : Rel c base ρ H W) (hx : All2 (VRel c ρ) args vs.toList) (h : prim args H = some (v, H')) :
    Calls c.P g vs W fun e W' => ∃ v' ρ', e = .returned v' ∧ Goes c base ρ H W ρ' H' W' ∧ VRel c ρ' v v' := by
  unfold prim at h
  split at h
  · split at h
    · rename_i h0
      split at h
      · rename_i h1
        cases h
        let L : Lib := fun k => bif Nat.beq k f then some (.code pf) else some (.prim fun _ _ => none)
        have hLf : L f = some (.code pf) := by simp only [L, nbeq, decide_true, cond_true]
        have hL : LibOk c L := by
          intro g' f' hg'
          by_cases e : f' = f
          · subst e
            have := hg g' hg'
            subst this
            exact .inl ⟨fn, hfn, by rw [htr]; exact hLf⟩
          · refine .inr ⟨fun _ _ => none, by simp only [L, nbeq, decide_eq_false e]; rfl, fun _ _ _ _ _ _ _ _ _ _ h => by cases h⟩
        obtain ⟨n, v1, H1, e1, e2, e3, e4⟩ := ev (L := L) hLf h0 h1 (Q := fun v' H1 => v' = .agg table ∧ H1.next = H.next + 2 ∧ ∀ b, b < H.next ∨ H.next + 1 < b → H1.get b = H.get b) (fun H1 a1 a2 a3 => ⟨rfl, a1, fun b hb => hb.elim (a2 b) (a3 b)⟩)
        subst e2
        refine (call_ok O hL n base ρ H W g f [] vs (.agg table) H1 hf R hx e1).mono fun e W' ⟨v', ρ', q1, q2, q3⟩ => ⟨v', ρ', q1, q2.dead (by rw [e3]; rfl) fun b => ?_, q3⟩
        by_cases hb : b < H.next ∨ H.next + 1 < b
        · refine .inl ?_
          rw [e4 b hb, Heap.get_new, Heap.next_new, if_neg (by omega), Heap.get_new, if_neg (by omega)]
        · refine .inr ⟨?_, by omega⟩
          rw [Heap.get_new, Heap.next_new]
          by_cases hb2 : b = H.next + 1
          · rw [if_pos hb2]
          · rw [if_neg hb2, Heap.get_new, if_pos (by omega)]
      · cases h
    · cases h
  · cases h

end Mk

/-- one function has a body -/
def BodyOk (c : Cx) (g : Nat) : Prop := ∃ fn, c.P.funcs[g]? = some fn ∧ fn.body.isSome = true ∧ (fn.name == "runtime.NumGoroutine") = false
/-- one function is code of the library, or is known in one step -/
def EntOk (c : Cx) (L : Lib) (g : Nat) : Prop := (∃ fn, c.P.funcs[g]? = some fn ∧ L g = some (.code (trF c fn))) ∨
  (∃ pr, L g = some (.prim pr) ∧ ∀ (base : Nat) (ρ : Rho) (H : Heap) (W : World) (args : List AV) (vs : Array Value) (v : AV) (H' : Heap), Rel c base ρ H W → All2 (VRel c ρ) args vs.toList → pr args H = some (v, H') →
    Calls c.P g vs W fun e W' => ∃ v' ρ', e = .returned v' ∧ Goes c base ρ H W ρ' H' W' ∧ VRel c ρ' v v')

theorem lib_ok2 {c : Cx} {L : Lib} {l : List Nat} (hf : c.fm = fmOf l) (h : AllOf (EntOk c L) l) : LibOk c L := by
  intro g f hg
  rw [hf] at hg
  obtain ⟨hm, rfl⟩ := fmOf_inv hg
  exact h.at_ g hm

theorem fm_ok2 {c : Cx} {l : List Nat} (hf : c.fm = fmOf l) (h : AllOf (BodyOk c) l) : FmOk c := by
  refine ⟨fun g f hg => ?_⟩
  rw [hf] at hg
  obtain ⟨hm, rfl⟩ := fmOf_inv hg
  obtain ⟨fn, h1, h2, h3⟩ := h.at_ g hm
  obtain ⟨code, hc⟩ := Option.isSome_iff_exists.1 h2
  exact ⟨fn, code, h1, hc, fun e => by rw [e] at h3; simp at h3⟩

theorem ent_make {c : Cx} {L : Lib} {l : List Nat} (O : ProgOk c) (hf : c.fm = fmOf l) {g : Nat} (hg : has l g = true) {fn : Func} (hfn : c.P.funcs[g]? = some fn) (htr : trF c fn = Mk.pf) (hL : L g = some (.prim Mk.prim)) : EntOk c L g :=
  .inr ⟨Mk.prim, hL, Mk.prim_ok O (f := g) (fun g' h => by rw [hf] at h; exact (fmOf_inv h).2) (by rw [hf]; unfold fmOf; rw [hg]; rfl) hfn htr⟩

end Go.Dp
