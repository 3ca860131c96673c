/- slices.DeleteFunc over the one request that was done, where it goes. Conditions: none. -/
import Derived.Test.YtihoblfmhighpaaSlG
namespace Go.Proofs.Ytihoblfmhighpaa
open Go.Dp
set_option linter.unusedSimpArgs false
set_option linter.unusedVariables false
set_option maxHeartbeats 400000
set_option maxRecDepth 8000
attribute [local irreducible] Ex.thnK Ex.inK Ret

theorem box_dd (d : Dd) : nBox d.cells = some (.cells d.cells 1, ptrTo) := rfl
theorem take1_ev (H : Heap) (p pb : Nat) (d : Dd) (c0 c1 c2 c3 c4 c6 c7 : AV) (floor : Int) (hb : H.get pb = some (.cells [.ptr p 0] 1)) (hg : H.get p = some (.cells [c0, c1, c2, c3, c4, .int .i64 floor, c6, c7] 1)) (Q : AV → Heap → Prop)
    (hQ : ∀ H', H'.Ok → HLe H H' → Q (.bool (decide (d.rid < floor))) H') : Eo lib n_slot_Slot_Take_1 [.agg d.cells, .ptr pb 0] H Q := by
  refine Eo.ok fun hOk => ?_
  refine Eo.code at_slot_Slot_Take_1 rfl ?_
  obtain ⟨dr, dk, ds, di, dq, dl, dp, dy, dv, dd⟩ := d
  have hbx : nBox [.int .i64 dr, .int .i64 dk, .int .i64 ds, .int .i64 di, .int .i64 dq, .int .i64 dl, .int .i64 dp, .str dy, .int .i64 dv, .str dd] = some (.cells [.int .i64 dr, .int .i64 dk, .int .i64 ds, .int .i64 di, .int .i64 dq, .int .i64 dl, .int .i64 dp, .str dy, .int .i64 dv, .str dd] 1, ptrTo) := rfl
  have hO := hOk.new (.cells [.int .i64 dr, .int .i64 dk, .int .i64 ds, .int .i64 di, .int .i64 dq, .int .i64 dl, .int .i64 dp, .str dy, .int .i64 dv, .str dd] 1)
  have hle := HLe.new (hOk _ (Nat.le_refl _)) (.cells [.int .i64 dr, .int .i64 dk, .int .i64 ds, .int .i64 di, .int .i64 dq, .int .i64 dl, .int .i64 dp, .str dy, .int .i64 dv, .str dd] 1)
  have hgn := Heap.get_new_self H (.cells [.int .i64 dr, .int .i64 dk, .int .i64 ds, .int .i64 di, .int .i64 dq, .int .i64 dl, .int .i64 dp, .str dy, .int .i64 dv, .str dd] 1)
  have hb2 := hle _ _ hb
  have hg2 := hle _ _ hg
  have hq : Q (.bool (decide (dr < floor))) _ := hQ _ hO hle
  show Xk lib _ _ (argsK 0 [.agg [.int .i64 dr, .int .i64 dk, .int .i64 ds, .int .i64 di, .int .i64 dq, .int .i64 dl, .int .i64 dp, .str dy, .int .i64 dv, .str dd], .ptr pb 0]) H _
  repeat (first | ((first | apply Xk.sAny | apply Xk.tAny); (case hok => rfl); (case h => intro C hC; simp (disch := omega) only [w1, ↓reduceIte, Nat.reduceEqDiff, Nat.reduceLeDiff, Nat.reduceAdd, Nat.reduceSub, hbx]; with_reducible exact hC); refine gc ?_) | refine gm ?_)
  repeat (first | ((first | apply Xk.sAny | apply Xk.tAny); (case hok => rfl); (case h => intro C hC; simp (disch := omega) only [w1, ↓reduceIte, Nat.reduceEqDiff, Nat.reduceLeDiff, Nat.reduceAdd, Nat.reduceSub, hbx, hgn, hb2, hg2]; with_reducible exact hC); refine gc ?_) | refine gm ?_)
  exact hq
theorem idx1_ev (T : Tags) (t : Tg) (H : Heap) (p pb : Nat) (v : AV) (d : Dd) (hv : RT T H t 0 10 v ([d].flatMap Dd.cells)) (c0 c1 c2 c3 c4 c6 c7 : AV) (floor : Int) (hb : H.get pb = some (.cells [.ptr p 0] 1)) (hg : H.get p = some (.cells [c0, c1, c2, c3, c4, .int .i64 floor, c6, c7] 1)) (hd : d.rid < floor) (Q : AV → Heap → Prop)
    (hQ : ∀ H', H'.Ok → HLe H H' → Q (.int .i64 (.ofNat 0)) H') : Eo lib n_slices_IndexFunc_slot_did_slot_did [v, .fn 25 [.ptr pb 0]] H Q := by
  refine Eo.ok fun hOk => ?_
  refine Eo.code at_slices_IndexFunc_slot_did_slot_did rfl ?_
  obtain ⟨c, cl, rfl, hgc, _, _, _, hrow⟩ := RT.rowG (g := Dd.cells) (fun _ => rfl) noDd hv Nat.zero_lt_one (by decide)
  obtain ⟨b1, rest, b2⟩ := hrow 0 Nat.zero_lt_one
  obtain ⟨dr, dk, ds, di, dq, dl, dp, dy, dv, dd⟩ := d
  have d10 : (cl.drop (0 * 10)).take 10 = [.int .i64 dr, .int .i64 dk, .int .i64 ds, .int .i64 di, .int .i64 dq, .int .i64 dl, .int .i64 dp, .str dy, .int .i64 dv, .str dd] := by
    have b2 : cl.drop (0 * 10) = [.int .i64 dr, .int .i64 dk, .int .i64 ds, .int .i64 di, .int .i64 dq, .int .i64 dl, .int .i64 dp, .str dy, .int .i64 dv, .str dd] ++ rest := b2
    rw [b2]
    exact List.take_left' rfl
  have b1 : 0 * 10 + 10 ≤ cl.length := b1
  repeat (first | ((first | apply Xk.sAny | apply Xk.tAny); (case hok => rfl); (case h => intro C hC; simp (disch := omega) only [w1, ↓reduceIte, Nat.reduceEqDiff, Nat.reduceLeDiff, Nat.reduceAdd, Nat.reduceSub]; with_reducible exact hC); refine gc ?_) | refine gm ?_)
  repeat (first | ((first | apply Xk.sAny | apply Xk.tAny); (case hok => rfl); (case h => intro C hC; simp (disch := omega) only [w1, ↓reduceIte, Nat.reduceEqDiff, Nat.reduceLeDiff, Nat.reduceAdd, Nat.reduceSub]; with_reducible exact hC); refine gc ?_) | refine gm ?_)
  refine Xk.iter [0, 1, 7, 8] (fun m k H' => k = [(0, .sl c 0 1 10), (1, .fn 25 [.ptr pb 0]), (7, .int .i64 (.ofNat 1)), (8, .int .i64 (.ofNat 0))] ∧ H' = H) rfl ⟨0, rfl, rfl⟩ ?_
  rintro m k H' ⟨rfl, rfl⟩
  unfold l0_slices_IndexFunc_slot_did_slot_did
  have h01 : (0 < 1) = True := eq_true (by decide)
  repeat (first | ((first | apply Xk.sAny | apply Xk.tAny); (case hok => rfl); (case h => intro C hC; simp (disch := omega) only [w1, ↓reduceIte, Nat.reduceEqDiff, Nat.reduceLeDiff, Nat.reduceAdd, Nat.reduceSub, h01, hgc, b1, d10]; with_reducible exact hC); refine gc ?_) | refine gm ?_)
  repeat (first | ((first | apply Xk.sAny | apply Xk.tAny); (case hok => rfl); (case h => intro C hC; simp (disch := omega) only [w1, ↓reduceIte, Nat.reduceEqDiff, Nat.reduceLeDiff, Nat.reduceAdd, Nat.reduceSub, h01, hgc, b1, d10]; with_reducible exact hC); refine gc ?_) | refine gm ?_)
  refine take1_ev H' p pb ⟨dr, dk, ds, di, dq, dl, dp, dy, dv, dd⟩ c0 c1 c2 c3 c4 c6 c7 floor hb hg _ fun H2 hO2 hle2 => ?_
  rw [decide_eq_true hd]
  repeat (first | ((first | apply Xk.sAny | apply Xk.tAny); (case hok => rfl); (case h => intro C hC; simp (disch := omega) only [w1, ↓reduceIte, Nat.reduceEqDiff, Nat.reduceLeDiff, Nat.reduceAdd, Nat.reduceSub]; with_reducible exact hC); refine gc ?_) | refine gm ?_)
  repeat (first | ((first | apply Xk.sAny | apply Xk.tAny); (case hok => rfl); (case h => intro C hC; simp (disch := omega) only [w1, ↓reduceIte, Nat.reduceEqDiff, Nat.reduceLeDiff, Nat.reduceAdd, Nat.reduceSub]; with_reducible exact hC); refine gc ?_) | refine gm ?_)
  exact hQ H2 hO2 hle2
theorem del1_ev (T : Tags) (t : Tg) (H : Heap) (p pb : Nat) (v : AV) (d : Dd) (hv : RT T H t 0 10 v ([d].flatMap Dd.cells)) (c0 c1 c2 c3 c4 c6 c7 : AV) (floor : Int) (hb : H.get pb = some (.cells [.ptr p 0] 1)) (hg : H.get p = some (.cells [c0, c1, c2, c3, c4, .int .i64 floor, c6, c7] 1)) (hd : d.rid < floor) (Q : AV → Heap → Prop)
    (hQ : ∀ v' H', Stp (fun u => u = t) T H T H' → RT T H' t 0 10 v' [] → Q v' H') : Eo lib n_slices_DeleteFunc_slot_did_slot_did [v, .fn 25 [.ptr pb 0]] H Q := by
  refine Eo.ok fun hOk => ?_
  refine Eo.code at_slices_DeleteFunc_slot_did_slot_did rfl ?_
  repeat (first | ((first | apply Xk.sAny | apply Xk.tAny); (case hok => rfl); (case h => intro C hC; simp (disch := omega) only [w1, ↓reduceIte, Nat.reduceEqDiff, Nat.reduceLeDiff, Nat.reduceAdd, Nat.reduceSub]; with_reducible exact hC); refine gc ?_) | refine gm ?_)
  repeat (first | ((first | apply Xk.sAny | apply Xk.tAny); (case hok => rfl); (case h => intro C hC; simp (disch := omega) only [w1, ↓reduceIte, Nat.reduceEqDiff, Nat.reduceLeDiff, Nat.reduceAdd, Nat.reduceSub]; with_reducible exact hC); refine gc ?_) | refine gm ?_)
  refine idx1_ev T t H p pb v d hv c0 c1 c2 c3 c4 c6 c7 floor hb hg hd _ fun H1 hO1 hle1 => ?_
  have s1 : Stp (fun _ => False) T H T H1 := Stp.le hO1 hle1
  have hv1 := hv.step s1 (fun h => h)
  obtain ⟨c, cl, rfl, hgc, htc, hll, _, hrow⟩ := RT.rowG (g := Dd.cells) (fun _ => rfl) noDd hv1 Nat.zero_lt_one (by decide)
  have hn0 : (Int.ofNat 0 = Int.negSucc 0) = False := eq_false (by decide)
  repeat (first | ((first | apply Xk.sAny | apply Xk.tAny); (case hok => rfl); (case h => intro C hC; simp (disch := omega) only [w1, ↓reduceIte, Nat.reduceEqDiff, Nat.reduceLeDiff, Nat.reduceAdd, Nat.reduceSub, hn0]; with_reducible exact hC); refine gc ?_) | refine gm ?_)
  repeat (first | ((first | apply Xk.sAny | apply Xk.tAny); (case hok => rfl); (case h => intro C hC; simp (disch := omega) only [w1, ↓reduceIte, Nat.reduceEqDiff, Nat.reduceLeDiff, Nat.reduceAdd, Nat.reduceSub, hn0]; with_reducible exact hC); refine gc ?_) | refine gm ?_)
  refine Xk.iter [0, 5, 6] (fun m k H' => k = [(0, .sl c 0 1 10), (5, .int .i64 (.ofNat 0)), (6, .int .i64 (.ofNat 1))] ∧ H' = H1) rfl ⟨0, rfl, rfl⟩ ?_
  rintro m k H' ⟨rfl, rfl⟩
  unfold l0_slices_DeleteFunc_slot_did_slot_did
  have h11 : (1 < 1) = False := eq_false (by decide)
  have hll : 10 ≤ cl.length := hll
  have hz : noDd.cells.length = 10 := rfl
  have hcl : eClear H' [.int .i64 (.ofNat 0), .int .i64 (.ofNat 0), .int .i64 (.ofNat 0), .int .i64 (.ofNat 0), .int .i64 (.ofNat 0), .int .i64 (.ofNat 0), .int .i64 (.ofNat 0), .str [], .int .i64 (.ofNat 0), .str []] (.sl c 0 1 10) = some (.tup [], H'.put c (.cells (over cl 0 noDd.cells) 1)) := by
    show unit (H'.st c 0 noDd.cells) = _
    unfold Heap.st
    rw [hgc]
    show unit (bif Nat.ble (0 + 10) cl.length then some (H'.put c (.cells (over cl 0 noDd.cells) (0 + 1))) else none) = _
    rw [nble, decide_eq_true (show 0 + 10 ≤ cl.length by omega)]
    rfl
  have s2 : Stp (fun u => u = t) T H' T (H'.put c (.cells (over cl 0 noDd.cells) 1)) := Stp.put hO1 hgc htc _
  have hfin := hQ (.sl c 0 0 10) _ ((s1.mono fun _ h => h.elim).trans s2) (.inr ⟨c, 0, _, rfl, rfl, Heap.get_put_self _ _ _, Nat.zero_le _, rfl, htc⟩)
  have hl10 : (over cl 0 noDd.cells).length = cl.length := over_lenC _ _ _ (by omega)
  generalize over cl 0 noDd.cells = cl2 at *
  repeat (first | ((first | apply Xk.sAny | apply Xk.tAny); (case hok => rfl); (case h => intro C hC; simp (disch := omega) only [w1, ↓reduceIte, Nat.reduceEqDiff, Nat.reduceLeDiff, Nat.reduceAdd, Nat.reduceSub, h11]; with_reducible exact hC); refine gc ?_) | refine gm ?_)
  repeat (first | ((first | apply Xk.sAny | apply Xk.tAny); (case hok => rfl); (case h => intro C hC; simp (disch := omega) only [w1, ↓reduceIte, Nat.reduceEqDiff, Nat.reduceLeDiff, Nat.reduceAdd, Nat.reduceSub, h11, hgc, hcl, hll, hl10]; with_reducible exact hC); refine gc ?_) | refine gm ?_)
  repeat (first | ((first | apply Xk.sAny | apply Xk.tAny); (case hok => rfl); (case h => intro C hC; simp (disch := omega) only [w1, ↓reduceIte, Nat.reduceEqDiff, Nat.reduceLeDiff, Nat.reduceAdd, Nat.reduceSub, h11, hgc, hcl, hll, hl10]; with_reducible exact hC); refine gc ?_) | refine gm ?_)
  exact hfin
end Go.Proofs.Ytihoblfmhighpaa
