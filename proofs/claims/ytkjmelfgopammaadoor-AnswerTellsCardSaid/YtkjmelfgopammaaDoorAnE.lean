/- Layer 14: rows of values, whether an answer is light. Conditions: none. -/
import Derived.Test.YtkjmelfgopammaaDoorAnD
namespace Go.Proofs.YtkjmelfgopammaaDoor
open Go.Dp
set_option linter.unusedSimpArgs false
set_option linter.unusedVariables false
set_option maxHeartbeats 2000000
set_option maxRecDepth 8000
attribute [local irreducible] Ex.thnK Ex.inK Ret

/-- a value that is told -/
structure Fd where
  key : List UInt8
  flags : Int
  val : List UInt8
  cas : Int
def Fd.cells (f : Fd) : List AV := [.str f.key, .int .i64 f.flags, .str f.val, .int .i64 f.cas]
def noFd : Fd := ⟨[], 0, [], 0⟩
def rows (l : List Fd) : List AV := l.flatMap Fd.cells
theorem rows_len (l : List Fd) : (rows l).length = l.length * 4 := by
  induction l with
  | nil => rfl
  | cons a l ih =>
    show (a.cells ++ rows l).length = _
    rw [List.length_append, ih]
    show 4 + _ = (l.length + 1) * 4
    omega
theorem rows_drop : ∀ (l : List Fd) (i : Nat), i < l.length → (rows l).drop (i * 4) = (l.getD i noFd).cells ++ rows (l.drop (i + 1))
  | [], i, h => by cases h
  | a :: l, 0, _ => rfl
  | a :: l, i + 1, h => by
    have e : (i + 1) * 4 = 4 + i * 4 := by omega
    rw [e, ← List.drop_drop]
    exact rows_drop l i (Nat.lt_of_succ_lt_succ h)
theorem Sl.row {H : Heap} {v : AV} {l : List Fd} (h : Sl H 4 v (rows l)) (hl : 0 < l.length) : ∃ b o cl w, v = .sl b o l.length 4 ∧ H.get b = some (.cells cl w) ∧ ∀ i, i < l.length → o + i * 4 + 4 ≤ cl.length ∧ ∃ rest, cl.drop (o + i * 4) = (l.getD i noFd).cells ++ rest := by
  have hr := rows_len l
  rcases h with ⟨rfl, h2⟩ | ⟨b, o, len, cl, w, rest, rfl, h2, h3, h4, h5⟩
  · rw [h2] at hr
    simp at hr
    omega
  · obtain rfl : len = l.length := by omega
    have hl2 : cl.length - o = (rows l).length + rest.length := by rw [← List.length_drop, h5, List.length_append]
    refine ⟨b, o, cl, w, rfl, h3, fun i hi => ⟨by omega, rows (l.drop (i + 1)) ++ rest, ?_⟩⟩
    rw [← List.drop_drop, h5, List.drop_append_of_le_length (by omega), rows_drop l i hi, List.append_assoc]
theorem Sl.lens4 {H : Heap} {v : AV} {l : List Fd} (h : Sl H 4 v (rows l)) : rLensl v = some (.int .i64 (.ofNat l.length)) ∧ v.isSc = true ∧ v.cells = [v] := by
  have hr := rows_len l
  rcases h with ⟨rfl, h2⟩ | ⟨b, o, len, cl, w, rest, rfl, h2, h3, h4, h5⟩
  · rw [h2] at hr
    have : l.length = 0 := by simp at hr; omega
    rw [this]
    exact ⟨rfl, rfl, rfl⟩
  · obtain rfl : len = l.length := by omega
    exact ⟨rfl, rfl, rfl⟩
theorem cells_at {cl rest : List AV} {p : Nat} {f : Fd} (h : cl.drop p = f.cells ++ rest) : (cl.drop p).take 4 = f.cells ∧ (cl.drop p).take 1 = [.str f.key] ∧ (cl.drop (p + 1)).take 1 = [.int .i64 f.flags] ∧ (cl.drop (p + 2)).take 1 = [.str f.val] ∧ (cl.drop (p + 3)).take 1 = [.int .i64 f.cas] := by
  refine ⟨by rw [h]; rfl, by rw [h]; rfl, ?_, ?_, ?_⟩ <;> (rw [← List.drop_drop, h]; rfl)

/-- an answer's cells -/
def ansC (kind : Int) (v : AV) (gets : Bool) (num : Nat) (text : List UInt8) (s0 s1 s2 s3 : Int) : List AV := [.int .i64 kind, v, .bool gets, .int .u64 (.ofNat num), .str text, .int .i64 s0, .int .i64 s1, .int .i64 s2, .int .i64 s3]
def wt (l : List Fd) : Nat := (l.map fun f => f.key.length + f.val.length + 1).sum
theorem wt_snoc (l : List Fd) {i : Nat} (h : i < l.length) : wt (l.take (i + 1)) = wt (l.take i) + ((l.getD i noFd).key.length + (l.getD i noFd).val.length + 1) := by
  have e : l.take (i + 1) = l.take i ++ [l.getD i noFd] := by
    rw [List.take_add_one, List.getD_eq_getElem?_getD, List.getElem?_eq_getElem h]
    rfl
  rw [e]
  simp [wt]
theorem wt_le (l : List Fd) (i : Nat) : wt (l.take i) ≤ wt l := by
  have e2 : wt (l.take i ++ l.drop i) = wt (l.take i) + wt (l.drop i) := by simp only [wt, List.map_append, List.sum_append]
  rw [List.take_append_drop] at e2
  omega

theorem box_ans {kind : Int} {v : AV} {gets : Bool} {num : Nat} {text : List UInt8} {s0 s1 s2 s3 : Int} (hv : v.isSc = true) :
    nBox [.int .i64 kind, v, .bool gets, .int .u64 (.ofNat num), .str text, .int .i64 s0, .int .i64 s1, .int .i64 s2, .int .i64 s3] = some (.cells [.int .i64 kind, v, .bool gets, .int .u64 (.ofNat num), .str text, .int .i64 s0, .int .i64 s1, .int .i64 s2, .int .i64 s3] 1, ptrTo) := by
  have : ([.int .i64 kind, v, .bool gets, .int .u64 (.ofNat num), .str text, .int .i64 s0, .int .i64 s1, .int .i64 s2, .int .i64 s3] : List AV).all AV.isSc = true := by
    simp only [List.all_cons, hv, List.all_nil]
    rfl
  unfold nBox
  rw [this]
  rfl

theorem light_ev (kind : Int) (v : AV) (l : List Fd) (gets : Bool) (num : Nat) (text : List UInt8) (s0 s1 s2 s3 : Int) (H : Heap) (hv : Sl H 4 v (rows l)) (hb : text.length ≤ 281474976710656) (hbf : ∀ f ∈ l, f.key.length ≤ 281474976710656 ∧ f.val.length ≤ 281474976710656) (hl : l.length < 9223372036854775808) (Q : AV → Heap → Prop)
    (hQ : ∀ H', H'.Ok → HLe H H' → Q (.bool (decide (text.length + wt l ≤ 3000))) H') : Eo lib n_depotlaw14_light [.agg (ansC kind v gets num text s0 s1 s2 s3)] H Q := by
  refine Eo.ok fun hOk => ?_
  refine Eo.code at_depotlaw14_light rfl ?_
  obtain ⟨hv1, hv2, hv3⟩ := Sl.lens4 hv
  have hnew := HLe.new (hOk _ (Nat.le_refl _)) (.cells (ansC kind v gets num text s0 s1 s2 s3) 1)
  have hgb : (H.new (.cells (ansC kind v gets num text s0 s1 s2 s3) 1)).get H.next = some (.cells (ansC kind v gets num text s0 s1 s2 s3) 1) := Heap.get_new_self _ _
  have hO1 := hOk.new (.cells (ansC kind v gets num text s0 s1 s2 s3) 1)
  unfold ansC at hgb hnew hO1 ⊢
  have hbx := box_ans (kind := kind) (gets := gets) (num := num) (text := text) (s0 := s0) (s1 := s1) (s2 := s2) (s3 := s3) hv2
  repeat (first | ((first | apply Xk.sAny | apply Xk.tAny); (case hok => rfl); (case h => intro C hC; simp (disch := omega) only [w1, ↓reduceIte, Nat.reduceEqDiff, Nat.reduceLeDiff, Nat.reduceAdd, Nat.reduceSub, hv1, hv2, hv3, hbx, hgb]; with_reducible exact hC); refine gc ?_) | refine gm ?_)
  generalize H.new (.cells [.int .i64 kind, v, .bool gets, .int .u64 (.ofNat num), .str text, .int .i64 s0, .int .i64 s1, .int .i64 s2, .int .i64 s3] 1) = H1 at hgb hnew hO1 ⊢
  have hvm := hv.mono hnew
  clear hbx
  generalize H.next = nb at hgb ⊢
  refine Xk.iter [1, 3, 4] (fun m k H' => ∃ i, m = l.length - i ∧ i ≤ l.length ∧ (l = [] ∨ i = 0 ∨ text.length + wt (l.take i) ≤ 3000) ∧ k = [(1, .ptr nb 0), (3, .int .i64 (.ofNat (text.length + wt (l.take i)))), (4, .int .i64 (.ofNat i))] ∧ H' = H1) rfl
    ⟨_, 0, rfl, Nat.zero_le _, .inr (.inl rfl), rfl, rfl⟩ ?_
  rintro m k H' ⟨i, rfl, hi, hlt, rfl, rfl⟩
  unfold l0_depotlaw14_light
  by_cases c : i < l.length
  · obtain ⟨bb, o, cl, w, rfl, hg, hrow⟩ := Sl.row hvm (by omega)
    obtain ⟨c1, rest, c2⟩ := hrow i c
    obtain ⟨d4, d0, d1, d2, d3⟩ := cells_at c2
    have j0 : o + i * 4 + 1 ≤ cl.length := by omega
    have j2 : o + i * 4 + 2 + 1 ≤ cl.length := by omega
    have t1 := wt_snoc l c
    have t2 := wt_le l (i + 1)
    have t3 : l.getD i noFd ∈ l := by
      rw [List.getD_eq_getElem?_getD, List.getElem?_eq_getElem c]
      exact List.getElem_mem c
    obtain ⟨t4, t5⟩ := hbf _ t3
    have t6 : text.length + wt (l.take i) ≤ 281474976710656 := by
      rcases hlt with rfl | rfl | h
      · cases c
      · exact hb
      · omega
    by_cases c3 : 3000 < text.length + wt (l.take i) + (l.getD i noFd).key.length + (l.getD i noFd).val.length + 1
    · repeat (first | ((first | apply Xk.sAny | apply Xk.tAny); (case hok => rfl); (case h => intro C hC; simp (disch := omega) only [w1, ↓reduceIte, Nat.reduceEqDiff, Nat.reduceLeDiff, Nat.reduceAdd, Nat.reduceSub, c, hgb, hg, j0, j2, d0, d2, c3, Nat.add_zero]; with_reducible exact hC); refine gc ?_) | refine gm ?_)
      have e : decide (text.length + wt l ≤ 3000) = false := decide_eq_false (by omega)
      rw [← e]
      exact hQ _ hO1 hnew
    · repeat (first | ((first | apply Xk.sAny | apply Xk.tAny); (case hok => rfl); (case h => intro C hC; simp (disch := omega) only [w1, ↓reduceIte, Nat.reduceEqDiff, Nat.reduceLeDiff, Nat.reduceAdd, Nat.reduceSub, c, hgb, hg, j0, j2, d0, d2, c3, Nat.add_zero]; with_reducible exact hC); refine gc ?_) | refine gm ?_)
      refine ⟨rfl, _, by omega, i + 1, rfl, by omega, .inr (.inr (by omega)), ?_, rfl⟩
      have e : text.length + wt (l.take i) + (l.getD i noFd).key.length + (l.getD i noFd).val.length + 1 = text.length + wt (l.take (i + 1)) := by omega
      rw [← e]
      rfl
  · repeat (first | ((first | apply Xk.sAny | apply Xk.tAny); (case hok => rfl); (case h => intro C hC; simp (disch := omega) only [w1, ↓reduceIte, Nat.reduceEqDiff, Nat.reduceLeDiff, Nat.reduceAdd, Nat.reduceSub, c, hgb, hv1]; with_reducible exact hC); refine gc ?_) | refine gm ?_)
    obtain rfl : i = l.length := by omega
    rw [List.take_length]
    exact hQ _ hO1 hnew
end Go.Proofs.YtkjmelfgopammaaDoor
