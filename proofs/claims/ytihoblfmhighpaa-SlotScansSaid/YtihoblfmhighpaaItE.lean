/- The store of items, in a heap: a new one. Conditions: none. -/
import Derived.Test.YtihoblfmhighpaaItS
namespace Go.Proofs.Ytihoblfmhighpaa
open Go.Dp
set_option linter.unusedSimpArgs false
set_option linter.unusedVariables false
set_option maxHeartbeats 400000
set_option maxRecDepth 8000
attribute [local irreducible] Ex.thnK Ex.inK Ret

def newSt (a b : Nat) : St := ⟨newSb a b, [], [], 1⟩
theorem newSt_ok {a b : Nat} (h1 : a ≤ 64) (h2 : b ≤ 65536) : (newSt a b).Ok := by
  refine ⟨newSb_ok h1 h2, ?_, fun x hx => ?_, fun x hx => ?_, List.nodup_nil, List.nodup_nil⟩
  · show [0].Nodup
    decide
  · have hx : x ∈ [0] := hx
    rw [List.mem_singleton] at hx
    subst hx
    exact Nat.one_pos
  · cases hx

theorem iNew_ev (τ : Nat) (T : Tags) (H : Heap) (pages page : Int) (Q : AV → Heap → Prop)
    (hno : (pages < 1 ∨ 64 < pages ∨ page < 64 ∨ 65536 < page) → Q (.tup [.nilp, .int .i64 (.ofNat 1)]) H)
    (hyes : ∀ a b : Nat, pages = .ofNat a → page = .ofNat b → 1 ≤ a → a ≤ 64 → 64 ≤ b → b ≤ 65536 → ∀ p T' H', Stp (Ot τ) T H T' H' → SH τ T' H' p (newSt a b) → Q (.tup [.ptr p 0, .int .i64 (.ofNat 0)]) H') :
    Eo lib n_item_New [.int .i64 pages, .int .i64 page] H Q := by
  refine Eo.ok fun hOk => ?_
  refine Eo.code at_item_New rfl ?_
  iterate 2 repeat (first | ((first | apply Xk.sAny | apply Xk.tAny); (case hok => rfl); (case h => intro C hC; simp (disch := omega) only [w1, ↓reduceIte, Nat.reduceEqDiff, Nat.reduceLeDiff, Nat.reduceAdd, Nat.reduceSub]; with_reducible exact hC); refine gc ?_) | refine gm ?_)
  refine sNew_ev (τ + 1) T H pages page _ (fun hb => ?_) (fun a b h1 h2 h3 h4 h5 h6 ps c T1 H1 s1 sl1 => ?_)
  · have h0 : (1 = 0) = False := eq_false (by decide)
    iterate 2 repeat (first | ((first | apply Xk.sAny | apply Xk.tAny); (case hok => rfl); (case h => intro C hC; simp (disch := omega) only [w1, ↓reduceIte, Nat.reduceEqDiff, Nat.reduceLeDiff, Nat.reduceAdd, Nat.reduceSub, h0]; with_reducible exact hC); refine gc ?_) | refine gm ?_)
    exact hno hb
  · have hmk : nMksl 0 6 56 [.str [], .int .i64 (.ofNat 0), .int .i64 (.ofNat 0), .bool false, .int .i64 (.ofNat 0), .int .i64 (.ofNat 0)] (.int .i64 (.ofNat 1)) (.int .i64 (.ofNat 1)) = some (.cells noNd.cells 1, slTo 1 6) := rfl
    obtain ⟨T2, s2, a2⟩ := new1 (T := T1) s1.ok (τ, 1, 0) (.cells noNd.cells 1)
    iterate 2 repeat (first | ((first | apply Xk.sAny | apply Xk.tAny); (case hok => rfl); (case h => intro C hC; simp (disch := omega) only [w1, ↓reduceIte, Nat.reduceEqDiff, Nat.reduceLeDiff, Nat.reduceAdd, Nat.reduceSub, hmk]; with_reducible exact hC); refine gc ?_) | refine gm ?_)
    refine New_ev (τ + 2) T2 _ _ fun T3 H3 pc s3 k3 => ?_
    have sl3 := (sl1.step s2 (fun _ _ h => h)).step s3 (fun _ _ h => h)
    have a3 := a2.step s3 (fun h => h)
    generalize H1.next = cn at a3 ⊢
    have hbx : nBox [.ptr ps 0, .ptr pc 0, .sl cn 0 1 6, .nils] = some (.cells [.ptr ps 0, .ptr pc 0, .sl cn 0 1 6, .nils] 1, ptrTo) := rfl
    iterate 2 repeat (first | ((first | apply Xk.sAny | apply Xk.tAny); (case hok => rfl); (case h => intro C hC; simp (disch := omega) only [w1, ↓reduceIte, Nat.reduceEqDiff, Nat.reduceLeDiff, Nat.reduceAdd, Nat.reduceSub, hbx]; with_reducible exact hC); refine gc ?_) | refine gm ?_)
    obtain ⟨T4, s4, a4⟩ := new1 (T := T3) s3.ok (τ, 0, 0) (.cells [.ptr ps 0, .ptr pc 0, .sl cn 0 1 6, .nils] 1)
    have hst := ((s1.mono (P := Ot τ) fun u h => ot1 h).trans (s2.mono (P := Ot τ) fun _ h => h.elim)).trans ((s3.mono (P := Ot τ) fun _ h => h.elim).trans (s4.mono (P := Ot τ) fun _ h => h.elim))
    refine hyes a b h1 h2 h3 h4 h5 h6 _ T4 _ hst ⟨ps, pc, c, cn, .nils, [noNd], a4, sl3.step s4 (fun _ _ h => h), k3.step s4 (fun _ _ h => h), ?_, RT.nil, ⟨rfl, ⟨rfl, rfl⟩, fun x hx => by cases hx⟩, newSt_ok h4 h6⟩
    have a5 := a3.step s4 (fun h => h)
    exact .inr ⟨cn, 1, noNd.cells, rfl, rfl, a5.1, Nat.le_refl _, rfl, a5.2⟩
end Go.Proofs.Ytihoblfmhighpaa
