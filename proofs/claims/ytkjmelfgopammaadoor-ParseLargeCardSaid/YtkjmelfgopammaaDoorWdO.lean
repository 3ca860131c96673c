/- Layer 12: lemmas on words and requests. Conditions: none. -/
import Derived.Test.YtkjmelfgopammaaDoorWdW
namespace Go.Proofs.YtkjmelfgopammaaDoor
open Go.Dp Go.Wd
set_option linter.unusedSimpArgs false
set_option linter.unusedVariables false
set_option maxHeartbeats 2000000
attribute [local irreducible] Ex.thnK Ex.inK Ret

theorem splitGo_app : ∀ (s cur w : List UInt8), splitGo cur (s ++ 32 :: w) = splitGo cur s ++ splitW w
  | [], cur, w => by
    rw [List.nil_append, splitGo_blank _ _ _ (by decide), splitGo_nil]
    split <;> rfl
  | c :: r, cur, w => by
    rw [List.cons_append]
    by_cases h : c.toNat = 32
    · rw [splitGo_blank _ _ _ h, splitGo_blank _ _ _ h, splitGo_app r [] w]
      split <;> rfl
    · rw [splitGo_other _ _ _ h, splitGo_other _ _ _ h, splitGo_app r _ w]
theorem splitW_app (s w : List UInt8) : splitW (s ++ 32 :: w) = splitW s ++ splitW w := splitGo_app s [] w

theorem argsB_quiet (r : Req) (l : List (List UInt8)) : argsB { r with noReply := true } l = (argsB r l).map fun x => { x with noReply := true } := by
  unfold argsB
  simp only []
  split
  · split <;> rfl
  · split
    · split <;> rfl
    · split
      · split <;> rfl
      · rfl
theorem argsOf_quiet (r : Req) (l : List (List UInt8)) : argsOf { r with noReply := true } l = (argsOf r l).map fun x => { x with noReply := true } := by
  unfold argsOf
  simp only []
  split
  · split <;> rfl
  · split
    · split <;> rfl
    · split
      · split <;> rfl
      · split
        · rfl
        · split
          · exact argsB_quiet { r with keys := [l.getD 0 []] } l
          · rfl
theorem argsB_verb {r x : Req} {l : List (List UInt8)} (h : argsB r l = some x) : x.verb = r.verb ∧ x.noReply = r.noReply ∧ x.data = r.data ∧ (x.keys = r.keys) := by
  unfold argsB at h
  repeat' split at h
  all_goals first
    | (cases h; exact ⟨rfl, rfl, rfl, rfl⟩)
    | cases h
theorem argsOf_verb {r x : Req} {l : List (List UInt8)} (h : argsOf r l = some x) : x.verb = r.verb ∧ x.noReply = r.noReply ∧ x.data = r.data ∧ (x.keys = r.keys ∨ x.keys = l ∨ x.keys = [l.getD 0 []]) := by
  unfold argsOf at h
  split at h
  · split at h
    · cases h; exact ⟨rfl, rfl, rfl, .inr (.inl rfl)⟩
    · cases h
  · split at h
    · split at h
      · cases h; exact ⟨rfl, rfl, rfl, .inl rfl⟩
      · cases h
    · split at h
      · split at h
        · cases h; exact ⟨rfl, rfl, rfl, .inl rfl⟩
        · cases h
      · split at h
        · cases h; exact ⟨rfl, rfl, rfl, .inl rfl⟩
        · split at h
          · obtain ⟨a, b, c, d⟩ := argsB_verb h
            exact ⟨a, b, c, .inr (.inr d)⟩
          · cases h

/-- a line that is one: its words -/
theorem line_ok {s : List UInt8} (h : (lineOf s).2 = 0) : ∃ w l v, splitW s = w :: l ∧ verbOf w = some v ∧ ¬ ((quietOf v l).1.length < v.2.1 ∨ v.2.2.1 < (quietOf v l).1.length) ∧ argsOf ⟨v.1, [], 0, 0, 0, 0, 0, (quietOf v l).2, []⟩ (quietOf v l).1 = some (lineOf s).1 := by
  unfold lineOf at h ⊢
  cases hs : splitW s with
  | nil => rw [hs] at h; cases h
  | cons w l =>
    rw [hs] at h
    cases hv : verbOf w with
    | none => rw [wordsOf_none hv] at h; cases h
    | some v =>
      by_cases hc : (quietOf v l).1.length < v.2.1 ∨ v.2.2.1 < (quietOf v l).1.length
      · rw [wordsOf_short hv hc] at h; cases h
      · rw [wordsOf_args hv hc] at h
        cases ha : argsOf ⟨v.1, [], 0, 0, 0, 0, 0, (quietOf v l).2, []⟩ (quietOf v l).1 with
        | none => rw [ha] at h; cases h
        | some r =>
          refine ⟨w, l, v, rfl, hv, hc, ?_⟩
          rw [wordsOf_args hv hc, ha]

theorem verbOf_quiet {w : List UInt8} {v : Nat × Nat × Nat × Bool} (h : verbOf w = some v) : v.2.2.2 = false ↔ v.1 = 1 ∨ v.1 = 2 ∨ v.1 = 14 ∨ v.1 = 16 ∨ v.1 = 17 := by
  unfold verbOf at h
  iterate 17
    rcases ite_inv h with h | h
    · obtain rfl := Option.some.inj h
      decide
  cases h

def noreplyS : List UInt8 := [32, 110, 111, 114, 101, 112, 108, 121]

theorem quiet_line {s : List UInt8} (h : (lineOf s).2 = 0) (hq : (lineOf s).1.noReply = false) (n1 : ¬ (lineOf s).1.verb = 1) (n2 : ¬ (lineOf s).1.verb = 2) (n14 : ¬ (lineOf s).1.verb = 14) (n16 : ¬ (lineOf s).1.verb = 16) (n17 : ¬ (lineOf s).1.verb = 17) :
    lineOf (s ++ noreplyS) = ({ (lineOf s).1 with noReply := true }, 0) ∧ 0 < (splitW s).length := by
  obtain ⟨w, l, v, hs, hv, hc, ha⟩ := line_ok h
  obtain ⟨e1, e2, _⟩ := argsOf_verb ha
  simp only at e1 e2
  have hqv : v.2.2.2 = true := by
    cases hb : v.2.2.2 with
    | true => rfl
    | false =>
      have := (verbOf_quiet hv).1 hb
      rw [← e1] at this
      rcases this with h | h | h | h | h
      · exact absurd h n1
      · exact absurd h n2
      · exact absurd h n14
      · exact absurd h n16
      · exact absurd h n17
  have hql : quietOf v l = (l, false) := by
    rw [hq] at e2
    unfold quietOf at e2 ⊢
    split at e2
    · cases e2
    · rename_i hno; rw [if_neg hno]
  rw [hql] at hc ha
  simp only at hc ha
  have hs2 : splitW (s ++ noreplyS) = w :: (l ++ [noreply]) := by
    unfold noreplyS
    rw [splitW_app, hs]
    rfl
  have hql2 : quietOf v (l ++ [noreply]) = (l, true) := by
    unfold quietOf
    rw [if_pos]
    · simp
    · refine ⟨hqv, by simp; omega, ?_⟩
      simp
  refine ⟨?_, by rw [hs]; simp⟩
  unfold lineOf at ha ⊢
  rw [hs2, wordsOf_args hv (by rw [hql2]; exact hc), hql2]
  have := argsOf_quiet ⟨v.1, [], 0, 0, 0, 0, 0, false, []⟩ l
  simp only at this ⊢
  rw [this, ha]
  rfl

theorem lineOf_keys (s : List UInt8) : (lineOf s).1.keys.length ≤ s.length + 1 := by
  have hw := splitW_len s
  by_cases h : (lineOf s).2 = 0
  · obtain ⟨w, l, v, hs, hv, hc, ha⟩ := line_ok h
    obtain ⟨_, _, _, hk⟩ := argsOf_verb ha
    have hq : (quietOf v l).1.length ≤ l.length := by
      unfold quietOf
      split
      · simp
      · exact Nat.le_refl _
    rw [hs] at hw
    simp at hw
    rcases hk with hk | hk | hk <;> rw [hk] <;> simp <;> omega
  · have : (lineOf s).1 = noReq := by
      unfold lineOf at h ⊢
      cases hs : splitW s with
      | nil => rfl
      | cons w l =>
        rw [hs] at h
        cases hv : verbOf w with
        | none => rw [wordsOf_none hv]
        | some v =>
          by_cases hc : (quietOf v l).1.length < v.2.1 ∨ v.2.2.1 < (quietOf v l).1.length
          · rw [wordsOf_short hv hc]
          · rw [wordsOf_args hv hc] at h ⊢
            cases ha : argsOf ⟨v.1, [], 0, 0, 0, 0, 0, (quietOf v l).2, []⟩ (quietOf v l).1 with
            | none => rfl
            | some r => rw [ha] at h; exact absurd rfl h
    rw [this]
    simp [noReq]

theorem RepQ.mono {H H' : Heap} {cells : List AV} {r : Req} (h : RepQ H cells r) (hle : HLe H H') : RepQ H' cells r := by
  obtain ⟨kv, h1, h2⟩ := h
  exact ⟨kv, h1, h2.mono hle⟩
theorem RepQ.sc {H : Heap} {cells : List AV} {r : Req} (h : RepQ H cells r) : cells.all AV.isSc = true ∧ cells.length = 9 := by
  obtain ⟨kv, h1, h2⟩ := h
  rw [h1]
  obtain ⟨_, h3⟩ := h2.sc
  exact ⟨by simp only [reqC, wh, List.all_cons, List.all_nil, h3, Bool.and_self, Bool.and_true], rfl⟩

end Go.Proofs.YtkjmelfgopammaaDoor
