/- Layer 13: feeding in pieces. Conditions: none. -/
import Derived.Test.YtkjmelfgopammaaDoorPaK
namespace Go.Proofs.YtkjmelfgopammaaDoor
open Go.Dp Go.Wd
set_option linter.unusedSimpArgs false
set_option linter.unusedVariables false
set_option maxHeartbeats 2000000

theorem upTo_app (c : UInt8) : ∀ (a b : List UInt8), upTo c a < a.length → upTo c (a ++ b) = upTo c a
  | [], b, h => by cases h
  | x :: r, b, h => by
    unfold upTo at h ⊢
    rw [List.cons_append]
    simp only
    by_cases e : x = c
    · rw [if_pos e, if_pos e]
    · rw [if_neg e] at h
      rw [if_neg e, if_neg e, upTo_app c r b (by simpa using h)]
theorem upTo_app_none (c : UInt8) : ∀ (a b : List UInt8), upTo c a = a.length → upTo c (a ++ b) = a.length + upTo c b
  | [], b, h => by simp
  | x :: r, b, h => by
    unfold upTo at h
    rw [List.cons_append]
    by_cases e : x = c
    · rw [if_pos e] at h; cases h
    · rw [if_neg e] at h
      rw [upTo, if_neg e, upTo_app_none c r b (by simpa using h)]
      simp only [List.length_cons]; omega

/-- more bytes behind -/
def _root_.Go.Wd.PS.app (p : PS) (b : List UInt8) : PS := { p with left := p.left ++ b }
theorem doLine_app (p : PS) (b s : List UInt8) : doLine (p.app b) s = (if (doLine p s).1.shut = true ∧ p.shut = false then (doLine p s).1 else (doLine p s).1.app b, (doLine p s).2) ∨ p.shut = true := by
  cases hs : p.shut with
  | true => exact .inr rfl
  | false =>
    left
    rw [doLine_eq, doLine_eq]
    split
    · simp [hs]
    split
    · simp [hs]
    split
    · simp [PS.app]
    split
    · simp [PS.app, hs]
    split
    · simp [PS.app, hs]
    · simp [hs]

theorem step_app {p : PS} (hp : p.Ok) (hs : p.shut = false) (b : List UInt8) (hd : (stepP p).1 = true) (h2 : p.at_ = 2 → p.count ≤ p.left.length) :
    stepP (p.app b) = (true, if (stepP p).2.1.shut = true then (stepP p).2.1 else (stepP p).2.1.app b, (stepP p).2.2) := by
  have hat : (p.app b).at_ = p.at_ := rfl
  unfold stepP at hd ⊢
  rw [hat]
  by_cases h0 : p.at_ = 0
  · rw [if_pos h0] at hd ⊢
    rw [if_pos h0]
    unfold lineStep at hd ⊢
    have hl : (p.app b).left = p.left ++ b := rfl
    simp only [hl] at hd ⊢
    by_cases a1 : 2048 < upTo 10 p.left
    · have a2 : 2048 < upTo 10 (p.left ++ b) := by
        rcases Nat.lt_or_ge (upTo 10 p.left) p.left.length with h | h
        · rw [upTo_app _ _ _ h]; exact a1
        · have := upTo_le 10 p.left
          rw [upTo_app_none _ _ _ (by omega)]; omega
      rw [if_pos a1, if_pos a2]
      simp [PS.app]
    rw [if_neg a1] at hd ⊢
    by_cases a2 : upTo 10 p.left = p.left.length
    · rw [if_pos a2] at hd; cases hd
    rw [if_neg a2] at hd ⊢
    have hlt : upTo 10 p.left < p.left.length := by have := upTo_le 10 p.left; omega
    rw [upTo_app _ _ _ hlt, if_neg a1, if_neg (by rw [List.length_append]; omega)]
    have e1 : (p.left ++ b).take (upTo 10 p.left) = p.left.take (upTo 10 p.left) := List.take_append_of_le_length (by omega)
    have e2 : (p.left ++ b).drop (upTo 10 p.left + 1) = p.left.drop (upTo 10 p.left + 1) ++ b := List.drop_append_of_le_length (by omega)
    rw [e1, e2]
    rcases doLine_app { p with left := p.left.drop (upTo 10 p.left + 1) } b (trimCR (p.left.take (upTo 10 p.left))) with h | h
    · unfold PS.app at h ⊢
      simp only at h ⊢
      rw [h]
      simp [hs]
    · simp only at h; rw [hs] at h; cases h
  rw [if_neg h0] at hd ⊢
  rw [if_neg h0]
  by_cases h1 : p.at_ = 1
  · rw [if_pos h1] at hd ⊢
    rw [if_pos h1]
    unfold dataStep at hd ⊢
    have hl : (p.app b).left = p.left ++ b := rfl
    have hk : (p.app b).asked = p.asked := rfl
    simp only [hl, hk] at hd ⊢
    by_cases a1 : p.left.length ≤ p.asked.bytes
    · rw [if_pos a1] at hd; cases hd
    rw [if_neg a1] at hd ⊢
    rw [if_neg (by rw [List.length_append]; omega)]
    by_cases a2 : p.left.drop p.asked.bytes = [13]
    · rw [if_pos a2] at hd; cases hd
    rw [if_neg a2] at hd ⊢
    have e1 : (p.left ++ b).drop p.asked.bytes = p.left.drop p.asked.bytes ++ b := List.drop_append_of_le_length (by omega)
    have e2 : (p.left ++ b).take p.asked.bytes = p.left.take p.asked.bytes := List.take_append_of_le_length (by omega)
    rw [e1, e2]
    have hlen : 0 < (p.left.drop p.asked.bytes).length := by rw [List.length_drop]; omega
    generalize p.left.drop p.asked.bytes = r at *
    cases r with
    | nil => simp at hlen
    | cons x t =>
      cases t with
      | nil =>
        have hx : x ≠ 13 := fun h => a2 (by rw [h])
        rw [if_neg (by intro h; cases b with | nil => exact a2 h | cons y s => cases h)]
        have e3 : ¬ List.take 2 [x] = [13, 10] := by intro h; cases h
        have e4 : ¬ List.take 2 ([x] ++ b) = [13, 10] := by
          intro h
          cases b with
          | nil => cases h
          | cons y s => simp at h; exact hx h.1
        rw [if_neg e3, if_neg e4]
        simp [PS.app, hs]
      | cons y t =>
        rw [if_neg (by intro h; cases h)]
        have e3 : List.take 2 (x :: y :: t ++ b) = List.take 2 (x :: y :: t) := rfl
        rw [e3]
        by_cases a3 : List.take 2 (x :: y :: t) = [13, 10]
        · rw [if_pos a3, if_pos a3]
          simp [PS.app, hs]
        · rw [if_neg a3, if_neg a3]
          simp [PS.app, hs]
  rw [if_neg h1] at hd ⊢
  rw [if_neg h1]
  by_cases h3 : p.at_ = 2
  · rw [if_pos h3] at hd ⊢
    rw [if_pos h3]
    have hc := h2 h3
    have hpos := hp.count h3
    unfold pastStep at hd ⊢
    have hne : p.left ≠ [] := by intro h; rw [h] at hc; simp at hc; omega
    have hl : (p.app b).left = p.left ++ b := rfl
    have hk : (p.app b).count = p.count := rfl
    rw [hl, hk, if_neg hne, if_neg (by intro h; exact hne (List.append_eq_nil_iff.1 h).1)]
    have e1 : min p.count p.left.length = p.count := Nat.min_eq_left hc
    have e2 : min p.count (p.left ++ b).length = p.count := Nat.min_eq_left (by rw [List.length_append]; omega)
    have e3 : (p.left ++ b).drop p.count = p.left.drop p.count ++ b := List.drop_append_of_le_length (by omega)
    simp only [e1, e2, e3]
    simp [PS.app, hs]
  rw [if_neg h3] at hd ⊢
  rw [if_neg h3]
  unfold brokenStep at hd ⊢
  have hl : (p.app b).left = p.left ++ b := rfl
  simp only [hl] at hd ⊢
  by_cases a2 : upTo 10 p.left = p.left.length
  · rw [if_pos a2] at hd; cases hd
  rw [if_neg a2] at hd ⊢
  have hlt : upTo 10 p.left < p.left.length := by have := upTo_le 10 p.left; omega
  rw [upTo_app _ _ _ hlt, if_neg (by rw [List.length_append]; omega)]
  have e2 : (p.left ++ b).drop (upTo 10 p.left + 1) = p.left.drop (upTo 10 p.left + 1) ++ b := List.drop_append_of_le_length (by omega)
  rw [e2]
  simp [PS.app, hs]

theorem app_ok {p : PS} (h : p.Ok) (b : List UInt8) : (p.app b).Ok := okM h.at_ h.count h.zero h.most h.data h.asked
theorem app_nil (p : PS) : p.app [] = p := by unfold PS.app; rw [List.append_nil]

/-- a run of more bytes -/
theorem run_app (b : List UInt8) : ∀ (n : Nat) (p : PS), meas p ≤ n → p.Ok → p.shut = false →
    runP (p.app b) = if (runP p).2.shut = true then runP p else ((runP p).1 ++ (runP ((runP p).2.app b)).1, (runP ((runP p).2.app b)).2) := by
  intro n
  induction n with
  | zero => intro p h hp hs; obtain ⟨m, hm⟩ := meas_pos hs; omega
  | succ n ih =>
    intro p hn hp hs
    have hs' : (p.app b).shut = false := hs
    obtain ⟨o1, o2, o3, o4⟩ := step_ok hp hs
    rcases hst : stepP p with ⟨d, q, es⟩
    rw [hst] at o1 o2 o3 o4
    simp only at o1 o2 o3 o4
    -- what is still to be gone past
    by_cases hpast : p.at_ = 2 ∧ p.left.length < p.count ∧ p.left ≠ []
    · obtain ⟨h2, hlt, hne⟩ := hpast
      have e : stepP p = (true, { p with left := [], count := p.count - p.left.length }, []) := by
        unfold stepP
        rw [if_neg (by omega), if_neg (by omega), if_pos h2]
        unfold pastStep
        rw [if_neg hne]
        have e1 : min p.count p.left.length = p.left.length := Nat.min_eq_right (by omega)
        have e2 : ¬ (p.count - p.left.length = 0) := by omega
        simp only [e1, if_neg e2, List.drop_length]
      have hq : stepP { p with left := [], count := p.count - p.left.length } = (false, { p with left := [], count := p.count - p.left.length }, []) := by
        unfold stepP
        simp only []
        rw [if_neg (by omega), if_neg (by omega), if_pos h2]
        unfold pastStep
        rw [if_pos rfl]
      have r1 : runP p = ([], { p with left := [], count := p.count - p.left.length }) := by
        rw [runP_go hp e hs, runP_stop hq hs]; rfl
      rw [r1]
      rw [if_neg (by simp [hs])]
      simp only [List.nil_append]
      by_cases hb : b = []
      · subst hb
        rw [app_nil, app_nil, r1, runP_stop hq hs]
      -- both step into the same
      have hL : stepP (p.app b) = stepP (PS.app { p with left := [], count := p.count - p.left.length } b) := by
        have a1 : (p.app b).at_ = p.at_ := rfl
        have a2 : (PS.app { p with left := [], count := p.count - p.left.length } b).at_ = p.at_ := rfl
        unfold stepP
        rw [a1, a2, if_neg (by omega), if_neg (by omega), if_pos h2, if_neg (by omega), if_neg (by omega), if_pos h2]
        unfold pastStep PS.app
        simp only [List.nil_append]
        rw [if_neg (by intro h; exact hne (List.append_eq_nil_iff.1 h).1), if_neg hb]
        have e1 : min p.count (p.left ++ b).length = p.left.length + min (p.count - p.left.length) b.length := by rw [List.length_append]; omega
        have e2 : (p.left ++ b).drop (p.left.length + min (p.count - p.left.length) b.length) = b.drop (min (p.count - p.left.length) b.length) := by
          rw [← List.drop_drop, List.drop_left]
        have e3 : p.count - (p.left.length + min (p.count - p.left.length) b.length) = p.count - p.left.length - min (p.count - p.left.length) b.length := by omega
        rw [e1, e2, e3]
      have hsQ : (PS.app { p with left := [], count := p.count - p.left.length } b).shut = false := hs
      have hpQ : PS.Ok (PS.app { p with left := [], count := p.count - p.left.length } b) := by
        exact app_ok (p := { p with left := [], count := p.count - p.left.length }) (okM hp.at_ (fun _ => by omega) (fun h => absurd h2 h) (by have := hp.most; omega) hp.data hp.asked) b
      rcases hX : stepP (p.app b) with ⟨d', q', es'⟩
      rw [hX] at hL
      cases d' with
      | false => rw [runP_stop hX hs', runP_stop hL.symm hsQ]
      | true => rw [runP_go (app_ok hp b) hX hs', runP_go hpQ hL.symm hsQ]
    cases d with
    | true =>
      have hd : (stepP p).1 = true := by rw [hst]
      have hcount : p.at_ = 2 → p.count ≤ p.left.length := by
        intro h2
        rcases Nat.lt_or_ge p.left.length p.count with h | h
        · have hne : p.left = [] := Classical.byContradiction fun x => hpast ⟨h2, h, x⟩
          have : stepP p = (false, p, []) := by
            unfold stepP
            rw [if_neg (by omega), if_neg (by omega), if_pos h2]
            unfold pastStep
            rw [if_pos hne]
          rw [this] at hst
          cases hst
        · exact h
      have ha := step_app hp hs b hd hcount
      rw [hst] at ha
      simp only at ha
      have hm := o4 rfl
      rw [runP_go hp hst hs]
      cases hq : q.shut with
      | true =>
        rw [if_pos hq] at ha
        rw [runP_go (app_ok hp b) ha hs', runP_shut hq]
        simp [hq]
      | false =>
        rw [if_neg (by simp [hq])] at ha
        rw [runP_go (app_ok hp b) ha hs', ih q (by omega) o1 hq]
        by_cases hz : (runP q).2.shut = true
        · rw [if_pos hz, if_pos hz]
        · rw [if_neg hz, if_neg hz]
          simp only [List.append_assoc]
    | false =>
      have hnil := stop_nil hst
      subst hnil
      rw [runP_stop hst hs]
      have hqs : q.shut = false := by
        unfold stepP at hst
        by_cases h0 : p.at_ = 0
        · rw [if_pos h0] at hst
          unfold lineStep at hst
          simp only at hst
          split at hst
          · cases hst
          split at hst
          · cases hst; exact hs
          · cases hst
        rw [if_neg h0] at hst
        by_cases h1 : p.at_ = 1
        · rw [if_pos h1] at hst
          unfold dataStep at hst
          simp only at hst
          split at hst
          · cases hst; exact hs
          split at hst
          · cases hst; exact hs
          split at hst <;> cases hst
        rw [if_neg h1] at hst
        split at hst
        · unfold pastStep at hst
          split at hst
          · cases hst; exact hs
          · cases hst
        · unfold brokenStep at hst
          simp only at hst
          split at hst <;> cases hst
          exact hs
      rw [if_neg (by simp [hqs])]
      simp only [List.nil_append]
      by_cases h3 : p.at_ = 3
      · -- all up to the next line
        have e : stepP p = brokenStep p := by unfold stepP; rw [if_neg (by omega), if_neg (by omega), if_neg (by omega)]
        rw [e] at hst
        unfold brokenStep at hst
        simp only at hst
        by_cases hu : upTo 10 p.left = p.left.length
        case neg => rw [if_neg hu] at hst; cases hst
        rw [if_pos hu] at hst
        obtain rfl : { p with left := [] } = q := by cases hst; rfl
        have f1 : stepP (p.app b) = brokenStep (p.app b) := by unfold stepP; rw [show (p.app b).at_ = p.at_ from rfl, if_neg (by omega), if_neg (by omega), if_neg (by omega)]
        have f2 : stepP (PS.app { p with left := [] } b) = brokenStep (PS.app { p with left := [] } b) := by unfold stepP; rw [show (PS.app { p with left := [] } b).at_ = p.at_ from rfl, if_neg (by omega), if_neg (by omega), if_neg (by omega)]
        have f3 : brokenStep (p.app b) = brokenStep (PS.app { p with left := [] } b) := by
          unfold brokenStep PS.app
          simp only [List.nil_append]
          rw [upTo_app_none _ _ _ hu, List.length_append]
          by_cases hub : upTo 10 b = b.length
          · rw [if_pos (by omega), if_pos hub]
          · rw [if_neg (by omega), if_neg hub]
            have : (p.left ++ b).drop (p.left.length + upTo 10 b + 1) = b.drop (upTo 10 b + 1) := by
              rw [Nat.add_assoc, ← List.drop_drop, List.drop_left]
            rw [this]
        have hpQ : PS.Ok (PS.app { p with left := [] } b) := okM hp.at_ hp.count hp.zero hp.most hp.data hp.asked
        rcases hX : stepP (p.app b) with ⟨d', q', es'⟩
        have hY : stepP (PS.app { p with left := [] } b) = (d', q', es') := by rw [f2, ← f3, ← f1, hX]
        cases d' with
        | false => rw [runP_stop hX hs', runP_stop hY hs]
        | true => rw [runP_go (app_ok hp b) hX hs', runP_go hpQ hY hs]
      · -- nothing was turned
        have : q = p := by
          unfold stepP at hst
          split at hst
          · unfold lineStep at hst
            simp only at hst
            split at hst
            · cases hst
            split at hst
            · cases hst; rfl
            · cases hst
          split at hst
          · unfold dataStep at hst
            simp only at hst
            split at hst
            · cases hst; rfl
            split at hst
            · cases hst; rfl
            split at hst <;> cases hst
          split at hst
          · unfold pastStep at hst
            split at hst
            · cases hst; rfl
            · cases hst
          · have := hp.at_; omega
        subst this
        rfl

theorem feed_app {p : PS} (hp : p.Ok) (a b : List UInt8) : feed p (a ++ b) = ((feed p a).1 ++ (feed (feed p a).2 b).1, (feed (feed p a).2 b).2) := by
  cases hs : p.shut with
  | true => rw [feed_shut hs, feed_shut hs, feed_shut hs]; rfl
  | false =>
    rw [feed_eq hs, feed_eq hs]
    have e : ({ p with left := p.left ++ (a ++ b) } : PS) = PS.app { p with left := p.left ++ a } b := by unfold PS.app; simp only [List.append_assoc]
    have hpa : PS.Ok { p with left := p.left ++ a } := app_ok hp a
    rw [e, run_app b _ _ (Nat.le_refl _) hpa hs]
    cases hz : (runP { p with left := p.left ++ a }).2.shut with
    | true =>
      rw [feed_shut hz]
      simp
    | false =>
      rw [feed_eq hz]
      simp [PS.app]
end Go.Proofs.YtkjmelfgopammaaDoor
