/- From a run in stages to the rules: the first pieces of a law's code are computed, the rest is reasoned about. Conditions: none. -/
import Derived.Test.YtobnlhfgebfebaaGreatDoorQfD
set_option linter.unusedSimpArgs false
set_option linter.unusedVariables false
namespace Go.Dp.Fs
open Go.Dp

/-- the first k pieces of a function's code, from a state -/
noncomputable def stageF (tr : Tr LF) (orc : Orc) (told : Nat → Bool) (td : Nat → Nat → Bool) (n f k : Nat) (pf : PF) (args : List AV) (S0 : FS) : Mid :=
  match enterT pf args with
  | some fr => execS (told f) (td f) (callS tr orc told td n) n (cutPre k pf.body) fr S0
  | none => none

/-- what is known of a frame, out of its tree -/
noncomputable def knT (fr : Tr AV) (l : List Nat) : Kn := l.map fun i => (i, look fr i)
theorem knT_keys (fr : Tr AV) (l : List Nat) : (knT fr l).keys = l := by
  unfold knT Kn.keys
  rw [List.map_map]
  show l.map (fun i => i) = l
  simp
theorem knT_get (fr : Tr AV) : ∀ (l : List Nat) (i : Nat), has l i = true → (knT fr l).get i = look fr i
  | [], i, h => by cases h
  | j :: l, i, h => by
    show Kn.get ((j, look fr j) :: knT fr l) i = _
    rw [Kn.get_cons]
    by_cases e : j = i
    · subst e; simp
    · have hne : ¬ i = j := fun x => e x.symm
      have : has l i = true := by
        unfold has at h
        simp only [nbeq] at h
        first
          | (rw [decide_eq_false e] at h; simpa using h)
          | (rw [decide_eq_false hne] at h; simpa using h)
      simp only [e, hne, if_false, decide_false, cond_false, reduceIte]
      exact knT_get fr l i this
theorem knT_fits {n : Nat} {f : List AV} {fr : Tr AV} (h : CR f fr) (l : List Nat) (h1 : (gt fr n).isSome = true) (h2 : gt fr (n + 1) = none) : Fits (n + 1) (knT fr l) f := by
  rw [gt_eq, h] at h1 h2
  refine ⟨?_, fun i hi => ?_⟩
  · have a : n < f.length := by
      cases e : f[n]? with
      | none => rw [e] at h1; cases h1
      | some v => exact (List.getElem?_eq_some_iff.1 e).1
    have b : ¬ n + 1 < f.length := fun hlt => by rw [List.getElem?_eq_getElem hlt] at h2; cases h2
    omega
  · rw [knT_keys] at hi
    rw [knT_get fr l i hi, h.look]

theorem run_mid {tr : Tr LF} {L : Lib} {orc : Orc} {told : Nat → Bool} {td : Nat → Nat → Bool} (hL : ∀ f pf, orc f = none → tr.get f = some (.code pf) → L f = some (.code pf)) (hF : OrcFlag orc) (ho : OrcOk L orc)
    {n f k m : Nat} {pf : PF} (hf : L f = some (.code pf)) (hnt : pf.ntmps = m + 1) {args : List AV} {S0 S : FS} {fr : Tr AV} (h : stageF tr orc told td n f k pf args S0 = some (.normal, fr, S)) (hk : S.ok) {H0 : Heap} (hH : HR H0 S0.c)
    (hnx : S0.c.next ≤ S.c.next) (h1 : (gt fr m).isSome = true) (h2 : gt fr (m + 1) = none) (l : List Nat) {Q : AV → Heap → Prop}
    (hX : ∀ H', H'.Ok → HR H' S.c → Xk L (m + 1) (cutPost k pf.body) (knT fr l) H' (Ret pf.results Q)) : Eo L f args H0 Q := by
  intro hO
  have hc := callS_ok hL hF ho (told := told) (td := td) n
  have hfl := callS_flag hF (tr := tr) (told := told) (td := td) n
  unfold stageF at h
  split at h
  · rename_i fr0 hfr0
    have hpre := execS_ok hfl hc (told f) (td f) n (cutPre k pf.body) _ fr0 H0 _ _ _ _ (enterT_ok hfr0) hO hH h hk
    have hbody : Xc L (.seq (cutPre k pf.body) (cutPost k pf.body)) (enter pf args) H0 fun ex fr' H' => H'.Ok ∧ H0.next ≤ H'.next ∧ ∃ k', Fits (m + 1) k' fr' ∧ Ret pf.results Q ex k' H' := by
      refine Xc.seq (hpre.mono fun x' f' H' ⟨e1, e2, e3, e4⟩ => ?_)
      subst e1
      refine ((hX H' e2 e4).go e2 f' (knT_fits e3 l h1 h2)).mono fun ex fr' H2 ⟨a, b, c⟩ => ⟨a, ?_, c⟩
      have x1 := hH.next
      have x2 := e4.next
      omega
    obtain ⟨n', ex, fr', H', q1, h1', h2', k', h3', h4'⟩ := hbody
    rw [exec_cut] at q1
    refine Ev.code hf (Q := fun v H' => H'.Ok ∧ H0.next ≤ H'.next ∧ Q v H') ⟨n', ex, fr', H', q1, ?_⟩
    cases ex with
    | exit id => exact h4'.elim
    | normal =>
      obtain ⟨a, vs, v, b, c, d⟩ := h4'
      exact ⟨fun _ e => (by cases e), vs, v, (by rw [resList_k h3' a]; exact b), c, h1', h2', d⟩
    | ret =>
      obtain ⟨a, vs, v, b, c, d⟩ := h4'
      exact ⟨fun _ e => (by cases e), vs, v, (by rw [resList_k h3' a]; exact b), c, h1', h2', d⟩
  · cases h

end Go.Dp.Fs
