/- The cluster behind its beginning: what a computed state must show, and what it then says. Conditions: none. -/
import Derived.Test.YtobnlhfgebfebaaGreatDoorCgA
import Derived.Test.YtobnlhfgebfebaaGreatDoorQfE
namespace Go.Proofs.YtobnlhfgebfebaaGreatDoor
open Go.Dp Go.Dp.Fs
set_option linter.unusedSimpArgs false
set_option linter.unusedVariables false

/-- two rows of S frames, the same -/
noncomputable def chkRows (T : FH) (fb wb S : Nat) : Bool := match gt T.t fb with
  | some (.c _ t3 _) => (match gt T.t wb with
    | some (.c _ t4 _) => (match rng t3 (S * 9) 0 with
      | some l1 => (match rng t4 (S * 9) 0 with
        | some l2 => sameCells l1 l2
        | none => false)
      | none => false)
    | _ => false)
  | _ => false
noncomputable def chkNet (T : FH) (np : Nat) (w : AV) (S : Nat) : Bool := match gt T.t np with
  | some (.c N t2 _) => Nat.beq N 1 && (match gt t2 0 with
    | some (.sl fb fo S' sz) => (Nat.beq fo 0 && (Nat.beq S' S && Nat.beq sz 9)) && (match w with
      | .sl wb wo S2 sz2 => (Nat.beq wo 0 && (Nat.beq S2 S && Nat.beq sz2 9)) && chkRows T fb wb S
      | _ => false)
    | _ => false)
  | _ => false
/-- c: the cluster; w: its frames, taken -/
noncomputable def chkC (T : FH) (c w : AV) (S : Nat) : Bool := match c with
  | .ptr p o => Nat.beq o 0 && (match gt T.t p with
    | some (.c _ t _) => (match gt t 8 with
      | some (.ptr np o2) => Nat.beq o2 0 && ((match gt t 27 with
        | some .nils => true
        | _ => false) && chkNet T np w S)
      | _ => false)
    | _ => false)
  | _ => false

theorem chkRows_ok {H : Heap} {T : FH} (h : HR H T) {fb wb S : Nat} (e : chkRows T fb wb S = true) : ∃ (R l1 : List AV) (w1 : Nat) (l2 : List AV) (w2 : Nat), R.length = S * 9 ∧ H.get fb = some (.cells l1 w1) ∧ H.get wb = some (.cells l2 w2) ∧
    (∀ j, j < S * 9 → l1[j]? = R[j]?) ∧ (∀ j, j < S * 9 → l2[j]? = R[j]?) := by
  unfold chkRows at e
  split at e
  · rename_i N1 t3 w1 h3
    split at e
    · rename_i N2 t4 w2 h4
      split at e
      · rename_i a1 ha1
        split at e
        · rename_i a2 ha2
          have e := sameCells_eq e
          subst e
          obtain ⟨l1, p1, _, p3⟩ := h.c h3
          obtain ⟨l2, q1, _, q3⟩ := h.c h4
          have inv : ∀ {t : Tr AV} {n o : Nat} {l : List AV}, rng t n o = some l → l.length = n ∧ ∀ j, j < n → t.get (o + j) = l[j]? := by
            intro t n
            induction n with
            | zero => intro o l h; cases h; exact ⟨rfl, fun j hj => by omega⟩
            | succ n ih =>
              intro o l h
              rw [rng_succ] at h
              split at h
              · cases h
              · rename_i v hv
                split at h
                · cases h
                · rename_i q hq
                  cases h
                  obtain ⟨h1, h2⟩ := ih hq
                  refine ⟨by simp [h1], fun j hj => ?_⟩
                  cases j with
                  | zero => rw [← gt_eq, Nat.add_zero, hv]; rfl
                  | succ j => rw [show o + (j + 1) = o + 1 + j by omega, h2 j (by omega), List.getElem?_cons_succ]
          obtain ⟨i1, i2⟩ := inv ha1
          obtain ⟨j1, j2⟩ := inv ha2
          refine ⟨a1, l1, w1, l2, w2, i1, p1, q1, fun j hj => ?_, fun j hj => ?_⟩
          · rw [← p3, ← i2 j hj, Nat.zero_add]
          · rw [← q3, ← j2 j hj, Nat.zero_add]
        · cases e
      · cases e
    · cases e
  · cases e

theorem chkC_ok {H : Heap} {T : FH} (h : HR H T) {c w : AV} {S : Nat} (e : chkC T c w S = true) : ∃ p np fb wb, c = .ptr p 0 ∧ w = .sl wb 0 S 9 ∧ CAt H p np fb S ∧
    ∃ (R l1 : List AV) (w1 : Nat) (l2 : List AV) (w2 : Nat), R.length = S * 9 ∧ H.get fb = some (.cells l1 w1) ∧ H.get wb = some (.cells l2 w2) ∧ (∀ j, j < S * 9 → l1[j]? = R[j]?) ∧ (∀ j, j < S * 9 → l2[j]? = R[j]?) := by
  cases c <;> try (cases e; done)
  rename_i p o
  simp only [chkC, Bool.and_eq_true, nbeq, decide_eq_true_eq] at e
  obtain ⟨ho, e⟩ := e
  subst ho
  cases hp : gt T.t p with
  | none => rw [hp] at e; cases e
  | some x =>
    rw [hp] at e
    cases x with
    | m _ _ => cases e
    | dead => cases e
    | c N t w' =>
      obtain ⟨l, h1, _, h3⟩ := h.c hp
      simp only at e
      cases h8 : gt t 8 with
      | none => rw [h8] at e; cases e
      | some v8 =>
        rw [h8] at e
        cases v8 <;> try (cases e; done)
        rename_i np o2
        simp only [Bool.and_eq_true, nbeq, decide_eq_true_eq] at e
        obtain ⟨ho2, e27, e⟩ := e
        subst ho2
        cases h27 : gt t 27 with
        | none => rw [h27] at e27; cases e27
        | some v27 =>
          rw [h27] at e27
          cases v27 <;> try (cases e27; done)
          unfold chkNet at e
          cases hnp : gt T.t np with
          | none => rw [hnp] at e; cases e
          | some y =>
            rw [hnp] at e
            cases y with
            | m _ _ => cases e
            | dead => cases e
            | c N2 t2 w2 =>
              obtain ⟨l2, n1, n2, n3⟩ := h.c hnp
              simp only [Bool.and_eq_true, nbeq, decide_eq_true_eq] at e
              obtain ⟨hN, e⟩ := e
              subst hN
              cases h0 : gt t2 0 with
              | none => rw [h0] at e; cases e
              | some v0 =>
                rw [h0] at e
                cases v0 <;> try (cases e; done)
                rename_i fb fo S' sz
                simp only [Bool.and_eq_true, nbeq, decide_eq_true_eq] at e
                obtain ⟨⟨e1, e2, e3⟩, e⟩ := e
                subst e1
                subst e2
                subst e3
                cases w <;> try (cases e; done)
                rename_i wb wo S2 sz2
                simp only [Bool.and_eq_true, nbeq, decide_eq_true_eq] at e
                obtain ⟨⟨e1, e2, e3⟩, e⟩ := e
                subst e1
                subst e2
                subst e3
                have hl2 : l2 = [.sl fb 0 S2 9] := by
                  cases l2 with
                  | nil => cases n2
                  | cons a r =>
                    cases r with
                    | cons b r => simp at n2
                    | nil =>
                      rw [gt_eq, n3] at h0
                      cases h0
                      rfl
                subst hl2
                exact ⟨p, np, fb, wb, rfl, rfl, ⟨⟨l, w', h1, by rw [← h3, ← gt_eq]; exact h8, by rw [← h3, ← gt_eq]; exact h27⟩, w2, n1⟩, chkRows_ok h e⟩

end Go.Proofs.YtobnlhfgebfebaaGreatDoor
