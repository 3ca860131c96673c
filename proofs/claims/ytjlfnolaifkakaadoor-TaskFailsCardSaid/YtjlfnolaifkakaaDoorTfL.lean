/- TaskFails: the law over the clean machine. Conditions: none. -/
import Derived.Test.YtjlfnolaifkakaaDoorTfU
import Derived.Test.YtjlfnolaifkakaaDoorWdWx
namespace Go.Proofs.YtjlfnolaifkakaaDoor
open Go.Dp Go.Wd
set_option linter.unusedSimpArgs false
set_option linter.unusedVariables false

theorem runF0 (a b : Nat) (k m : Int) (key value : List UInt8) (kept : Int) : tf2 0 (tf1 0 (tfArgs k m key value kept) []) [nI a, nI b, .bool false, .bool true] = ((((True ∧ wT k 1 4 a) ∧ wT m 0 3 b) ∧ kT key false) ∧ tT) := by kernel_rfl
theorem runF1 (a b : Nat) (k m : Int) (key value : List UInt8) (kept : Int) : tf2 0 (tf1 0 (tfArgs k m key value kept) []) [nI a, nI b, .bool true, .bool true, .bool true] = (((((True ∧ wT k 1 4 a) ∧ wT m 0 3 b) ∧ kT key true) ∧ lT value true) ∧ tT) := by kernel_rfl

theorem uL_all : ∀ n, n < 301 → ibeq (uL n) (.ofNat (2 * n)) = true := by decide +kernel
theorem sL_all : ∀ n, n < 301 → ibeq (sL (uL n)) (.ofNat (2 * n / 128)) = true := by decide +kernel
theorem uL_eq {n : Nat} (h : n < 301) : uL n = .ofNat (2 * n) := by
  have := uL_all n h
  rw [ibeq_eq, beq_iff_eq] at this
  exact this
theorem sL_eq {n : Nat} (h : n < 301) : sL (uL n) = .ofNat (2 * n / 128) := by
  have := sL_all n h
  rw [ibeq_eq, beq_iff_eq] at this
  exact this
theorem gT_of (x : Nat) : gT (.ofNat x) (decide (128 ≤ x)) := by
  show some (AV.bool (ible (.ofNat 128) (.ofNat x))) = some (AV.bool (decide (128 ≤ x)))
  rw [ible_eq]
  congr 2
  rw [decide_eq_decide]
  exact Int.ofNat_le
theorem lT_of (value : List UInt8) : lT value (decide (300 < value.length)) := by
  show some (AV.bool (!ible (.ofNat value.length) (.ofNat 300))) = some (AV.bool (decide (300 < value.length)))
  rw [ible_eq]
  have : decide (Int.ofNat value.length ≤ Int.ofNat 300) = decide (value.length ≤ 300) := by
    rw [decide_eq_decide]
    exact Int.ofNat_le
  rw [this]
  by_cases h : value.length ≤ 300
  · rw [decide_eq_true h, decide_eq_false (by omega)]; rfl
  · rw [decide_eq_false h, decide_eq_true (by omega)]; rfl

theorem all_nil : ∀ x ∈ ([] : List Prop), x := fun x h => by cases h
theorem all_cons {P : Prop} {l : List Prop} (hP : P) (h : ∀ x ∈ l, x) : ∀ x ∈ P :: l, x := by
  intro x hx
  rcases List.mem_cons.1 hx with rfl | hx
  · exact hP
  · exact h x hx
theorem all_reps {P : Prop} (hP : P) {l : List Prop} (h : ∀ x ∈ l, x) : ∀ n, ∀ x ∈ reps n P l, x
  | 0 => h
  | n + 1 => all_cons hP (all_reps hP h n)
theorem aF_ok (s t : List UInt8) : aF s t := ⟨rfl, rfl, trivial⟩
theorem aK_ok (s : List UInt8) : aK s := ⟨rfl, trivial⟩
theorem all_frags {key value : List UInt8} {a : Nat} {l : List Prop} (h : ∀ x ∈ l, x) : ∀ (rs : List (List Nat)) (n : Nat), ∀ x ∈ fragsP key value a rs n l, x
  | [], n => by unfold fragsP; exact h
  | r :: rs, 0 => by unfold fragsP; exact h
  | r :: rs, n + 1 => by unfold fragsP; exact all_cons (aF_ok _ _) (all_frags h rs n)

theorem Fails_law (k m : Int) (key value : List UInt8) (kept : Int) : Eo lib n_depotlaw21_TaskFails (tfArgs k m key value kept) noHeap fun v _ => v = .bool true := by
  obtain ⟨a, a1, a2, ha⟩ := Within_ex k 1 4 (by omega) (by omega)
  obtain ⟨b, b1, b2, hb⟩ := Within_ex m 0 3 (by omega) (by omega)
  obtain ⟨n, n1, n2, hn⟩ := Within_ex kept 0 (a + b) (by omega) (by omega)
  have ha : wT k 1 4 a := ha
  have hb : wT m 0 3 b := hb
  have hn : wT kept 0 (a + b) n := hn
  have ht : tT := Fs.Pure.of fun H Q h => Eo.runs rfl h
  have hk : kT key (keyOk key) := Fs.Pure.of fun H Q h => Key_ev key H Q h
  have go : ∀ cut t1 t2 (P : Prop), tf2 cut (tf1 cut (tfArgs k m key value kept) t1) t2 = P → P → Eo lib n_depotlaw21_TaskFails (tfArgs k m key value kept) noHeap fun v _ => v = .bool true :=
    fun cut t1 t2 P h1 h2 => Fs.run_staged tf_lib orcE_flag orcE_ok at_depotlaw21_TaskFails (n := 200) (k := cut) (tape1 := t1) (tape2 := t2) (by
      have h : tf2 cut (tf1 cut (tfArgs k m key value kept) t1) t2 := by rw [h1]; exact h2
      exact h)
  cases hkb : keyOk key with
  | false =>
    rw [hkb] at hk
    exact go _ _ _ _ (runF0 a b k m key value kept) ⟨⟨⟨⟨trivial, ha⟩, hb⟩, hk⟩, ht⟩
  | true =>
    rw [hkb] at hk
    have hlT := lT_of value
    by_cases hl : 300 < value.length
    · rw [decide_eq_true hl] at hlT
      exact go _ _ _ _ (runF1 a b k m key value kept) ⟨⟨⟨⟨⟨trivial, ha⟩, hb⟩, hk⟩, hlT⟩, ht⟩
    · rw [decide_eq_false hl] at hlT
      have hkl : key.length ≤ 250 := by
        unfold keyOk at hkb
        simp only [Bool.and_eq_true, decide_eq_true_eq] at hkb
        exact hkb.2.1
      have hh : hT key := Fs.Pure.of fun H Q h => Hash_ev key (by omega) H Q h
      have hr : rT key (a + b) (hashN key % (a + b)) := by
        unfold rT nI
        have := (hashI_eq key).2
        rw [wrn_i64 _ (by omega)]
        exact remi .i64 (.ofNat (hashN key)) (a + b) (by omega)
      have hq : hashN key % (a + b) < a + b := Nat.mod_lt _ (by omega)
      have he : eT a value := by
        unfold eT
        have := Nat.mul_le_mul_right value.length a2
        omega
      generalize hashN key % (a + b) = q at hr hq
      have hpre : ∀ x ∈ preP a b q k m key value, x := by
        unfold preP
        exact all_cons ha (all_cons hb (all_cons hk (all_cons hlT (all_cons hk (all_cons hh (all_cons hr (all_cons hh (all_cons hr (all_reps (aK_ok _) (all_reps (aF_ok _ _)
          (all_cons (aK_ok _) (all_cons (aK_ok _) (all_cons (aF_ok _ _) (all_cons (aF_ok _ _) (all_cons he (all_reps (aK_ok _) all_nil _)))))) _) _)))))))))
      have g9 : gT (uL 9) false := by rw [uL_eq (by omega)]; exact gT_of 18
      have g0 : gT (uL 0) false := by rw [uL_eq (by omega)]; exact gT_of 0
      have gl : gT (uL value.length) (decide (64 ≤ value.length)) := by
        rw [uL_eq (by omega)]
        have := gT_of (2 * value.length)
        rw [show decide (128 ≤ 2 * value.length) = decide (64 ≤ value.length) by rw [decide_eq_decide]; omega] at this
        exact this
      have gs : gT (sL (uL value.length)) false := by
        rw [sL_eq (by omega)]
        have := gT_of (2 * value.length / 128)
        rw [decide_eq_false (by omega)] at this
        exact this
      have hpost : ∀ big, (n < a → big = false) → (a ≤ n → big = decide (64 ≤ value.length)) → ∀ x ∈ postP (rowsAB a b) a b n big kept key value, x := by
        intro big h1 h2
        unfold postP
        refine all_cons hn (all_frags ?_ _ _)
        by_cases c : n < a
        · rw [show Nat.blt n a = true by rw [nblt]; exact decide_eq_true c]
          exact all_reps (aK_ok _) (all_cons ht all_nil) _
        · rw [show Nat.blt n a = false by rw [nblt]; exact decide_eq_false c]
          have h2 := h2 (by omega)
          rw [← h2] at gl
          cases big with
          | false => exact all_cons g9 (all_cons g9 (all_cons g0 (all_cons g0 (all_cons gl (all_reps (aK_ok _) (all_cons ht all_nil) _)))))
          | true => exact all_cons g9 (all_cons g9 (all_cons g0 (all_cons g0 (all_cons gl (all_cons gs (all_reps (aK_ok _) (all_cons ht all_nil) _))))))
      by_cases c : n < a
      · exact go _ _ _ _ (u_all a b a1 a2 b2 k m key value kept q hq n n2 false (fun _ => rfl)) (conj_all (conj_all trivial hpre) (hpost false (fun _ => rfl) (fun h => by omega)))
      · exact go _ _ _ _ (u_all a b a1 a2 b2 k m key value kept q hq n n2 (decide (64 ≤ value.length)) (fun h => absurd h c)) (conj_all (conj_all trivial hpre) (hpost _ (fun h => absurd h c) (fun _ => rfl)))

end Go.Proofs.YtjlfnolaifkakaaDoor
