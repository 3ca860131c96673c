/- Layer 12: lemmas on splitting. Conditions: none. -/
import Derived.Test.YtkjmelfgopammaaWdO
namespace Go.Proofs.Ytkjmelfgopammaa
open Go.Dp Go.Wd
set_option linter.unusedSimpArgs false
set_option linter.unusedVariables false

theorem splitGo_words : ∀ (s cur : List UInt8), (∀ c ∈ cur, c.toNat ≠ 32) → ∀ w ∈ splitGo cur s, 0 < w.length ∧ ∀ c ∈ w, c.toNat ≠ 32
  | [], cur, h, w, hw => by
    rw [splitGo_nil] at hw
    split at hw
    · cases hw
    · rename_i hc
      rw [List.mem_singleton] at hw
      subst hw
      exact ⟨by omega, h⟩
  | c :: r, cur, h, w, hw => by
    by_cases hb : c.toNat = 32
    · rw [splitGo_blank _ _ _ hb] at hw
      split at hw
      · exact splitGo_words r [] (fun _ h => by cases h) w hw
      · rename_i hc
        rcases List.mem_cons.1 hw with rfl | hw
        · exact ⟨by omega, h⟩
        · exact splitGo_words r [] (fun _ h => by cases h) w hw
    · rw [splitGo_other _ _ _ hb] at hw
      refine splitGo_words r _ (fun d hd => ?_) w hw
      rcases List.mem_append.1 hd with hd | hd
      · exact h d hd
      · rw [List.mem_singleton] at hd
        subst hd
        exact hb
theorem splitW_words {s w : List UInt8} (h : w ∈ splitW s) : 0 < w.length ∧ ∀ c ∈ w, c.toNat ≠ 32 := splitGo_words s [] (fun _ h => by cases h) w h
theorem splitGo_wlen : ∀ (s cur : List UInt8), ∀ w ∈ splitGo cur s, w.length ≤ cur.length + s.length
  | [], cur, w, hw => by
    rw [splitGo_nil] at hw
    split at hw
    · cases hw
    · rw [List.mem_singleton] at hw
      subst hw
      simp
  | c :: r, cur, w, hw => by
    by_cases hb : c.toNat = 32
    · rw [splitGo_blank _ _ _ hb] at hw
      split at hw
      · have := splitGo_wlen r [] w hw
        simp at this ⊢
        omega
      · rcases List.mem_cons.1 hw with rfl | hw
        · omega
        · have := splitGo_wlen r [] w hw
          simp at this ⊢
          omega
    · rw [splitGo_other _ _ _ hb] at hw
      have := splitGo_wlen r _ w hw
      simp at this ⊢
      omega
theorem splitGo_one : ∀ (w cur : List UInt8), (∀ c ∈ w, c.toNat ≠ 32) → splitGo cur w = if (cur ++ w).length = 0 then [] else [cur ++ w]
  | [], cur, _ => by rw [splitGo_nil, List.append_nil]
  | c :: r, cur, h => by
    rw [splitGo_other _ _ _ (h c (List.mem_cons_self)), splitGo_one r _ (fun d hd => h d (List.mem_cons_of_mem _ hd)), List.append_assoc]
    rfl
theorem splitW_one {w : List UInt8} (h : 0 < w.length) (hb : ∀ c ∈ w, c.toNat ≠ 32) : splitW w = [w] := by
  unfold splitW
  rw [splitGo_one w [] hb, List.nil_append, if_neg (by omega)]

def cnt : List UInt8 → Nat
  | [] => 0
  | c :: r => (if c.toNat = 32 then 1 else 0) + cnt r
def lens_ : List (List UInt8) → Nat
  | [] => 0
  | w :: r => w.length + lens_ r
theorem lens_app (a b : List (List UInt8)) : lens_ (a ++ b) = lens_ a + lens_ b := by
  induction a with
  | nil => simp [lens_]
  | cons x r ih => simp only [List.cons_append, lens_]; omega
theorem cnt_app (a b : List UInt8) : cnt (a ++ b) = cnt a + cnt b := by
  induction a with
  | nil => simp [cnt]
  | cons x r ih => simp only [List.cons_append, cnt]; omega
theorem cnt_le (a : List UInt8) : cnt a ≤ a.length := by
  induction a with
  | nil => simp [cnt]
  | cons x r ih => simp only [List.length_cons, cnt]; split <;> omega
theorem cnt_splitGo : ∀ (s cur : List UInt8), lens_ (splitGo cur s) + cnt s = cur.length + s.length
  | [], cur => by
    rw [splitGo_nil]
    split <;> simp [lens_, cnt]
    omega
  | c :: r, cur => by
    by_cases h : c.toNat = 32
    · rw [splitGo_blank _ _ _ h]
      have := cnt_splitGo r []
      simp only [List.length_nil] at this
      split
      · simp only [cnt, if_pos h, List.length_cons]; omega
      · simp only [cnt, if_pos h, List.length_cons, lens_]; omega
    · rw [splitGo_other _ _ _ h]
      have := cnt_splitGo r (cur ++ [c])
      rw [List.length_append] at this
      simp only [cnt, if_neg h, List.length_cons, List.length_nil] at this ⊢
      omega
/-- words and blanks make a text up -/
theorem cnt_splitW (s : List UInt8) : lens_ (splitW s) + cnt s = s.length := by have := cnt_splitGo s []; simp only [List.length_nil, Nat.zero_add] at this; exact this

/-- blanks behind: none of them is a word -/
def blanks (r : Nat) : List UInt8 := List.replicate r 32
theorem splitW_blanks : ∀ (r : Nat), splitW (blanks r) = []
  | 0 => rfl
  | r + 1 => by
    show splitGo [] (32 :: blanks r) = []
    rw [splitGo_blank _ _ _ (by decide)]
    exact splitW_blanks r
/-- a line that ends in a blank, then more -/
def Shut (s : List UInt8) (l : List (List UInt8)) : Prop := ∀ t, splitW (s ++ t) = l ++ splitW t
theorem Shut.nil : Shut [] [] := fun _ => rfl
theorem Shut.word {s : List UInt8} {l : List (List UInt8)} (h : Shut s l) {w : List UInt8} (h1 : 0 < w.length) (h2 : ∀ c ∈ w, c.toNat ≠ 32) : Shut (s ++ w ++ [32]) (l ++ [w]) := by
  intro t
  rw [List.append_assoc, List.append_assoc, h, ← List.append_assoc, List.append_assoc w]
  show l ++ splitW (w ++ 32 :: t) = _
  rw [splitW_app, splitW_one h1 h2, List.append_assoc]
theorem Shut.blanks {s : List UInt8} {l : List (List UInt8)} (h : Shut s l) (r : Nat) : Shut (s ++ Go.Proofs.Ytkjmelfgopammaa.blanks r) l := by
  intro t
  rw [List.append_assoc, h]
  have : ∀ r, splitW (Go.Proofs.Ytkjmelfgopammaa.blanks r ++ t) = splitW t := by
    intro r
    induction r with
    | zero => rfl
    | succ r ih =>
      show splitGo [] (32 :: (Go.Proofs.Ytkjmelfgopammaa.blanks r ++ t)) = _
      rw [splitGo_blank _ _ _ (by decide)]
      exact ih
  rw [this]
theorem Shut.done {s : List UInt8} {l : List (List UInt8)} (h : Shut s l) : splitW s = l := by
  have := h []
  rw [List.append_nil] at this
  rw [this]
  exact List.append_nil l
end Go.Proofs.Ytkjmelfgopammaa
