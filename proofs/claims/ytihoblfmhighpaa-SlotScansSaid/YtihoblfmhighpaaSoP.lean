/- Rows of texts that are sorted, plainly. Conditions: none. -/
import Derived.Test.YtihoblfmhighpaaTgB
namespace Go.Proofs.Ytihoblfmhighpaa
open Go.Dp
set_option linter.unusedSimpArgs false
set_option linter.unusedVariables false

theorem blt_cons (a b : UInt8) (x y : List UInt8) : bltB (a :: x) (b :: y) = (decide (a.toNat < b.toNat) || (decide (a = b) && bltB x y)) := by
  show (bif Nat.blt a.toNat b.toNat then true else bif u8beq a b then bltB x y else false) = _
  rw [nblt, u8beq_eq]
  by_cases h : a.toNat < b.toNat
  · simp [h]
  · by_cases e : a = b
    · simp [h, e]
    · simp [h, e]
theorem blt_nil (x : List UInt8) : bltB x [] = false := by cases x <;> rfl
theorem blt_irr : ∀ x : List UInt8, bltB x x = false
  | [] => rfl
  | a :: x => by rw [blt_cons, blt_irr x]; simp
theorem blt_trans : ∀ {x y z : List UInt8}, bltB x y = true → bltB y z = true → bltB x z = true
  | x, y, [], _, h => by rw [blt_nil] at h; cases h
  | x, [], c :: z, h, _ => by rw [blt_nil] at h; cases h
  | [], b :: y, c :: z, _, _ => rfl
  | a :: x, b :: y, c :: z, h, k => by
    rw [blt_cons] at h k ⊢
    simp only [Bool.or_eq_true, Bool.and_eq_true, decide_eq_true_eq] at h k ⊢
    rcases h with h | ⟨rfl, h⟩
    · rcases k with k | ⟨rfl, k⟩
      · exact .inl (Nat.lt_trans h k)
      · exact .inl h
    · rcases k with k | ⟨rfl, k⟩
      · exact .inl k
      · exact .inr ⟨rfl, blt_trans h k⟩
theorem blt_tot : ∀ {x y : List UInt8}, bltB x y = false → bltB y x = false → x = y
  | [], [], _, _ => rfl
  | [], b :: y, h, _ => by cases h
  | a :: x, [], _, h => by cases h
  | a :: x, b :: y, h, k => by
    rw [blt_cons] at h k
    simp only [Bool.or_eq_false_iff, Bool.and_eq_false_iff, decide_eq_false_iff_not] at h k
    have e : a = b := UInt8.toNat_inj.1 (by omega)
    subst e
    have h2 : bltB x y = false := by rcases h.2 with h | h; exact absurd rfl h; exact h
    have k2 : bltB y x = false := by rcases k.2 with h | h; exact absurd rfl h; exact h
    rw [blt_tot h2 k2]
def le (x y : List UInt8) : Prop := bltB y x = false
theorem le_refl (x : List UInt8) : le x x := blt_irr x
theorem le_of_lt {x y : List UInt8} (h : bltB x y = true) : le x y := by
  cases e : bltB y x with
  | false => exact e
  | true => have := blt_trans h e; rw [blt_irr] at this; cases this
theorem le_trans {x y z : List UInt8} (h : le x y) (k : le y z) : le x z := by
  cases e : bltB z x with
  | false => exact e
  | true =>
    cases f : bltB x y with
    | true => have := blt_trans e f; rw [k] at this; cases this
    | false => have := blt_tot f h; subst this; rw [k] at e; cases e
theorem lt_of_ne {x y : List UInt8} (h : le x y) (hn : x ≠ y) : bltB x y = true := by
  cases e : bltB x y with
  | true => rfl
  | false => exact absurd (blt_tot e h) hn

abbrev gz (z : List (List UInt8)) (i : Nat) : List UInt8 := z.getD i []
def swp (z : List (List UInt8)) (i j : Nat) : List (List UInt8) := (z.set i (gz z j)).set j (gz z i)
theorem swp_len (z : List (List UInt8)) (i j : Nat) : (swp z i j).length = z.length := by unfold swp; rw [List.length_set, List.length_set]
theorem gz_set {z : List (List UInt8)} {i : Nat} (h : i < z.length) (x : List UInt8) (k : Nat) : gz (z.set i x) k = if k = i then x else gz z k := by
  unfold gz
  rw [List.getD_eq_getElem?_getD, List.getD_eq_getElem?_getD]
  split
  · rename_i e; subst e
    rw [List.getElem?_set_self h]; rfl
  · rename_i e
    rw [List.getElem?_set_ne (fun q => e q.symm)]
theorem swp_get {z : List (List UInt8)} {i j : Nat} (hi : i < z.length) (hj : j < z.length) (k : Nat) : gz (swp z i j) k = if k = j then gz z i else if k = i then gz z j else gz z k := by
  unfold swp
  rw [gz_set (by rw [List.length_set]; exact hj), gz_set hi]
theorem swp_perm {z : List (List UInt8)} {i j : Nat} (hi : i < z.length) (hj : j < z.length) : (swp z i j).Perm z := by
  unfold swp gz
  rw [List.getD_eq_getElem?_getD, List.getD_eq_getElem?_getD, List.getElem?_eq_getElem hi, List.getElem?_eq_getElem hj]
  exact List.set_set_perm hi hj

structure PIn (a b : Nat) (z w : List (List UInt8)) : Prop where
  pm : w.Perm z
  out : ∀ k, k < a ∨ b ≤ k → gz w k = gz z k
  in_ : ∀ P : List UInt8 → Prop, (∀ k, a ≤ k → k < b → P (gz z k)) → ∀ k, a ≤ k → k < b → P (gz w k)
theorem PIn.refl (a b : Nat) (z : List (List UInt8)) : PIn a b z z := ⟨List.Perm.refl _, fun _ _ => rfl, fun _ h => h⟩
theorem PIn.trans {a b : Nat} {z w v : List (List UInt8)} (h : PIn a b z w) (k : PIn a b w v) : PIn a b z v := ⟨k.pm.trans h.pm, fun i hi => (k.out i hi).trans (h.out i hi), fun P hP => k.in_ P (h.in_ P hP)⟩
theorem PIn.len {a b : Nat} {z w : List (List UInt8)} (h : PIn a b z w) : w.length = z.length := h.pm.length_eq
theorem PIn.swp {a b : Nat} {z : List (List UInt8)} {i j : Nat} (hb : b ≤ z.length) (hi : a ≤ i ∧ i < b) (hj : a ≤ j ∧ j < b) : PIn a b z (swp z i j) := by
  have hi' : i < z.length := by omega
  have hj' : j < z.length := by omega
  refine ⟨swp_perm hi' hj', fun k hk => ?_, fun P hP k h1 h2 => ?_⟩
  · rw [swp_get hi' hj', if_neg (by omega), if_neg (by omega)]
  · rw [swp_get hi' hj']
    split
    · exact hP i hi.1 hi.2
    · split
      · exact hP j hj.1 hj.2
      · exact hP k h1 h2
theorem PIn.mono {a b a' b' : Nat} {z w : List (List UInt8)} (h : PIn a b z w) (ha : a' ≤ a) (hb : b ≤ b') : PIn a' b' z w := by
  refine ⟨h.pm, fun k hk => h.out k (by omega), fun P hP k h1 h2 => ?_⟩
  by_cases c : a ≤ k ∧ k < b
  · exact h.in_ P (fun i i1 i2 => hP i (by omega) (by omega)) k c.1 c.2
  · rw [h.out k (by omega)]; exact hP k h1 h2

def Sd (a b : Nat) (z : List (List UInt8)) : Prop := ∀ p q, a ≤ p → p < q → q < b → le (gz z p) (gz z q)

def InsI (a i j : Nat) (z : List (List UInt8)) : Prop := ∀ p q, a ≤ p → p < q → q ≤ i → q ≠ j → le (gz z p) (gz z q)
theorem InsI.begin {a i : Nat} {z : List (List UInt8)} (h : Sd a i z) : InsI a i i z := fun p q h1 h2 h3 h4 => h p q h1 h2 (by omega)
theorem InsI.done {a i j : Nat} {z : List (List UInt8)} (h : InsI a i j z) (hc : j ≤ a ∨ le (gz z (j - 1)) (gz z j)) : Sd a (i + 1) z := by
  intro p q h1 h2 h3
  by_cases e : q = j
  · subst e
    rcases hc with hc | hc
    · omega
    · by_cases e2 : p = q - 1
      · subst e2; exact hc
      · exact le_trans (h p (q - 1) h1 (by omega) (by omega) (by omega)) hc
  · exact h p q h1 h2 (by omega) e
theorem InsI.step {a i j : Nat} {z : List (List UInt8)} (h : InsI a i j z) (hl : i < z.length) (hj : a < j) (hji : j ≤ i) (hlt : bltB (gz z j) (gz z (j - 1)) = true) : InsI a i (j - 1) (swp z j (j - 1)) := by
  intro p q h1 h2 h3 h4
  rw [swp_get (by omega) (by omega), swp_get (by omega) (by omega)]
  by_cases q1 : q = j
  · subst q1
    rw [if_neg (show ¬ q = q - 1 by omega), if_pos (show q = q from rfl)]
    by_cases p1 : p = q - 1
    · rw [if_pos p1]; exact le_of_lt hlt
    · rw [if_neg p1, if_neg (show ¬ p = q by omega)]
      exact h p (q - 1) h1 (by omega) (by omega) (by omega)
  · rw [if_neg h4, if_neg q1]
    by_cases p1 : p = j - 1
    · rw [if_pos p1]
      exact h j q (by omega) (by omega) h3 q1
    · rw [if_neg p1]
      by_cases p2 : p = j
      · rw [if_pos p2]
        exact h (j - 1) q (by omega) (by omega) h3 q1
      · rw [if_neg p2]
        exact h p q h1 h2 h3 q1

def Hp (f lo hi : Nat) (z : List (List UInt8)) : Prop := ∀ r c, lo ≤ r → (c = 2 * r + 1 ∨ c = 2 * r + 2) → c < hi → le (gz z (f + c)) (gz z (f + r))
structure HpI (f lo hi root : Nat) (z : List (List UInt8)) : Prop where
  o : ∀ r c, lo ≤ r → r ≠ root → (c = 2 * r + 1 ∨ c = 2 * r + 2) → c < hi → le (gz z (f + c)) (gz z (f + r))
  u : ∀ r c, lo ≤ r → (root = 2 * r + 1 ∨ root = 2 * r + 2) → (c = 2 * root + 1 ∨ c = 2 * root + 2) → c < hi → le (gz z (f + c)) (gz z (f + r))
theorem HpI.begin {f lo hi : Nat} {z : List (List UInt8)} (h : Hp f (lo + 1) hi z) : HpI f lo hi lo z := by
  refine ⟨fun r c h1 h2 h3 h4 => h r c (by omega) h3 h4, fun r c h1 h2 h3 h4 => by omega⟩
theorem HpI.done {f lo hi root : Nat} {z : List (List UInt8)} (h : HpI f lo hi root z) (hc : ∀ c, (c = 2 * root + 1 ∨ c = 2 * root + 2) → c < hi → le (gz z (f + c)) (gz z (f + root))) : Hp f lo hi z := by
  intro r c h1 h2 h3
  by_cases e : r = root
  · subst e; exact hc c h2 h3
  · exact h.o r c h1 e h2 h3
theorem HpI.step {f lo hi root child : Nat} {z : List (List UInt8)} (h : HpI f lo hi root z) (hl : f + hi ≤ z.length) (hr : lo ≤ root) (hch : child = 2 * root + 1 ∨ child = 2 * root + 2) (hci : child < hi)
    (hmax : ∀ c, (c = 2 * root + 1 ∨ c = 2 * root + 2) → c < hi → le (gz z (f + c)) (gz z (f + child))) (hlt : bltB (gz z (f + root)) (gz z (f + child)) = true) : HpI f lo hi child (swp z (f + root) (f + child)) := by
  refine ⟨fun r c h1 h2 h3 h4 => ?_, fun r c h1 h2 h3 h4 => ?_⟩
  · rw [swp_get (by omega) (by omega), swp_get (by omega) (by omega)]
    by_cases e : r = root
    · subst e
      rw [if_neg (show ¬ f + r = f + child by omega), if_pos rfl]
      by_cases e2 : c = child
      · subst e2; rw [if_pos rfl]; exact le_of_lt hlt
      · rw [if_neg (by omega), if_neg (by omega)]; exact hmax c h3 h4
    · have hcc : c ≠ child := by omega
      rw [if_neg (show ¬ f + r = f + child by omega), if_neg (show ¬ f + r = f + root by omega), if_neg (show ¬ f + c = f + child by omega)]
      by_cases e2 : c = root
      · subst e2
        rw [if_pos rfl]
        exact h.u r child h1 h3 hch hci
      · rw [if_neg (by omega)]; exact h.o r c h1 e h3 h4
  · have e : r = root := by omega
    subst e
    rw [swp_get (by omega) (by omega), swp_get (by omega) (by omega)]
    rw [if_neg (show ¬ f + r = f + child by omega), if_pos rfl, if_neg (by omega), if_neg (by omega)]
    exact h.o child c (by omega) (by omega) h3 h4
theorem Hp.top {f hi : Nat} {z : List (List UInt8)} (h : Hp f 0 hi z) : ∀ r, r < hi → le (gz z (f + r)) (gz z f) := by
  intro r
  induction r using Nat.strongRecOn with
  | ind r ih =>
    intro hr
    by_cases e : r = 0
    · subst e; exact le_refl _
    · have hp := h ((r - 1) / 2) r (Nat.zero_le _) (by omega) hr
      exact le_trans hp (ih ((r - 1) / 2) (by omega) (by omega))

def Ord (A B a b : Nat) (z : List (List UInt8)) : Prop := ∀ p q, A ≤ p → p < q → q < B → (a ≤ p ∧ q < b) ∨ le (gz z p) (gz z q)
theorem Ord.all {A B : Nat} {z : List (List UInt8)} : Ord A B A B z := fun p q h1 h2 h3 => .inl ⟨h1, h3⟩
theorem Ord.pin {A B a b : Nat} {z w : List (List UInt8)} (h : Ord A B a b z) (hA : A ≤ a) (hB : b ≤ B) (k : PIn a b z w) : Ord A B a b w := by
  intro p q h1 h2 h3
  by_cases cp : a ≤ p ∧ p < b
  · by_cases cq : q < b
    · exact .inl ⟨cp.1, cq⟩
    · refine .inr ?_
      rw [k.out q (by omega)]
      refine k.in_ (fun x => le x (gz z q)) (fun i i1 i2 => ?_) p cp.1 cp.2
      rcases h i q (by omega) (by omega) h3 with h | h
      · omega
      · exact h
  · rw [k.out p (by omega)]
    by_cases cq : a ≤ q ∧ q < b
    · refine .inr (k.in_ (fun x => le (gz z p) x) (fun i i1 i2 => ?_) q cq.1 cq.2)
      rcases h p i h1 (by omega) (by omega) with h | h
      · omega
      · exact h
    · rw [k.out q (by omega)]
      rcases h p q h1 h2 h3 with h | h
      · omega
      · exact .inr h
theorem Ord.fin {A B a b : Nat} {z : List (List UInt8)} (h : Ord A B a b z) (hs : Sd a b z) : Sd A B z := by
  intro p q h1 h2 h3
  rcases h p q h1 h2 h3 with h | h
  · exact hs p q h.1 h2 h.2
  · exact h
theorem Ord.left {A B a b mid : Nat} {z : List (List UInt8)} (h : Ord A B a b z) (hm : a ≤ mid ∧ mid < b) (h1 : ∀ k, a ≤ k → k < mid → le (gz z k) (gz z mid)) (h2 : ∀ k, mid < k → k < b → le (gz z mid) (gz z k)) (hs : Sd a mid z) : Ord A B (mid + 1) b z := by
  intro p q p1 p2 p3
  by_cases c : mid + 1 ≤ p ∧ q < b
  · exact .inl c
  · refine .inr ?_
    rcases h p q p1 p2 p3 with h | h
    · have cp : p ≤ mid := by omega
      have l1 : le (gz z p) (gz z mid) := by
        by_cases e : p = mid
        · rw [e]; exact le_refl _
        · exact h1 p h.1 (by omega)
      by_cases cq : q < mid
      · exact hs p q h.1 p2 cq
      · by_cases e : q = mid
        · rw [e]; exact l1
        · exact le_trans l1 (h2 q (by omega) h.2)
    · exact h
theorem Ord.right {A B a b mid : Nat} {z : List (List UInt8)} (h : Ord A B a b z) (hm : a ≤ mid ∧ mid < b) (h1 : ∀ k, a ≤ k → k < mid → le (gz z k) (gz z mid)) (h2 : ∀ k, mid < k → k < b → le (gz z mid) (gz z k)) (hs : Sd (mid + 1) b z) : Ord A B a mid z := by
  intro p q p1 p2 p3
  by_cases c : a ≤ p ∧ q < mid
  · exact .inl c
  · refine .inr ?_
    rcases h p q p1 p2 p3 with h | h
    · have cq : mid ≤ q := by omega
      have l1 : le (gz z mid) (gz z q) := by
        by_cases e : q = mid
        · rw [e]; exact le_refl _
        · exact h2 q (by omega) h.2
      by_cases cp : mid < p
      · exact hs p q cp p2 h.2
      · by_cases e : p = mid
        · rw [e]; exact l1
        · exact le_trans (h1 p h.1 (by omega)) l1
    · exact h

structure Pt (a b i j : Nat) (p : List UInt8) (z : List (List UInt8)) : Prop where
  at_ : gz z a = p
  ai : a < i
  ij : i ≤ j + 1
  jb : j < b
  lo : ∀ k, a < k → k < i → bltB (gz z k) p = true
  hi : ∀ k, j < k → k < b → bltB (gz z k) p = false
theorem Pt.up {a b i j : Nat} {p : List UInt8} {z : List (List UInt8)} (h : Pt a b i j p z) (hij : i ≤ j) (hl : bltB (gz z i) p = true) : Pt a b (i + 1) j p z := by
  have := h.ai
  refine ⟨h.at_, by omega, by omega, h.jb, fun k k1 k2 => ?_, h.hi⟩
  by_cases e : k = i
  · rw [e]; exact hl
  · exact h.lo k k1 (by omega)
theorem Pt.down {a b i j : Nat} {p : List UInt8} {z : List (List UInt8)} (h : Pt a b i j p z) (hij : i ≤ j) (hl : bltB (gz z j) p = false) : Pt a b i (j - 1) p z := by
  have := h.ai
  have := h.jb
  refine ⟨h.at_, h.ai, by omega, by omega, h.lo, fun k k1 k2 => ?_⟩
  by_cases e : k = j
  · rw [e]; exact hl
  · exact h.hi k (by omega) k2
theorem Pt.swap {a b i j : Nat} {p : List UInt8} {z : List (List UInt8)} (h : Pt a b i j p z) (hb : b ≤ z.length) (hij : i ≤ j) (hi : bltB (gz z i) p = false) (hj : bltB (gz z j) p = true) : i < j ∧ Pt a b (i + 1) (j - 1) p (swp z i j) := by
  have h1 := h.ai
  have h2 := h.jb
  have hne : i ≠ j := fun e => by rw [e, hj] at hi; cases hi
  refine ⟨by omega, ?_, by omega, by omega, by omega, fun k k1 k2 => ?_, fun k k1 k2 => ?_⟩
  · rw [swp_get (by omega) (by omega), if_neg (by omega), if_neg (by omega)]; exact h.at_
  · rw [swp_get (by omega) (by omega), if_neg (by omega)]
    by_cases e : k = i
    · rw [if_pos e]; exact hj
    · rw [if_neg e]; exact h.lo k k1 (by omega)
  · rw [swp_get (by omega) (by omega)]
    by_cases e : k = j
    · rw [if_pos e]; exact hi
    · rw [if_neg e, if_neg (by omega)]; exact h.hi k (by omega) k2
structure Parted (a b mid : Nat) (z : List (List UInt8)) : Prop where
  am : a ≤ mid
  mb : mid < b
  lo : ∀ k, a ≤ k → k < mid → le (gz z k) (gz z mid)
  hi : ∀ k, mid < k → k < b → le (gz z mid) (gz z k)
theorem Pt.done {a b i j : Nat} {p : List UInt8} {z : List (List UInt8)} (h : Pt a b i j p z) (hb : b ≤ z.length) (hij : j < i) : Parted a b j (swp z j a) := by
  have h1 := h.ai
  have h2 := h.ij
  have h3 := h.jb
  have e : i = j + 1 := by omega
  subst e
  have hm : gz (swp z j a) j = p := by
    rw [swp_get (by omega) (by omega)]
    by_cases e : j = a
    · rw [if_pos e, e]; exact h.at_
    · rw [if_neg e, if_pos rfl]; exact h.at_
  refine ⟨by omega, h3, fun k k1 k2 => ?_, fun k k1 k2 => ?_⟩
  · rw [hm, swp_get (by omega) (by omega)]
    by_cases e : k = a
    · rw [if_pos e]; exact le_of_lt (h.lo j (by omega) (by omega))
    · rw [if_neg e, if_neg (by omega)]; exact le_of_lt (h.lo k (by omega) (by omega))
  · rw [hm, swp_get (by omega) (by omega), if_neg (by omega), if_neg (by omega)]
    exact h.hi k k1 k2

def strs (z : List (List UInt8)) : List AV := z.map AV.str
theorem strs_len (z : List (List UInt8)) : (strs z).length = z.length := List.length_map ..
theorem strs_at {z : List (List UInt8)} {i : Nat} (h : i < z.length) (rest : List AV) : ((strs z ++ rest).drop i).take 1 = [.str (gz z i)] := by
  rw [List.drop_append_of_le_length (by rw [strs_len]; omega)]
  unfold strs gz
  rw [← List.map_drop, List.drop_eq_getElem_cons h, List.getD_eq_getElem?_getD, List.getElem?_eq_getElem h]
  rfl
theorem strs_le {z : List (List UInt8)} {i : Nat} (h : i < z.length) (rest : List AV) : i + 1 ≤ (strs z ++ rest).length := by
  rw [List.length_append, strs_len]; omega
theorem strs_set {z : List (List UInt8)} {i : Nat} (h : i < z.length) (rest : List AV) (x : List UInt8) : (strs z ++ rest).take i ++ (.str x :: (strs z ++ rest).drop (i + 1)) = strs (z.set i x) ++ rest := by
  unfold strs
  rw [List.take_append_of_le_length (by rw [List.length_map]; omega), List.drop_append_of_le_length (by rw [List.length_map]; omega), ← List.map_take, ← List.map_drop, List.set_eq_take_append_cons_drop, if_pos h, List.map_append, List.map_cons, List.append_assoc]
  rfl
theorem Sd.eq {z w : List (List UInt8)} (hz : Sd 0 z.length z) (hw : Sd 0 w.length w) (hp : w.Perm z) : w = z := by
  have conv : ∀ {z : List (List UInt8)}, Sd 0 z.length z → z.Pairwise le := by
    intro z h
    rw [List.pairwise_iff_getElem]
    intro i j hi hj hij
    have := h i j (Nat.zero_le _) hij hj
    unfold gz at this
    rwa [List.getD_eq_getElem?_getD, List.getD_eq_getElem?_getD, List.getElem?_eq_getElem hi, List.getElem?_eq_getElem hj] at this
  exact List.Perm.eq_of_pairwise (fun a b _ _ h1 h2 => blt_tot h2 h1) (conv hw) (conv hz) hp
end Go.Proofs.Ytihoblfmhighpaa
