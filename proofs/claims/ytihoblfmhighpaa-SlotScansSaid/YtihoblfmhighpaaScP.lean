/- Keys that a scan goes through, plainly. Conditions: none. -/
import Derived.Test.YtihoblfmhighpaaSoP
namespace Go.Proofs.Ytihoblfmhighpaa
open Go.Dp
set_option linter.unusedSimpArgs false
set_option linter.unusedVariables false

def SS (l : List (List UInt8)) : Prop := l.Pairwise fun x y => bltB x y = true
theorem SS.nodup {l : List (List UInt8)} (h : SS l) : l.Nodup := h.imp fun {a b} h e => by rw [e, blt_irr] at h; cases h
theorem SS.sd {l : List (List UInt8)} (h : SS l) : Sd 0 l.length l := by
  intro p q h1 h2 h3
  have := List.pairwise_iff_getElem.1 h p q (by omega) h3 h2
  unfold gz
  rw [List.getD_eq_getElem?_getD, List.getD_eq_getElem?_getD, List.getElem?_eq_getElem (by omega), List.getElem?_eq_getElem h3]
  exact le_of_lt this
theorem SS.ins {l : List (List UInt8)} (h : SS l) {i : Nat} {k : List UInt8} (hi : i ≤ l.length) (h1 : ∀ x ∈ l.take i, bltB x k = true) (h2 : ∀ x ∈ l.drop i, bltB k x = true) : SS (l.take i ++ k :: l.drop i) := by
  have e : l.take i ++ l.drop i = l := List.take_append_drop i l
  have h : (l.take i ++ l.drop i).Pairwise fun x y => bltB x y = true := by rw [e]; exact h
  obtain ⟨a, b, c⟩ := List.pairwise_append.1 h
  refine List.pairwise_append.2 ⟨a, List.pairwise_cons.2 ⟨h2, b⟩, fun x hx y hy => ?_⟩
  rcases List.mem_cons.1 hy with rfl | hy
  · exact h1 x hx
  · exact c x hx y hy
theorem SS.above {l : List (List UInt8)} (h : SS l) {i : Nat} {k : List UInt8} (hi : i < l.length) (hk : bltB k (gz l i) = true) : ∀ x ∈ l.drop i, bltB k x = true := by
  intro x hx
  have hp : (l.drop i).Pairwise fun x y => bltB x y = true := h.sublist (List.drop_sublist i l)
  rw [List.drop_eq_getElem_cons hi] at hp hx
  unfold gz at hk
  rw [List.getD_eq_getElem?_getD, List.getElem?_eq_getElem hi] at hk
  rcases List.mem_cons.1 hx with rfl | hx
  · exact hk
  · exact blt_trans hk ((List.pairwise_cons.1 hp).1 x hx)
theorem ins_mem {l : List (List UInt8)} {i : Nat} {k x : List UInt8} : x ∈ l.take i ++ k :: l.drop i ↔ x = k ∨ x ∈ l := by
  have e : l.take i ++ l.drop i = l := List.take_append_drop i l
  constructor
  · intro h
    rcases List.mem_append.1 h with h | h
    · exact .inr (List.mem_of_mem_take h)
    · rcases List.mem_cons.1 h with h | h
      · exact .inl h
      · exact .inr (List.mem_of_mem_drop h)
  · rintro (rfl | h)
    · exact List.mem_append_right _ (List.mem_cons_self ..)
    · rw [← e] at h
      rcases List.mem_append.1 h with h | h
      · exact List.mem_append_left _ h
      · exact List.mem_append_right _ (List.mem_cons_of_mem _ h)
def behind (l : List (List UInt8)) (k : List UInt8) : List (List UInt8) := l.filter fun x => bltB k x
theorem SS.behind' {l : List (List UInt8)} (h : SS l) (k : List UInt8) : SS (behind l k) := h.sublist List.filter_sublist
theorem SS.cut {a b : List (List UInt8)} {x : List UInt8} (h : SS (a ++ x :: b)) : behind (a ++ x :: b) x = b := by
  obtain ⟨h1, h2, h3⟩ := List.pairwise_append.1 h
  obtain ⟨h4, h5⟩ := List.pairwise_cons.1 h2
  unfold behind
  have ha : a.filter (fun y => bltB x y) = [] := by
    rw [List.filter_eq_nil_iff]
    intro y hy
    have := le_of_lt (h3 y hy x (List.mem_cons_self ..))
    rw [this]; simp
  have hb : b.filter (fun y => bltB x y) = b := by
    rw [List.filter_eq_self]
    exact h4
  rw [List.filter_append, ha, List.filter_cons, blt_irr]
  simp [hb]
theorem behind_all {l : List (List UInt8)} (h : ∀ x ∈ l, x ≠ []) : behind l [] = l := by
  unfold behind
  rw [List.filter_eq_self]
  intro x hx
  cases x with
  | nil => exact absurd rfl (h _ hx)
  | cons a x => rfl
theorem sort_eq {l w want : List (List UInt8)} (hw : Sd 0 w.length w) (hp : w.Perm l) (hl : l.Nodup) (hs : SS want) (hm : ∀ x, x ∈ l ↔ x ∈ want) : w = want := by
  have h1 : l.Perm want := (List.perm_ext_iff_of_nodup hl hs.nodup).2 hm
  exact Sd.eq hs.sd hw (hp.trans h1)
def metaKeys : List (List UInt8) → List (List UInt8)
  | [] => []
  | (c :: k) :: l => if c = 109 then k :: metaKeys l else metaKeys l
  | [] :: l => metaKeys l
theorem metaKeys_mem {x : List UInt8} : ∀ {l : List (List UInt8)}, x ∈ metaKeys l ↔ (109 :: x) ∈ l
  | [] => by simp [metaKeys]
  | [] :: l => by rw [metaKeys, metaKeys_mem (l := l)]; simp
  | (c :: k) :: l => by
    rw [metaKeys]
    split
    · rename_i e
      subst e
      rw [List.mem_cons, List.mem_cons, metaKeys_mem (l := l)]
      constructor
      · rintro (rfl | h)
        · exact .inl rfl
        · exact .inr h
      · rintro (h | h)
        · injection h with _ h; exact .inl h
        · exact .inr h
    · rename_i e
      rw [List.mem_cons, metaKeys_mem (l := l)]
      constructor
      · exact .inr
      · rintro (h | h)
        · injection h with h _; exact absurd h.symm e
        · exact h
theorem metaKeys_nodup : ∀ {l : List (List UInt8)}, l.Nodup → (metaKeys l).Nodup
  | [], _ => List.nodup_nil
  | [] :: l, h => by rw [metaKeys]; exact metaKeys_nodup (List.nodup_cons.1 h).2
  | (c :: k) :: l, h => by
    rw [metaKeys]
    obtain ⟨h1, h2⟩ := List.nodup_cons.1 h
    split
    · rename_i e
      subst e
      exact List.nodup_cons.2 ⟨fun hm => h1 (metaKeys_mem.1 hm), metaKeys_nodup h2⟩
    · exact metaKeys_nodup h2
theorem metaKeys_app : ∀ (l m : List (List UInt8)), metaKeys (l ++ m) = metaKeys l ++ metaKeys m
  | [], m => rfl
  | [] :: l, m => metaKeys_app l m
  | (c :: k) :: l, m => by
    show metaKeys ((c :: k) :: (l ++ m)) = _
    rw [metaKeys, metaKeys, metaKeys_app l m]
    split <;> rfl
end Go.Proofs.Ytihoblfmhighpaa
