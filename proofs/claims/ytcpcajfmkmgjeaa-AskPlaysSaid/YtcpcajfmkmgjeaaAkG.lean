/- Layer 19: a tick, plainly. Conditions: none. -/
import Derived.Test.YtcpcajfmkmgjeaaAkF
namespace Go.Proofs.Ytcpcajfmkmgjeaa
open Go.Dp
set_option linter.unusedSimpArgs false
set_option linter.unusedVariables false
set_option maxHeartbeats 2000000
set_option maxRecDepth 8000
attribute [local irreducible] Ex.thnK Ex.inK Ret

def inc (o : Rq) : Rq := ⟨o.f, o.t + 1⟩
def Fr.fl (f : Fr) (x : Int) : Fr := { f with floor := x }
/-- what a tick sends again, of M -/
def againP (L M : List Rq) : List Fr := ((M.map inc).filter fun o => decide (o.t % 4 = 0)).map fun o => o.f.fl (floorP L o.f.slot o.f.rid)
def lateStep (z : List Int) (o : Rq) : List Int := if 40 ≤ o.t + 1 ∧ z.contains o.f.slot = false then z ++ [o.f.slot] else z
/-- which slots are late, in the order in which they are met -/
def lateP (M : List Rq) : List Int := M.foldl lateStep []
/-- the first i are ticked -/
def ticked (L : List Rq) (i : Nat) : List Rq := (L.take i).map inc ++ L.drop i

theorem againP_snoc (L M : List Rq) (r : Rq) : againP L (M ++ [r]) = if (r.t + 1) % 4 = 0 then againP L M ++ [r.f.fl (floorP L r.f.slot r.f.rid)] else againP L M := by
  unfold againP
  rw [List.map_append, List.filter_append, List.map_append]
  by_cases h : (r.t + 1) % 4 = 0
  · rw [if_pos h]
    have : ([r].map inc).filter (fun o => decide (o.t % 4 = 0)) = [inc r] := by
      simp [inc, h]
    rw [this]
    rfl
  · rw [if_neg h]
    have : ([r].map inc).filter (fun o => decide (o.t % 4 = 0)) = [] := by
      simp [inc, h]
    rw [this, List.map_nil, List.append_nil]
theorem lateP_snoc (M : List Rq) (r : Rq) : lateP (M ++ [r]) = lateStep (lateP M) r := by
  unfold lateP
  rw [List.foldl_append]
  rfl
theorem lateP_ok : ∀ M : List Rq, (lateP M).Nodup ∧ ∀ x, x ∈ lateP M ↔ ∃ o ∈ M, o.f.slot = x ∧ 40 ≤ o.t + 1 := by
  intro M
  have key : ∀ (M : List Rq) (N : List Rq), (lateP N).Nodup ∧ (∀ x, x ∈ lateP N ↔ ∃ o ∈ N, o.f.slot = x ∧ 40 ≤ o.t + 1) → (lateP (N ++ M)).Nodup ∧ ∀ x, x ∈ lateP (N ++ M) ↔ ∃ o ∈ N ++ M, o.f.slot = x ∧ 40 ≤ o.t + 1 := by
    intro M
    induction M with
    | nil => intro N h; rw [List.append_nil]; exact h
    | cons r M ih =>
      intro N h
      rw [show N ++ r :: M = (N ++ [r]) ++ M by rw [List.append_assoc]; rfl]
      refine ih (N ++ [r]) ?_
      rw [lateP_snoc]
      unfold lateStep
      obtain ⟨h1, h2⟩ := h
      by_cases c : 40 ≤ r.t + 1 ∧ (lateP N).contains r.f.slot = false
      · rw [if_pos c]
        have hni : r.f.slot ∉ lateP N := fun hm => by rw [List.contains_iff_mem.2 hm] at c; cases c.2
        refine ⟨List.nodup_append.2 ⟨h1, List.pairwise_singleton _ _, fun a ha b hb => by rw [List.mem_singleton] at hb; rw [hb]; intro e; exact hni (e ▸ ha)⟩, fun x => ?_⟩
        rw [List.mem_append, h2, List.mem_singleton]
        constructor
        · rintro (⟨o, q1, q2⟩ | rfl)
          · exact ⟨o, List.mem_append_left _ q1, q2⟩
          · exact ⟨r, List.mem_append_right _ (List.mem_singleton.2 rfl), rfl, c.1⟩
        · rintro ⟨o, q1, q2, q3⟩
          rcases List.mem_append.1 q1 with q | q
          · exact .inl ⟨o, q, q2, q3⟩
          · rw [List.mem_singleton] at q
            subst q
            exact .inr q2.symm
      · rw [if_neg c]
        refine ⟨h1, fun x => ?_⟩
        rw [h2]
        constructor
        · rintro ⟨o, q1, q2⟩
          exact ⟨o, List.mem_append_left _ q1, q2⟩
        · rintro ⟨o, q1, q2, q3⟩
          rcases List.mem_append.1 q1 with q | q
          · exact ⟨o, q, q2, q3⟩
          · rw [List.mem_singleton] at q
            subst q
            have : (lateP N).contains o.f.slot = true := by
              cases hc : (lateP N).contains o.f.slot with
              | true => rfl
              | false => exact absurd ⟨q3, hc⟩ c
            rw [q2] at this
            exact (h2 x).1 (List.contains_iff_mem.1 this)
  have := key M [] ⟨List.Pairwise.nil, fun x => ⟨(fun h => by cases h), fun ⟨o, h, _⟩ => (by cases h)⟩⟩
  rw [List.nil_append] at this
  exact this
theorem nodup_le : ∀ {n : Nat} {l : List Nat}, l.Nodup → (∀ x ∈ l, x < n) → l.length ≤ n
  | 0, l, _, h2 => by
    cases l with
    | nil => exact Nat.le_refl _
    | cons a t => exact absurd (h2 a (List.mem_cons_self ..)) (Nat.not_lt_zero _)
  | n + 1, l, h1, h2 => by
    have h3 := nodup_le (n := n) (h1.erase n) (fun x hx => by
      have h4 := (h1.mem_erase_iff).1 hx
      have := h2 x h4.2
      have := h4.1
      omega)
    have h5 := List.length_erase (a := n) (l := l)
    split at h5 <;> omega
theorem late_len {M : List Rq} (h : ∀ o ∈ M, .ofNat 0 ≤ o.f.slot ∧ o.f.slot ≤ .ofNat 11) : (lateP M).length ≤ 12 := by
  obtain ⟨h1, h2⟩ := lateP_ok M
  have hr : ∀ x ∈ lateP M, (0 : Int) ≤ x ∧ x ≤ 11 := fun x hx => by
    obtain ⟨o, q1, q2, _⟩ := (h2 x).1 hx
    rw [← q2]
    exact h o q1
  have hn : ((lateP M).map Int.toNat).Nodup := by
    refine List.pairwise_map.2 (h1.imp_of_mem fun {a b} ha hb hab e => hab ?_)
    have := hr a ha
    have := hr b hb
    omega
  have := nodup_le (n := 12) hn (fun x hx => by
    obtain ⟨y, hy, rfl⟩ := List.mem_map.1 hx
    have := hr y hy
    omega)
  rw [List.length_map] at this
  exact this
theorem floorP_congr {L L' : List Rq} (h : L.map Rq.f = L'.map Rq.f) (slot rid : Int) : floorP L slot rid = floorP L' slot rid := by
  have key : ∀ (L : List Rq), floorP L slot rid = match (L.map Rq.f).find? (fun f => decide (f.slot = slot)) with
      | some f => if f.rid < rid then f.rid else rid
      | none => rid := by
    intro L
    unfold floorP
    rw [List.find?_map]
    show _ = match (L.find? (fun o => decide (o.f.slot = slot))).map Rq.f with
      | some f => if f.rid < rid then f.rid else rid
      | none => rid
    cases L.find? (fun o => decide (o.f.slot = slot)) <;> rfl
  rw [key, key, h]
theorem ticked_f (L : List Rq) (i : Nat) : (ticked L i).map Rq.f = L.map Rq.f := by
  unfold ticked
  rw [List.map_append, List.map_map]
  have : (Rq.f ∘ inc) = Rq.f := rfl
  rw [this, ← List.map_append, List.take_append_drop]
theorem ticked_len (L : List Rq) (i : Nat) : (ticked L i).length = L.length := by
  have := congrArg List.length (ticked_f L i)
  rw [List.length_map, List.length_map] at this
  exact this
theorem ticked_at (L : List Rq) {i : Nat} (h : i < L.length) : ticked L i = (L.take i).map inc ++ L.getD i noRq :: L.drop (i + 1) ∧ ticked L (i + 1) = (L.take i).map inc ++ inc (L.getD i noRq) :: L.drop (i + 1) ∧ L.take (i + 1) = L.take i ++ [L.getD i noRq] := by
  have hd : L.drop i = L.getD i noRq :: L.drop (i + 1) := by
    rw [List.drop_eq_getElem_cons h, List.getD_eq_getElem?_getD, List.getElem?_eq_getElem h]
    rfl
  have ht : L.take (i + 1) = L.take i ++ [L.getD i noRq] := by
    rw [List.take_add_one, List.getD_eq_getElem?_getD, List.getElem?_eq_getElem h]
    rfl
  refine ⟨?_, ?_, ht⟩
  · unfold ticked; rw [hd]
  · unfold ticked; rw [ht, List.map_append, List.append_assoc]; rfl
end Go.Proofs.Ytcpcajfmkmgjeaa
