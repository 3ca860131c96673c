/- A region that draws its order: what a plan keeps. Conditions: none. -/
import Derived.Test.YtkjmelfgopammaaQqT
import Derived.Orders
namespace Go.Dp
open Go.RowKit

theorem has_iff {l : List Nat} {x : Nat} : has l x = true ↔ x ∈ l := by
  induction l with
  | nil => simp [has]
  | cons y l ih => simp [has, nbeq, ih]

theorem dstIs_iff {os : List PO} {i t : Nat} : dstIs os i t = true ↔ (opAt os i).dst = some t := by
  unfold dstIs
  split
  · rename_i d h; rw [h, nbeq]; simp
  · rename_i h; rw [h]; simp

theorem getD_set (l : List AV) (d : Nat) (v : AV) (t : Nat) : (l.set d v).getD t .undef = if d = t ∧ t < l.length then v else l.getD t .undef := by
  rw [List.getD_eq_getElem?_getD, List.getD_eq_getElem?_getD, List.getElem?_set]
  by_cases h : d = t
  · subst h
    by_cases h2 : d < l.length
    · simp [h2]
    · simp [h2]
  · simp [h]

theorem setD_len (fr : List AV) (d : Option Nat) (v : AV) : (setD fr d v).length = fr.length := by cases d <;> simp [setD]
theorem setD_get (fr : List AV) (d : Option Nat) (v : AV) (t : Nat) : (setD fr d v).getD t .undef = if d = some t ∧ t < fr.length then v else fr.getD t .undef := by
  cases d with
  | none => simp [setD]
  | some d => simp only [setD, getD_set, Option.some.injEq]

/-- A step's parts. -/
theorem step_inv {cal : Cal} {o : PO} {fr fr' : List AV} {H H' : Heap} (h : step cal o fr H = some (fr', H')) :
    (wanted fr o.guard = some false ∧ fr' = setD fr o.dst (.tup []) ∧ H' = H) ∨ (∃ v, wanted fr o.guard = some true ∧ evalO cal fr H o.op = some (v, H') ∧ fr' = setD fr o.dst v) := by
  unfold step at h
  split at h
  · rename_i w hw
    cases w with
    | false => simp only [cond_false] at h; cases h; exact .inl ⟨hw, rfl, rfl⟩
    | true =>
      simp only [cond_true] at h
      unfold putR at h
      split at h
      · rename_i v H'' he; cases h; exact .inr ⟨v, hw, he, rfl⟩
      · cases h
  · cases h

theorem again_inv {o : PO} {fr fr' : List AV} {H H' : Heap} (h : again o fr H = some (fr', H')) : fr' = fr ∧ H' = H ∧ ∃ p d w, o.op = .r p ∧ o.dst = some d ∧ wanted fr o.guard = some w ∧ (w = true → evalR fr H p = some (fr.getD d .undef)) := by
  unfold again at h
  split at h
  · rename_i p hp
    split at h
    · rename_i d hd
      split at h
      · rename_i w hw
        cases w with
        | false => simp only [cond_false] at h; cases h; exact ⟨rfl, rfl, p, d, false, hp, hd, hw, fun h => by cases h⟩
        | true =>
          simp only [cond_true] at h
          unfold againR at h
          split at h
          · rename_i v hv
            cases hs : sameV v (fr.getD d .undef) with
            | false => rw [hs] at h; cases h
            | true =>
              rw [hs] at h
              cases h
              exact ⟨rfl, rfl, p, d, true, hp, hd, hw, fun _ => by rw [hv, sameV_eq hs]⟩
          · cases h
      · cases h
    · cases h
  · cases h

section
variable {os : List PO} {cal : Cal}

theorem steps_op {x : Nat} {r : List PIt} {fr frF : List AV} {H HF : Heap} (h : steps cal ((PIt.op x :: r).map (toIt os)) fr H = some (frF, HF)) : ∃ fr1 H1, step cal (opAt os x) fr H = some (fr1, H1) ∧ steps cal (r.map (toIt os)) fr1 H1 = some (frF, HF) := by
  rw [List.map_cons, steps_cons] at h
  unfold thenDo at h
  split at h
  · rename_i fr1 H1 h1; exact ⟨fr1, H1, h1, h⟩
  · cases h

theorem steps_again {x : Nat} {r : List PIt} {fr frF : List AV} {H HF : Heap} (h : steps cal ((PIt.again x :: r).map (toIt os)) fr H = some (frF, HF)) : again (opAt os x) fr H = some (fr, H) ∧ steps cal (r.map (toIt os)) fr H = some (frF, HF) := by
  rw [List.map_cons, steps_cons] at h
  unfold thenDo at h
  split at h
  · rename_i fr1 H1 h1
    have h1' : again (opAt os x) fr H = some (fr1, H1) := h1
    obtain ⟨rfl, rfl, _⟩ := again_inv h1'
    exact ⟨h1', h⟩
  · cases h

theorem step_keeps {o : PO} {fr fr' : List AV} {H H' : Heap} (h : step cal o fr H = some (fr', H')) : fr'.length = fr.length ∧ ∀ t, o.dst ≠ some t → fr'.getD t .undef = fr.getD t .undef := by
  rcases step_inv h with ⟨_, rfl, _⟩ | ⟨v, _, _, rfl⟩
  · exact ⟨setD_len _ _ _, fun t ht => by rw [setD_get, if_neg (fun h => ht h.1)]⟩
  · exact ⟨setD_len _ _ _, fun t ht => by rw [setD_get, if_neg (fun h => ht h.1)]⟩

/-- What later operations don't write stays. -/
theorem steps_keeps : ∀ {r : List PIt} {fr frF : List AV} {H HF : Heap}, steps cal (r.map (toIt os)) fr H = some (frF, HF) → frF.length = fr.length ∧ ∀ t, (∀ x ∈ PIt.ops r, (opAt os x).dst ≠ some t) → frF.getD t .undef = fr.getD t .undef
  | [], fr, frF, H, HF, h => by rw [List.map_nil, steps_nil] at h; cases h; exact ⟨rfl, fun _ _ => rfl⟩
  | .op x :: r, fr, frF, H, HF, h => by
    obtain ⟨fr1, H1, h1, h2⟩ := steps_op h
    obtain ⟨k1, k2⟩ := step_keeps h1
    obtain ⟨k3, k4⟩ := steps_keeps h2
    refine ⟨k3.trans k1, fun t ht => ?_⟩
    rw [k4 t fun y hy => ht y (by simp [PIt.ops, hy]), k2 t (ht x (by simp [PIt.ops]))]
  | .again x :: r, fr, frF, H, HF, h => by
    obtain ⟨_, h2⟩ := steps_again h
    have k := steps_keeps (r := r) h2
    exact ⟨k.1, fun t ht => k.2 t ht⟩

theorem agains_run : ∀ {r : List PIt} {fr frF : List AV} {H HF : Heap}, steps cal (r.map (toIt os)) fr H = some (frF, HF) → ∀ y ∈ PIt.agains r, again (opAt os y) fr H = some (fr, H)
  | [], _, _, _, _, _, y, hy => by simp [PIt.agains] at hy
  | .op x :: r, _, _, _, _, _, y, hy => by simp [PIt.agains] at hy
  | .again x :: r, fr, frF, H, HF, h, y, hy => by
    obtain ⟨h1, h2⟩ := steps_again h
    simp only [PIt.agains, List.mem_cons] at hy
    rcases hy with rfl | hy
    · exact h1
    · exact agains_run h2 y hy
end

/-- A frame laid over another at some slots. -/
def ov (fr0 frF : List AV) (p : Nat → Bool) : List AV := (List.range fr0.length).map fun t => bif p t then frF.getD t .undef else fr0.getD t .undef

theorem ov_len (fr0 frF : List AV) (p : Nat → Bool) : (ov fr0 frF p).length = fr0.length := by simp [ov]
theorem ov_get {fr0 frF : List AV} (h : frF.length = fr0.length) (p : Nat → Bool) (t : Nat) : (ov fr0 frF p).getD t .undef = bif p t then frF.getD t .undef else fr0.getD t .undef := by
  unfold ov
  rw [List.getD_eq_getElem?_getD, List.getElem?_map]
  by_cases ht : t < fr0.length
  · rw [List.getElem?_range ht]; rfl
  · rw [List.getElem?_eq_none (by simpa using ht)]
    have e1 : frF.getD t .undef = .undef := by rw [List.getD_eq_getElem?_getD, List.getElem?_eq_none (by omega)]; rfl
    have e2 : fr0.getD t .undef = .undef := by rw [List.getD_eq_getElem?_getD, List.getElem?_eq_none (by omega)]; rfl
    rw [e1, e2]
    cases p t <;> rfl

section
variable (os : List PO) (ds : List (List Nat))

/-- All that an operation waits for lies ahead of it. -/
def POK : List Nat → Prop
  | [] => True
  | x :: P => (∀ d ∈ dirs ds x, d ∈ P) ∧ POK P

/-- What holds of a plan's done part. -/
structure St (P : List Nat) : Prop where
  lt : ∀ x ∈ P, x < os.length
  pair : ∀ x ∈ P, ∀ y ∈ P, x ≠ y → ∀ t, (opAt os y).dst = some t → t ∈ (opAt os x).tm → y ∈ dirs ds x ∨ x ∈ cl os ds y
  uniq : ∀ x ∈ P, ∀ y ∈ P, x ≠ y → ∀ d, (opAt os x).dst = some d → (opAt os y).dst ≠ some d
  ord : POK ds P

theorem POK.waits {P : List Nat} (h : POK ds P) : ∀ x ∈ P, ∀ d ∈ dirs ds x, d ∈ P := by
  induction P with
  | nil => intro x hx; cases hx
  | cons y P ih =>
    intro x hx d hd
    rcases List.mem_cons.1 hx with rfl | hx
    · exact List.mem_cons_of_mem _ (h.1 d hd)
    · exact List.mem_cons_of_mem _ (ih h.2 x hx d hd)

/-- The parts of a plan's check. -/
structure ChkOp (P : List Nat) (x : Nat) (r : List PIt) : Prop where
  lt : x < os.length
  new : x ∉ P
  ahead : ∀ d ∈ dirs ds x, d ∈ P
  reads : ∀ y ∈ P, ∀ t, (opAt os y).dst = some t → t ∈ (opAt os x).tm → y ∈ dirs ds x
  read : ∀ y ∈ P, ∀ t, (opAt os x).dst = some t → t ∈ (opAt os y).tm → y ∈ cl os ds x
  uniq : ∀ y ∈ P, ∀ d, (opAt os y).dst = some d → (opAt os x).dst ≠ some d
  behind : (opAt os x).op.isE = true → ∀ z ∈ PIt.ops r, ∃ d ∈ dirs ds z, d = x ∨ d ∈ PIt.ops r
  again : (opAt os x).op.isE = true → ∀ y ∈ P, (opAt os y).op.reads = true → y ∈ cl os ds x ∨ y ∈ PIt.agains r
  rest : chk os ds (x :: P) r = true

theorem chk_op {P : List Nat} {x : Nat} {r : List PIt} (h : chk os ds P (.op x :: r) = true) : ChkOp os ds P x r := by
  simp only [chk, Bool.and_eq_true, nblt, decide_eq_true_eq, Bool.not_eq_true', List.all_eq_true, Bool.or_eq_true, has_iff] at h
  obtain ⟨⟨⟨⟨⟨⟨⟨h1, h2⟩, h3⟩, h4⟩, h5⟩, h6⟩, h7⟩, h8⟩ := h
  refine ⟨h1, fun hm => (by rw [has_iff.2 hm] at h2; cases h2), h3, fun y hy t ht hm => ?_, fun y hy t ht hm => ?_, fun y hy d hd hx => ?_, fun he z hz => ?_, fun he y hy hr => ?_, h8⟩
  · rcases h4 y hy with h | h
    · exfalso
      have := List.any_eq_false.1 h t hm
      exact this (dstIs_iff.2 ht)
    · exact h
  · rcases h5 y hy with h | h
    · exfalso
      have := List.any_eq_false.1 h t hm
      exact this (dstIs_iff.2 ht)
    · exact h
  · have := h6 y hy
    rw [hd] at this
    simp only [Bool.not_eq_true'] at this
    rw [dstIs_iff.2 hx] at this
    cases this
  · rw [he] at h7
    simp only [cond_true, Bool.and_eq_true, List.all_eq_true] at h7
    obtain ⟨d, hd, hh⟩ := List.any_eq_true.1 (h7.1 z hz)
    simp only [Bool.or_eq_true, nbeq, decide_eq_true_eq, has_iff] at hh
    exact ⟨d, hd, hh⟩
  · rw [he] at h7
    simp only [cond_true, Bool.and_eq_true, List.all_eq_true, Bool.or_eq_true, Bool.not_eq_true', has_iff] at h7
    rcases h7.2 y hy with h | h
    · rw [hr] at h; cases h
    · exact h

theorem chk_again {P : List Nat} {y : Nat} {r : List PIt} (h : chk os ds P (.again y :: r) = true) : y ∈ P ∧ (∀ z ∈ P, ∀ t, (opAt os z).dst = some t → t ∈ (opAt os y).tm → z ∈ dirs ds y) ∧ chk os ds P r = true := by
  simp only [chk, Bool.and_eq_true, List.all_eq_true, Bool.or_eq_true, Bool.not_eq_true', has_iff] at h
  refine ⟨h.1.1, fun z hz t ht hm => ?_, h.2⟩
  rcases h.1.2 z hz with h | h
  · exfalso
    have := List.any_eq_false.1 h t hm
    exact this (dstIs_iff.2 ht)
  · exact h

theorem chk_agains : ∀ {P : List Nat} {r : List PIt}, chk os ds P r = true → ∀ y ∈ PIt.agains r, y ∈ P ∧ ∀ z ∈ P, ∀ t, (opAt os z).dst = some t → t ∈ (opAt os y).tm → z ∈ dirs ds y
  | P, [], _, y, hy => by simp [PIt.agains] at hy
  | P, .op _ :: _, _, y, hy => by simp [PIt.agains] at hy
  | P, .again x :: r, h, y, hy => by
    obtain ⟨h1, h2, h3⟩ := chk_again os ds h
    simp only [PIt.agains, List.mem_cons] at hy
    rcases hy with rfl | hy
    · exact ⟨h1, h2⟩
    · exact chk_agains h3 y hy

/-- What was written is not written again. -/
theorem chk_future : ∀ {P : List Nat} {r : List PIt}, chk os ds P r = true → ∀ z ∈ PIt.ops r, ∀ y ∈ P, ∀ t, (opAt os y).dst = some t → (opAt os z).dst ≠ some t
  | P, [], _, z, hz => by simp [PIt.ops] at hz
  | P, .again x :: r, h, z, hz => chk_future (chk_again os ds h).2.2 z hz
  | P, .op x :: r, h, z, hz => by
    intro y hy t ht
    have K := chk_op os ds h
    simp only [PIt.ops, List.mem_cons] at hz
    rcases hz with rfl | hz
    · exact K.uniq y hy t ht
    · exact chk_future K.rest z hz y (List.mem_cons_of_mem _ hy) t ht

theorem chk_fresh : ∀ {P : List Nat} {r : List PIt}, chk os ds P r = true → ∀ z ∈ PIt.ops r, z ∉ P
  | P, [], _, z, hz => by simp [PIt.ops] at hz
  | P, .again x :: r, h, z, hz => chk_fresh (chk_again os ds h).2.2 z hz
  | P, .op x :: r, h, z, hz => by
    have K := chk_op os ds h
    simp only [PIt.ops, List.mem_cons] at hz
    rcases hz with rfl | hz
    · exact K.new
    · exact fun hm => chk_fresh K.rest z hz (List.mem_cons_of_mem _ hm)

theorem chk_all : ∀ {P : List Nat}, chk os ds P [] = true → ∀ i, i < os.length → i ∈ P := by
  intro P h i hi
  simp only [chk, List.all_eq_true, has_iff] at h
  exact h i (List.mem_range.2 hi)

theorem St.cons {P : List Nat} {x : Nat} {r : List PIt} (h : St os ds P) (K : ChkOp os ds P x r) : St os ds (x :: P) := by
  refine ⟨fun z hz => ?_, fun u hu v hv hne t ht hm => ?_, fun u hu v hv hne d hd => ?_, K.ahead, h.ord⟩
  · rcases List.mem_cons.1 hz with rfl | hz
    · exact K.lt
    · exact h.lt z hz
  · rcases List.mem_cons.1 hu with rfl | hu' <;> rcases List.mem_cons.1 hv with rfl | hv'
    · exact absurd rfl hne
    · exact .inl (K.reads v hv' t ht hm)
    · exact .inr (K.read u hu' t ht hm)
    · exact h.pair u hu' v hv' hne t ht hm
  · rcases List.mem_cons.1 hu with rfl | hu' <;> rcases List.mem_cons.1 hv with rfl | hv'
    · exact absurd rfl hne
    · exact fun he => K.uniq v hv' d he hd
    · exact K.uniq u hu' d hd
    · exact h.uniq u hu' v hv' hne d hd

/-- What an operation waits for, near and far, is done with it. -/
theorem closeOver_on {S : Nat → Prop} (hd : ∀ x, S x → ∀ d ∈ dirs ds x, S d) : ∀ (r l : List Nat), (∀ x ∈ l, S x) → ∀ x ∈ closeOver ds l r, S x
  | [], l, h => h
  | z :: r, l, h => by
    refine closeOver_on hd r _ ?_
    cases hz : has l z with
    | false => exact h
    | true =>
      intro x hx
      rcases List.mem_append.1 hx with hx | hx
      · exact h x hx
      · exact hd z (h z (has_iff.1 hz)) x hx

theorem cl_on {S : Nat → Prop} (hd : ∀ x, S x → ∀ d ∈ dirs ds x, S d) {x : Nat} (hx : S x) : ∀ y ∈ cl os ds x, S y := closeOver_on ds hd _ _ (hd x hx)

/-- Of what is not done something can be done now. -/
theorem POK.next {S : Nat → Prop} : ∀ {P : List Nat}, POK ds P → (∃ x ∈ P, ¬ S x) → ∃ x ∈ P, ¬ S x ∧ ∀ d ∈ dirs ds x, S d
  | [], _, ⟨x, hx, _⟩ => by cases hx
  | x :: P, h, he => by
    by_cases hP : ∃ y ∈ P, ¬ S y
    · obtain ⟨y, hy, h1, h2⟩ := POK.next h.2 hP
      exact ⟨y, List.mem_cons_of_mem _ hy, h1, h2⟩
    · have hall : ∀ y ∈ P, S y := fun y hy => Classical.byContradiction fun hn => hP ⟨y, hy, hn⟩
      obtain ⟨y, hy, hn⟩ := he
      rcases List.mem_cons.1 hy with rfl | hy
      · exact ⟨y, List.mem_cons_self, hn, fun d hd => hall d (h.1 d hd)⟩
      · exact absurd (hall y hy) hn
end

end Go.Dp
