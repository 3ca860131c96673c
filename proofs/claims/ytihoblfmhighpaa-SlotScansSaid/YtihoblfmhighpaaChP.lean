/- A hash table that grows by steps, plainly. Conditions: none. -/
import Derived.Test.YtihoblfmhighpaaTgB
namespace Go.Proofs.Ytihoblfmhighpaa
open Go.Dp
set_option linter.unusedSimpArgs false
set_option linter.unusedVariables false
set_option maxHeartbeats 2000000

abbrev En := List UInt8 × Nat
def En.cells (e : En) : List AV := [.str e.1, .int .i64 (.ofNat e.2)]
def hstep (h : Int) (b : UInt8) : Int := wr .u32 (wr .u32 ((BitVec.ofInt 32 h ^^^ BitVec.ofInt 32 (Int.ofNat b.toNat)).toNat : Nat) * Int.ofNat 16777619)
def hashI (key : List UInt8) : Int := key.foldl hstep (Int.ofNat 2166136261)
def hashN (key : List UInt8) : Nat := (hashI key).toNat
theorem wr_u32 (n : Int) : 0 ≤ wr .u32 n ∧ wr .u32 n < 4294967296 := by
  rw [wr_eq]
  simp [IntKind.wrap, IntKind.bits, IntKind.signed]
  omega
theorem fold_range (l : List UInt8) : ∀ h : Int, 0 ≤ h ∧ h < 4294967296 → 0 ≤ l.foldl hstep h ∧ l.foldl hstep h < 4294967296 := by
  induction l with
  | nil => exact fun h hh => hh
  | cons a l ih => exact fun h _ => ih _ (wr_u32 _)
theorem hashI_eq (key : List UInt8) : hashI key = .ofNat (hashN key) ∧ hashN key < 4294967296 := by
  have := fold_range key (Int.ofNat 2166136261) ⟨by decide, by decide⟩
  unfold hashN hashI
  refine ⟨?_, by omega⟩
  show _ = ((List.foldl hstep (Int.ofNat 2166136261) key).toNat : Int)
  omega

section
variable {α : Type}
theorem flat_set (x : List α) : ∀ (L : List (List α)) (i : Nat), i < L.length → ((L.set i x).flatten ++ L.getD i []).Perm (L.flatten ++ x)
  | [], i, h => by cases h
  | a :: L, 0, _ => by
    show ((x ++ L.flatten) ++ a).Perm ((a ++ L.flatten) ++ x)
    have h1 : ((x ++ L.flatten) ++ a).Perm (a ++ (x ++ L.flatten)) := List.perm_append_comm
    have h2 : (a ++ (x ++ L.flatten)).Perm (a ++ (L.flatten ++ x)) := List.perm_append_comm.append_left a
    rw [List.append_assoc a]
    exact h1.trans h2
  | a :: L, i + 1, h => by
    show ((a ++ (L.set i x).flatten) ++ L.getD i []).Perm ((a ++ L.flatten) ++ x)
    rw [List.append_assoc, List.append_assoc]
    exact (flat_set x L i (Nat.lt_of_succ_lt_succ h)).append_left a
theorem mem_flat {L : List (List α)} {e : α} : e ∈ L.flatten ↔ ∃ i, i < L.length ∧ e ∈ L.getD i [] := by
  rw [List.mem_flatten]
  constructor
  · rintro ⟨l, h1, h2⟩
    obtain ⟨i, hi, rfl⟩ := List.getElem_of_mem h1
    exact ⟨i, hi, by rw [List.getD_eq_getElem?_getD, List.getElem?_eq_getElem hi]; exact h2⟩
  · rintro ⟨i, hi, h2⟩
    rw [List.getD_eq_getElem?_getD, List.getElem?_eq_getElem hi] at h2
    exact ⟨_, List.getElem_mem hi, h2⟩
theorem getD_set {α : Type} (L : List α) (d x : α) (i j : Nat) : (L.set i x).getD j d = if i = j ∧ i < L.length then x else L.getD j d := by
  rw [List.getD_eq_getElem?_getD, List.getElem?_set, List.getD_eq_getElem?_getD]
  by_cases h : i = j
  · subst h
    by_cases h2 : i < L.length
    · simp [h2]
    · simp [h2]
  · simp [h]
theorem getD_out {α : Type} (L : List α) (d : α) (i : Nat) (h : ¬ i < L.length) : L.getD i d = d := by
  rw [List.getD_eq_getElem?_getD, List.getElem?_eq_none (Nat.le_of_not_lt h)]; rfl
end

structure ChP (bs os : List (List En)) (moved : Nat) (M : List En) : Prop where
  hn : 0 < bs.length
  ho : (os = [] ∧ moved = 0) ∨ moved < os.length
  pb : ∀ i e, e ∈ bs.getD i [] → hashN e.1 % bs.length = i ∧ (os ≠ [] → hashN e.1 % os.length < moved)
  po : ∀ i e, e ∈ os.getD i [] → hashN e.1 % os.length = i ∧ moved ≤ i
  pm : (bs.flatten ++ os.flatten).Perm M
  nd : (M.map (·.1)).Nodup

def inOld (os : List (List En)) (moved : Nat) (key : List UInt8) : Bool := decide (0 < os.length) && decide (moved ≤ hashN key % os.length)
def bkt (bs os : List (List En)) (moved : Nat) (key : List UInt8) : List En :=
  if inOld os moved key then os.getD (hashN key % os.length) [] else bs.getD (hashN key % bs.length) []

theorem ChP.mem {bs os : List (List En)} {moved : Nat} {M : List En} (h : ChP bs os moved M) (e : En) : e ∈ M ↔ e ∈ bkt bs os moved e.1 := by
  rw [← h.pm.mem_iff, List.mem_append, mem_flat, mem_flat]
  unfold bkt
  constructor
  · rintro (⟨i, hi, he⟩ | ⟨i, hi, he⟩)
    · obtain ⟨h1, h2⟩ := h.pb i e he
      have : inOld os moved e.1 = false := by
        unfold inOld
        by_cases h0 : 0 < os.length
        · have := h2 (by intro h; rw [h] at h0; cases h0)
          rw [decide_eq_true h0, decide_eq_false (by omega)]; rfl
        · rw [decide_eq_false h0]; rfl
      rw [this, if_neg (by decide), h1]
      exact he
    · obtain ⟨h1, h2⟩ := h.po i e he
      have : inOld os moved e.1 = true := by
        unfold inOld
        rw [decide_eq_true (show 0 < os.length by omega), decide_eq_true (by omega)]; rfl
      rw [this, if_pos rfl, h1]
      exact he
  · intro he
    split at he
    · rename_i hc
      right
      refine ⟨_, ?_, he⟩
      unfold inOld at hc
      rw [Bool.and_eq_true, decide_eq_true_eq] at hc
      exact Nat.mod_lt _ hc.1
    · exact .inl ⟨_, Nat.mod_lt _ h.hn, he⟩
theorem ChP.bnd {bs os : List (List En)} {moved : Nat} {M : List En} (h : ChP bs os moved M) (key : List UInt8) : ((bkt bs os moved key).map (·.1)).Nodup := by
  have h1 : ((bs.flatten ++ os.flatten).map (·.1)).Nodup := (h.pm.map _).nodup_iff.2 h.nd
  have sub : ∀ (L : List (List En)) (i : Nat), (L.getD i []).Sublist L.flatten := by
    intro L i
    by_cases hi : i < L.length
    · rw [List.getD_eq_getElem?_getD, List.getElem?_eq_getElem hi]
      exact List.sublist_flatten_of_mem (List.getElem_mem hi)
    · rw [getD_out _ _ _ hi]; exact List.nil_sublist _
  refine List.Sublist.nodup (List.Sublist.map _ ?_) h1
  unfold bkt
  split
  · exact (sub os _).trans (List.sublist_append_right _ _)
  · exact (sub bs _).trans (List.sublist_append_left _ _)

theorem ChP.turn {bs os : List (List En)} {moved : Nat} {M M' : List En} (h : ChP bs os moved M) (key : List UInt8) (b' : List En) (hb : ∀ e ∈ b', e ∈ bkt bs os moved key ∨ e.1 = key) (hp : (b' ++ M).Perm (bkt bs os moved key ++ M')) (hd : (M'.map (·.1)).Nodup) :
    (inOld os moved key = true → ChP bs (os.set (hashN key % os.length) b') moved M') ∧ (inOld os moved key = false → ChP (bs.set (hashN key % bs.length) b') os moved M') := by
  unfold bkt at hb hp
  constructor
  · intro hi
    rw [hi, if_pos rfl] at hp hb
    have hi' := hi
    unfold inOld at hi'
    rw [Bool.and_eq_true, decide_eq_true_eq, decide_eq_true_eq] at hi'
    obtain ⟨h0, hm⟩ := hi'
    have hlt := Nat.mod_lt (hashN key) h0
    have hne : os ≠ [] := by intro e; rw [e] at h0; cases h0
    have hne' : os.set (hashN key % os.length) b' ≠ [] := by intro e; have := congrArg List.length e; rw [List.length_set] at this; rw [this] at h0; cases h0
    refine ⟨h.hn, .inr (by rw [List.length_set]; omega), fun i e he => ?_, fun i e he => ?_, ?_, hd⟩
    · obtain ⟨h1, h2⟩ := h.pb i e he
      rw [List.length_set]
      exact ⟨h1, fun _ => h2 hne⟩
    · rw [List.length_set]
      rw [getD_set] at he
      split at he
      · rename_i hc
        rcases hb e he with h1 | h1
        · have := h.po _ e h1
          rw [← hc.1]
          exact ⟨this.1, hm⟩
        · rw [h1]
          exact ⟨hc.1, by rw [← hc.1]; exact hm⟩
      · exact h.po i e he
    · have q := flat_set b' os _ hlt
      generalize hbk : os.getD (hashN key % os.length) [] = bk at q hp
      refine (List.perm_append_left_iff bk).1 ?_
      have e1 : (bk ++ (bs.flatten ++ (os.set (hashN key % os.length) b').flatten)).Perm (bs.flatten ++ ((os.set (hashN key % os.length) b').flatten ++ bk)) := by
        rw [← List.append_assoc bs.flatten]; exact List.perm_append_comm
      refine e1.trans (List.Perm.trans (List.Perm.append_left _ q) ?_)
      rw [← List.append_assoc]
      exact (List.perm_append_comm.trans (List.Perm.append_left _ h.pm)).trans hp
  · intro hi
    rw [hi, if_neg (by decide)] at hp hb
    have hlt := Nat.mod_lt (hashN key) h.hn
    refine ⟨by rw [List.length_set]; exact h.hn, h.ho, fun i e he => ?_, fun i e he => h.po i e he, ?_, hd⟩
    · rw [List.length_set]
      rw [getD_set] at he
      split at he
      · rename_i hc
        rcases hb e he with h1 | h1
        · have := h.pb _ e h1
          rw [← hc.1]
          exact this
        · rw [h1]
          refine ⟨hc.1, fun hne => ?_⟩
          have h0 : 0 < os.length := by
            cases os with
            | nil => exact absurd rfl hne
            | cons a l => exact Nat.succ_pos _
          unfold inOld at hi
          rw [decide_eq_true h0, Bool.true_and, decide_eq_false_iff_not] at hi
          omega
      · exact h.pb i e he
    · have q := flat_set b' bs _ hlt
      generalize hbk : bs.getD (hashN key % bs.length) [] = bk at q hp
      refine (List.perm_append_left_iff bk).1 ?_
      have e1 : (bk ++ ((bs.set (hashN key % bs.length) b').flatten ++ os.flatten)).Perm (((bs.set (hashN key % bs.length) b').flatten ++ bk) ++ os.flatten) := by
        rw [← List.append_assoc]; exact List.Perm.append_right _ List.perm_append_comm
      refine e1.trans ((List.Perm.append_right _ q).trans ?_)
      have e2 : ((bs.flatten ++ b') ++ os.flatten).Perm (b' ++ (bs.flatten ++ os.flatten)) := by
        rw [← List.append_assoc]; exact List.Perm.append_right _ List.perm_append_comm
      exact e2.trans ((List.Perm.append_left _ h.pm).trans hp)

structure ChM (bs os : List (List En)) (moved : Nat) (l : List En) (M : List En) : Prop where
  hn : 0 < bs.length
  ho : moved < os.length
  pb : ∀ i e, e ∈ bs.getD i [] → hashN e.1 % bs.length = i ∧ hashN e.1 % os.length < moved + 1
  po : ∀ i e, e ∈ os.getD i [] → hashN e.1 % os.length = i ∧ moved + 1 ≤ i
  pl : ∀ e ∈ l, hashN e.1 % os.length = moved
  pm : ((bs.flatten ++ l) ++ os.flatten).Perm M
  nd : (M.map (·.1)).Nodup
theorem ChP.begin {bs os : List (List En)} {moved : Nat} {M : List En} (h : ChP bs os moved M) (h0 : moved < os.length) : ChM bs (os.set moved []) moved (os.getD moved []) M := by
  have hne : os ≠ [] := by intro e; rw [e] at h0; cases h0
  refine ⟨h.hn, by rw [List.length_set]; exact h0, fun i e he => ?_, fun i e he => ?_, fun e he => ?_, ?_, h.nd⟩
  · rw [List.length_set]
    obtain ⟨h1, h2⟩ := h.pb i e he
    exact ⟨h1, Nat.lt_succ_of_lt (h2 hne)⟩
  · rw [List.length_set]
    rw [getD_set] at he
    split at he
    · cases he
    · rename_i hc
      obtain ⟨h1, h2⟩ := h.po i e he
      refine ⟨h1, ?_⟩
      have : moved ≠ i := fun e => hc ⟨e, h0⟩
      omega
  · rw [List.length_set]
    exact (h.po _ e he).1
  · have q := flat_set [] os moved h0
    rw [List.append_nil] at q
    rw [List.append_assoc]
    exact (List.Perm.append_left _ (List.perm_append_comm.trans q)).trans h.pm
theorem ChM.next {bs os : List (List En)} {moved : Nat} {e : En} {l : List En} {M : List En} (h : ChM bs os moved (e :: l) M) : ChM (bs.set (hashN e.1 % bs.length) (bs.getD (hashN e.1 % bs.length) [] ++ [e])) os moved l M := by
  have hlt := Nat.mod_lt (hashN e.1) h.hn
  refine ⟨by rw [List.length_set]; exact h.hn, h.ho, fun i x hx => ?_, h.po, fun x hx => h.pl x (List.mem_cons_of_mem _ hx), ?_, h.nd⟩
  · rw [List.length_set]
    rw [getD_set] at hx
    split at hx
    · rename_i hc
      rw [List.mem_append, List.mem_singleton] at hx
      rcases hx with hx | hx
      · have := h.pb _ x hx
        exact ⟨by rw [this.1]; exact hc.1, this.2⟩
      · subst hx
        exact ⟨hc.1, by have := h.pl x (List.mem_cons_self ..); omega⟩
    · exact h.pb i x hx
  · have q := flat_set (bs.getD (hashN e.1 % bs.length) [] ++ [e]) bs _ hlt
    generalize bs.getD (hashN e.1 % bs.length) [] = bk at q ⊢
    have q2 : ((bs.set (hashN e.1 % bs.length) (bk ++ [e])).flatten).Perm (bs.flatten ++ [e]) := by
      refine (List.perm_append_left_iff bk).1 ((List.perm_append_comm.trans q).trans ?_)
      have : (bs.flatten ++ (bk ++ [e])).Perm ((bk ++ [e]) ++ bs.flatten) := List.perm_append_comm
      refine this.trans ?_
      rw [List.append_assoc]
      exact List.Perm.append_left _ List.perm_append_comm
    have e1 : bs.flatten ++ e :: l = (bs.flatten ++ [e]) ++ l := by rw [List.append_assoc]; rfl
    refine List.Perm.trans (List.Perm.append_right _ (List.Perm.append_right _ q2)) ?_
    rw [← e1]
    exact h.pm
theorem ChM.end_ {bs os : List (List En)} {moved : Nat} {M : List En} (h : ChM bs os moved [] M) : (moved + 1 < os.length → ChP bs os (moved + 1) M) ∧ (moved + 1 = os.length → ChP bs [] 0 M) := by
  have pm := h.pm
  rw [List.append_nil] at pm
  constructor
  · intro hl
    exact ⟨h.hn, .inr hl, fun i e he => ⟨(h.pb i e he).1, fun _ => (h.pb i e he).2⟩, h.po, pm, h.nd⟩
  · intro hl
    have : os.flatten = [] := by
      rw [List.eq_nil_iff_forall_not_mem]
      intro e he
      obtain ⟨i, hi, he⟩ := mem_flat.1 he
      have := (h.po i e he).2
      omega
    rw [this] at pm
    exact ⟨h.hn, .inl ⟨rfl, rfl⟩, fun i e he => ⟨(h.pb i e he).1, fun hn => absurd rfl hn⟩, fun i e he => (by cases he), pm, h.nd⟩
theorem ChP.grow {bs : List (List En)} {M : List En} (h : ChP bs [] 0 M) (n : Nat) (hn : 0 < n) : ChP (List.replicate n []) bs 0 M := by
  have hr : ∀ i, (List.replicate n ([] : List En)).getD i [] = [] := by
    intro i
    rw [List.getD_eq_getElem?_getD, List.getElem?_replicate]
    split <;> rfl
  refine ⟨by rw [List.length_replicate]; exact hn, .inr h.hn, fun i e he => ?_, fun i e he => ⟨(h.pb i e he).1, Nat.zero_le _⟩, ?_, h.nd⟩
  · rw [hr] at he; cases he
  · have : (List.replicate n ([] : List En)).flatten = [] := by
      rw [List.eq_nil_iff_forall_not_mem]
      intro e he
      obtain ⟨i, hi, he⟩ := mem_flat.1 he
      rw [hr] at he; cases he
    rw [this, List.nil_append]
    have := h.pm
    rw [List.flatten_nil, List.append_nil] at this
    exact this
theorem ChP.new : ChP [[], [], [], []] [] 0 [] := by
  have hr : ∀ i, ([[], [], [], []] : List (List En)).getD i [] = [] := fun i => match i with
    | 0 => rfl | 1 => rfl | 2 => rfl | 3 => rfl | (n + 4) => rfl
  exact ⟨by decide, .inl ⟨rfl, rfl⟩, fun i e he => by rw [hr] at he; (cases he), fun i e he => (by cases he), List.Perm.refl _, List.nodup_nil⟩
theorem ChP.perm {bs os : List (List En)} {moved : Nat} {M M' : List En} (h : ChP bs os moved M) (hp : M.Perm M') : ChP bs os moved M' := ⟨h.hn, h.ho, h.pb, h.po, h.pm.trans hp, (hp.map _).nodup_iff.1 h.nd⟩

theorem at_key {b : List En} {key : List UInt8} {i : Nat} (hi : i < b.length) (hk : (b.getD i ([], 0)).1 = key) (hd : (b.map (·.1)).Nodup) : ∀ x, (key, x) ∈ b ↔ x = (b.getD i ([], 0)).2 := by
  intro x
  have hm : b.getD i ([], 0) ∈ b := by
    rw [List.getD_eq_getElem?_getD, List.getElem?_eq_getElem hi]; exact List.getElem_mem hi
  constructor
  · intro hx
    have : ∀ (l : List En), (l.map (·.1)).Nodup → ∀ a ∈ l, ∀ c ∈ l, a.1 = c.1 → a = c := by
      intro l
      induction l with
      | nil => intro _ a ha; cases ha
      | cons y l ih =>
        intro hn a ha c hc hac
        rw [List.map_cons, List.nodup_cons] at hn
        rcases List.mem_cons.1 ha with rfl | ha'
        · rcases List.mem_cons.1 hc with rfl | hc'
          · rfl
          · exact absurd (List.mem_map.2 ⟨c, hc', hac.symm⟩ : a.1 ∈ l.map (·.1)) hn.1
        · rcases List.mem_cons.1 hc with rfl | hc'
          · exact absurd (List.mem_map.2 ⟨a, ha', hac⟩ : c.1 ∈ l.map (·.1)) hn.1
          · exact ih hn.2 a ha' c hc' hac
    have := this b hd _ hx _ hm hk.symm
    rw [← this]
  · intro hx
    rw [hx, ← hk]
    exact hm
theorem drop_perm (b : List En) (i : Nat) (hi : i < b.length) : (((b.set i (b.getD (b.length - 1) ([], 0))).take (b.length - 1)) ++ [b.getD i ([], 0)]).Perm b := by
  have hlast : b = b.take (b.length - 1) ++ [b.getD (b.length - 1) ([], 0)] := by
    conv => lhs; rw [← List.take_append_drop (b.length - 1) b]
    congr 1
    rw [List.drop_eq_getElem_cons (by omega), List.getD_eq_getElem?_getD, List.getElem?_eq_getElem (by omega), List.drop_of_length_le (by omega)]
    rfl
  by_cases h : i = b.length - 1
  · rw [List.take_set_of_le (by omega), h]
    exact .of_eq hlast.symm
  · have h2 : i < (b.take (b.length - 1)).length := by rw [List.length_take]; omega
    have e : b.getD i ([], 0) = (b.take (b.length - 1)).getD i ([], 0) := by
      rw [List.getD_eq_getElem?_getD, List.getD_eq_getElem?_getD, List.getElem?_take_of_lt (by omega)]
    conv => rhs; rw [hlast]
    rw [e, List.take_set]
    generalize b.getD (b.length - 1) ([], 0) = z
    generalize b.take (b.length - 1) = c at h2 ⊢
    have : ∀ (c : List En) (i : Nat), i < c.length → (c.set i z ++ [c.getD i ([], 0)]).Perm (c ++ [z]) := by
      intro c
      induction c with
      | nil => intro i h; cases h
      | cons a c ih =>
        intro i hi
        cases i with
        | zero =>
          show (z :: (c ++ [a])).Perm (a :: (c ++ [z]))
          have h1 : (z :: (c ++ [a])).Perm ((c ++ [a]) ++ [z]) := (List.perm_append_comm (l₁ := [z]))
          have h2 : ((c ++ [a]) ++ [z]).Perm (([a] ++ c) ++ [z]) := List.Perm.append_right _ List.perm_append_comm
          exact h1.trans h2
        | succ i => exact (ih i (Nat.lt_of_succ_lt_succ hi)).cons a
    exact this c i h2
end Go.Proofs.Ytihoblfmhighpaa
