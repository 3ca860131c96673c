/- What an operation looks at: the slots; the heap. Conditions: none. -/
import Derived.Test.YtkjmelfgopammaaQqS
namespace Go.Dp
open Go.RowKit

/-- Two frames agree at slots. -/
def Ag (ts : List Nat) (fr fr' : List AV) : Prop := ∀ i ∈ ts, fr.getD i .undef = fr'.getD i .undef

theorem Ag.left {s t : List Nat} {fr fr' : List AV} (h : Ag (s ++ t) fr fr') : Ag s fr fr' := fun i hi => h i (List.mem_append_left _ hi)
theorem Ag.right {s t : List Nat} {fr fr' : List AV} (h : Ag (s ++ t) fr fr') : Ag t fr fr' := fun i hi => h i (List.mem_append_right _ hi)

section
variable {fr fr' : List AV}
theorem Ag.x {x : X} (h : Ag x.tm fr fr') : x.ev fr = x.ev fr' := by
  cases x with
  | t i => exact h i (by simp [X.tm])
  | c v => rfl
theorem Ag.xs : ∀ {xs : List X}, Ag (X.tms xs) fr fr' → xs.map (X.ev fr) = xs.map (X.ev fr')
  | [], _ => rfl
  | x :: xs, h => by rw [List.map_cons, List.map_cons, Ag.x (Ag.left h), Ag.xs (Ag.right h)]
theorem Ag.lay : ∀ {ps : List (Nat × Nat × X)} {cs : List AV}, Ag (X.tmp ps) fr fr' → lay fr cs ps = lay fr' cs ps
  | [], _, _ => rfl
  | (o, n, x) :: ps, cs, h => by
    simp only [Dp.lay]
    rw [Ag.x (Ag.left h), Ag.lay (ps := ps) (Ag.right h)]
theorem Ag.mms {mx : Bool} : ∀ {xs : List X} {v : AV}, Ag (X.tms xs) fr fr' → mms mx fr v xs = mms mx fr' v xs
  | [], _, _ => rfl
  | x :: xs, v, h => by
    simp only [Dp.mms]
    rw [Ag.x (Ag.left h)]
    split
    · exact Ag.mms (Ag.right h)
    · rfl
theorem Ag.bnds {len m : Nat} {lo hi : Option X} (h1 : Ag (Xo.tm lo) fr fr') (h2 : Ag (Xo.tm hi) fr fr') : bnds fr len m lo hi = bnds fr' len m lo hi := by
  unfold Dp.bnds
  cases lo <;> cases hi <;> simp only [Xo.tm] at h1 h2
  · rfl
  · simp only [Ag.x h2]
  · simp only [Ag.x h1]
  · simp only [Ag.x h2, Ag.x h1]

theorem evalR_congr {p : PR} (H : Heap) (h : Ag p.tm fr fr') : evalR fr H p = evalR fr' H p := by
  cases p <;> simp only [PR.tm] at h <;> simp only [evalR]
  case build z ps => rw [h.lay]
  case slstr x lo hi => rw [h.left.x]; unfold rSlstr; split <;> first | rfl | rw [Ag.bnds h.right.left h.right.right]
  case slsl sz x lo hi mx =>
    rw [h.left.x]
    unfold rSlsl
    have hb : ∀ len m, Dp.bnds fr len m lo hi = Dp.bnds fr' len m lo hi := fun len m => Ag.bnds h.right.left h.right.right.left
    have h3 : ∀ len m u, rSl3 fr len m lo hi u = rSl3 fr' len m lo hi u := fun len m u => by unfold rSl3; simp only [hb]
    cases mx with
    | none => simp only [hb]
    | some u =>
      have hu : u.ev fr = u.ev fr' := Ag.x h.right.right.right
      simp only [h3, hu]
  case slarr n sz x lo hi => rw [h.left.x]; unfold rSlarr; simp only [Ag.bnds h.right.left h.right.right]
  case minmax mx xs =>
    unfold rMm
    cases xs with
    | nil => rfl
    | cons x xs => simp only [X.tms] at h; simp only []; rw [h.left.x, h.right.mms]
  case mkfn f xs => rw [h.xs]
  all_goals first | rfl | rw [h.x] | rw [h.left.x, h.right.x] | rw [h.left.x, h.right.left.x, h.right.right.x]

theorem evalN_congr {p : PN} (h : Ag p.tm fr fr') : evalN fr p = evalN fr' p := by
  cases p <;> simp only [PN.tm] at h <;> simp only [evalN]
  case bslice => rw [h.lay]
  all_goals first | rw [h.x] | rw [h.left.x, h.right.x]

theorem evalE_congr {p : PE} {cal : Cal} (H : Heap) (h : Ag p.tm fr fr') : evalE cal fr H p = evalE cal fr' H p := by
  cases p <;> simp only [PE.tm] at h <;> simp only [evalE]
  case call => rw [h.xs]
  case callv => rw [h.left.x, h.right.xs]
  all_goals first | rw [h.x] | rw [h.left.x, h.right.x] | rw [h.left.x, h.right.left.x, h.right.right.x]

theorem wanted_congr {g : Option (Nat × Bool)} (h : Ag (guardTm g) fr fr') : wanted fr g = wanted fr' g := by
  cases g with
  | none => rfl
  | some q =>
    obtain ⟨g, w⟩ := q
    simp only [wanted]
    rw [h g (by simp [guardTm])]
end

/-- A heap that has at least the blocks of another. -/
def HLe (H H' : Heap) : Prop := ∀ b x, H.get b = some x → H'.get b = some x

section
variable {H H' : Heap}
theorem HLe.new (h : H.get H.next = none) (x : Blk) : HLe H (H.new x) := by
  intro b y hy
  rw [Heap.get_new]
  by_cases e : b = H.next
  · subst e; rw [h] at hy; cases hy
  · rw [if_neg e]; exact hy

theorem HLe.ld (h : HLe H H') {b o n : Nat} {l : List AV} (hl : H.ld b o n = some l) : H'.ld b o n = some l := by
  unfold Heap.ld at hl ⊢
  cases hb : H.get b with
  | none => rw [hb] at hl; cases hl
  | some x => rw [hb] at hl; rw [h b x hb]; exact hl

theorem isVar_mono (h : HLe H H') {o b : Nat} (hv : isVar o (H.get b) = true) : isVar o (H'.get b) = true := by
  cases hb : H.get b with
  | none => rw [hb] at hv; cases hv
  | some x => rw [hb] at hv; rw [h b x hb]; exact hv

theorem evalR_mono (h : HLe H H') {fr : List AV} {p : PR} {v : AV} (hv : evalR fr H p = some v) : evalR fr H' p = some v := by
  cases p <;> simp only [evalR] at hv ⊢ <;> try exact hv
  case load g n x =>
    unfold rLoad at hv ⊢
    split at hv
    · rename_i b o hx
      cases hl : H.ld b o n with
      | none => rw [hl] at hv; cases hv
      | some l => rw [hl] at hv; rw [h.ld hl]; exact hv
    · cases hv
  case eqc neg x y =>
    unfold rEqc at hv ⊢
    split at hv
    · split at hv
      · unfold eqPlace at hv ⊢
        rename_i b o _ _ b' o' _
        cases hc : (isVar o (H.get b) && isVar o' (H.get b')) with
        | false => rw [hc] at hv; cases hv
        | true =>
          rw [hc] at hv
          rw [Bool.and_eq_true] at hc
          rw [isVar_mono h hc.1, isVar_mono h hc.2]
          exact hv
      · exact hv
      · exact hv
    · exact hv
    · exact hv
  case b2s x =>
    unfold rB2s at hv ⊢
    split at hv
    · exact hv
    · rename_i b o len sz _
      cases hz : Nat.beq sz 1 with
      | false => rw [hz] at hv; cases hv
      | true =>
        rw [hz] at hv
        simp only [cond_true] at hv ⊢
        cases hl : H.ld b o len with
        | none => rw [hl] at hv; cases hv
        | some l => rw [hl] at hv; rw [h.ld hl]; exact hv
    · cases hv
  case slsl sz x lo hi mx =>
    unfold rSlsl at hv ⊢
    split at hv
    · exact hv
    · rename_i b o len sz' _
      cases hb : H.get b with
      | none => rw [hb] at hv; cases hv
      | some y => rw [hb] at hv; rw [h b y hb]; exact hv
    · cases hv
  case slarr n sz x lo hi =>
    unfold rSlarr at hv ⊢
    split at hv
    · rename_i b o _
      cases hb : H.get b with
      | none => rw [hb] at hv; cases hv
      | some y => rw [hb] at hv; rw [h b y hb]; exact hv
    · cases hv
  case look s z ok m k =>
    unfold rLook entries at hv ⊢
    cases hm : m.ev fr <;> rw [hm] at hv <;> simp only [] at hv ⊢ <;> try exact hv
    rename_i b
    cases hb : H.get b with
    | none => rw [hb] at hv; cases hv
    | some y => rw [hb] at hv; rw [h b y hb]; exact hv
  case lenm x =>
    unfold rLenm entries at hv ⊢
    cases hm : x.ev fr <;> rw [hm] at hv <;> simp only [] at hv ⊢ <;> try exact hv
    rename_i b
    cases hb : H.get b with
    | none => rw [hb] at hv; cases hv
    | some y => rw [hb] at hv; rw [h b y hb]; exact hv
  case p2u x =>
    unfold rP2u at hv ⊢
    split at hv
    · exact hv
    · rename_i b o _
      cases hb : H.get b with
      | none => rw [hb] at hv; cases hv
      | some y => rw [hb] at hv; rw [h b y hb]; exact hv
    · cases hv
  case u2b n x =>
    unfold rU2b at hv ⊢
    split at hv
    · exact hv
    · rename_i b o _
      cases hb : H.get b with
      | none => rw [hb] at hv; cases hv
      | some y => rw [hb] at hv; rw [h b y hb]; exact hv
    · cases hv
  case sdata x =>
    unfold rSdata at hv ⊢
    split at hv
    · exact hv
    · rename_i b o _ _ _
      cases hb : H.get b with
      | none => rw [hb] at hv; cases hv
      | some y => rw [hb] at hv; rw [h b y hb]; exact hv
    · cases hv

/-- What looks not into the heap. -/
theorem evalR_still {fr : List AV} {p : PR} (h : (Pk.r p).reads = false) : evalR fr H p = evalR fr H' p := by
  cases p <;> first | rfl | (simp only [Pk.reads] at h; cases h)
end

section
theorem u8beq_of {a b : UInt8} (h : u8beq a b = true) : a = b := by rw [u8beq_eq] at h; simpa using h
theorem sameAV_eq {x y : AV} (h : sameAV x y = true) : x = y := by
  cases x <;> cases y <;> simp only [sameAV, Bool.and_eq_true, nbeq, decide_eq_true_eq, kbeq_eq, ibeq_eq, beqB_eq, beq_iff_eq] at h <;> first
    | rfl
    | (cases h; done)
    | (subst h; rfl)
    | (obtain ⟨h1, h2⟩ := h; subst h1; subst h2; rfl)
    | (obtain ⟨⟨h1, h2⟩, h3, h4⟩ := h; subst h1; subst h2; subst h3; subst h4; rfl)
theorem sameCells_eq : ∀ {x y : List AV}, sameCells x y = true → x = y
  | [], [], _ => rfl
  | [], _ :: _, h => by simp [sameCells] at h
  | _ :: _, [], h => by simp [sameCells] at h
  | a :: x, b :: y, h => by
    simp only [sameCells, Bool.and_eq_true] at h
    rw [sameAV_eq h.1, sameCells_eq h.2]
theorem sameV_eq {x y : AV} (h : sameV x y = true) : x = y := by
  unfold sameV at h
  split at h
  · split at h
    · rw [sameCells_eq h]
    · cases h
  · exact sameAV_eq h
end

end Go.Dp
