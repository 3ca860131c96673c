/- A region that draws its order: every order comes to what the plan comes to. Conditions: none. -/
import Derived.Test.YtkjmelfgopammaaQqU
namespace Go.Dp
open Go.RowKit

theorem cnt_lt {p q : Nat → Bool} (hqp : ∀ i, q i = true → p i = true) {x : Nat} (hp : p x = true) (hq : q x = false) : ∀ {l : List Nat}, x ∈ l → l.countP q < l.countP p
  | [], h => by cases h
  | y :: l, h => by
    have hle : l.countP q ≤ l.countP p := List.countP_mono_left fun i _ hi => hqp i hi
    rw [List.countP_cons, List.countP_cons]
    rcases List.mem_cons.1 h with rfl | h
    · rw [hp, hq]; simp; omega
    · have := cnt_lt hqp hp hq h
      cases hqy : q y with
      | false => cases p y <;> simp <;> omega
      | true => rw [hqp y hqy]; simp; omega

def On (listed : Array Bool) (x : Nat) : Prop := listed.getD x false = true

theorem on_set {listed : Array Bool} {x : Nat} (hx : x < listed.size) (y : Nat) : On (listed.setIfInBounds x true) y ↔ (y = x ∨ On listed y) := by
  unfold On
  by_cases h : x = y
  · subst h
    simp [hx]
  · rw [getD_set_ne false h]
    exact ⟨.inr, fun hh => hh.resolve_left (Ne.symm h)⟩

section
variable (c : Cx) (ops : Array Oper)
abbrev osOf : List PO := ops.toList.map (trO c ops)
abbrev dsOf : List (List Nat) := ops.toList.map directs
end

section
variable {c : Cx} {ops : Array Oper}

theorem os_at {x : Nat} {o : Oper} (h : ops[x]? = some o) : opAt (osOf c ops) x = trO c ops o := by
  unfold opAt osOf
  rw [List.getD_eq_getElem?_getD, List.getElem?_map, Array.getElem?_toList, h]
  rfl
theorem ds_at {x : Nat} {o : Oper} (h : ops[x]? = some o) : dirs (dsOf ops) x = directs o := by
  unfold dirs dsOf
  rw [List.getD_eq_getElem?_getD, List.getElem?_map, Array.getElem?_toList, h]
  rfl
theorem os_len : (osOf c ops).length = ops.size := by simp [osOf]

theorem trO_dst (o : Oper) : (trO c ops o).dst = o.dst := by
  unfold trO
  split <;> rfl

/-- A good translation, or one that is stuck. -/
theorem trO_inv (o : Oper) : (trG ops o.guard = some (trO c ops o).guard ∧ trOp c o.op = some (trO c ops o).op) ∨ ((trO c ops o).guard = none ∧ (trO c ops o).op = .r .bad) := by
  unfold trO
  split
  · rename_i g p h1 h2; exact .inl ⟨h1, h2⟩
  · exact .inr ⟨rfl, rfl⟩

theorem wanted_rel {ρ : Rho} {fr : List AV} {tmps : Array Value} (F : FRel c ρ fr tmps) {o : Oper} {g : Option (Nat × Bool)} {w : Bool} (hg : trG ops o.guard = some g) (hw : wanted fr g = some w) : Region.wanted o (yielded ops tmps) = w := by
  unfold trG at hg
  unfold Region.wanted
  split at hg
  · rename_i h
    cases hg
    rw [h]
    simp only [wanted] at hw
    cases hw
    rfl
  · rename_i j w' h
    rw [h]
    split at hg
    · rename_i oj hoj
      split at hg
      · rename_i d hd
        cases hg
        simp only [wanted] at hw
        simp only [yielded, hoj, Option.bind_some, hd]
        have hr := F.at_ d
        rw [Array.getD_eq_getD_getElem?] at hr
        split at hw
        · rename_i b hb
          cases hw
          rw [hb, VRel_bool] at hr
          cases ht : tmps[d]? with
          | none => rw [ht] at hr; exact absurd hr (by simp [undef])
          | some v =>
            rw [ht] at hr
            simp only [Option.getD_some] at hr
            subst hr
            cases b <;> cases w' <;> rfl
        · cases hw
        · rename_i hnb hnu
          cases hw
          cases ht : tmps[d]? with
          | none => rfl
          | some v =>
            rw [ht] at hr
            simp only [Option.getD_some] at hr
            cases v with
            | bool b =>
              exfalso
              cases hx : fr.getD d .undef <;> rw [hx] at hr hnb hnu <;> first
                | exact hnb _ rfl
                | exact hnu rfl
                | (simp only [VRel, VRel1, SRel, BRel] at hr; cases hr; done)
                | (simp only [VRel, VRel1, SRel, BRel] at hr; obtain ⟨_, h, _⟩ := hr; cases h; done)
                | (simp only [VRel, VRel1, SRel, BRel] at hr; obtain ⟨_, _, h⟩ := hr; cases h; done)
                | (simp only [VRel, VRel1, SRel, BRel] at hr; obtain ⟨_, _, h, _⟩ := hr; cases h; done)
                | (simp only [VRel, VRel1, SRel, BRel] at hr; obtain ⟨_, _, _, h, _⟩ := hr; cases h; done)
                | (simp only [VRel, VRel1, SRel, BRel] at hr; obtain ⟨_, _, _, _, h, _⟩ := hr; cases h)
            | _ => rfl
      · cases hg
    · cases hg

theorem put_defers (a : Act) (d : Option Tmp) (v : Value) : (a.put d v).defers = a.defers := by cases d <;> rfl

/-- A slot is written. -/
theorem FRel.put {ρ : Rho} {fr : List AV} {a : Act} (F : FRel c ρ fr a.tmps) (d : Option Nat) {v : AV} {v' : Value} (r : VRel c ρ v v') : FRel c ρ (setD fr d v) (a.put d v').tmps := by
  cases d with
  | none => exact F
  | some d =>
    refine ⟨by simp [setD, Act.put, F.size], fun i => ?_⟩
    simp only [setD, Act.put, getD_set]
    rw [Array.getD_eq_getD_getElem?, Array.getElem?_setIfInBounds]
    have hF := F.at_ i
    rw [Array.getD_eq_getD_getElem?] at hF
    by_cases h : d = i
    · subst h
      by_cases h2 : d < fr.length
      · rw [if_pos ⟨rfl, h2⟩, if_pos rfl, if_pos (by have := F.size; omega)]; exact r
      · rw [if_neg (by rintro ⟨_, h⟩; exact h2 h), if_pos rfl, if_neg (by have := F.size; omega)]
        rw [List.getD_eq_getElem?_getD, List.getElem?_eq_none (by omega)]
        exact VRel.undef
    · rw [if_neg (fun h' => h h'.1), if_neg h]; exact hF

theorem FRel.of_get {ρ : Rho} {fr fr' : List AV} {tmps : Array Value} (F : FRel c ρ fr tmps) (hl : fr'.length = fr.length) (h : ∀ t, fr'.getD t .undef = fr.getD t .undef) : FRel c ρ fr' tmps :=
  ⟨hl.trans F.size, fun i => by rw [h]; exact F.at_ i⟩
end

end Go.Dp
