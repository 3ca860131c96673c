/- Operations that leave the heap alone: the model's run gives what the clean machine's gives. Conditions: none. -/
import Derived.Test.YtkjmelfgopammaaQqC
import Derived.Laws.Entries
import Derived.Laws.Cells
namespace Go.Dp
open Go.RowKit

theorem nbeq (a b : Nat) : Nat.beq a b = decide (a = b) := by
  cases hab : Nat.beq a b with
  | true => simp [Nat.eq_of_beq_eq_true hab]
  | false => simp [Nat.ne_of_beq_eq_false hab]
theorem nble (a b : Nat) : Nat.ble a b = decide (a ≤ b) := by
  cases hab : Nat.ble a b with
  | true => simp [Nat.le_of_ble_eq_true hab]
  | false => simp; exact Nat.not_le.1 fun h => by rw [Nat.ble_eq_true_of_le h] at hab; cases hab
theorem nblt (a b : Nat) : Nat.blt a b = decide (a < b) := by
  rw [Nat.blt, nble]; rfl

theorem u8beq_eq (a b : UInt8) : u8beq a b = (a == b) := by
  rw [u8beq, nbeq]
  by_cases h : a = b
  · simp [h]
  · have : a.toNat ≠ b.toNat := fun e => h (UInt8.toNat_inj.1 e)
    simp [h, this]

theorem beqB_eq : ∀ (a b : List UInt8), beqB a b = (a == b)
  | [], [] => rfl
  | [], _ :: _ => rfl
  | _ :: _, [] => rfl
  | a :: x, b :: y => by
    simp only [beqB, u8beq_eq, beqB_eq x y, List.cons_beq_cons]
    cases a == b <;> rfl

theorem bltB_eq : ∀ (a b : List UInt8), bltB a b = Op.bytesLess a b
  | [], [] => rfl
  | [], _ :: _ => rfl
  | _ :: _, [] => rfl
  | a :: x, b :: y => by
    simp only [bltB, Op.bytesLess, u8beq_eq, nblt, bltB_eq x y]
    have : decide (a.toNat < b.toNat) = decide (a < b) := by simp [UInt8.lt_iff_toNat_lt]
    rw [this]
    cases decide (a < b) <;> cases a == b <;> simp

theorem kbeq_eq (j k : IntKind) : kbeq j k = decide (j = k) := by cases j <;> cases k <;> decide
theorem ibeq_eq (a b : Int) : ibeq a b = (a == b) := by
  cases a with
  | ofNat a =>
    cases b with
    | ofNat b =>
      simp only [ibeq, nbeq]
      by_cases h : a = b
      · simp [h]
      · simp [h]; omega
    | negSucc b => simp only [ibeq]; symm; simp
  | negSucc a =>
    cases b with
    | ofNat b => simp only [ibeq]; symm; simp
    | negSucc b => simp only [ibeq, nbeq]; by_cases h : a = b <;> simp [h]
theorem ible_eq (a b : Int) : ible a b = decide (a ≤ b) := by
  cases a with
  | ofNat a =>
    cases b with
    | ofNat b => simp only [ible, nble]; simp
    | negSucc b => simp only [ible]; symm; simp; omega
  | negSucc a =>
    cases b with
    | ofNat b => simp only [ible]; symm; simp; omega
    | negSucc b => simp only [ible, nble]; rw [decide_eq_decide]; omega

---------------------------------------------------------------- operands

theorem trSc_isSc {c : Cx} {v : Value} {a : AV} (h : trSc c v = some a) : a.isSc = true := by
  unfold trSc at h
  split at h <;> first
    | (cases h; rfl)
    | (cases hb : (Array.isEmpty _ && Array.isEmpty _) <;> rw [hb] at h <;> simp only [cond_true, cond_false] at h <;> first | cases h | (split at h <;> cases h; rfl))
    | cases h

theorem trSc_rel {c : Cx} {ρ : Rho} {v : Value} {a : AV} (h : trSc c v = some a) : SRel c ρ a v := by
  unfold trSc at h
  split at h
  · cases h; simp only [SRel, BRel]
  · cases h; simp only [SRel, BRel]
  · cases h; simp only [SRel, BRel]; exact ⟨_, rfl, rfl⟩
  · cases h; simp only [SRel, BRel]
  · cases h; simp only [SRel, BRel]
  · cases h; simp only [SRel, BRel]
  · cases h; simp only [SRel, BRel]
  · cases h; simp only [SRel, BRel]
  · rename_i g first caps
    cases hb : (first.isEmpty && caps.isEmpty) with
    | false => rw [hb] at h; cases h
    | true =>
      rw [hb] at h
      simp only [cond_true] at h
      split at h
      · rename_i f hf
        cases h
        simp at hb
        obtain ⟨rfl, rfl⟩ := hb
        simp only [SRel]
        exact ⟨g, #[], hf, rfl, trivial⟩
      · cases h
  · cases h

theorem trScs_rel {c : Cx} {ρ : Rho} : ∀ {vs : List Value} {as : List AV}, trScs c vs = some as → All2 (SRel c ρ) as vs
  | [], as, h => by simp only [trScs] at h; cases h; trivial
  | v :: vs, as, h => by
    simp only [trScs] at h
    split at h
    · rename_i a as' h1 h2
      cases h
      exact ⟨trSc_rel h1, trScs_rel h2⟩
    · cases h

theorem trScs_isSc {c : Cx} : ∀ {vs : List Value} {as : List AV}, trScs c vs = some as → as.all AV.isSc = true
  | [], as, h => by simp only [trScs] at h; cases h; rfl
  | v :: vs, as, h => by
    simp only [trScs] at h
    split at h
    · rename_i a as' h1 h2
      cases h
      simp only [List.all_cons, trSc_isSc h1, trScs_isSc h2, Bool.and_self]
    · cases h

theorem trV_rel {c : Cx} {ρ : Rho} {v : Value} {a : AV} (h : trV c v = some a) : VRel c ρ a v := by
  unfold trV at h
  split at h
  · rename_i cs
    split at h
    · rename_i l hl
      cases h
      simp only [VRel, VRel1]
      exact ⟨cs, rfl, trScs_rel hl⟩
    · cases h
  · rename_i vs
    cases hv : vs.isEmpty with
    | false => rw [hv] at h; cases h
    | true =>
      rw [hv] at h
      cases h
      simp at hv
      subst hv
      simp only [VRel]
      exact ⟨#[], rfl, trivial⟩
  · exact SRel.v (trSc_isSc h) (trSc_rel h)

/-- A frame. -/
structure FRel (c : Cx) (ρ : Rho) (fr : List AV) (tmps : Array Value) : Prop where
  size : fr.length = tmps.size
  at_ : ∀ i, VRel c ρ (fr.getD i .undef) (tmps.getD i undef)

theorem FRel.ext {c : Cx} {ρ ρ' : Rho} {fr : List AV} {tmps : Array Value} (h : Ext ρ ρ') (r : FRel c ρ fr tmps) : FRel c ρ' fr tmps := ⟨r.size, fun i => (r.at_ i).ext h⟩

theorem trX_rel {c : Cx} {base : Nat} {ρ : Rho} {H : Heap} {W : World} {fr : List AV} {a : Act} (R : Rel c base ρ H W) (F : FRel c ρ fr a.tmps) {x : Operand} {y : X} (h : trX c x = some y) :
    VRel c ρ (y.ev fr) (a.eval x) := by
  cases x with
  | tmp t => simp only [trX] at h; cases h; exact F.at_ t
  | const v =>
    simp only [trX] at h
    split at h
    · rename_i w hw; cases h; exact trV_rel hw
    · cases h
  | global g =>
    simp only [trX] at h
    split at h
    · rename_i b hb
      cases h
      obtain ⟨p, hp, hc, hs⟩ := R.glob g b hb
      simp only [X.ev, Act.eval, VRel, VRel1, SRel, BRel]
      exact ⟨p, hp, by rw [hc, hs]⟩
    · cases h
  | func g =>
    simp only [trX] at h
    split at h
    · rename_i f hf
      cases h
      simp only [X.ev, Act.eval, VRel, VRel1, SRel]
      exact ⟨g, #[], hf, rfl, trivial⟩
    · cases h

theorem trXs_rel {c : Cx} {base : Nat} {ρ : Rho} {H : Heap} {W : World} {fr : List AV} {a : Act} (R : Rel c base ρ H W) (F : FRel c ρ fr a.tmps) : ∀ {xs : List Operand} {ys : List X},
    trXs c xs = some ys → All2 (VRel c ρ) (ys.map (X.ev fr)) (xs.map a.eval)
  | [], ys, h => by simp only [trXs] at h; cases h; trivial
  | x :: xs, ys, h => by
    simp only [trXs] at h
    split at h
    · rename_i y ys' h1 h2
      cases h
      exact ⟨trX_rel R F h1, trXs_rel R F h2⟩
    · cases h

end Go.Dp
