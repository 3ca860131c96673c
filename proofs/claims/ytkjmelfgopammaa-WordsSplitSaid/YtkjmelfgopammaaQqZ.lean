/- A closed call, run by the clean machine, is the model's call. Conditions: none. -/
import Derived.Test.YtkjmelfgopammaaQqY
import Derived.Lib.Bytealg
import Derived.Lib.MakeNoZero
namespace Go.Dp
open Go.RowKit

/-- something of every number of a list -/
def AllOf (p : Nat → Prop) : List Nat → Prop
  | [] => True
  | x :: l => p x ∧ AllOf p l

theorem AllOf.at_ {p : Nat → Prop} : ∀ {l : List Nat}, AllOf p l → ∀ x ∈ l, p x
  | [], _, x, hx => by cases hx
  | y :: l, h, x, hx => by
    rcases List.mem_cons.1 hx with rfl | hx
    · exact h.1
    · exact AllOf.at_ h.2 x hx

/-- one function of the library -/
def FnOk (c : Cx) (L : Lib) (g : Nat) : Prop := ∃ fn, c.P.funcs[g]? = some fn ∧ fn.body.isSome = true ∧ (fn.name == "runtime.NumGoroutine") = false ∧ L g = some (.code (trF c fn))

def fmOf (l : List Nat) (g : Nat) : Option Nat := bif has l g then some g else none

theorem fmOf_inv {l : List Nat} {g f : Nat} (h : fmOf l g = some f) : g ∈ l ∧ g = f := by
  unfold fmOf at h
  cases hh : has l g with
  | false => rw [hh] at h; cases h
  | true => rw [hh] at h; cases h; exact ⟨has_iff.1 hh, rfl⟩

theorem lib_ok {c : Cx} {L : Lib} {l : List Nat} (hf : c.fm = fmOf l) (h : AllOf (FnOk c L) l) : LibOk c L := by
  intro g f hg
  rw [hf] at hg
  obtain ⟨hm, rfl⟩ := fmOf_inv hg
  obtain ⟨fn, h1, h2, h3, h4⟩ := h.at_ g hm
  exact .inl ⟨fn, h1, h4⟩

theorem fm_ok {c : Cx} {L : Lib} {l : List Nat} (hf : c.fm = fmOf l) (h : AllOf (FnOk c L) l) : FmOk c := by
  refine ⟨fun g f hg => ?_⟩
  rw [hf] at hg
  obtain ⟨hm, rfl⟩ := fmOf_inv hg
  obtain ⟨fn, h1, h2, h3, h4⟩ := h.at_ g hm
  obtain ⟨code, hc⟩ := Option.isSome_iff_exists.1 h2
  exact ⟨fn, code, h1, hc, fun e => by rw [e] at h3; simp at h3⟩

def isTrue : Option (AV × Heap) → Bool
  | some (.bool true, _) => true
  | _ => false

theorem isTrue_inv {r : Option (AV × Heap)} (h : isTrue r = true) : ∃ H, r = some (.bool true, H) := by
  unfold isTrue at h
  split at h
  · exact ⟨_, rfl⟩
  · cases h

def noHeap : Heap := { t := .leaf, next := 0 }

theorem rel_none (c : Cx) (hg : ∀ g, c.gm g = none) (W : World) : Rel c W.heap.size (fun _ => none) noHeap W :=
  ⟨Nat.le_refl _, fun _ _ h => (by cases h), fun _ _ h => (by cases h), fun _ _ h => (by cases h), fun _ _ _ h => (by cases h), fun _ _ _ _ _ _ _ h => (by cases h), fun g b h => by rw [hg] at h; cases h⟩

/-- A closed call that answers true. -/
theorem run_closed {c : Cx} {L : Lib} (O : ProgOk c) (hL : LibOk c L) (hgm : ∀ g, c.gm g = none) {g f n : Nat} (hg : c.fm g = some f) (h : isTrue (call L n f [] noHeap) = true) (w : World) :
    Calls c.P g #[] w fun e w' => e = .returned (.bool true) ∧ Below w.heap.size w w' := by
  obtain ⟨H', h'⟩ := isTrue_inv h
  refine (call_ok O hL n w.heap.size (fun _ => none) noHeap w g f [] #[] (.bool true) H' hg (rel_none c hgm w) trivial h').mono fun e w' ⟨v', ρ', h1, h2, h3⟩ => ?_
  rw [VRel_bool] at h3
  subst h3
  exact ⟨h1, h2.below⟩

theorem indexB_eq {c : Int} (h0 : 0 ≤ c) (h1 : c ≤ 255) : ∀ (l : List UInt8) (i : Nat), indexB c l i = if Lib.indexByte l c.toNat.toUInt8 = -1 then -1 else Lib.indexByte l c.toNat.toUInt8 + i
  | [], i => by simp [indexB, Lib.indexByte]
  | b :: l, i => by
    have hb : ibeq (Int.ofNat b.toNat) c = (b == c.toNat.toUInt8) := by
      rw [ibeq_eq, Bool.eq_iff_iff, beq_iff_eq, beq_iff_eq]
      constructor
      · intro h
        rw [← h]
        simp
      · intro h
        subst h
        simp
        omega
    rw [indexB, hb, Lib.indexByte, indexB_eq h0 h1 l (i + 1)]
    have hge := Lib.indexByte_ge l c.toNat.toUInt8
    cases hbc : b == c.toNat.toUInt8 with
    | true => simp
    | false =>
      simp only [cond_false, Bool.false_eq_true, if_false, beq_iff_eq]
      by_cases hm : Lib.indexByte l c.toNat.toUInt8 = -1
      · simp [hm]
      · rw [if_neg hm, if_neg hm, if_neg (by omega)]
        push_cast
        omega

/-- IndexByteString, a function without a body. -/
theorem ext_index {P : Program} {g : Nat} {fn : Func} (hf : P.funcs[g]? = some fn) (hname : (fn.name == "runtime.NumGoroutine") = false) (hb : fn.body.isNone = true) (hn : Extern.findNext fn = none) (he : Extern.find fn = some Extern.BytealgIndexByte.indexByte) (s : ByteArray) (ch : Int) (W : World) (h0 : 0 ≤ ch) (h1 : ch ≤ 255) :
    (callFunc g #[.string s, .int .u8 ch]).run P W = .ok (.value (.int .i64 (indexB ch s.data.toList 0))) W := by
  rw [run_callFunc_extern hf hname hb hn he, Lib.run_indexByteString, indexB_eq h0 h1]
  simp only [Result.andThen_ok]
  congr 2
  split <;> simp_all

/-- No function without a body is used. -/
theorem ext_none {c : Cx} (h : ∀ g, c.ext g = 0) : ExtOk c :=
  ⟨fun g hg => (by rw [h] at hg; cases hg), fun g hg => (by rw [h] at hg; cases hg), fun g hg => by rw [h] at hg; cases hg⟩

/-- which function without a body is which, by a table -/
def extOf : List (Nat × Nat) → Nat → Nat
  | [], _ => 0
  | (g, k) :: l, x => bif Nat.beq x g then k else extOf l x

def ItemOk (c : Cx) (p : Nat × Nat) : Prop :=
  (p.2 = 1 → ∀ (s : ByteArray) (ch : Int) (W : World), 0 ≤ ch → ch ≤ 255 → (callFunc p.1 #[.string s, .int .u8 ch]).run c.P W = .ok (.value (.int .i64 (indexB ch s.data.toList 0))) W) ∧
  (p.2 = 2 → ∀ (v : Value) (W : World), (callFunc p.1 #[v]).run c.P W = .ok (.value v) W) ∧
  (p.2 = 3 → ∀ (n : Nat) (W : World), n ≤ 35184372088832 → ∃ e i cs, c.P.info? e = some i ∧ i.desc = .int .u8 ∧ i.size = 1 ∧ n ≤ cs.size ∧
    (callFunc p.1 #[.int .i64 n]).run c.P W = .ok (.value (.slice (some ⟨W.heap.size, 0, none⟩) n cs.size)) ({ W with heap := W.heap.push (.cells cs e), drawn := W.drawn + 2 }))

theorem extOf_mem : ∀ {l : List (Nat × Nat)} {g k : Nat}, extOf l g = k → k ≠ 0 → (g, k) ∈ l
  | [], g, k, h, hk => absurd h.symm hk
  | (a, b) :: l, g, k, h, hk => by
    simp only [extOf, nbeq] at h
    by_cases e : g = a
    · rw [decide_eq_true e] at h
      simp only [cond_true] at h
      subst h
      subst e
      exact List.mem_cons_self
    · rw [decide_eq_false e] at h
      exact List.mem_cons_of_mem _ (extOf_mem h hk)

theorem ext_table {c : Cx} {l : List (Nat × Nat)} (h : c.ext = extOf l) (hl : ∀ p ∈ l, ItemOk c p) : ExtOk c := by
  refine ⟨fun g hg => ?_, fun g hg => ?_, fun g hg => ?_⟩
  · rw [h] at hg; exact (hl _ (extOf_mem hg (by omega))).1 rfl
  · rw [h] at hg; exact (hl _ (extOf_mem hg (by omega))).2.1 rfl
  · rw [h] at hg; exact (hl _ (extOf_mem hg (by omega))).2.2 rfl

theorem item_index {c : Cx} {g : Nat} {fn : Func} (hf : c.P.funcs[g]? = some fn) (hname : (fn.name == "runtime.NumGoroutine") = false) (hb : fn.body.isNone = true) (hn : Extern.findNext fn = none) (he : Extern.find fn = some Extern.BytealgIndexByte.indexByte) : ItemOk c (g, 1) :=
  ⟨fun _ => ext_index hf hname hb hn he, fun h => (by cases h), fun h => by cases h⟩

theorem item_same {c : Cx} {g : Nat} {fn : Func} (hf : c.P.funcs[g]? = some fn) (hname : (fn.name == "runtime.NumGoroutine") = false) (hb : fn.body.isNone = true) (hn : Extern.findNext fn = none) (he : Extern.find fn = some Extern.AbiNoEscape.same) : ItemOk c (g, 2) :=
  ⟨fun h => (by cases h), fun _ v W => by rw [run_callFunc_extern hf hname hb hn he]; rfl, fun h => by cases h⟩

theorem item_nozero {c : Cx} {g : Nat} {fn : Func} {ps : Array TypeId} {t e : TypeId} {i : TypeInfo} (hf : c.P.funcs[g]? = some fn) (hname : (fn.name == "runtime.NumGoroutine") = false) (hb : fn.body.isNone = true) (hn : Extern.findNext fn = none) (he : Extern.find fn = some (Extern.BytealgMakeNoZero.makeNoZero ps #[t]))
    (ht : c.P.underlying t = some (.slice e)) (hi : c.P.info? e = some i) (hd : i.desc = .int .u8) (hs : i.size = 1) : ItemOk c (g, 3) := by
  refine ⟨fun h => (by cases h), fun h => (by cases h), fun _ n W hle => ?_⟩
  obtain ⟨cs, h1, h2, _⟩ := Lib.run_makeNoZero (P := c.P) W ps t e ht n (by omega)
  refine ⟨e, i, cs, hi, hd, hs, h2, ?_⟩
  rw [run_callFunc_extern hf hname hb hn he, h1]
  rfl

end Go.Dp
