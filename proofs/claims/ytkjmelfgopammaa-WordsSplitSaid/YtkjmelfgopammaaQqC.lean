/- How the clean machine's values and heap stand to the model's: the relation, and how it is kept. Conditions: none. -/
import Derived.Test.YtkjmelfgopammaaQqB
import Derived.Below
namespace Go.Dp
open Go.RowKit

/-- Where a block lies: the model's block, its first cell, how many cells, how many spare ones behind. -/
structure Pl where
  c : Nat
  s : Nat
  n : Nat
  e : Nat

abbrev Rho := Nat → Option Pl

def All2 {α β : Type} (R : α → β → Prop) : List α → List β → Prop
  | [], [] => True
  | a :: x, b :: y => R a b ∧ All2 R x y
  | _, _ => False

section
variable {α β : Type} {R S : α → β → Prop}
theorem All2.mono (h : ∀ a b, R a b → S a b) : ∀ {x : List α} {y : List β}, All2 R x y → All2 S x y
  | [], [], _ => trivial
  | _ :: _, _ :: _, ⟨p, q⟩ => ⟨h _ _ p, All2.mono h q⟩
  | [], _ :: _, h => h.elim
  | _ :: _, [], h => h.elim
theorem All2.length : ∀ {x : List α} {y : List β}, All2 R x y → x.length = y.length
  | [], [], _ => rfl
  | _ :: _, _ :: _, ⟨_, q⟩ => by simp [All2.length q]
  | [], _ :: _, h => h.elim
  | _ :: _, [], h => h.elim
theorem All2.get : ∀ {x : List α} {y : List β}, All2 R x y → ∀ {i : Nat} {a : α}, x[i]? = some a → ∃ b, y[i]? = some b ∧ R a b
  | [], [], _, _, _, h => by simp at h
  | _ :: _, b :: _, ⟨p, q⟩, 0, _, h => by simp at h; subst h; exact ⟨b, by simp, p⟩
  | _ :: _, _ :: _, ⟨_, q⟩, i + 1, _, h => by simp at h; obtain ⟨b, hb, hr⟩ := All2.get q h; exact ⟨b, by simpa using hb, hr⟩
  | [], _ :: _, h, _, _, _ => h.elim
  | _ :: _, [], h, _, _, _ => h.elim
theorem All2.of_get : ∀ {x : List α} {y : List β}, x.length = y.length → (∀ (i : Nat) (a : α), x[i]? = some a → ∃ b, y[i]? = some b ∧ R a b) → All2 R x y
  | [], [], _, _ => trivial
  | a :: x, b :: y, h, k => by
    refine ⟨?_, All2.of_get (by simpa using h) fun i c hc => ?_⟩
    · obtain ⟨b', hb, hr⟩ := k 0 a (by simp)
      simp at hb; subst hb; exact hr
    · obtain ⟨b', hb, hr⟩ := k (i + 1) c (by simpa using hc)
      exact ⟨b', by simpa using hb, hr⟩
  | [], _ :: _, h, _ => by simp at h
  | _ :: _, [], h, _ => by simp at h
theorem All2.append : ∀ {x : List α} {y : List β} {x' : List α} {y' : List β}, All2 R x y → All2 R x' y' → All2 R (x ++ x') (y ++ y')
  | [], [], _, _, _, h => h
  | _ :: _, _ :: _, _, _, ⟨p, q⟩, h => ⟨p, All2.append q h⟩
  | [], _ :: _, _, _, h, _ => h.elim
  | _ :: _, [], _, _, h, _ => h.elim
theorem All2.take : ∀ (n : Nat) {x : List α} {y : List β}, All2 R x y → All2 R (x.take n) (y.take n)
  | 0, _, _, _ => by rw [List.take_zero, List.take_zero]; trivial
  | n + 1, [], [], _ => by rw [List.take_nil, List.take_nil]; trivial
  | n + 1, _ :: _, _ :: _, ⟨p, q⟩ => by rw [List.take_succ_cons, List.take_succ_cons]; exact ⟨p, All2.take n q⟩
  | _ + 1, [], _ :: _, h => h.elim
  | _ + 1, _ :: _, [], h => h.elim
theorem All2.drop : ∀ (n : Nat) {x : List α} {y : List β}, All2 R x y → All2 R (x.drop n) (y.drop n)
  | 0, _, _, h => h
  | n + 1, [], [], _ => by rw [List.drop_nil, List.drop_nil]; trivial
  | n + 1, _ :: _, _ :: _, ⟨_, q⟩ => by rw [List.drop_succ_cons, List.drop_succ_cons]; exact All2.drop n q
  | _ + 1, [], _ :: _, h => h.elim
  | _ + 1, _ :: _, [], h => h.elim
end

/-- A scalar that is no function. -/
def BRel (ρ : Rho) (a : AV) (v : Value) : Prop :=
  match a with
  | .bool b => v = .bool b
  | .int k n => v = .int k n
  | .str s => ∃ b : ByteArray, v = .string b ∧ b.data.toList = s
  | .nilp => v = .pointer none
  | .ptr b o => ∃ p, ρ b = some p ∧ v = .pointer (some ⟨p.c, p.s + o, none⟩)
  | .nils => v = .slice none 0 0
  | .sl b o len sz => ∃ p off cap, ρ b = some p ∧ v = .slice (some ⟨p.c, off, none⟩) len cap ∧ len ≤ cap ∧ (off = p.s + o ∨ cap = 0) ∧
      o + cap * sz ≤ p.n + p.e ∧ p.n ≤ o + cap * sz ∧ o + len * sz ≤ p.n ∧ 0 < sz
  | .nilm => v = .map none
  | .map b => ∃ p, ρ b = some p ∧ v = .map (some p.c)
  | .nilf => v = .nilFunc
  | .nili => v = .nilIface
  | .fn _ _ | .agg _ | .tup _ | .undef => False

/-- A scalar, or something of which nothing is known. -/
def SRel (c : Cx) (ρ : Rho) (a : AV) (v : Value) : Prop :=
  match a with
  | .fn f caps => ∃ g cs, c.fm g = some f ∧ v = .func (.func g) #[] cs ∧ All2 (BRel ρ) caps cs.toList
  | .undef => True
  | a => BRel ρ a v

/-- A value that a variable may hold. -/
def VRel1 (c : Cx) (ρ : Rho) (a : AV) (v : Value) : Prop :=
  match a with
  | .agg l => ∃ cs, v = .agg cs ∧ All2 (SRel c ρ) l cs.toList
  | a => SRel c ρ a v

/-- Any value of a slot. -/
def VRel (c : Cx) (ρ : Rho) (a : AV) (v : Value) : Prop :=
  match a with
  | .tup l => ∃ vs, v = .tuple vs ∧ All2 (VRel1 c ρ) l vs.toList
  | a => VRel1 c ρ a v

def Ext (ρ ρ' : Rho) : Prop := ∀ b p, ρ b = some p → ρ' b = some p
theorem Ext.refl (ρ : Rho) : Ext ρ ρ := fun _ _ h => h
theorem Ext.trans {a b c : Rho} (h : Ext a b) (k : Ext b c) : Ext a c := fun _ _ x => k _ _ (h _ _ x)

theorem BRel.ext {ρ ρ' : Rho} (h : Ext ρ ρ') {a : AV} {v : Value} (r : BRel ρ a v) : BRel ρ' a v := by
  cases a <;> simp only [BRel] at r ⊢ <;> first
    | exact r
    | (obtain ⟨p, hp, rest⟩ := r; exact ⟨p, h _ _ hp, rest⟩)
    | (obtain ⟨p, off, cap, hp, rest⟩ := r; exact ⟨p, off, cap, h _ _ hp, rest⟩)

theorem SRel.ext {c : Cx} {ρ ρ' : Rho} (h : Ext ρ ρ') {a : AV} {v : Value} (r : SRel c ρ a v) : SRel c ρ' a v := by
  cases a with
  | fn f caps => obtain ⟨g, cs, h1, h2, h3⟩ := r; exact ⟨g, cs, h1, h2, h3.mono fun _ _ => BRel.ext h⟩
  | undef => trivial
  | _ => simp only [SRel] at r ⊢; exact BRel.ext h r

theorem VRel1.ext {c : Cx} {ρ ρ' : Rho} (h : Ext ρ ρ') {a : AV} {v : Value} (r : VRel1 c ρ a v) : VRel1 c ρ' a v := by
  cases a with
  | agg l => obtain ⟨cs, h1, h2⟩ := r; exact ⟨cs, h1, h2.mono fun _ _ => SRel.ext h⟩
  | _ => simp only [VRel1] at r ⊢; exact SRel.ext h r

theorem VRel.ext {c : Cx} {ρ ρ' : Rho} (h : Ext ρ ρ') {a : AV} {v : Value} (r : VRel c ρ a v) : VRel c ρ' a v := by
  cases a with
  | tup l => obtain ⟨cs, h1, h2⟩ := r; exact ⟨cs, h1, h2.mono fun _ _ => VRel1.ext h⟩
  | _ => simp only [VRel] at r ⊢; exact VRel1.ext h r

/-- A scalar's value is one cell. -/
theorem SRel.cells {c : Cx} {ρ : Rho} {a : AV} {v : Value} (ha : a.isSc = true) (r : SRel c ρ a v) : v.cells = #[v] := by
  cases a <;> simp only [AV.isSc] at ha <;> simp only [SRel, BRel] at r <;> first
    | (subst r; rfl)
    | (obtain ⟨_, rfl, _⟩ := r; rfl)
    | (obtain ⟨_, _, rfl⟩ := r; rfl)
    | (obtain ⟨_, _, _, rfl, _⟩ := r; rfl)
    | (obtain ⟨_, _, _, _, rfl, _⟩ := r; rfl)
    | exact absurd (show false = true from ha) (by decide)

theorem VRel1.sc {c : Cx} {ρ : Rho} {a : AV} {v : Value} (ha : a.isSc = true) (r : VRel1 c ρ a v) : SRel c ρ a v := by
  cases a <;> first
    | exact absurd (show false = true from ha) (by decide)
    | (simp only [VRel1] at r; exact r)
theorem VRel.sc {c : Cx} {ρ : Rho} {a : AV} {v : Value} (ha : a.isSc = true) (r : VRel c ρ a v) : SRel c ρ a v := by
  cases a <;> first
    | exact absurd (show false = true from ha) (by decide)
    | (simp only [VRel] at r; exact VRel1.sc ha r)
theorem SRel.v1 {c : Cx} {ρ : Rho} {a : AV} {v : Value} (ha : a.isSc = true) (r : SRel c ρ a v) : VRel1 c ρ a v := by
  cases a <;> first
    | exact absurd (show false = true from ha) (by decide)
    | (simp only [VRel1]; exact r)
theorem VRel.v1 {c : Cx} {ρ : Rho} {a : AV} {v : Value} (ha : a.isV = true) (r : VRel c ρ a v) : VRel1 c ρ a v := by
  cases a <;> first
    | exact absurd (show false = true from ha) (by decide)
    | (simp only [VRel] at r; exact r)
theorem VRel1.v {c : Cx} {ρ : Rho} {a : AV} {v : Value} (r : VRel1 c ρ a v) (ha : ∀ l, a ≠ .tup l) : VRel c ρ a v := by
  cases a <;> first
    | exact absurd rfl (ha _)
    | (simp only [VRel]; exact r)
theorem SRel.v {c : Cx} {ρ : Rho} {a : AV} {v : Value} (ha : a.isSc = true) (r : SRel c ρ a v) : VRel c ρ a v :=
  (SRel.v1 ha r).v (by intro l e; subst e; exact absurd (show false = true from ha) (by decide))
theorem VRel.undef {c : Cx} {ρ : Rho} {v : Value} : VRel c ρ .undef v := by simp only [VRel, VRel1, SRel]

/-- A value's cells. -/
theorem VRel.cells {c : Cx} {ρ : Rho} {a : AV} {v : Value} (ha : a.cells.all AV.isSc = true) (r : VRel c ρ a v) : All2 (SRel c ρ) a.cells v.cells.toList := by
  cases a with
  | agg l => obtain ⟨cs, rfl, h2⟩ := r; exact h2
  | tup l => simp [AV.cells, AV.isSc] at ha
  | undef => simp [AV.cells, AV.isSc] at ha
  | _ => (have r' := VRel.sc (by rfl) r); rw [SRel.cells (by rfl) r']; exact ⟨r', trivial⟩

/-- May a block be written? -/
def Blk.wr : Blk → Bool
  | .cells _ k => !Nat.beq k 0
  | .mp _ _ => true
  | .dead => false
def Blk.live : Blk → Bool
  | .dead => false
  | _ => true

/-- What a kind says of a row's type and its frozen cells. -/
def KindOk (c : Cx) (k : Nat) (p : Pl) (size : Nat) (e : TypeId) (fz : Nat × Nat) : Prop :=
  (k ≠ 0 → k ≠ 3 → fz.1 = fz.2) ∧ (k = 3 → (fz.1 = fz.2 ∨ size ≤ fz.1) ∧ ∃ i, c.P.info? e = some i ∧ i.desc = .int .u8 ∧ i.size = 1) ∧
    (k = 2 → c.isB e = true ∧ p.s = 0)

def EntRel (c : Cx) (ρ : Rho) (x : AV × AV × Nat) (m : MapEntry) : Prop := SRel c ρ x.1 m.key ∧ x.1.isSc = true ∧ VRel1 c ρ x.2.1 m.val ∧ x.2.1.isV = true ∧ m.born = x.2.2

def BlkRel (c : Cx) (ρ : Rho) (p : Pl) (W : World) : Blk → Prop
  | .cells l k => l.length = p.n ∧ ∃ cs e fz, W.heap[p.c]? = some (.cells cs e fz) ∧ p.s + p.n + p.e ≤ cs.size ∧ (∀ i a, l[i]? = some a → ∃ v, cs[p.s + i]? = some v ∧ SRel c ρ a v) ∧ KindOk c k p cs.size e fz
  | .mp es cl => p.s = 0 ∧ p.n = 1 ∧ ∃ ms, W.heap[p.c]? = some (.map ms cl) ∧ All2 (EntRel c ρ) es ms.toList
  | .dead => True

/-- Two places are in two blocks of the model. -/
def Pl.apart (p q : Pl) : Prop := p.c ≠ q.c
theorem Pl.apart.symm {p q : Pl} (h : p.apart q) : q.apart p := fun e => h e.symm

structure Rel (c : Cx) (base : Nat) (ρ : Rho) (H : Heap) (W : World) : Prop where
  size : base ≤ W.heap.size
  dom : ∀ b p, ρ b = some p → b < H.next
  in_ : ∀ b p, ρ b = some p → p.c < W.heap.size
  blk : ∀ b p, ρ b = some p → ∃ x, H.get b = some x ∧ BlkRel c ρ p W x
  low : ∀ b p x, ρ b = some p → H.get b = some x → x.wr = true → base ≤ p.c
  apart : ∀ b b' p p' x x', b ≠ b' → ρ b = some p → ρ b' = some p' → H.get b = some x → H.get b' = some x' → x.live = true → x'.wr = true → p.apart p'
  glob : ∀ g b, c.gm g = some b → ∃ p, ρ b = some p ∧ p.c = g ∧ p.s = 0

structure Goes (c : Cx) (base : Nat) (ρ : Rho) (H : Heap) (W : World) (ρ' : Rho) (H' : Heap) (W' : World) : Prop where
  ext : Ext ρ ρ'
  rel : Rel c base ρ' H' W'
  below : Below base W W'
  next : H.next ≤ H'.next
  new : ∀ b p, ρ' b = some p → ρ b = some p ∨ H.next ≤ b
  kept : ∀ b, b < H.next → ρ b = none → H'.get b = H.get b

theorem Goes.refl {c : Cx} {base : Nat} {ρ : Rho} {H : Heap} {W : World} (h : Rel c base ρ H W) : Goes c base ρ H W ρ H W :=
  ⟨.refl _, h, .refl _ _, Nat.le_refl _, fun _ _ h => .inl h, fun _ _ _ => rfl⟩

theorem Goes.trans {c : Cx} {base : Nat} {ρ ρ' ρ'' : Rho} {H H' H'' : Heap} {W W' W'' : World} (h : Goes c base ρ H W ρ' H' W') (k : Goes c base ρ' H' W' ρ'' H'' W'') :
    Goes c base ρ H W ρ'' H'' W'' :=
  ⟨h.ext.trans k.ext, k.rel, h.below.trans k.below, Nat.le_trans h.next k.next,
    fun b p hp => (k.new b p hp).elim (fun hp' => h.new b p hp') (fun hb => .inr (Nat.le_trans h.next hb)),
    fun b hb hn => by
      have hn' : ρ' b = none := by
        cases hb' : ρ' b with
        | none => rfl
        | some p => rcases h.new b p hb' with h1 | h1
                    · rw [hn] at h1; cases h1
                    · omega
      rw [k.kept b (Nat.lt_of_lt_of_le hb h.next) hn', h.kept b hb hn]⟩

/-- The relation looks at the model's heap alone. -/
theorem BlkRel.heap {c : Cx} {ρ : Rho} {p : Pl} {W W' : World} {x : Blk} (h : W'.heap[p.c]? = W.heap[p.c]?) (r : BlkRel c ρ p W x) : BlkRel c ρ p W' x := by
  cases x with
  | cells l k => simpa only [BlkRel, h] using r
  | mp es cl => simpa only [BlkRel, h] using r
  | dead => trivial

theorem Rel.heap {c : Cx} {base : Nat} {ρ : Rho} {H : Heap} {W W' : World} (h : W'.heap = W.heap) (r : Rel c base ρ H W) : Rel c base ρ H W' :=
  ⟨by rw [h]; exact r.size, r.dom, by rw [h]; exact r.in_, fun b p hp => let ⟨x, hx, hr⟩ := r.blk b p hp; ⟨x, hx, hr.heap (by rw [h])⟩, r.low, r.apart, r.glob⟩

theorem BlkRel.ext {c : Cx} {ρ ρ' : Rho} {p : Pl} {W : World} {x : Blk} (h : Ext ρ ρ') (r : BlkRel c ρ p W x) : BlkRel c ρ' p W x := by
  cases x with
  | cells l k =>
    obtain ⟨h1, cs, e, fz, h2, h3, h4, h5⟩ := r
    exact ⟨h1, cs, e, fz, h2, h3, fun i a hi => let ⟨v, hv, hr⟩ := h4 i a hi; ⟨v, hv, hr.ext h⟩, h5⟩
  | mp es cl =>
    obtain ⟨h1, h2, ms, h3, h4⟩ := r
    exact ⟨h1, h2, ms, h3, h4.mono fun _ _ ⟨a, b, d, e, f⟩ => ⟨a.ext h, b, d.ext h, e, f⟩⟩
  | dead => trivial

/-- A heap that has more blocks. -/
theorem Rel.more {c : Cx} {base : Nat} {ρ : Rho} {H H' : Heap} {W : World} (r : Rel c base ρ H W) (hn : H.next ≤ H'.next) (h : ∀ b, b < H.next → H'.get b = H.get b) : Rel c base ρ H' W := by
  refine ⟨r.size, fun b p hp => Nat.lt_of_lt_of_le (r.dom b p hp) hn, r.in_, fun b p hp => ?_, fun b p x hp hx => ?_, fun b b' p p' x x' hne hp hp' hx hx' => ?_, r.glob⟩
  · rw [h b (r.dom b p hp)]; exact r.blk b p hp
  · rw [h b (r.dom b p hp)] at hx; exact r.low b p x hp hx
  · rw [h b (r.dom b p hp)] at hx; rw [h b' (r.dom b' p' hp')] at hx'; exact r.apart b b' p p' x x' hne hp hp' hx hx'

def Rho.at_ (ρ : Rho) (b : Nat) (p : Pl) : Rho := fun i => if i = b then some p else ρ i
theorem Rho.ext_at {ρ : Rho} {b : Nat} {p : Pl} (h : ρ b = none) : Ext ρ (ρ.at_ b p) := by
  intro i q hq
  unfold Rho.at_
  by_cases e : i = b
  · subst e; rw [h] at hq; cases hq
  · rw [if_neg e]; exact hq

/-- A block of the clean heap that had no place gets a new block of the model's. -/
theorem Rel.adopt {c : Cx} {base : Nat} {ρ : Rho} {H : Heap} {W W' : World} (r : Rel c base ρ H W) {b : Nat} {x : Blk} {p : Pl} {o : Obj}
    (hb : b < H.next) (hn : ρ b = none) (hx : H.get b = some x) (hw : W'.heap = W.heap.push o) (hp : p.c = W.heap.size) (hr : BlkRel c (ρ.at_ b p) p W' x) :
    Rel c base (ρ.at_ b p) H W' := by
  have hext := Rho.ext_at (p := p) hn
  have hold : ∀ i, i < W.heap.size → W'.heap[i]? = W.heap[i]? := by
    intro i hi; rw [hw, Array.getElem?_push, if_neg (by omega)]
  have hcase : ∀ i q, (ρ.at_ b p) i = some q → (i = b ∧ q = p) ∨ (i ≠ b ∧ ρ i = some q) := by
    intro i q hq
    unfold Rho.at_ at hq
    by_cases e : i = b
    · rw [if_pos e] at hq; exact .inl ⟨e, (Option.some.inj hq).symm⟩
    · rw [if_neg e] at hq; exact .inr ⟨e, hq⟩
  have hsz : W'.heap.size = W.heap.size + 1 := by rw [hw]; simp
  refine ⟨by have := r.size; omega, fun i q hq => ?_, fun i q hq => ?_, fun i q hq => ?_, fun i q y hq hy hwr => ?_, fun i j q q' y y' hne hq hq' hy hy' hl hwr => ?_, fun g i hg => let ⟨q, h1, h2, h3⟩ := r.glob g i hg; ⟨q, hext i q h1, h2, h3⟩⟩
  · rcases hcase i q hq with ⟨rfl, _⟩ | ⟨_, h⟩
    · exact hb
    · exact r.dom i q h
  · rcases hcase i q hq with ⟨_, rfl⟩ | ⟨_, h⟩
    · omega
    · have := r.in_ i q h; omega
  · rcases hcase i q hq with ⟨rfl, rfl⟩ | ⟨_, h⟩
    · exact ⟨x, hx, hr⟩
    · obtain ⟨y, hy, hyr⟩ := r.blk i q h
      exact ⟨y, hy, (hyr.ext hext).heap (hold _ (r.in_ i q h))⟩
  · rcases hcase i q hq with ⟨_, rfl⟩ | ⟨_, h⟩
    · have := r.size; omega
    · exact r.low i q y h hy hwr
  · rcases hcase i q hq with ⟨rfl, rfl⟩ | ⟨hi, h⟩ <;> rcases hcase j q' hq' with ⟨rfl, rfl⟩ | ⟨hj, h'⟩
    · exact absurd rfl hne
    · exact fun e => by have := r.in_ j q' h'; omega
    · exact fun e => by have := r.in_ i q h; omega
    · exact r.apart i j q q' y y' hne h h' hy hy' hl hwr

end Go.Dp
