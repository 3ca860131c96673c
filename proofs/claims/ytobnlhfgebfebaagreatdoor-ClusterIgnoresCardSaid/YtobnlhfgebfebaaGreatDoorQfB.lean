/- The fast machine, part B: its heap, its operations, and that they do what the clean machine's do. Conditions: none. -/
import Derived.Test.YtobnlhfgebfebaaGreatDoorQfA
namespace Go.Dp.Fs
open Go.Dp

/-- a block: n cells as a tree -/
inductive FB where
  | c (n : Nat) (t : Tr AV) (k : Nat)
  | m (es : List (AV × AV × Nat)) (cl : Nat)
  | dead
  deriving Inhabited

structure FH where
  t : Tr FB
  next : Nat

def BR : Option Blk → Option FB → Prop
  | none, none => True
  | some (.cells l k), some (.c n t k') => k = k' ∧ n = l.length ∧ CR l t
  | some (.mp es c), some (.m es' c') => es = es' ∧ c = c'
  | some .dead, some .dead => True
  | _, _ => False

structure HR (H : Heap) (T : FH) : Prop where
  next : T.next = H.next
  at_ : ∀ b, BR (H.get b) (gt T.t b)

theorem HR.c {H : Heap} {T : FH} (h : HR H T) {b n k : Nat} {t : Tr AV} (e : gt T.t b = some (.c n t k)) : ∃ l, H.get b = some (.cells l k) ∧ n = l.length ∧ CR l t := by
  have := h.at_ b
  rw [e] at this
  cases hb : H.get b with
  | none => rw [hb] at this; exact this.elim
  | some x =>
    rw [hb] at this
    cases x with
    | cells l k' => obtain ⟨rfl, h2, h3⟩ := this; exact ⟨l, rfl, h2, h3⟩
    | mp _ _ => exact this.elim
    | dead => exact this.elim
theorem HR.m {H : Heap} {T : FH} (h : HR H T) {b cl : Nat} {es : List (AV × AV × Nat)} (e : gt T.t b = some (.m es cl)) : H.get b = some (.mp es cl) := by
  have := h.at_ b
  rw [e] at this
  cases hb : H.get b with
  | none => rw [hb] at this; exact this.elim
  | some x =>
    rw [hb] at this
    cases x with
    | cells l k' => exact this.elim
    | mp _ _ => obtain ⟨rfl, rfl⟩ := this; rfl
    | dead => exact this.elim
theorem HR.none {H : Heap} {T : FH} (h : HR H T) {b : Nat} (e : gt T.t b = none) : H.get b = none := by
  have := h.at_ b
  rw [e] at this
  cases hb : H.get b with
  | none => rfl
  | some x => rw [hb] at this; cases x <;> exact this.elim

noncomputable def put (T : FH) (b : Nat) (x : FB) : FH := ⟨st x T.t b, T.next⟩
theorem HR.put {H : Heap} {T : FH} (h : HR H T) {b : Nat} {x : FB} {y : Blk} (hb : (gt T.t b).isSome = true) (hxy : BR (some y) (some x)) : HR (H.put b y) (put T b x) := by
  refine ⟨by rw [Heap.next_put]; exact h.next, fun c => ?_⟩
  rw [Heap.get_put, gt_eq]
  show BR _ ((st x T.t b).get c)
  rw [get_st]
  by_cases hc : c = b
  · subst hc
    rw [if_pos rfl, if_pos rfl]
    rw [gt_eq] at hb
    cases e : T.t.get c with
    | none => rw [e] at hb; cases hb
    | some _ => exact hxy
  · rw [if_neg hc, if_neg hc, ← gt_eq]; exact h.at_ c

/-- a new block -/
noncomputable def new (T : FH) (x : FB) : FH := ⟨stg 32 T.t T.next x, Nat.succ T.next⟩
theorem HR.new {H : Heap} {T : FH} (h : HR H T) {x : FB} {y : Blk} (hn : T.next < 1000000000) (hxy : BR (some y) (some x)) : HR (H.new y) (new T x) := by
  refine ⟨by rw [Heap.next_new, ← h.next]; rfl, fun c => ?_⟩
  rw [Heap.get_new, gt_eq]
  show BR _ ((stg 32 T.t T.next x).get c)
  rw [get_stg 32 _ _ _ _ (by omega), h.next]
  by_cases hc : c = H.next
  · rw [if_pos hc, if_pos hc]; exact hxy
  · rw [if_neg hc, if_neg hc, ← gt_eq]; exact h.at_ c

/-- what a block is as a list: the default where the tree is none -/
noncomputable def toB (x : FB) : Blk := match x with
  | .c n t k => .cells ((rng t n 0).getD []) k
  | .m es cl => .mp es cl
  | .dead => .dead

noncomputable def mapT (t : Tr FB) : Tr Blk :=
  Tr.rec (motive := fun _ => Tr Blk) .leaf (fun _ v _ l r => .node l (Option.rec (motive := fun _ => Option Blk) none (fun x => some (toB x)) v) r) t
theorem get_mapT (t : Tr FB) : ∀ n, (mapT t).get n = (t.get n).map toB := by
  induction t with
  | leaf => intro n; rfl
  | node l v r hl hr =>
    intro n
    show (Tr.node (mapT l) (Option.rec (motive := fun _ => Option Blk) none (fun x => some (toB x)) v) (mapT r)).get n = _
    rw [Tr.get, Tr.get, hl, hr]
    cases Nat.beq n 0
    · cases Nat.beq (n % 2) 1 <;> rfl
    · cases v <;> rfl
noncomputable def view (T : FH) : Heap := ⟨mapT T.t, T.next⟩

theorem HR.view {H : Heap} {T : FH} (h : HR H T) (b : Nat) : (view T).get b = H.get b := by
  show (mapT T.t).get b = _
  rw [get_mapT, ← gt_eq]
  cases e : gt T.t b with
  | none => rw [h.none e]; rfl
  | some x =>
    cases x with
    | c n t k =>
      obtain ⟨l, h1, h2, h3⟩ := h.c e
      rw [h1]
      subst h2
      show some (Blk.cells _ _) = _
      rw [h3.all]; rfl
    | m es cl => rw [h.m e]; rfl
    | dead =>
      have := h.at_ b
      rw [e] at this
      cases hb : H.get b with
      | none => rw [hb] at this; exact this.elim
      | some x => rw [hb] at this; cases x with
        | dead => rfl
        | cells _ _ => exact this.elim
        | mp _ _ => exact this.elim

/-- the operand -/
noncomputable def at' (fr : Tr AV) (x : X) : AV := X.rec (motive := fun _ => AV) (fun i => look fr i) (fun v => v) x
noncomputable def sb (fr : Tr AV) (x : X) : X := .c (at' fr x)
noncomputable def sbo (fr : Tr AV) (x : Option X) : Option X := Option.rec (motive := fun _ => Option X) none (fun x => some (.c (at' fr x))) x
noncomputable def sbl (fr : Tr AV) (l : List X) : List X := List.rec (motive := fun _ => List X) [] (fun x _ ih => .c (at' fr x) :: ih) l
noncomputable def sbp (fr : Tr AV) (l : List (Nat × Nat × X)) : List (Nat × Nat × X) := List.rec (motive := fun _ => List (Nat × Nat × X)) [] (fun p _ ih => (p.1, p.2.1, .c (at' fr p.2.2)) :: ih) l
noncomputable def atl (fr : Tr AV) (l : List X) : List AV := List.rec (motive := fun _ => List AV) [] (fun x _ ih => at' fr x :: ih) l

section
variable {fr : List AV} {t : Tr AV} (h : CR fr t)
include h
theorem at_eq (x : X) : at' t x = x.ev fr := by cases x with
  | t i => exact h.look i
  | c v => rfl
theorem atl_eq : ∀ l : List X, atl t l = l.map (X.ev fr)
  | [] => rfl
  | x :: l => by show at' t x :: atl t l = _; rw [at_eq h, atl_eq l]; rfl
theorem lay_eq : ∀ (l : List (Nat × Nat × X)) (z : List AV), lay [] z (sbp t l) = lay fr z l
  | [], z => rfl
  | (o, n, x) :: l, z => by
    show lay [] z ((o, n, X.c (at' t x)) :: sbp t l) = _
    rw [lay, lay, at_eq h]
    simp only [X.ev]
    rw [lay_eq l]
theorem bnds_eq (a b : Nat) (lo hi : Option X) : bnds [] a b (sbo t lo) (sbo t hi) = bnds fr a b lo hi := by
  cases lo <;> cases hi <;> simp only [bnds, sbo, X.ev, at_eq h]
theorem rSl3_eq (a b : Nat) (lo hi : Option X) (u : AV) : rSl3 [] a b (sbo t lo) (sbo t hi) u = rSl3 fr a b lo hi u := by
  unfold rSl3
  cases bnd u b with
  | none => rfl
  | some m' =>
    have := bnds_eq h a m' lo hi
    cases hi with
    | none => rfl
    | some x => simp only [sbo] at this ⊢; rw [this]
theorem rSlstr_eq (x : AV) (lo hi : Option X) : rSlstr [] x (sbo t lo) (sbo t hi) = rSlstr fr x lo hi := by
  cases x <;> simp only [rSlstr, bnds_eq h]
theorem mms_eq (mx : Bool) : ∀ (l : List X) (v : AV), mms mx [] v (sbl t l) = mms mx fr v l
  | [], v => rfl
  | x :: l, v => by
    show mms mx [] v (X.c (at' t x) :: sbl t l) = _
    rw [mms, mms, at_eq h, show (X.c (x.ev fr)).ev [] = x.ev fr from rfl]
    cases mm mx v (x.ev fr) with
    | none => rfl
    | some w => exact mms_eq mx l w
theorem rMm_eq (mx : Bool) (l : List X) : rMm mx [] (sbl t l) = rMm mx fr l := by
  cases l with
  | nil => rfl
  | cons x l =>
    show rMm mx [] (X.c (at' t x) :: sbl t l) = _
    rw [rMm, rMm, at_eq h]
    exact mms_eq h mx l _
end

/-- a load -/
noncomputable def fLoad (T : FH) (agg : Bool) (n : Nat) (x : AV) : Option AV := match x with
  | .ptr b o => (match gt T.t b with
    | some (.c N t _) => bif' agg (bif' (Nat.ble (o + n) N) ((rng t n o).map AV.agg) none) (bif' (Nat.beq n 1) (gt t o) none)
    | _ => none)
  | _ => none

theorem fLoad_ok {H : Heap} {T : FH} (h : HR H T) {agg : Bool} {n : Nat} {x v : AV} (e : fLoad T agg n x = some v) : rLoad H agg n x = some v := by
  unfold fLoad at e
  cases x <;> try (cases e; done)
  rename_i b o
  simp only at e
  cases hb : gt T.t b with
  | none => rw [hb] at e; cases e
  | some y =>
    rw [hb] at e
    cases y with
    | m _ _ => cases e
    | dead => cases e
    | c N t k =>
      obtain ⟨l, h1, rfl, h3⟩ := h.c hb
      simp only [bif'_eq] at e
      simp only [rLoad, Heap.ld, h1]
      cases agg with
      | true =>
        simp only [cond_true] at e
        cases hle : Nat.ble (o + n) l.length with
        | false => rw [hle] at e; cases e
        | true =>
          rw [hle] at e
          simp only [cond_true] at e ⊢
          rw [h3.rng n o (by simpa [nble] using hle)] at e
          exact e
      | false =>
        simp only [cond_false] at e
        cases hn : Nat.beq n 1 with
        | false => rw [hn] at e; cases e
        | true =>
          rw [hn] at e
          simp only [cond_true] at e
          have : n = 1 := Nat.eq_of_beq_eq_true hn
          subst this
          rw [gt_eq, h3] at e
          obtain ⟨ho, rfl⟩ := List.getElem?_eq_some_iff.1 e
          have hle : Nat.ble (o + 1) l.length = true := by rw [nble]; exact decide_eq_true ho
          rw [hle]
          simp only [cond_true]
          rw [List.drop_eq_getElem_cons ho, List.take_succ_cons, List.take_zero]
          rfl

noncomputable def fSlsl (fr : Tr AV) (T : FH) (sz : Nat) (x : AV) (lo hi mx : Option X) : Option AV := match x with
  | .nils => (match mx with
    | some _ => none
    | none => match bnds [] 0 0 (sbo fr lo) (sbo fr hi) with
      | some _ => some .nils
      | none => none)
  | .sl b o len sz' => (match gt T.t b with
    | some (.c N _ _) =>
      bif' (Nat.beq sz sz' && !Nat.beq sz 0)
        (match mx with
        | some u => rSl3 [] len ((N - o) / sz) (sbo fr lo) (sbo fr hi) (at' fr u)
        | none => match bnds [] len ((N - o) / sz) (sbo fr lo) (sbo fr hi) with
          | some (l, h) => some (.sl b (o + l * sz) (h - l) sz)
          | none => none)
        none
    | _ => none)
  | _ => none

theorem fSlsl_ok {f : List AV} {fr : Tr AV} (hf : CR f fr) {H : Heap} {T : FH} (h : HR H T) {sz : Nat} {x : AV} {lo hi mx : Option X} {v : AV} (e : fSlsl fr T sz x lo hi mx = some v) : rSlsl f H sz x lo hi mx = some v := by
  unfold fSlsl at e
  cases x <;> try (cases e; done)
  · simp only [bnds_eq hf] at e
    exact e
  · rename_i b o len sz'
    simp only [bnds_eq hf, rSl3_eq hf] at e
    cases hb : gt T.t b with
    | none => rw [hb] at e; cases e
    | some y =>
      rw [hb] at e
      cases y with
      | m _ _ => cases e
      | dead => cases e
      | c N t k =>
        obtain ⟨l, h1, rfl, h3⟩ := h.c hb
        simp only [bif'_eq, at_eq hf] at e
        simp only [rSlsl, h1]
        exact e

theorem evalR_congr {H H' : Heap} (h : ∀ b, H.get b = H'.get b) (fr : List AV) (p : PR) : evalR fr H p = evalR fr H' p := by
  cases p <;> simp only [evalR]
  case load agg n x => cases x.ev fr <;> simp only [rLoad, Heap.ld, h]
  case eqc neg x y => cases x.ev fr <;> cases y.ev fr <;> simp only [rEqc, h]
  case b2s x => cases x.ev fr <;> simp only [rB2s, Heap.ld, h]
  case slsl sz x lo hi mx => cases x.ev fr <;> simp only [rSlsl, h]
  case slarr n sz x lo hi => cases x.ev fr <;> simp only [rSlarr, h]
  case look str zero ok m k => cases m.ev fr <;> simp only [rLook, entries, h]
  case lenm x => cases x.ev fr <;> simp only [rLenm, entries, h]
  case p2u x => cases x.ev fr <;> simp only [rP2u, h]
  case u2b n x => cases x.ev fr <;> simp only [rU2b, h]
  case sdata x => cases x.ev fr <;> simp only [rSdata, h]

/-- reading operations -/
noncomputable def evR (p : PR) : Tr AV → FH → Option AV :=
  PR.rec (motive := fun _ => Tr AV → FH → Option AV)
    (fun x fr _ => some (at' fr x))
    (fun c a b fr _ => rPick (at' fr c) (at' fr a) (at' fr b))
    (fun zero parts fr _ => rBuild (lay [] zero (sbp fr parts)))
    (fun agg n x fr T => fLoad T agg n (at' fr x))
    (fun x fr _ => rNilck (at' fr x))
    (fun op x y fr _ => bin op (at' fr x) (at' fr y))
    (fun neg k x y fr _ => negIf neg (eqv k (at' fr x) (at' fr y)))
    (fun neg x y fr T => negIf neg (rEqc (view T) (at' fr x) (at' fr y)))
    (fun neg ks x y fr _ => negIf neg (aggEq ks (at' fr x) (at' fr y)))
    (fun op x fr _ => un op (at' fr x))
    (fun k x fr _ => rCint k (at' fr x))
    (fun x fr _ => some (at' fr x))
    (fun x fr T => rB2s (view T) (at' fr x))
    (fun x lo hi fr _ => rSlstr [] (at' fr x) (sbo fr lo) (sbo fr hi))
    (fun sz x lo hi mx fr T => fSlsl fr T sz (at' fr x) lo hi mx)
    (fun n sz x lo hi fr T => rSlarr [] (view T) n sz (at' fr x) (sbo fr lo) (sbo fr hi))
    (fun off x fr _ => rFaddr off (at' fr x))
    (fun agg n off x fr _ => rFld agg n off (at' fr x))
    (fun sz x i fr _ => rIasl sz (at' fr x) (at' fr i))
    (fun len sz x i fr _ => rIaarr len sz (at' fr x) (at' fr i))
    (fun x i fr _ => rIxstr (at' fr x) (at' fr i))
    (fun len agg n x i fr _ => rIxagg len agg n (at' fr x) (at' fr i))
    (fun str zero ok m k fr T => rLook (view T) str zero ok (at' fr m) (at' fr k))
    (fun i x fr _ => rExt i (at' fr x))
    (fun x fr _ => rLens (at' fr x))
    (fun x fr _ => rLensl (at' fr x))
    (fun x fr T => rLenm (view T) (at' fr x))
    (fun x fr _ => rSstr (at' fr x))
    (fun x fr _ => rCap (at' fr x))
    (fun mx xs fr _ => rMm mx [] (sbl fr xs))
    (fun f caps fr _ => rMkfn f (atl fr caps))
    (fun x fr T => rP2u (view T) (at' fr x))
    (fun n x fr T => rU2b (view T) n (at' fr x))
    (fun x fr T => rSdata (view T) (at' fr x))
    (fun s c fr _ => rIndex (at' fr s) (at' fr c))
    (fun s c fr _ => rCount (at' fr s) (at' fr c))
    (fun _ _ => none) p

theorem evR_ok {f : List AV} {fr : Tr AV} (hf : CR f fr) {H : Heap} {T : FH} (h : HR H T) {p : PR} {v : AV} (e : evR p fr T = some v) : evalR f H p = some v := by
  cases p
  case load agg n x => exact fLoad_ok h (by rw [← at_eq hf]; exact e)
  case slsl sz x lo hi mx => exact fSlsl_ok hf h (by rw [← at_eq hf]; exact e)
  case build zero parts => rw [← e]; show _ = rBuild (lay [] zero (sbp fr parts)); rw [lay_eq hf]; rfl
  case slstr x lo hi => rw [← e]; show _ = rSlstr [] (at' fr x) (sbo fr lo) (sbo fr hi); rw [rSlstr_eq hf, at_eq hf]; rfl
  case minmax mx xs => rw [← e]; show _ = rMm mx [] (sbl fr xs); rw [rMm_eq hf]; rfl
  case mkfn g caps => rw [← e]; show _ = rMkfn g (atl fr caps); rw [atl_eq hf]; rfl
  case slarr n sz x lo hi =>
    rw [← evalR_congr h.view, ← e]
    show rSlarr f (view T) n sz (x.ev f) lo hi = rSlarr [] (view T) n sz (at' fr x) (sbo fr lo) (sbo fr hi)
    rw [at_eq hf]
    cases x.ev f <;> simp only [rSlarr, bnds_eq hf]
  all_goals (rw [← evalR_congr h.view, ← e]; simp only [evalR, ← at_eq hf]; rfl)

/-- operations that make a block -/
noncomputable def ofB (x : Blk) : Option FB := match x with
  | .cells l k => bif' (Nat.blt l.length 1000000000) (some (.c l.length (pushL l .leaf 0) k)) none
  | .mp es cl => some (.m es cl)
  | .dead => some .dead
theorem ofB_ok {x : Blk} {y : FB} (h : ofB x = some y) : BR (some x) (some y) := by
  cases x with
  | mp es cl => cases h; exact ⟨rfl, rfl⟩
  | dead => cases h; trivial
  | cells l k =>
    simp only [ofB, bif'_eq] at h
    cases hb : Nat.blt l.length 1000000000 with
    | false => rw [hb] at h; cases h
    | true =>
      rw [hb] at h
      cases h
      have := cr_nil (α := AV)|>.push (vs := l) (by simpa [nblt] using hb)
      exact ⟨rfl, rfl, by simpa using this⟩

noncomputable def rowOf (v : AV) (n k : Nat) : Option FB := bif' (Nat.blt n 1000000000) (some (.c n (tmpl v 32 n) k)) none
theorem rowOf_ok {v : AV} {n k : Nat} {y : FB} (h : rowOf v n k = some y) : BR (some (.cells (List.replicate n v) k)) (some y) := by
  simp only [rowOf, bif'_eq] at h
  cases hb : Nat.blt n 1000000000 with
  | false => rw [hb] at h; cases h
  | true =>
    rw [hb] at h
    cases h
    simp only [nblt, decide_eq_true_eq] at hb
    refine ⟨rfl, by simp, fun i => ?_⟩
    rw [get_tmpl _ _ _ _ (by omega), List.getElem?_replicate]
theorem rep_one (v : AV) : ∀ n, rep n [v] = List.replicate n v
  | 0 => rfl
  | n + 1 => by rw [rep, rep_one v n, List.replicate_succ]; rfl

noncomputable def gen (m : Made) : Option (FB × (Nat → AV)) := match m with
  | some (b, f) => (match ofB b with
    | some y => some (y, f)
    | none => none)
  | none => none
noncomputable def fMksl (k sz bytes : Nat) (zero : List AV) (l c : AV) : Option (FB × (Nat → AV)) := match zero with
  | [z] => (match natOf l with
    | some l => (match natOf c with
      | some c => bif' (Nat.ble l c && (Nat.ble (bytes * c) 140737488355328 && Nat.ble c 140737488355328)) (match rowOf z c (k + 1) with
        | some y => some (y, slTo l sz)
        | none => none) none
      | none => none)
    | none => none)
  | _ => gen (nMksl k sz bytes zero l c)

noncomputable def evN (p : PN) : Tr AV → Option (FB × (Nat → AV)) :=
  PN.rec (motive := fun _ => Tr AV → Option (FB × (Nat → AV)))
    (fun k cells _ => gen (some (.cells cells (k + 1), ptrTo)))
    (fun x fr => gen (nBox (at' fr x).cells))
    (fun k sz len init parts fr => gen (nBslice k sz len (lay [] init (sbp fr parts))))
    (fun k sz bytes zero l c fr => fMksl k sz bytes zero (at' fr l) (at' fr c))
    (fun x fr => gen (nS2b (at' fr x)))
    (fun x fr => gen (nNozero (at' fr x)))
    (fun _ => some (.m [] 0, .map)) p

theorem gen_ok {m : Made} {y : FB} {g : Nat → AV} (e : gen m = some (y, g)) : ∃ x, m = some (x, g) ∧ BR (some x) (some y) := by
  unfold gen at e
  split at e
  · rename_i b f
    split at e
    · rename_i y' hy; cases e; exact ⟨b, rfl, ofB_ok hy⟩
    · cases e
  · cases e

theorem evN_ok {f : List AV} {fr : Tr AV} (hf : CR f fr) {p : PN} {y : FB} {g : Nat → AV} (e : evN p fr = some (y, g)) : ∃ x, evalN f p = some (x, g) ∧ BR (some x) (some y) := by
  cases p
  case new k cells => exact gen_ok e
  case box x => obtain ⟨z, h1, h2⟩ := gen_ok e; exact ⟨z, by rw [← h1, at_eq hf]; rfl, h2⟩
  case bslice k sz len init parts => obtain ⟨z, h1, h2⟩ := gen_ok e; exact ⟨z, by rw [← h1, lay_eq hf]; rfl, h2⟩
  case s2b x => obtain ⟨z, h1, h2⟩ := gen_ok e; exact ⟨z, by rw [← h1, at_eq hf]; rfl, h2⟩
  case nozero x => obtain ⟨z, h1, h2⟩ := gen_ok e; exact ⟨z, by rw [← h1, at_eq hf]; rfl, h2⟩
  case mkmap => cases e; exact ⟨_, rfl, rfl, rfl⟩
  case mksl k sz bytes zero l c =>
    replace e : fMksl k sz bytes zero (at' fr l) (at' fr c) = some (y, g) := e
    rw [at_eq hf, at_eq hf] at e
    unfold fMksl at e
    split at e
    · rename_i z
      cases hl : natOf (l.ev f) with
      | none => rw [hl] at e; cases e
      | some l' =>
        cases hc : natOf (c.ev f) with
        | none => rw [hl, hc] at e; cases e
        | some c' =>
          rw [hl, hc] at e
          simp only [bif'_eq] at e
          cases hb : Nat.ble l' c' && (Nat.ble (bytes * c') 140737488355328 && Nat.ble c' 140737488355328) with
          | false => rw [hb] at e; cases e
          | true =>
            rw [hb] at e
            simp only [cond_true] at e
            split at e
            · rename_i y' hy
              cases e
              refine ⟨_, ?_, rowOf_ok hy⟩
              simp only [evalN, nMksl, hl, hc, hb, cond_true, rep_one]
            · cases e
    · obtain ⟨z, h1, h2⟩ := gen_ok e
      exact ⟨z, by rw [← h1]; rfl, h2⟩

end Go.Dp.Fs
