/- The fast machine with oracles: a run over texts that are not known, where some functions and some branches are told by a tape; what the tape told is kept as a proposition. Conditions: none. -/
import Derived.Test.YtobnlhfgebfebaaGreatDoorQfC
set_option linter.unusedSimpArgs false
set_option linter.unusedVariables false
namespace Go.Dp.Fs
open Go.Dp

/-- the state: the heap, what the tape still tells, what it told -/
structure FS where
  c : FH
  tape : List AV
  ok : Prop

abbrev SEff := Option (AV × FS)
abbrev SCal := Nat → List AV → FS → SEff

noncomputable def lift (S : FS) (r : FEff) : SEff := match r with
  | some (v, T) => some (v, ⟨T, S.tape, S.ok⟩)
  | none => none
theorem lift_inv {S S' : FS} {r : FEff} {v : AV} (h : lift S r = some (v, S')) : r = some (v, S'.c) ∧ S'.ok = S.ok := by
  unfold lift at h
  split at h
  · cases h; exact ⟨rfl, rfl⟩
  · cases h

noncomputable def evES (p : PE) : SCal → Tr AV → FS → SEff :=
  PE.rec (motive := fun _ => SCal → Tr AV → FS → SEff)
    (fun n a v _ fr S => lift S (fStore S.c n (at' fr a) (at' fr v).cells))
    (fun str m k v _ fr S => lift S (fMupd S.c str (at' fr m) (at' fr k) (at' fr v)))
    (fun str zero m k _ fr S => lift S (fMent S.c str zero (at' fr m) (at' fr k)))
    (fun m s v _ fr S => lift S (fMest S.c (at' fr m) (at' fr s) (at' fr v)))
    (fun str m k _ fr S => lift S (fMdel S.c str (at' fr m) (at' fr k)))
    (fun k sz bytes s x _ fr S => lift S (fApp k sz bytes S.c (at' fr s) (at' fr x)))
    (fun sz d s _ fr S => lift S (fCopy S.c sz (at' fr d) (at' fr s)))
    (fun zero s _ fr S => lift S (fClear S.c zero (at' fr s)))
    (fun f args cal fr S => cal f (atl fr args) S)
    (fun f args cal fr S => match at' fr f with
      | .fn f caps => cal f (atl fr args ++ caps) S
      | _ => none)
    (fun p n _ fr S => lift S (match natOf (at' fr n) with
      | some n => bif' (Nat.ble n 35184372088832) (fUstr S.c (at' fr p) n) none
      | none => none))
    (fun x _ fr S => lift S (fMark S.c (at' fr x))) p

def isCall : PE → Bool
  | .call _ _ => true
  | .callv _ _ => true
  | _ => false

abbrev fNo : FCal := fun _ _ _ => none
theorem calOk_no : CalOk noCal fNo := fun _ _ _ _ _ _ _ h => by cases h

theorem evES_nc {p : PE} (hp : isCall p = false) (c : SCal) (fr : Tr AV) (S : FS) : evES p c fr S = lift S (evE p fNo fr S.c) := by
  cases p <;> first | rfl | cases hp

/-- bytes in one form: the payload a number, whatever it is -/
def nz (v : AV) : AV := match v with
  | .int .u8 n => .int .u8 (.ofNat n.toNat)
  | v => v
def isNrm : PR → Bool
  | .cint .u8 _ => true
  | .bin .or _ _ => true
  | _ => false
noncomputable def nrm (p : PR) (v : AV) : AV := bif' (isNrm p) (nz v) v
theorem nz_wr (k : IntKind) (n : Int) : nz (.int k (wr k n)) = .int k (wr k n) := by
  unfold nz
  split
  · rename_i m h
    cases h
    have : 0 ≤ wr .u8 n := by
      rw [wr_eq]
      simp [IntKind.wrap, IntKind.bits, IntKind.signed]
      omega
    congr 1
    show ((wr .u8 n).toNat : Int) = _
    omega
  · rfl
theorem nrm_ok {f : List AV} {H : Heap} {p : PR} {v : AV} (h : evalR f H p = some v) : nrm p v = v := by
  unfold nrm
  rw [bif'_eq]
  cases hp : isNrm p with
  | false => rfl
  | true =>
    rw [cond_true]
    unfold isNrm at hp
    split at hp
    · rename_i x
      simp only [evalR, rCint] at h
      split at h
      · cases h; exact nz_wr _ _
      · cases h
    · rename_i x y
      simp only [evalR, bin] at h
      split at h
      · split at h
        · simp only [binII] at h
          have h := (cond_some h).2
          cases h
          exact nz_wr _ _
        · cases h
      · split at h
        · cases h
        · cases h
      · cases h
    · cases hp

noncomputable def evOS (p : Pk) : SCal → Tr AV → FS → SEff :=
  Pk.rec (motive := fun _ => SCal → Tr AV → FS → SEff)
    (fun p _ fr S => match evR p fr S.c with
      | some v => some (nrm p v, S)
      | none => none)
    (fun p _ fr S => lift S (match evN p fr with
      | some (y, f) => (match gt S.c.t S.c.next with
        | none => fNew S.c (f S.c.next) (some y)
        | some _ => none)
      | none => none))
    (fun p c fr S => evES p c fr S) p

/-- a reading operation whose value the tape tells -/
noncomputable def tellR (p : Pk) (fr : Tr AV) (S : FS) : SEff := match S.tape with
  | v :: r => Pk.rec (motive := fun _ => SEff) (fun q => some (v, ⟨S.c, r, S.ok ∧ evR q fr S.c = some v⟩)) (fun _ => none) (fun _ => none) p
  | [] => none
noncomputable def isTold (td : Nat → Bool) (d : Option Nat) : Bool := Option.rec (motive := fun _ => Bool) false td d

noncomputable def stepS (td : Nat → Bool) (o : PO) : SCal → Tr AV → FS → Option (Tr AV × FS) :=
  PO.rec (motive := fun _ => SCal → Tr AV → FS → Option (Tr AV × FS)) (fun d g p c fr S => match wantT g fr with
    | some true => (match Bool.rec (motive := fun _ => SEff) (evOS p c fr S) (tellR p fr S) (isTold td d) with
      | some (v, S') => some (setT fr d v, S')
      | none => none)
    | some false => some (setT fr d (.tup []), S)
    | none => none) o

/-- what must be the same, text by text; none: they differ -/
def sameQ1 (x y : AV) : Option (List (List UInt8 × List UInt8)) := match x with
  | .str a => (match y with
    | .str b => some [(a, b)]
    | _ => none)
  | x => bif sameAV x y then some [] else none
def sameQL : List AV → List AV → Option (List (List UInt8 × List UInt8))
  | [], y => bif y.isEmpty then some [] else none
  | a :: x, y => (match y with
    | b :: y => (match sameQ1 a b with
      | some p => (match sameQL x y with
        | some q => some (p ++ q)
        | none => none)
      | none => none)
    | [] => none)
def sameQ (x y : AV) : Option (List (List UInt8 × List UInt8)) := match x with
  | .agg a => (match y with
    | .agg b => sameQL a b
    | _ => none)
  | x => sameQ1 x y
def AllEq : List (List UInt8 × List UInt8) → Prop
  | [] => True
  | (a, b) :: l => a = b ∧ AllEq l
theorem AllEq.app : ∀ {l m : List (List UInt8 × List UInt8)}, AllEq (l ++ m) → AllEq l ∧ AllEq m
  | [], _, h => ⟨trivial, h⟩
  | (a, b) :: l, m, h => ⟨⟨h.1, (AllEq.app (l := l) h.2).1⟩, (AllEq.app (l := l) h.2).2⟩
theorem beqB_refl (l : List UInt8) : beqB l l = true := by rw [beqB_eq]; simp
theorem sameQ1_ok {x y : AV} {l : List (List UInt8 × List UInt8)} (h : sameQ1 x y = some l) (ha : AllEq l) : sameAV x y = true := by
  unfold sameQ1 at h
  split at h
  · split at h
    · cases h
      obtain ⟨rfl, _⟩ := ha
      exact beqB_refl _
    · cases h
  · cases hs : sameAV x y with
    | true => rfl
    | false => rw [hs] at h; cases h
theorem sameQL_ok : ∀ {x y : List AV} {l : List (List UInt8 × List UInt8)}, sameQL x y = some l → AllEq l → sameCells x y = true
  | [], y, l, h, _ => by
    unfold sameQL at h
    unfold sameCells
    cases hy : y.isEmpty with
    | true => rfl
    | false => rw [hy] at h; cases h
  | a :: x, y, l, h, ha => by
    unfold sameQL at h
    split at h
    · rename_i b y
      split at h
      · rename_i p hp
        split at h
        · rename_i q hq
          cases h
          have := ha.app
          unfold sameCells
          simp only [sameQ1_ok hp this.1, sameQL_ok hq this.2, Bool.and_self]
        · cases h
      · cases h
    · cases h
theorem sameQ_ok {x y : AV} {l : List (List UInt8 × List UInt8)} (h : sameQ x y = some l) (ha : AllEq l) : sameV x y = true := by
  unfold sameQ at h
  split at h
  · split at h
    · exact sameQL_ok h ha
    · cases h
  · rename_i hx
    have := sameQ1_ok h ha
    unfold sameV
    split
    · rename_i a; exact (hx a rfl).elim
    · exact this

/-- a reading operation that must give what it gave: texts that must be the same are noted -/
noncomputable def againS (td : Nat → Bool) (o : PO) : SCal → Tr AV → FS → Option (Tr AV × FS) :=
  PO.rec (motive := fun _ => SCal → Tr AV → FS → Option (Tr AV × FS)) (fun d g p _ fr S => match p with
    | .r p => (match d with
      | some d => (match wantT g fr with
        | some true => (match evR p fr S.c with
          | some v => Bool.rec (motive := fun _ => Option (Tr AV × FS)) (match sameQ v (look fr d) with
            | some [] => some (fr, S)
            | some (x :: l) => some (fr, ⟨S.c, S.tape, S.ok ∧ AllEq (x :: l)⟩)
            | none => none) (some (fr, ⟨S.c, S.tape, S.ok ∧ sameV v (look fr d) = true⟩)) (td d)
          | none => none)
        | some false => some (fr, S)
        | none => none)
      | none => none)
    | _ => none) o
theorem againS_inv {td : Nat → Bool} {o : PO} {c : SCal} {fr fr' : Tr AV} {S S' : FS} (h : againS td o c fr S = some (fr', S')) : fr' = fr ∧ S'.c = S.c ∧ (S'.ok → S.ok) ∧ (S'.ok → againT o fNo fr S.c = some (fr, S.c)) := by
  obtain ⟨d, g, p⟩ := o
  cases p with
  | n p => cases h
  | e p => cases h
  | r p =>
    cases d with
    | none => cases h
    | some d =>
      replace h : (match wantT g fr with
        | some true => (match evR p fr S.c with
          | some v => Bool.rec (motive := fun _ => Option (Tr AV × FS)) (match sameQ v (look fr d) with
            | some [] => some (fr, S)
            | some (x :: l) => some (fr, ⟨S.c, S.tape, S.ok ∧ AllEq (x :: l)⟩)
            | none => none) (some (fr, ⟨S.c, S.tape, S.ok ∧ sameV v (look fr d) = true⟩)) (td d)
          | none => none)
        | some false => some (fr, S)
        | none => none) = some (fr', S') := h
      show _ ∧ _ ∧ _ ∧ (_ → (match wantT g fr with
        | some true => (match evR p fr S.c with
          | some v => bif' (sameV v (look fr d)) (some (fr, S.c)) none
          | none => none)
        | some false => some (fr, S.c)
        | none => none) = _)
      split at h
      · split at h
        · rename_i v hv
          try rw [hv]
          simp only [bif'_eq]
          cases ht : td d with
          | true =>
            rw [ht] at h
            cases h
            exact ⟨rfl, rfl, And.left, fun hk => by rw [hk.2]; rfl⟩
          | false =>
          rw [ht] at h
          simp only at h
          split at h
          · rename_i hq
            cases h
            exact ⟨rfl, rfl, id, fun _ => by rw [sameQ_ok hq trivial]; rfl⟩
          · rename_i x l hq
            cases h
            exact ⟨rfl, rfl, And.left, fun hk => by rw [sameQ_ok hq hk.2]; rfl⟩
          · cases h
        · cases h
      · cases h
        exact ⟨rfl, rfl, id, fun _ => rfl⟩
      · cases h

noncomputable def itS (td : Nat → Bool) (i : It) : SCal → Tr AV → FS → Option (Tr AV × FS) := It.rec (motive := fun _ => SCal → Tr AV → FS → Option (Tr AV × FS)) (stepS td) (againS td) i

noncomputable def stepsS (td : Nat → Bool) (l : List It) : SCal → Tr AV → FS → Option (Tr AV × FS) :=
  List.rec (motive := fun _ => SCal → Tr AV → FS → Option (Tr AV × FS)) (fun _ fr S => some (fr, S)) (fun i _ ih c fr S => match itS td i c fr S with
    | some (fr', S') => ih c fr' S'
    | none => none) l

abbrev SDn := Tr AV → FS → Option (Ex × Tr AV × FS)
noncomputable def sReg (f : Tr AV → FS → Option (Tr AV × FS)) : SDn := fun fr S => match f fr S with
  | some (fr', S') => some (.normal, fr', S')
  | none => none
noncomputable def sSeq (f g : SDn) : SDn := fun fr S => match f fr S with
  | some (.normal, fr', S') => g fr' S'
  | r => r
noncomputable def sCond (c : X) (f g : SDn) : SDn := fun fr S => match at' fr c with
  | .bool true => f fr S
  | .bool false => g fr S
  | _ => none
/-- a branch that the tape tells -/
noncomputable def sTold (c : X) (f g : SDn) : SDn := fun fr S => match S.tape with
  | .bool true :: r => f fr ⟨S.c, r, S.ok ∧ at' fr c = .bool true⟩
  | .bool false :: r => g fr ⟨S.c, r, S.ok ∧ at' fr c = .bool false⟩
  | _ => none
noncomputable def sBlock (id : Nat) (f : SDn) : SDn := fun fr S => match f fr S with
  | some (.exit j, fr', S') => bif' (Nat.beq j id) (some (.normal, fr', S')) (some (.exit j, fr', S'))
  | r => r
noncomputable def sIter (f : SDn) (n : Nat) : SDn := Nat.rec (motive := fun _ => SDn) (fun _ _ => none) (fun _ ih => sSeq f ih) n
/-- told: is each branch told by the tape? -/
noncomputable def execS (told : Bool) (td : Nat → Bool) (cal : SCal) (n : Nat) (c : PC) : SDn :=
  PC.rec (motive := fun _ => SDn) (fun fr S => some (.normal, fr, S)) (fun its => sReg (stepsS td its cal)) (fun _ _ f g => sSeq f g)
    (fun c _ _ f g => Bool.rec (motive := fun _ => SDn) (sCond c f g) (sTold c f g) told)
    (fun id _ f => sBlock id f) (fun _ f => sIter f n) (fun id fr S => some (.exit id, fr, S)) (fun _ f => f) (fun fr S => some (.ret, fr, S)) (fun _ _ => none) c

noncomputable def leaveS (rs : List PRes) (o : Option (Ex × Tr AV × FS)) : SEff := match o with
  | some (.exit _, _, _) => none
  | some (_, fr, S) => (match fRes fr S.c rs with
    | some vs => (match resV vs with
      | some v => some (v, S)
      | none => none)
    | none => none)
  | none => none

abbrev Orc := Nat → Option (List AV → FS → SEff)
noncomputable def callByS (tr : Tr LF) (orc : Orc) (told : Nat → Bool) (td : Nat → Nat → Bool) (n : Nat) (ih : SCal) : SCal := fun f args S => match orc f with
  | some g => g args S
  | none => (match gt tr f with
    | some (.code pf) => (match enterT pf args with
      | some fr => leaveS pf.results (execS (told f) (td f) ih n pf.body fr S)
      | none => none)
    | _ => none)
noncomputable def callS (tr : Tr LF) (orc : Orc) (told : Nat → Bool) (td : Nat → Nat → Bool) (n : Nat) : SCal :=
  Nat.rec (motive := fun _ => SCal) (fun _ _ _ => none) (fun n ih => callByS tr orc told td n ih) n

---------------------------------------------------------------- the flag only grows

def FlagC (c : SCal) : Prop := ∀ f args S v S', c f args S = some (v, S') → S'.ok → S.ok
def FlagO {β : Type} (d : Tr AV → FS → Option (β × FS)) : Prop := ∀ fr S x S', d fr S = some (x, S') → S'.ok → S.ok
def FlagD (d : SDn) : Prop := ∀ fr S x fr' S', d fr S = some (x, fr', S') → S'.ok → S.ok

theorem evOS_flag {c : SCal} (hc : FlagC c) (p : Pk) : FlagO (evOS p c) := by
  intro fr S v S' h
  cases p with
  | r p =>
    replace h : (match evR p fr S.c with
      | some v => some (nrm p v, S)
      | none => none) = some (v, S') := h
    split at h
    · cases h; exact id
    · cases h
  | n p => obtain ⟨_, h2⟩ := lift_inv (S := S) (S' := S') h; rw [h2]; exact id
  | e p =>
    replace h : evES p c fr S = some (v, S') := h
    cases hp : isCall p with
    | false => rw [evES_nc hp] at h; obtain ⟨_, h2⟩ := lift_inv h; rw [h2]; exact id
    | true =>
      cases p <;> try (cases hp; done)
      · exact hc _ _ _ _ _ h
      · rename_i g args
        replace h : (match at' fr g with
          | .fn f caps => c f (atl fr args ++ caps) S
          | _ => none) = some (v, S') := h
        split at h
        · exact hc _ _ _ _ _ h
        · cases h

theorem tellR_inv {p : Pk} {fr : Tr AV} {S S' : FS} {v : AV} (h : tellR p fr S = some (v, S')) : ∃ q, p = .r q ∧ S'.c = S.c ∧ S'.ok = (S.ok ∧ evR q fr S.c = some v) := by
  unfold tellR at h
  split at h
  · rename_i w r hw
    cases p with
    | r q => cases h; exact ⟨q, rfl, rfl, rfl⟩
    | n q => cases h
    | e q => cases h
  · cases h

theorem stepS_flag {c : SCal} (hc : FlagC c) (td : Nat → Bool) (o : PO) : FlagO (stepS td o c) := by
  obtain ⟨d, g, p⟩ := o
  intro fr S x S' h
  replace h : (match wantT g fr with
    | some true => (match Bool.rec (motive := fun _ => SEff) (evOS p c fr S) (tellR p fr S) (isTold td d) with
      | some (v, S') => some (setT fr d v, S')
      | none => none)
    | some false => some (setT fr d (.tup []), S)
    | none => none) = some (x, S') := h
  split at h
  · split at h
    · rename_i v S1 h1
      cases h
      cases ht : isTold td d with
      | false => rw [ht] at h1; exact evOS_flag hc p _ _ _ _ h1
      | true =>
        rw [ht] at h1
        obtain ⟨q, _, _, h3⟩ := tellR_inv h1
        rw [h3]
        exact And.left
    · cases h
  · cases h; exact id
  · cases h
theorem itS_flag {c : SCal} (hc : FlagC c) (td : Nat → Bool) (i : It) : FlagO (itS td i c) := by
  cases i with
  | op o => exact stepS_flag hc td o
  | again o => exact fun fr S x S' h => (againS_inv (td := td) (c := c) h).2.2.1
theorem stepsS_flag {c : SCal} (hc : FlagC c) (td : Nat → Bool) : ∀ l : List It, FlagO (stepsS td l c)
  | [] => fun fr S x S' h => by cases h; exact id
  | i :: l => fun fr S x S' h => by
    replace h : (match itS td i c fr S with
      | some (fr', S') => stepsS td l c fr' S'
      | none => none) = some (x, S') := h
    split at h
    · rename_i fr1 S1 h1
      exact fun hk => itS_flag hc td i _ _ _ _ h1 (stepsS_flag hc td l _ _ _ _ h hk)
    · cases h
theorem sSeq_flag {f g : SDn} (hf : FlagD f) (hg : FlagD g) : FlagD (sSeq f g) := by
  intro fr S x fr' S' h
  unfold sSeq at h
  split at h
  · rename_i fr1 S1 h1; exact fun hk => hf _ _ _ _ _ h1 (hg _ _ _ _ _ h hk)
  · exact hf _ _ _ _ _ h
theorem execS_flag {c : SCal} (hc : FlagC c) (told : Bool) (td : Nat → Bool) (n : Nat) (p : PC) : FlagD (execS told td c n p) := by
  induction p with
  | skip => intro fr S x fr' S' h; cases h; exact id
  | region its =>
    intro fr S x fr' S' h
    replace h : (match stepsS td its c fr S with
      | some (fr', S') => some (.normal, fr', S')
      | none => none) = some (x, fr', S') := h
    split at h
    · rename_i h1; cases h; exact stepsS_flag hc td its _ _ _ _ h1
    · cases h
  | seq a b ha hb => exact sSeq_flag ha hb
  | cond c a b ha hb =>
    intro fr S x fr' S' h
    cases told with
    | false =>
      replace h : (match at' fr c with
        | .bool true => execS false td _ n a fr S
        | .bool false => execS false td _ n b fr S
        | _ => none) = some (x, fr', S') := h
      split at h
      · exact ha _ _ _ _ _ h
      · exact hb _ _ _ _ _ h
      · cases h
    | true =>
      replace h : (match S.tape with
        | .bool true :: r => execS true td _ n a fr ⟨S.c, r, S.ok ∧ at' fr c = .bool true⟩
        | .bool false :: r => execS true td _ n b fr ⟨S.c, r, S.ok ∧ at' fr c = .bool false⟩
        | _ => none) = some (x, fr', S') := h
      split at h
      · exact fun hk => (ha _ _ _ _ _ h hk).1
      · exact fun hk => (hb _ _ _ _ _ h hk).1
      · cases h
  | block id b hb =>
    intro fr S x fr' S' h
    replace h : (match execS told td c n b fr S with
      | some (.exit j, fr', S') => bif' (Nat.beq j id) (some (.normal, fr', S')) (some (.exit j, fr', S'))
      | r => r) = some (x, fr', S') := h
    split at h
    · rename_i j fr1 S1 h1
      rw [bif'_eq] at h
      cases hj : Nat.beq j id with
      | true => rw [hj] at h; cases h; exact hb _ _ _ _ _ h1
      | false => rw [hj] at h; cases h; exact hb _ _ _ _ _ h1
    · exact hb _ _ _ _ _ h
  | loop b hb =>
    have : ∀ m, FlagD (sIter (execS told td c n b) m) := by
      intro m
      induction m with
      | zero => intro fr S x fr' S' h; cases h
      | succ m ih => exact sSeq_flag hb ih
    exact this n
  | exit id => intro fr S x fr' S' h; cases h; exact _root_.id
  | scope b hb => exact hb
  | ret => intro fr S x fr' S' h; cases h; exact id
  | stuck => intro fr S x fr' S' h; cases h

def OrcFlag (orc : Orc) : Prop := ∀ f g, orc f = some g → ∀ args S v S', g args S = some (v, S') → S'.ok → S.ok
theorem callS_flag {tr : Tr LF} {orc : Orc} {told : Nat → Bool} {td : Nat → Nat → Bool} (ho : OrcFlag orc) : ∀ n, FlagC (callS tr orc told td n)
  | 0 => fun _ _ _ _ _ h => by cases h
  | n + 1 => fun f args S v S' h => by
    replace h : callByS tr orc told td n (callS tr orc told td n) f args S = some (v, S') := h
    unfold callByS at h
    split at h
    · rename_i g hg; exact ho f g hg _ _ _ _ h
    · split at h
      · split at h
        · rename_i pf _ fr hfr
          unfold leaveS at h
          split at h
          · cases h
          · rename_i x fr1 S1 hx hx1
            split at h
            · split at h
              · cases h; exact execS_flag (callS_flag ho n) _ _ n _ _ _ _ _ _ hx1
              · cases h
            · cases h
          · cases h
        · cases h
      · cases h

---------------------------------------------------------------- what it answers, if what the tape told is so

theorem Xs.callG {L : Lib} {fr : List AV} {H : Heap} {K : List AV → Heap → Prop} {o : PO} {f : Nat} {args : List AV} {rest : List It} (hw : wanted fr o.guard = some true) (hop : ∀ cal : Cal, evalO cal fr H o.op = cal f args H)
    (h : Ev L f args H (fun v H1 => Xs L rest (setD fr o.dst v) H1 K)) : Xs L (.op o :: rest) fr H K := by
  obtain ⟨n, v, H1, h1, m, fr2, H2, h2, h3⟩ := h
  refine ⟨max n m, fr2, H2, ?_, h3⟩
  have e1 := call_le L (Nat.le_max_left n m) _ _ _ _ h1
  have e2 := steps_le (call_le L (Nat.le_max_right n m)) h2
  rw [steps_cons]
  unfold thenDo
  have : doIt (Dp.call L (max n m)) (.op o) fr H = some (setD fr o.dst v, H1) := by
    simp only [doIt, Dp.step, hw, cond_true, hop, e1, putR]
  rw [this]
  exact e2

def CalS (L : Lib) (c : SCal) : Prop := ∀ f args H S v S', H.Ok → HR H S.c → c f args S = some (v, S') → S'.ok → Ev L f args H fun v1 H1 => v1 = v ∧ H1.Ok ∧ HR H1 S'.c

/-- one operation -/
def OneS (L : Lib) (i : It) (e : Tr AV → FS → Option (Tr AV × FS)) : Prop := ∀ f fr H S fr' S', CR f fr → H.Ok → HR H S.c → e fr S = some (fr', S') → S'.ok →
  ∀ rest K, (∀ f' H', H'.Ok → CR f' fr' → HR H' S'.c → Xs L rest f' H' K) → Xs L (i :: rest) f H K

theorem ok_evalO {H : Heap} (h : H.Ok) {fr : List AV} {p : Pk} {v : AV} {H' : Heap} (e : evalO noCal fr H p = some (v, H')) : H'.Ok := by
  cases p with
  | r p =>
    simp only [evalO, withH] at e
    split at e
    · cases e; exact h
    · cases e
  | n p =>
    simp only [evalO, withN] at e
    split at e
    · split at e
      · cases e; exact h.new _
      · cases e
    · cases e
  | e p => exact (evalE_ok h e).1

theorem stepS_ok {L : Lib} {c : SCal} (hc : CalS L c) (td : Nat → Bool) (o : PO) : OneS L (.op o) (stepS td o c) := by
  obtain ⟨d, g, p⟩ := o
  intro f fr H S fr' S' hf hO hH h hk rest K hK
  replace h : (match wantT g fr with
    | some true => (match Bool.rec (motive := fun _ => SEff) (evOS p c fr S) (tellR p fr S) (isTold td d) with
      | some (v, S') => some (setT fr d v, S')
      | none => none)
    | some false => some (setT fr d (.tup []), S)
    | none => none) = some (fr', S') := h
  rw [wantT_ok hf] at h
  -- what needs no call
  have plain : ∀ v, wanted f g = some true → EffOk (evalO noCal f H p) (evO p fNo fr S.c) → evO p fNo fr S.c = some (v, S'.c) → fr' = setT fr d v → Xs L (.op ⟨d, g, p⟩ :: rest) f H K := by
    intro v hw he hv hfr
    obtain ⟨H1, h1, h2⟩ := he v _ hv
    subst hfr
    exact Dp.Xs.one (by simp only [doIt, Dp.step, hw, cond_true, h1, putR]) (hK _ _ (ok_evalO hO h1) (setT_ok hf d v) h2)
  cases hw : wanted f g with
  | none => rw [hw] at h; cases h
  | some w =>
    rw [hw] at h
    cases w with
    | false =>
      cases h
      exact Dp.Xs.one (by simp only [doIt, Dp.step, hw, cond_false]) (hK _ _ hO (setT_ok hf d _) hH)
    | true =>
      simp only at h
      split at h
      · rename_i v S1 hv
        cases h
        have he := evO_ok hf hH calOk_no p
        cases ht : isTold td d with
        | true =>
          rw [ht] at hv
          obtain ⟨q, rfl, h3, h4⟩ := tellR_inv hv
          rw [h4] at hk
          exact plain v hw he (by show (match evR q fr S.c with
            | some v => some (v, S.c)
            | none => none) = _
                                  rw [hk.2, h3]) rfl
        | false =>
        rw [ht] at hv
        cases p with
        | r p =>
          replace hv : (match evR p fr S.c with
            | some v => some (nrm p v, S)
            | none => none) = some (v, S') := hv
          split at hv
          · rename_i v' hv'
            have hn := nrm_ok (evR_ok hf hH hv')
            rw [hn] at hv
            cases hv
            exact plain _ hw he (by show (match evR p fr S.c with
              | some v => some (v, S.c)
              | none => none) = _
                                    rw [hv']) rfl
          · cases hv
        | n p =>
          obtain ⟨h1, _⟩ := lift_inv (S := S) (S' := S') hv
          exact plain v hw he h1 rfl
        | e p =>
          replace hv : evES p c fr S = some (v, S') := hv
          cases hp : isCall p with
          | false =>
            rw [evES_nc hp] at hv
            obtain ⟨h1, _⟩ := lift_inv hv
            exact plain v hw he h1 rfl
          | true =>
            cases p <;> try (cases hp; done)
            · rename_i k args
              replace hv : c k (atl fr args) S = some (v, S') := hv
              refine Xs.callG (f := k) (args := args.map (X.ev f)) hw (fun cal => rfl) ?_
              rw [← atl_eq hf]
              exact (hc k _ H S v S' hO hH hv hk).mono fun v1 H1 ⟨e1, e2, e3⟩ => by
                subst e1
                exact hK _ _ e2 (setT_ok hf d _) e3
            · rename_i k args
              replace hv : (match at' fr k with
                | .fn f caps => c f (atl fr args ++ caps) S
                | _ => none) = some (v, S') := hv
              split at hv
              · rename_i k' caps hk'
                rw [at_eq hf] at hk'
                refine Xs.callG (f := k') (args := args.map (X.ev f) ++ caps) hw (fun cal => by simp only [evalO, evalE, hk', eCallv]) ?_
                rw [← atl_eq hf]
                exact (hc k' _ H S v S' hO hH hv hk).mono fun v1 H1 ⟨e1, e2, e3⟩ => by
                  subst e1
                  exact hK _ _ e2 (setT_ok hf d _) e3
              · cases hv
      · cases h

theorem itS_ok {L : Lib} {c : SCal} (hc : CalS L c) (td : Nat → Bool) (i : It) : OneS L i (itS td i c) := by
  cases i with
  | op o => exact stepS_ok hc td o
  | again o =>
    intro f fr H S fr' S' hf hO hH h hk rest K hK
    obtain ⟨e0, e3, _, h4⟩ := againS_inv (td := td) (o := o) (c := c) h
    have h1 := h4 hk
    obtain ⟨f1, H1, e1, g1, g2⟩ := againT_ok fNo o f fr H S.c hf hH _ _ h1
    have e2 : H1 = H := by
      unfold again at e1
      split at e1
      · split at e1
        · split at e1
          · rename_i w _
            cases w with
            | false => cases e1; rfl
            | true =>
              simp only [cond_true, againR] at e1
              split at e1
              · rename_i v hv
                cases hs : sameV v (f.getD _ .undef) with
                | false => rw [hs] at e1; cases e1
                | true => rw [hs] at e1; cases e1; rfl
              · cases e1
          · cases e1
        · cases e1
      · cases e1
    subst e2
    subst e0
    exact Dp.Xs.one (i := .again o) e1 (hK _ _ hO g1 (by rw [e3]; exact g2))

theorem stepsS_ok {L : Lib} {c : SCal} (hfl : FlagC c) (hc : CalS L c) (td : Nat → Bool) : ∀ (l : List It) (f : List AV) (fr : Tr AV) (H : Heap) (S : FS) (fr' : Tr AV) (S' : FS), CR f fr → H.Ok → HR H S.c → stepsS td l c fr S = some (fr', S') → S'.ok →
    Xs L l f H fun f' H' => H'.Ok ∧ CR f' fr' ∧ HR H' S'.c
  | [], f, fr, H, S, fr', S', hf, hO, hH, h, hk => by cases h; exact Dp.Xs.nil ⟨hO, hf, hH⟩
  | i :: l, f, fr, H, S, fr', S', hf, hO, hH, h, hk => by
    replace h : (match itS td i c fr S with
      | some (fr', S') => stepsS td l c fr' S'
      | none => none) = some (fr', S') := h
    split at h
    · rename_i fr1 S1 h1
      have hk1 := stepsS_flag hfl td l _ _ _ _ h hk
      exact itS_ok hc td i f fr H S fr1 S1 hf hO hH h1 hk1 l _ fun f' H' a b d => stepsS_ok hfl hc td l f' fr1 H' S1 fr' S' b a d h hk
    · cases h

def DnS (L : Lib) (p : PC) (e : SDn) : Prop := ∀ f fr H S x fr' S', CR f fr → H.Ok → HR H S.c → e fr S = some (x, fr', S') → S'.ok → Xc L p f H fun x' f' H' => x' = x ∧ H'.Ok ∧ CR f' fr' ∧ HR H' S'.c

theorem sSeq_ok {L : Lib} {a b : PC} {f g : SDn} (fg : FlagD g) (hf : DnS L a f) (hg : DnS L b g) : DnS L (.seq a b) (sSeq f g) := by
  intro fl fr H S x fr' S' h1 h2 h3 h hk
  unfold sSeq at h
  refine Xc.seq ?_
  split at h
  · rename_i fr1 S1 h4
    refine (hf fl fr H S _ fr1 S1 h1 h2 h3 h4 (fg _ _ _ _ _ h hk)).mono fun x' f' H' ⟨e1, e2, e3, e4⟩ => ?_
    subst e1
    exact hg f' fr1 H' S1 x fr' S' e3 e2 e4 h hk
  · rename_i hn
    refine (hf fl fr H S x fr' S' h1 h2 h3 h hk).mono fun x' f' H' ⟨e1, e2, e3, e4⟩ => ?_
    subst e1
    cases x' with
    | normal => exact (hn _ _ h).elim
    | exit j => exact ⟨rfl, e2, e3, e4⟩
    | ret => exact ⟨rfl, e2, e3, e4⟩

theorem execS_ok {L : Lib} {c : SCal} (hfl : FlagC c) (hc : CalS L c) (told : Bool) (td : Nat → Bool) (n : Nat) (p : PC) : DnS L p (execS told td c n p) := by
  induction p with
  | skip => intro f fr H S x fr' S' h1 h2 h3 h hk; cases h; exact Xc.skip ⟨rfl, h2, h1, h3⟩
  | region its =>
    intro f fr H S x fr' S' h1 h2 h3 h hk
    replace h : (match stepsS td its c fr S with
      | some (fr', S') => some (.normal, fr', S')
      | none => none) = some (x, fr', S') := h
    split at h
    · rename_i h4
      cases h
      refine Xc.region ?_
      obtain ⟨m, f', H', q1, q2⟩ := stepsS_ok hfl hc td its f fr H S _ _ h1 h2 h3 h4 hk
      exact ⟨m, f', H', q1, rfl, q2⟩
    · cases h
  | seq a b ha hb => exact sSeq_ok (execS_flag hfl told td n b) ha hb
  | cond x a b ha hb =>
    intro f fr H S e fr' S' h1 h2 h3 h hk
    cases told with
    | false =>
      replace h : (match at' fr x with
        | .bool true => execS false td _ n a fr S
        | .bool false => execS false td _ n b fr S
        | _ => none) = some (e, fr', S') := h
      rw [at_eq h1] at h
      split at h
      · rename_i hx; exact Xc.cond_true hx (ha _ _ _ _ _ _ _ h1 h2 h3 h hk)
      · rename_i hx; exact Xc.cond_false hx (hb _ _ _ _ _ _ _ h1 h2 h3 h hk)
      · cases h
    | true =>
      replace h : (match S.tape with
        | .bool true :: r => execS true td _ n a fr ⟨S.c, r, S.ok ∧ at' fr x = .bool true⟩
        | .bool false :: r => execS true td _ n b fr ⟨S.c, r, S.ok ∧ at' fr x = .bool false⟩
        | _ => none) = some (e, fr', S') := h
      split at h
      · rename_i r _
        have := (execS_flag hfl true td n a _ _ _ _ _ h hk).2
        exact Xc.cond_true (by rw [← at_eq h1]; exact this) (ha f fr H ⟨S.c, r, S.ok ∧ at' fr x = .bool true⟩ e fr' S' h1 h2 h3 h hk)
      · rename_i r _
        have := (execS_flag hfl true td n b _ _ _ _ _ h hk).2
        exact Xc.cond_false (by rw [← at_eq h1]; exact this) (hb f fr H ⟨S.c, r, S.ok ∧ at' fr x = .bool false⟩ e fr' S' h1 h2 h3 h hk)
      · cases h
  | block id b hb =>
    intro f fr H S x fr' S' h1 h2 h3 h hk
    replace h : (match execS told td c n b fr S with
      | some (.exit j, fr', S') => bif' (Nat.beq j id) (some (.normal, fr', S')) (some (.exit j, fr', S'))
      | r => r) = some (x, fr', S') := h
    refine Xc.block ?_
    split at h
    · rename_i j fr1 S1 h4
      rw [bif'_eq] at h
      cases hj : Nat.beq j id with
      | true =>
        rw [hj] at h
        cases h
        refine (hb _ _ _ _ _ _ _ h1 h2 h3 h4 hk).mono fun x' f' H' ⟨e1, e2⟩ => ?_
        subst e1
        show if j = id then _ else _
        rw [if_pos (Nat.eq_of_beq_eq_true hj)]
        exact ⟨rfl, e2⟩
      | false =>
        rw [hj] at h
        cases h
        refine (hb _ _ _ _ _ _ _ h1 h2 h3 h4 hk).mono fun x' f' H' ⟨e1, e2⟩ => ?_
        subst e1
        show if j = id then _ else _
        rw [if_neg (Nat.ne_of_beq_eq_false hj)]
        exact ⟨rfl, e2⟩
    · rename_i hn
      refine (hb _ _ _ _ _ _ _ h1 h2 h3 h hk).mono fun x' f' H' ⟨e1, e2⟩ => ?_
      subst e1
      cases x' with
      | normal => exact ⟨rfl, e2⟩
      | exit j => exact (hn _ _ _ h).elim
      | ret => exact ⟨rfl, e2⟩
  | loop b hb =>
    have hF : ∀ m, FlagD (sIter (execS told td c n b) m) := by
      intro m
      induction m with
      | zero => intro fr S x fr' S' h; cases h
      | succ m ih => exact sSeq_flag (execS_flag hfl told td n b) ih
    have : ∀ m, DnS L (.loop b) (sIter (execS told td c n b) m) := by
      intro m
      induction m with
      | zero => intro f fr H S x fr' S' _ _ _ h; cases h
      | succ m ih =>
        intro f fr H S x fr' S' h1 h2 h3 h hk
        obtain ⟨k, x1, f1, H1, q1, q2⟩ := sSeq_ok (hF m) hb ih f fr H S x fr' S' h1 h2 h3 h hk
        refine Xc.loop ?_
        -- the run of b, then the loop
        rw [exec_seq] at q1
        unfold dSeq at q1
        cases hx : exec (call L k) k b f H with
        | none => rw [hx] at q1; cases q1
        | some r =>
          obtain ⟨ex, f2, H2⟩ := r
          rw [hx] at q1
          refine ⟨k, ex, f2, H2, hx, ?_⟩
          cases ex with
          | normal => exact ⟨k, x1, f1, H1, q1, q2⟩
          | exit j => cases q1; exact q2
          | ret => cases q1; exact q2
    exact this n
  | exit id => intro f fr H S x fr' S' h1 h2 h3 h hk; cases h; exact Xc.exit ⟨rfl, h2, h1, h3⟩
  | scope b hb =>
    intro f fr H S x fr' S' h1 h2 h3 h hk
    exact Xc.scope (hb _ _ _ _ _ _ _ h1 h2 h3 h hk)
  | ret => intro f fr H S x fr' S' h1 h2 h3 h hk; cases h; exact Xc.ret ⟨rfl, h2, h1, h3⟩
  | stuck => intro f fr H S x fr' S' h1 h2 h3 h hk; cases h

def OrcOk (L : Lib) (orc : Orc) : Prop := ∀ f g, orc f = some g → CalS L (fun k args S => if k = f then g args S else none)

theorem callS_ok {tr : Tr LF} {L : Lib} {orc : Orc} {told : Nat → Bool} {td : Nat → Nat → Bool} (hL : ∀ f pf, orc f = none → tr.get f = some (.code pf) → L f = some (.code pf)) (hF : OrcFlag orc) (ho : OrcOk L orc) : ∀ n, CalS L (callS tr orc told td n)
  | 0 => fun _ _ _ _ _ _ _ _ h => by cases h
  | n + 1 => fun f args H S v S' hO hH h hk => by
    replace h : callByS tr orc told td n (callS tr orc told td n) f args S = some (v, S') := h
    unfold callByS at h
    split at h
    · rename_i g hg
      exact ho f g hg f args H S v S' hO hH (by show (if f = f then g args S else none) = _; rw [if_pos rfl]; exact h) hk
    · rename_i hor
      split at h
      · rename_i pf hpf
        split at h
        · rename_i fr hfr
          rw [gt_eq] at hpf
          refine Ev.code (hL f pf hor hpf) ?_
          unfold leaveS at h
          split at h
          · cases h
          · rename_i x fr1 S1 hx hx1
            split at h
            · rename_i vs hvs
              split at h
              · rename_i v1 hv1
                cases h
                refine (execS_ok (callS_flag hF n) (callS_ok hL hF ho n) _ _ n pf.body _ fr H S _ _ _ (enterT_ok hfr) hO hH hx1 hk).mono fun x' f' H' ⟨e1, e2, e3, e4⟩ => ?_
                subst e1
                exact ⟨fun id e => hx id (e ▸ rfl), vs, v, fRes_ok e3 e4 _ _ hvs, hv1, rfl, e2, e4⟩
              · cases h
            · cases h
          · cases h
        · cases h
      · cases h

/-- the end: true, and what the tape told -/
def fin : SEff → Prop
  | some (.bool true, S) => S.ok
  | _ => False
theorem fin_inv {r : SEff} (h : fin r) : ∃ S, r = some (.bool true, S) ∧ S.ok := by
  unfold fin at h
  split at h
  · exact ⟨_, rfl, h⟩
  · exact h.elim

---------------------------------------------------------------- oracles

/-- what a function answers, the heap left as it is -/
def Pure (L : Lib) (f : Nat) (args : List AV) (v : AV) : Prop := ∀ H : Heap, H.Ok → Ev L f args H fun v1 H1 => v1 = v ∧ H1 = H
/-- a function that leaves the heap as it is: the tape tells what it answers -/
noncomputable def pureO (L : Lib) (f : Nat) (args : List AV) (S : FS) : SEff := match S.tape with
  | v :: r => some (v, ⟨S.c, r, S.ok ∧ Pure L f args v⟩)
  | [] => none
/-- the tables -/
noncomputable def mkO (args : List AV) (S : FS) : SEff := lift S (fMk args S.c)

/-- the pure ones, the tables' one -/
noncomputable def orcOf (L : Lib) (mk : Nat) (l : Nat → Bool) : Orc := fun f => bif' (l f) (some (pureO L f)) (bif' (Nat.beq f mk) (some mkO) none)

theorem orcOf_flag {L : Lib} {mk : Nat} {l : Nat → Bool} : OrcFlag (orcOf L mk l) := by
  intro f g hg args S v S' h
  unfold orcOf at hg
  simp only [bif'_eq] at hg
  cases hl : l f with
  | true =>
    rw [hl] at hg
    cases hg
    unfold pureO at h
    split at h
    · cases h; exact And.left
    · cases h
  | false =>
    rw [hl] at hg
    cases hm : Nat.beq f mk with
    | false => rw [hm] at hg; cases hg
    | true =>
      rw [hm] at hg
      cases hg
      obtain ⟨_, h2⟩ := lift_inv (S := S) (S' := S') h
      rw [h2]; exact id

theorem orcOf_ok {L : Lib} {mk : Nat} {l : Nat → Bool} (hmk : L mk = some (.prim Mk.prim)) : OrcOk L (orcOf L mk l) := by
  intro f g hg k args H S v S' hO hH h hk
  replace h : (if k = f then g args S else none) = some (v, S') := h
  split at h
  · rename_i e
    subst e
    unfold orcOf at hg
    simp only [bif'_eq] at hg
    cases hl : l k with
    | true =>
      rw [hl] at hg
      cases hg
      unfold pureO at h
      split at h
      · cases h
        exact (hk.2 H hO).mono fun v1 H1 ⟨e1, e2⟩ => by subst e1; subst e2; exact ⟨rfl, hO, hH⟩
      · cases h
    | false =>
      rw [hl] at hg
      cases hm : Nat.beq k mk with
      | false => rw [hm] at hg; cases hg
      | true =>
        rw [hm] at hg
        cases hg
        have hm := Nat.eq_of_beq_eq_true hm
        subst hm
        obtain ⟨h1, _⟩ := lift_inv (S := S) (S' := S') h
        obtain ⟨H1, h2, h3⟩ := fMk_ok hH args v _ h1
        refine ⟨1, v, H1, by rw [call_succ]; unfold callBy; rw [hmk]; exact h2, rfl, ?_, h3⟩
        unfold Mk.prim at h2
        split at h2
        · split at h2
          · split at h2
            · cases h2; exact (hO.new _).new _
            · cases h2
          · cases h2
        · cases h2
  · cases h

/-- A law's run over texts that are not known. -/
theorem run_told {tr : Tr LF} {L : Lib} {mk : Nat} {l : Nat → Bool} {told : Nat → Bool} {td : Nat → Nat → Bool} (hL : ∀ f pf, l f = false → tr.get f = some (.code pf) → L f = some (.code pf)) (hmk : L mk = some (.prim Mk.prim))
    {n f : Nat} {args : List AV} {tape : List AV} (h : fin (callS tr (orcOf L mk l) told td n f args ⟨⟨.leaf, 0⟩, tape, True⟩)) : Eo L f args noHeap fun v _ => v = .bool true := by
  obtain ⟨S, h1, h2⟩ := fin_inv h
  have hL' : ∀ f pf, orcOf L mk l f = none → tr.get f = some (.code pf) → L f = some (.code pf) := by
    intro f pf ho
    refine hL f pf ?_
    unfold orcOf at ho
    rw [bif'_eq] at ho
    cases hl : l f with
    | false => rfl
    | true => rw [hl] at ho; cases ho
  exact fun hO => (callS_ok hL' orcOf_flag (orcOf_ok hmk) n f args noHeap _ _ S hO rel0 h1 h2).mono fun v1 H1 ⟨e, e2, _⟩ => ⟨e2, Nat.zero_le _, e⟩
/-- from a rule to what the tape may tell -/
theorem Pure.of {L : Lib} {f : Nat} {args : List AV} {v : AV} (h : ∀ (H : Heap) (Q : AV → Heap → Prop), Q v H → Eo L f args H Q) : Pure L f args v :=
  fun H hO => (h H (fun v1 H1 => v1 = v ∧ H1 = H) ⟨rfl, rfl⟩ hO).mono fun _ _ ⟨_, _, h⟩ => h

---------------------------------------------------------------- a law's run in two stages: the second with a tape of its own

def cutPre : Nat → PC → PC
  | 0, _ => .skip
  | k + 1, .seq a b => .seq a (cutPre k b)
  | _ + 1, c => c
def cutPost : Nat → PC → PC
  | 0, c => c
  | k + 1, .seq _ b => cutPost k b
  | _ + 1, _ => .skip

theorem dSeq_skip_l (g : Dn) : dSeq (fun fr H => some (.normal, fr, H)) g = g := rfl
theorem dSeq_skip_r (f : Dn) : dSeq f (fun fr H => some (.normal, fr, H)) = f := by
  funext fr H
  unfold dSeq
  cases f fr H with
  | none => rfl
  | some r => obtain ⟨x, a, b⟩ := r; cases x <;> rfl
theorem dSeq_assoc (f g h : Dn) : dSeq (dSeq f g) h = dSeq f (dSeq g h) := by
  funext fr H
  unfold dSeq
  cases f fr H with
  | none => rfl
  | some r => obtain ⟨x, a, b⟩ := r; cases x <;> rfl
theorem exec_cut (cal : Cal) (n : Nat) : ∀ (k : Nat) (c : PC), exec cal n (.seq (cutPre k c) (cutPost k c)) = exec cal n c
  | 0, c => by rw [exec_seq]; unfold cutPre cutPost; rw [exec_skip, dSeq_skip_l]
  | k + 1, .seq a b => by
    have := exec_cut cal n k b
    rw [exec_seq] at this
    rw [exec_seq]
    unfold cutPre cutPost
    rw [exec_seq, dSeq_assoc, this, exec_seq]
  | k + 1, .skip => by rw [exec_seq]; unfold cutPre cutPost; rw [exec_skip]; rfl
  | k + 1, .region l => by rw [exec_seq]; unfold cutPre cutPost; rw [exec_skip, dSeq_skip_r]
  | k + 1, .cond x a b => by rw [exec_seq]; unfold cutPre cutPost; rw [exec_skip, dSeq_skip_r]
  | k + 1, .block i b => by rw [exec_seq]; unfold cutPre cutPost; rw [exec_skip, dSeq_skip_r]
  | k + 1, .loop b => by rw [exec_seq]; unfold cutPre cutPost; rw [exec_skip, dSeq_skip_r]
  | k + 1, .exit i => by rw [exec_seq]; unfold cutPre cutPost; rw [exec_skip, dSeq_skip_r]
  | k + 1, .scope b => by rw [exec_seq]; unfold cutPre cutPost; rw [exec_skip, dSeq_skip_r]
  | k + 1, .ret => by rw [exec_seq]; unfold cutPre cutPost; rw [exec_skip, dSeq_skip_r]
  | k + 1, .stuck => by rw [exec_seq]; unfold cutPre cutPost; rw [exec_skip, dSeq_skip_r]

abbrev Mid := Option (Ex × Tr AV × FS)
/-- the first k pieces of a function's code -/
noncomputable def stage1 (tr : Tr LF) (orc : Orc) (told : Nat → Bool) (td : Nat → Nat → Bool) (n f k : Nat) (pf : PF) (args : List AV) (tape : List AV) : Mid :=
  match enterT pf args with
  | some fr => execS (told f) (td f) (callS tr orc told td n) n (cutPre k pf.body) fr ⟨⟨.leaf, 0⟩, tape, True⟩
  | none => none
/-- the rest, with a tape of its own -/
noncomputable def stage2 (tr : Tr LF) (orc : Orc) (told : Nat → Bool) (td : Nat → Nat → Bool) (n f k : Nat) (pf : PF) (m : Mid) (tape : List AV) : Prop :=
  match m with
  | some (.normal, fr, S) => fin (leaveS pf.results (execS (told f) (td f) (callS tr orc told td n) n (cutPost k pf.body) fr ⟨S.c, tape, S.ok⟩))
  | _ => False

theorem run_staged {tr : Tr LF} {L : Lib} {orc : Orc} {told : Nat → Bool} {td : Nat → Nat → Bool} (hL : ∀ f pf, orc f = none → tr.get f = some (.code pf) → L f = some (.code pf)) (hF : OrcFlag orc) (ho : OrcOk L orc)
    {n f k : Nat} {pf : PF} (hf : L f = some (.code pf)) {args tape1 tape2 : List AV} (h : stage2 tr orc told td n f k pf (stage1 tr orc told td n f k pf args tape1) tape2) : Eo L f args noHeap fun v _ => v = .bool true := by
  intro hO
  have hc := callS_ok hL hF ho (told := told) (td := td) n
  have hfl := callS_flag hF (tr := tr) (told := told) (td := td) n
  unfold stage2 at h
  split at h
  · rename_i fr S hm
    obtain ⟨S2, h2, h2k⟩ := fin_inv h
    unfold stage1 at hm
    split at hm
    · rename_i fr0 hfr0
      unfold leaveS at h2
      split at h2
      · cases h2
      · rename_i x fr1 S1 hx hx1
        split at h2
        · rename_i vs hvs
          split at h2
          · rename_i v1 hv1
            cases h2
            have hSk : S.ok := execS_flag hfl (told f) (td f) n (cutPost k pf.body) fr ⟨S.c, tape2, S.ok⟩ x fr1 S2 hx1 h2k
            have hpre := execS_ok hfl hc (told f) (td f) n (cutPre k pf.body) _ fr0 noHeap _ _ _ _ (enterT_ok hfr0) hO rel0 hm hSk
            have hbody : Xc L (.seq (cutPre k pf.body) (cutPost k pf.body)) (enter pf args) noHeap fun x' f' H' => x' = x ∧ H'.Ok ∧ CR f' fr1 ∧ HR H' S2.c := by
              refine Xc.seq (hpre.mono fun x' f' H' ⟨e1, e2, e3, e4⟩ => ?_)
              subst e1
              exact execS_ok hfl hc (told f) (td f) n (cutPost k pf.body) f' fr H' ⟨S.c, tape2, S.ok⟩ x fr1 S2 e3 e2 e4 hx1 h2k
            have hbody' : Xc L pf.body (enter pf args) noHeap fun x' f' H' => x' = x ∧ H'.Ok ∧ CR f' fr1 ∧ HR H' S2.c := by
              obtain ⟨m, ex, f', H', q1, q2⟩ := hbody
              rw [exec_cut] at q1
              exact ⟨m, ex, f', H', q1, q2⟩
            refine (Ev.code hf (Q := fun v H' => v = .bool true ∧ H'.Ok) (hbody'.mono fun x' f' H' ⟨e1, e2, e3, e4⟩ => ?_)).mono fun v H' ⟨a, b⟩ => ⟨b, Nat.zero_le _, a⟩
            subst e1
            exact ⟨fun id e => hx id (e ▸ rfl), vs, .bool true, fRes_ok e3 e4 _ _ hvs, hv1, rfl, e2⟩
          · cases h2
        · cases h2
      · cases h2
    · cases hm
  · exact h.elim

end Go.Dp.Fs
