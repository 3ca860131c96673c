/- A region that draws its order: the invariant. Conditions: none. -/
import Derived.Test.YtkjmelfgopammaaQqV
namespace Go.Dp
open Go.RowKit

/-- What a region's run is about. -/
structure Env where
  c : Cx
  base : Nat
  ops : Array Oper
  cal : Cal
  ρ0 : Rho
  H0 : Heap
  W0 : World
  fr0 : List AV
  frF : List AV
  HF : Heap
  df : List Deferred

namespace Env
variable (e : Env)

def os : List PO := osOf e.c e.ops
def ds : List (List Nat) := dsOf e.ops
/-- the frame that an operation reads -/
def cf (x : Nat) : List AV := ov e.fr0 e.frF fun t => (dirs e.ds x).any fun y => dstIs e.os y t
/-- the frame when some are done -/
def gS (listed : Array Bool) : List AV := ov e.fr0 e.frF fun t => (List.range e.ops.size).any fun y => listed.getD y false && dstIs e.os y t

def isN (x : Nat) : Prop := (∃ p, (opAt e.os x).op = .n p) ∧ wanted (e.cf x) (opAt e.os x).guard = some true

/-- An operation that the plan has done, the run not yet. -/
def Pend (ρ : Rho) (H : Heap) (x b : Nat) : Prop :=
  ∃ w v, wanted (e.cf x) (opAt e.os x).guard = some w ∧ (∀ d, (opAt e.os x).dst = some d → d < e.fr0.length → e.frF.getD d .undef = v) ∧ (w = false → v = .tup []) ∧
    (w = true → match (opAt e.os x).op with
      | .r p => evalR (e.cf x) H p = some v
      | .n p => ∃ y f, evalN (e.cf x) p = some (y, f) ∧ v = f b ∧ H.get b = some y ∧ ρ b = none ∧ e.H0.next ≤ b ∧ b < H.next
      | .e _ => False)

structure Inv (listed : Array Bool) (a : Act) (W : World) (P : List Nat) (rest : List PIt) (fr : List AV) (H : Heap) (ρ : Rho) (bk : Nat → Nat) : Prop where
  flen : e.frF.length = e.fr0.length
  st : St e.os e.ds P
  ck : chk e.os e.ds P rest = true
  run : steps e.cal (rest.map (toIt e.os)) fr H = some (e.frF, e.HF)
  len : fr.length = e.fr0.length
  old : ∀ t, (∀ x ∈ P, (opAt e.os x).dst ≠ some t) → fr.getD t .undef = e.fr0.getD t .undef
  size : listed.size = e.ops.size
  sub : ∀ x, On listed x → x ∈ P
  dc : ∀ x, On listed x → ∀ d ∈ dirs e.ds x, On listed d
  eff : ∀ x ∈ P, (opAt e.os x).op.isE = true → On listed x
  goes : Goes e.c e.base e.ρ0 e.H0 e.W0 ρ H W
  frel : FRel e.c ρ (e.gS listed) a.tmps
  dfr : a.defers = e.df
  pend : ∀ x ∈ P, ¬ On listed x → e.Pend ρ H x (bk x)
  dist : ∀ x ∈ P, ∀ y ∈ P, ¬ On listed x → ¬ On listed y → e.isN x → e.isN y → x ≠ y → bk x ≠ bk y

variable {e}

theorem olen : e.os.length = e.ops.size := os_len

theorem agree_run (hl : e.frF.length = e.fr0.length) {listed : Array Bool} {x : Nat} (h1 : ∀ d ∈ dirs e.ds x, On listed d ∧ d < e.ops.size) (h2 : ∀ y, On listed y → ∀ t, (opAt e.os y).dst = some t → t ∈ (opAt e.os x).tm → y ∈ dirs e.ds x) :
    Ag (opAt e.os x).tm (e.gS listed) (e.cf x) := by
  intro t ht
  unfold gS cf
  rw [ov_get hl, ov_get hl]
  congr 1
  rw [Bool.eq_iff_iff, List.any_eq_true, List.any_eq_true]
  constructor
  · rintro ⟨y, hy, hh⟩
    rw [Bool.and_eq_true] at hh
    exact ⟨y, h2 y hh.1 t (dstIs_iff.1 hh.2) ht, hh.2⟩
  · rintro ⟨y, hy, hh⟩
    exact ⟨y, List.mem_range.2 (h1 y hy).2, by rw [Bool.and_eq_true]; exact ⟨(h1 y hy).1, hh⟩⟩

theorem agree_plan (hl : e.frF.length = e.fr0.length) {P : List Nat} {fr : List AV} {x : Nat} (h1 : ∀ d ∈ dirs e.ds x, d ∈ P) (h2 : ∀ y ∈ P, ∀ t, (opAt e.os y).dst = some t → t ∈ (opAt e.os x).tm → y ∈ dirs e.ds x)
    (old : ∀ t, (∀ x ∈ P, (opAt e.os x).dst ≠ some t) → fr.getD t .undef = e.fr0.getD t .undef) (fut : ∀ y ∈ P, ∀ t, (opAt e.os y).dst = some t → fr.getD t .undef = e.frF.getD t .undef) :
    Ag (opAt e.os x).tm fr (e.cf x) := by
  intro t ht
  unfold cf
  rw [ov_get hl]
  cases h : (dirs e.ds x).any fun y => dstIs e.os y t with
  | true =>
    obtain ⟨y, hy, hh⟩ := List.any_eq_true.1 h
    exact fut y (h1 y hy) t (dstIs_iff.1 hh)
  | false =>
    refine old t fun y hy hd => ?_
    have := List.any_eq_false.1 h y (h2 y hy t hd ht)
    exact this (dstIs_iff.2 hd)

theorem gS_set {ρ : Rho} {listed : Array Bool} {a : Act} (hl : e.frF.length = e.fr0.length) (hs : listed.size = e.ops.size) {x : Nat} (hx : x < e.ops.size) {o : Oper} (ho : e.ops[x]? = some o) {v : AV} {v' : Value} (F : FRel e.c ρ (e.gS listed) a.tmps) (r : VRel e.c ρ v v')
    (hv : ∀ d, (opAt e.os x).dst = some d → d < e.fr0.length → e.frF.getD d .undef = v) : FRel e.c ρ (e.gS (listed.setIfInBounds x true)) (a.put o.dst v').tmps := by
  have hd : (opAt e.os x).dst = o.dst := by show (opAt (osOf e.c e.ops) x).dst = o.dst; rw [os_at ho, trO_dst]
  refine (F.put o.dst r).of_get (by rw [setD_len]; simp [gS, ov_len]) fun t => ?_
  rw [setD_get]
  have hgl : (e.gS listed).length = e.fr0.length := ov_len _ _ _
  rw [hgl]
  by_cases h : o.dst = some t ∧ t < e.fr0.length
  · rw [if_pos h]
    unfold gS
    rw [ov_get hl]
    have : (List.range e.ops.size).any (fun y => (listed.setIfInBounds x true).getD y false && dstIs e.os y t) = true := by
      refine List.any_eq_true.2 ⟨x, List.mem_range.2 hx, ?_⟩
      rw [Bool.and_eq_true]
      exact ⟨(on_set (by omega) x).2 (.inl rfl), dstIs_iff.2 (by rw [hd]; exact h.1)⟩
    rw [this]
    exact hv t (by rw [hd]; exact h.1) h.2
  · rw [if_neg h]
    by_cases ht : t < e.fr0.length
    · have hne : o.dst ≠ some t := fun h' => h ⟨h', ht⟩
      unfold gS
      rw [ov_get hl, ov_get hl]
      congr 1
      rw [Bool.eq_iff_iff, List.any_eq_true, List.any_eq_true]
      constructor
      · rintro ⟨y, hy, hh⟩
        rw [Bool.and_eq_true] at hh
        refine ⟨y, hy, ?_⟩
        rw [Bool.and_eq_true]
        refine ⟨?_, hh.2⟩
        rcases (on_set (by omega) y).1 hh.1 with rfl | h'
        · exact absurd (hd.symm.trans (dstIs_iff.1 hh.2)) hne
        · exact h'
      · rintro ⟨y, hy, hh⟩
        rw [Bool.and_eq_true] at hh
        refine ⟨y, hy, ?_⟩
        rw [Bool.and_eq_true]
        exact ⟨(on_set (by omega) y).2 (.inr hh.1), hh.2⟩
    · unfold gS
      rw [ov_get hl, ov_get hl]
      have e1 : e.frF.getD t .undef = .undef := by rw [List.getD_eq_getElem?_getD, List.getElem?_eq_none (by omega)]; rfl
      have e2 : e.fr0.getD t .undef = .undef := by rw [List.getD_eq_getElem?_getD, List.getElem?_eq_none (by omega)]; rfl
      rw [e1, e2]
      cases (List.range e.ops.size).any fun y => (listed.setIfInBounds x true).getD y false && dstIs e.os y t <;> cases (List.range e.ops.size).any fun y => listed.getD y false && dstIs e.os y t <;> rfl

section
variable {listed : Array Bool} {a : Act} {W : World} {P : List Nat} {rest : List PIt} {fr : List AV} {H : Heap} {ρ : Rho} {bk : Nat → Nat}

theorem Inv.fut (I : e.Inv listed a W P rest fr H ρ bk) : ∀ y ∈ P, ∀ t, (opAt e.os y).dst = some t → fr.getD t .undef = e.frF.getD t .undef := fun y hy t ht =>
  ((steps_keeps I.run).2 t fun z hz => chk_future e.os e.ds I.ck z hz y hy t ht).symm

theorem Pend.mono {H1 : Heap} (h : HLe H H1) (hn : H.next ≤ H1.next) {x b : Nat} (p : e.Pend ρ H x b) : e.Pend ρ H1 x b := by
  obtain ⟨w, v, h1, h2, h3, h4⟩ := p
  refine ⟨w, v, h1, h2, h3, fun hw => ?_⟩
  have h5 := h4 hw
  split at h5
  · exact evalR_mono h h5
  · obtain ⟨y, f, g1, g2, g3, g4, g5, g6⟩ := h5
    exact ⟨y, f, g1, g2, h _ _ g3, g4, g5, by omega⟩
  · exact h5

theorem Pend.lt {x b : Nat} (p : e.Pend ρ H x b) (hx : e.isN x) : b < H.next := by
  obtain ⟨w, v, h1, h2, h3, h4⟩ := p
  obtain ⟨⟨p, hp⟩, hw⟩ := hx
  rw [hw] at h1
  cases h1
  have h5 := h4 rfl
  rw [hp] at h5
  obtain ⟨y, f, g1, g2, g3, g4, g5, g6⟩ := h5
  exact g6

theorem goes_more {c : Cx} {base : Nat} {ρ0 : Rho} {H0 : Heap} {W0 : World} (g : Goes c base ρ0 H0 W0 ρ H W) (b : Blk) : Goes c base ρ0 H0 W0 ρ (H.new b) W :=
  ⟨g.ext, g.rel.more (by show H.next ≤ H.next + 1; omega) (fun i hi => by rw [Heap.get_new, if_neg (by omega)]), g.below, by have := g.next; show H0.next ≤ H.next + 1; omega, g.new,
    fun i hi hn => by rw [Heap.get_new, if_neg (by have := g.next; omega)]; exact g.kept i hi hn⟩

/-- An operation without an effect is done by the plan: what is to be kept. -/
theorem Inv.place_mk {x : Nat} (I : e.Inv listed a W P (.op x :: rest) fr H ρ bk) (hq : (opAt e.os x).op.isE = false) {fr1 : List AV} {H1 : Heap} (hstep : step e.cal (opAt e.os x) fr H = some (fr1, H1)) (hrun : steps e.cal (rest.map (toIt e.os)) fr1 H1 = some (e.frF, e.HF))
    (hle : HLe H H1) (hnx : H.next ≤ H1.next) (g : Goes e.c e.base e.ρ0 e.H0 e.W0 ρ H1 W) (px : e.Pend ρ H1 x H.next) : e.Inv listed a W (x :: P) rest fr1 H1 ρ (fun z => if z = x then H.next else bk z) := by
  have K := chk_op e.os e.ds I.ck
  have hno : ¬ On listed x := fun h => K.new (I.sub x h)
  have hk := step_keeps hstep
  refine ⟨I.flen, I.st.cons e.os e.ds K, K.rest, hrun, hk.1.trans I.len, fun t ht => ?_, I.size, fun y hy => List.mem_cons_of_mem _ (I.sub y hy), I.dc, fun y hy he => ?_, g, I.frel, I.dfr, fun y hy hn => ?_, fun y hy z hz hy' hz' ny nz hne => ?_⟩
  · rw [hk.2 t (ht x List.mem_cons_self)]
    exact I.old t fun y hy => ht y (List.mem_cons_of_mem _ hy)
  · rcases List.mem_cons.1 hy with rfl | hy
    · rw [hq] at he; cases he
    · exact I.eff y hy he
  · rcases List.mem_cons.1 hy with rfl | hyP
    · rw [if_pos rfl]; exact px
    · rw [if_neg (by intro h; subst h; exact K.new hyP)]
      exact (I.pend y hyP hn).mono hle hnx
  · rcases List.mem_cons.1 hy with rfl | hyP <;> rcases List.mem_cons.1 hz with rfl | hzP
    · exact absurd rfl hne
    · rw [if_pos rfl, if_neg (Ne.symm hne)]
      have := (I.pend z hzP hz').lt nz
      omega
    · rw [if_neg hne, if_pos rfl]
      have := (I.pend y hyP hy').lt ny
      omega
    · rw [if_neg (by intro h; subst h; exact K.new hyP), if_neg (by intro h; subst h; exact K.new hzP)]
      exact I.dist y hyP z hzP hy' hz' ny nz hne

theorem Inv.place {x : Nat} (I : e.Inv listed a W P (.op x :: rest) fr H ρ bk) (hq : (opAt e.os x).op.isE = false) : ∃ fr' H' bk', e.Inv listed a W (x :: P) rest fr' H' ρ bk' := by
  have K := chk_op e.os e.ds I.ck
  obtain ⟨fr1, H1, hstep, hrun⟩ := steps_op I.run
  have A := agree_plan I.flen K.ahead K.reads I.old I.fut
  have Ag1 : Ag (guardTm (opAt e.os x).guard) fr (e.cf x) := A.left
  have Ag2 : Ag (opAt e.os x).op.tm fr (e.cf x) := A.right
  have hval : ∀ v, fr1 = setD fr (opAt e.os x).dst v → ∀ d, (opAt e.os x).dst = some d → d < e.fr0.length → e.frF.getD d .undef = v := by
    intro v hv d hd hlt
    have h1 : e.frF.getD d .undef = fr1.getD d .undef := (steps_keeps hrun).2 d fun z hz => chk_future e.os e.ds K.rest z hz x List.mem_cons_self d hd
    rw [h1, hv, setD_get, if_pos ⟨hd, by rw [I.len]; exact hlt⟩]
  rcases step_inv hstep with ⟨hw, hf, hH⟩ | ⟨v, hw, he, hf⟩
  · subst hH
    exact ⟨_, _, _, I.place_mk hq hstep hrun (fun _ _ h => h) (Nat.le_refl _) I.goes ⟨false, .tup [], by rw [← wanted_congr Ag1]; exact hw, hval _ hf, fun _ => rfl, fun h => by cases h⟩⟩
  · cases hop : (opAt e.os x).op with
    | e p => rw [hop] at hq; cases hq
    | r p =>
      rw [hop] at he Ag2
      simp only [evalO] at he
      cases hv : evalR fr H p with
      | none => rw [hv] at he; cases he
      | some v' =>
        rw [hv] at he
        cases he
        refine ⟨_, _, _, I.place_mk hq hstep hrun (fun _ _ h => h) (Nat.le_refl _) I.goes ⟨true, v, by rw [← wanted_congr Ag1]; exact hw, hval _ hf, fun h => (by cases h), fun _ => ?_⟩⟩
        rw [hop]
        show evalR (e.cf x) H p = some v
        rw [← evalR_congr H Ag2]; exact hv
    | n p =>
      rw [hop] at he Ag2
      simp only [evalO] at he
      cases hv : evalN fr p with
      | none => rw [hv] at he; cases he
      | some bf =>
        obtain ⟨b, f⟩ := bf
        rw [hv] at he
        simp only [withN] at he
        split at he
        · rename_i hnone
          cases he
          refine ⟨_, _, _, I.place_mk hq hstep hrun (HLe.new hnone b) (by show H.next ≤ H.next + 1; omega) (goes_more I.goes b) ⟨true, f H.next, by rw [← wanted_congr Ag1]; exact hw, hval _ hf, fun h => (by cases h), fun _ => ?_⟩⟩
          rw [hop]
          refine ⟨b, f, by rw [← evalN_congr Ag2]; exact hv, rfl, by rw [Heap.get_new, if_pos rfl], I.goes.rel.fresh, I.goes.next, by show H.next < H.next + 1; omega⟩
        · cases he

theorem Inv.skip {x : Nat} (I : e.Inv listed a W P (.again x :: rest) fr H ρ bk) : e.Inv listed a W P rest fr H ρ bk :=
  { I with ck := (chk_again e.os e.ds I.ck).2.2, run := (steps_again I.run).2 }

/-- The plan is gone through as far as it needs no effect. -/
theorem Inv.advance : ∀ {rest : List PIt} {P : List Nat} {fr : List AV} {H : Heap} {bk : Nat → Nat}, e.Inv listed a W P rest fr H ρ bk →
    ∃ P' rest' fr' H' bk', e.Inv listed a W P' rest' fr' H' ρ bk' ∧ (rest' = [] ∨ ∃ x r, rest' = .op x :: r ∧ (opAt e.os x).op.isE = true)
  | [], P, fr, H, bk, I => ⟨P, [], fr, H, bk, I, .inl rfl⟩
  | .again x :: r, P, fr, H, bk, I => I.skip.advance
  | .op x :: r, P, fr, H, bk, I => by
    cases hq : (opAt e.os x).op.isE with
    | true => exact ⟨P, _, fr, H, bk, I, .inr ⟨x, r, rfl, hq⟩⟩
    | false =>
      obtain ⟨fr', H', bk', I'⟩ := I.place hq
      exact I'.advance
end
end Env
end Go.Dp
