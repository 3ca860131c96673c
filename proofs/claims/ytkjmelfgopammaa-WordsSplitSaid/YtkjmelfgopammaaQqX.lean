/- A region that draws its order: the theorem. Conditions: none. -/
import Derived.Test.YtkjmelfgopammaaQqW
namespace Go.Dp
open Go.RowKit
namespace Env
variable {e : Env}

section
variable {listed : Array Bool} {a : Act} {W : World} {P : List Nat} {rest : List PIt} {fr : List AV} {H : Heap} {ρ : Rho} {bk : Nat → Nat}

/-- An operation that the plan had done is done by the run. -/
theorem Inv.did {x : Nat} (I : e.Inv listed a W P rest fr H ρ bk) (hx : x ∈ P) (hr : ∀ d ∈ dirs e.ds x, On listed d) {a' : Act} {W' : World} {ρ' : Rho} (g : Goes e.c e.base e.ρ0 e.H0 e.W0 ρ' H W') (F : FRel e.c ρ' (e.gS (listed.setIfInBounds x true)) a'.tmps)
    (hd : a'.defers = e.df) (hp : ∀ y ∈ P, y ≠ x → ¬ On listed y → e.Pend ρ' H y (bk y)) : e.Inv (listed.setIfInBounds x true) a' W' P rest fr H ρ' bk := by
  have hxn : x < listed.size := by have := I.st.lt x hx; rw [olen] at this; rw [I.size]; exact this
  have hon := on_set hxn
  refine ⟨I.flen, I.st, I.ck, I.run, I.len, I.old, by simp [I.size], fun y hy => ?_, fun y hy d hdd => ?_, fun y hy he => (hon y).2 (.inr (I.eff y hy he)), g, F, hd, fun y hy hn => ?_, fun y hy z hz hy' hz' => ?_⟩
  · rcases (hon y).1 hy with rfl | h
    · exact hx
    · exact I.sub y h
  · rcases (hon y).1 hy with rfl | h
    · exact (hon d).2 (.inr (hr d hdd))
    · exact (hon d).2 (.inr (I.dc y h d hdd))
  · have h1 : y ≠ x := fun h => hn ((hon y).2 (.inl h))
    have h2 : ¬ On listed y := fun h => hn ((hon y).2 (.inr h))
    exact hp y hy h1 h2
  · exact I.dist y hy z hz (fun h => hy' ((hon y).2 (.inr h))) (fun h => hz' ((hon z).2 (.inr h)))

theorem Inv.lag (E : ExtOk e.c) {x : Nat} (I : e.Inv listed a W P rest fr H ρ bk) (hx : x ∈ P) (hn : ¬ On listed x) (hr : ∀ d ∈ dirs e.ds x, On listed d) {K : Act → World → Prop} {Q : Exit → Act → World → Prop}
    (hK : ∀ a' W' ρ', e.Inv (listed.setIfInBounds x true) a' W' P rest fr H ρ' bk → K a' W') : wpOp e.c.P e.ops Q x K a W := by
  have hlt : x < e.ops.size := by have := I.st.lt x hx; rwa [olen] at this
  obtain ⟨o, ho⟩ : ∃ o, e.ops[x]? = some o := ⟨_, Array.getElem?_eq_getElem hlt⟩
  have hoe : opAt e.os x = trO e.c e.ops o := os_at ho
  have A : Ag (opAt e.os x).tm (e.gS listed) (e.cf x) := by
    refine agree_run I.flen (fun d hd => ⟨hr d hd, ?_⟩) (fun y hy t ht hm => ?_)
    · have := I.st.lt d (I.sub d (hr d hd)); rwa [olen] at this
    · rcases I.st.pair x hx y (I.sub y hy) (fun h => hn (h ▸ hy)) t ht hm with h | h
      · exact h
      · exact absurd (cl_on e.os e.ds I.dc hy x h) hn
  have Ag1 : Ag (guardTm (opAt e.os x).guard) (e.gS listed) (e.cf x) := A.left
  have Ag2 : Ag (opAt e.os x).op.tm (e.gS listed) (e.cf x) := A.right
  obtain ⟨w, v, hw, hv, hf, ht⟩ := I.pend x hx hn
  rw [← wanted_congr Ag1] at hw
  rcases trO_inv (c := e.c) (ops := e.ops) o with ⟨hg, hop⟩ | ⟨hg, hop⟩
  · rw [← hoe] at hg hop
    have hwant := wanted_rel I.frel hg hw
    unfold wpOp
    rw [ho]
    simp only []
    cases w with
    | false =>
      rw [hwant]
      simp only [Bool.false_eq_true, if_false]
      refine hK _ _ ρ (I.did hx hr I.goes (gS_set I.flen I.size hlt ho I.frel (v := .tup []) VRel_unit ?_) (by rw [put_defers]; exact I.dfr) fun y hy _ hn => I.pend y hy hn)
      rw [← hf rfl]; exact hv
    | true =>
      rw [hwant, if_pos rfl]
      refine .inl ?_
      have h5 := ht rfl
      cases hopx : (opAt e.os x).op with
      | e p => rw [hopx] at h5; exact h5.elim
      | r p =>
        rw [hopx] at h5 hop Ag2
        have hev : evalR (e.gS listed) H p = some v := by rw [evalR_congr H Ag2]; exact h5
        refine wp_val (op_r E I.goes.rel I.frel hop hev) fun v' hv' => ?_
        exact hK _ _ ρ (I.did hx hr I.goes (gS_set I.flen I.size hlt ho I.frel hv' hv) (by rw [put_defers]; exact I.dfr) fun y hy _ hn => I.pend y hy hn)
      | n p =>
        rw [hopx] at h5 hop Ag2
        obtain ⟨y, f, g1, g2, g3, g4, g5, g6⟩ := h5
        have hev : evalN (e.gS listed) p = some (y, f) := by rw [evalN_congr Ag2]; exact g1
        obtain ⟨v', W', obj, pl, m1, m2, m3, m4, m5, m6, m7⟩ := op_n E I.goes.rel I.frel hop hev
        obtain ⟨m8, m9⟩ := m7 (bk x) g4
        have hext := Rho.ext_at (p := pl) g4
        unfold Oper.wp
        rw [m1, Oper.upon_value]
        have G := I.goes
        have hnx : e.isN x := ⟨⟨p, hopx⟩, by rw [← wanted_congr Ag1]; exact hw⟩
        refine hK _ _ (ρ.at_ (bk x) pl) (I.did hx hr ⟨G.ext.trans hext, G.rel.adopt g6 g4 g3 m2 m6 m8, G.below.trans ⟨m3, m4, m5, by rw [m2]; simp, fun k hk => ?_⟩, G.next, fun b q hq => ?_, G.kept⟩ (gS_set I.flen I.size hlt ho (I.frel.ext hext) (g2 ▸ m9) hv) (by rw [put_defers]; exact I.dfr) fun z hz hzx hzn => ?_)
        · rw [m2, Array.getElem?_push, if_neg (by have := G.rel.size; omega)]
        · unfold Rho.at_ at hq
          by_cases hb : b = bk x
          · subst hb; exact .inr g5
          · rw [if_neg hb] at hq; exact G.new b q hq
        · obtain ⟨w2, v2, p1, p2, p3, p4⟩ := I.pend z hz hzn
          refine ⟨w2, v2, p1, p2, p3, fun hw2 => ?_⟩
          have p5 := p4 hw2
          cases hoz : (opAt e.os z).op with
          | e p => rw [hoz] at p5; exact p5
          | r p => rw [hoz] at p5; exact p5
          | n p2 =>
            rw [hoz] at p5
            obtain ⟨y2, f2, q1, q2, q3, q4, q5, q6⟩ := p5
            refine ⟨y2, f2, q1, q2, q3, ?_, q5, q6⟩
            unfold Rho.at_
            rw [if_neg (I.dist z hz x hx hzn hn ⟨⟨p2, hoz⟩, by rw [p1, hw2]⟩ hnx hzx)]
            exact q4
  · rw [hoe] at hw ht
    rw [hg] at hw
    simp only [wanted] at hw
    cases hw
    have := ht rfl
    rw [hop] at this
    cases this

/-- The next effect. -/
theorem Inv.effect (M : FmOk e.c) (C : CalOk e.c e.cal) {x : Nat} (I : e.Inv listed a W P (.op x :: rest) fr H ρ bk) (hE : (opAt e.os x).op.isE = true) (hr : ∀ d ∈ dirs e.ds x, On listed d) {K : Act → World → Prop} {Q : Exit → Act → World → Prop}
    (hK : ∀ a' W' fr' H' ρ', e.Inv (listed.setIfInBounds x true) a' W' (x :: P) rest fr' H' ρ' bk → K a' W') : wpOp e.c.P e.ops Q x K a W := by
  have Kc := chk_op e.os e.ds I.ck
  have hlt : x < e.ops.size := by have := Kc.lt; rwa [olen] at this
  obtain ⟨o, ho⟩ : ∃ o, e.ops[x]? = some o := ⟨_, Array.getElem?_eq_getElem hlt⟩
  have hoe : opAt e.os x = trO e.c e.ops o := os_at ho
  obtain ⟨fr1, H1, hstep, hrun⟩ := steps_op I.run
  have A : Ag (opAt e.os x).tm (e.gS listed) (e.cf x) := by
    refine agree_run I.flen (fun d hd => ⟨hr d hd, ?_⟩) (fun y hy t ht hm => Kc.reads y (I.sub y hy) t ht hm)
    have := I.st.lt d (I.sub d (hr d hd)); rwa [olen] at this
  have A2 := agree_plan I.flen Kc.ahead Kc.reads I.old I.fut
  have Ag0 : Ag (opAt e.os x).tm fr (e.gS listed) := fun t ht => (A2 t ht).trans (A t ht).symm
  have Ag1 : Ag (guardTm (opAt e.os x).guard) fr (e.gS listed) := Ag0.left
  have Ag2 : Ag (opAt e.os x).op.tm fr (e.gS listed) := Ag0.right
  have hxs : x < listed.size := by rw [I.size]; exact hlt
  have hon := on_set hxs
  have hst := I.st.cons e.os e.ds Kc
  have hk := step_keeps hstep
  have hdc : ∀ y, On (listed.setIfInBounds x true) y → ∀ d ∈ dirs e.ds y, On (listed.setIfInBounds x true) d := fun y hy d hdd => by
    rcases (hon y).1 hy with rfl | h
    · exact (hon d).2 (.inr (hr d hdd))
    · exact (hon d).2 (.inr (I.dc y h d hdd))
  have hfut1 : ∀ y ∈ x :: P, ∀ t, (opAt e.os y).dst = some t → fr1.getD t .undef = e.frF.getD t .undef := fun y hy t ht =>
    ((steps_keeps hrun).2 t fun z hz => chk_future e.os e.ds Kc.rest z hz y hy t ht).symm
  have hold1 : ∀ t, (∀ y ∈ x :: P, (opAt e.os y).dst ≠ some t) → fr1.getD t .undef = e.fr0.getD t .undef := fun t ht => by
    rw [hk.2 t (ht x List.mem_cons_self)]
    exact I.old t fun y hy => ht y (List.mem_cons_of_mem _ hy)
  have hlen1 : fr1.length = e.fr0.length := hk.1.trans I.len
  -- what comes of it
  have fin : ∀ (v : AV) (v' : Value) (W' : World) (ρ' : Rho), Goes e.c e.base ρ H W ρ' H1 W' → VRel e.c ρ' v v' → fr1 = setD fr (opAt e.os x).dst v → K (a.put o.dst v') W' := by
    intro v v' W' ρ' G r hf
    have hv : ∀ d, (opAt e.os x).dst = some d → d < e.fr0.length → e.frF.getD d .undef = v := fun d hd hl => by
      rw [← hfut1 x List.mem_cons_self d hd, hf, setD_get, if_pos ⟨hd, by rw [I.len]; exact hl⟩]
    refine hK _ _ fr1 H1 ρ' ⟨I.flen, hst, Kc.rest, hrun, hlen1, hold1, by simp [I.size], fun y hy => ?_, hdc, fun y hy he => ?_, I.goes.trans G, gS_set I.flen I.size hlt ho (I.frel.ext G.ext) r hv, by rw [put_defers]; exact I.dfr, fun y hy hn => ?_, fun y hy z hz hy' hz' ny nz hne => ?_⟩
    · rcases (hon y).1 hy with rfl | h
      · exact List.mem_cons_self
      · exact List.mem_cons_of_mem _ (I.sub y h)
    · rcases List.mem_cons.1 hy with rfl | hyP
      · exact (hon y).2 (.inl rfl)
      · exact (hon y).2 (.inr (I.eff y hyP he))
    · have hyx : y ≠ x := fun h => hn ((hon y).2 (.inl h))
      have hyn : ¬ On listed y := fun h => hn ((hon y).2 (.inr h))
      have hyP : y ∈ P := (List.mem_cons.1 hy).resolve_left hyx
      have hcl : y ∉ cl e.os e.ds x := fun h => hn (cl_on e.os e.ds hdc ((hon x).2 (.inl rfl)) y h)
      obtain ⟨w2, v2, p1, p2, p3, p4⟩ := I.pend y hyP hyn
      cases hoy : (opAt e.os y).op with
      | e p =>
        exfalso
        exact hyn (I.eff y hyP (by rw [hoy]; rfl))
      | n p =>
        refine ⟨w2, v2, p1, p2, p3, fun hw2 => ?_⟩
        have p5 := p4 hw2
        rw [hoy] at p5 ⊢
        obtain ⟨y2, f2, q1, q2, q3, q4, q5, q6⟩ := p5
        refine ⟨y2, f2, q1, q2, by rw [G.kept _ q6 q4]; exact q3, ?_, q5, by have := G.next; omega⟩
        cases hb : ρ' (bk y) with
        | none => rfl
        | some q => rcases G.new _ q hb with h | h
                    · rw [q4] at h; cases h
                    · omega
      | r p =>
        cases hrd : (Pk.r p).reads with
        | false =>
          refine ⟨w2, v2, p1, p2, p3, fun hw2 => ?_⟩
          have p5 := p4 hw2
          rw [hoy] at p5 ⊢
          show evalR (e.cf y) H1 p = some v2
          rw [← evalR_still (H := H) hrd]; exact p5
        | true =>
          have hag : y ∈ PIt.agains rest := (Kc.again hE y hyP (by rw [hoy]; exact hrd)).resolve_left hcl
          have hfact := agains_run hrun y hag
          obtain ⟨_, _, p', d, w', r1, r2, r3, r4⟩ := again_inv hfact
          rw [hoy] at r1
          cases r1
          have Ay : Ag (opAt e.os y).tm fr1 (e.cf y) := agree_plan I.flen (fun d hd => POK.waits e.ds hst.ord y hy d hd) (chk_agains e.os e.ds Kc.rest y hag).2 hold1 hfut1
          have Ay1 : Ag (guardTm (opAt e.os y).guard) fr1 (e.cf y) := Ay.left
          have Ay2 : Ag (opAt e.os y).op.tm fr1 (e.cf y) := Ay.right
          rw [wanted_congr Ay1] at r3
          rw [p1] at r3
          cases r3
          cases w2 with
          | false => exact ⟨false, v2, p1, p2, p3, fun h => by cases h⟩
          | true =>
            refine ⟨true, fr1.getD d .undef, p1, fun d' hd' _ => ?_, fun h => (by cases h), fun _ => ?_⟩
            · rw [r2] at hd'; cases hd'
              exact (hfut1 y hy d r2).symm
            · rw [hoy] at Ay2 ⊢
              show evalR (e.cf y) H1 p = some _
              rw [← evalR_congr H1 Ay2]; exact r4 rfl
    · have hy2 : y ∈ P := (List.mem_cons.1 hy).resolve_left fun h => hy' ((hon y).2 (.inl h))
      have hz2 : z ∈ P := (List.mem_cons.1 hz).resolve_left fun h => hz' ((hon z).2 (.inl h))
      exact I.dist y hy2 z hz2 (fun h => hy' ((hon y).2 (.inr h))) (fun h => hz' ((hon z).2 (.inr h))) ny nz hne
  unfold wpOp
  rw [ho]
  simp only []
  rcases trO_inv (c := e.c) (ops := e.ops) o with ⟨hg, hop⟩ | ⟨hg, hop⟩
  · rw [← hoe] at hg hop
    rcases step_inv hstep with ⟨hw, hf, hH⟩ | ⟨v, hw, he, hf⟩
    · rw [wanted_congr Ag1] at hw
      rw [wanted_rel I.frel hg hw]
      simp only [Bool.false_eq_true, if_false]
      subst hH
      exact fin _ undef W ρ (.refl I.goes.rel) VRel_unit hf
    · rw [wanted_congr Ag1] at hw
      rw [wanted_rel I.frel hg hw, if_pos rfl]
      refine .inl ?_
      cases hopx : (opAt e.os x).op with
      | r p => rw [hopx] at hE; cases hE
      | n p => rw [hopx] at hE; cases hE
      | e p =>
        rw [hopx] at he hop Ag2
        simp only [evalO] at he
        rw [evalE_congr H Ag2] at he
        exact op_e C M I.goes.rel I.frel hop he fun v' W' ρ' G r => fin v v' W' ρ' G r hf
  · exfalso
    rw [hoe, hop] at hE
    cases hE

theorem ready_iff (hs : listed.size = e.ops.size) {x : Nat} : x ∈ Region.ready .any e.ops listed ↔ x < e.ops.size ∧ ¬ On listed x ∧ ∀ d ∈ dirs e.ds x, On listed d := by
  rw [mem_ready]
  have hget : x < e.ops.size → (listed.getD x true = false ↔ ¬ On listed x) := by
    intro hx
    unfold On
    simp [hs, hx]
  constructor
  · rintro ⟨h1, o, ho, h2⟩
    have hx : x < e.ops.size := (Array.getElem?_eq_some_iff.1 ho).1
    refine ⟨hx, (hget hx).1 h1, fun d hd => ?_⟩
    have hds : dirs e.ds x = directs o := ds_at ho
    rw [hds] at hd
    unfold directs at hd
    obtain ⟨ed, he1, rfl⟩ := List.mem_map.1 hd
    rw [List.mem_filter] at he1
    exact h2 ed (by simpa using he1.1) he1.2
  · rintro ⟨hx, h1, h2⟩
    obtain ⟨o, ho⟩ : ∃ o, e.ops[x]? = some o := ⟨_, Array.getElem?_eq_getElem hx⟩
    refine ⟨(hget hx).2 h1, o, ho, fun ed he hb => ?_⟩
    have hds : dirs e.ds x = directs o := ds_at ho
    refine h2 ed.on ?_
    rw [hds]
    exact List.mem_map.2 ⟨ed, List.mem_filter.2 ⟨by simpa using he, hb⟩, rfl⟩

theorem chk_total {os : List PO} {ds : List (List Nat)} : ∀ {P : List Nat} {r : List PIt}, chk os ds P r = true → ∀ i, i < os.length → i ∈ P ∨ i ∈ PIt.ops r
  | P, [], h, i, hi => .inl (chk_all os ds h i hi)
  | P, .again _ :: r, h, i, hi => chk_total (chk_again os ds h).2.2 i hi
  | P, .op x :: r, h, i, hi => by
    rcases chk_total (chk_op os ds h).rest i hi with h' | h'
    · rcases List.mem_cons.1 h' with rfl | h'
      · exact .inr (by simp [PIt.ops])
      · exact .inl h'
    · exact .inr (by simp [PIt.ops, h'])

/-- Nothing is left to be done: the plan's end. -/
theorem Inv.over (I : e.Inv listed a W P rest fr H ρ bk) (hd : rest = [] ∨ ∃ x r, rest = .op x :: r ∧ (opAt e.os x).op.isE = true) (h0 : Region.ready .any e.ops listed = []) : Goes e.c e.base e.ρ0 e.H0 e.W0 ρ e.HF W ∧ FRel e.c ρ e.frF a.tmps := by
  have hall : ∀ x ∈ P, On listed x := fun x hx => Classical.byContradiction fun hn => by
    obtain ⟨y, hy, h1, h2⟩ := POK.next e.ds (S := On listed) I.st.ord ⟨x, hx, hn⟩
    have : y ∈ Region.ready .any e.ops listed := (ready_iff I.size).2 ⟨by have := I.st.lt y hy; rwa [olen] at this, h1, h2⟩
    rw [h0] at this
    cases this
  rcases hd with rfl | ⟨x, r, rfl, hE⟩
  · have hrun := I.run
    rw [List.map_nil, steps_nil] at hrun
    cases hrun
    refine ⟨I.goes, I.frel.of_get (by simp [gS, ov_len, I.flen]) fun t => ?_⟩
    unfold gS
    rw [ov_get I.flen]
    cases h : (List.range e.ops.size).any fun y => listed.getD y false && dstIs e.os y t with
    | true => rfl
    | false =>
      refine I.old t fun y hy hd => ?_
      have := List.any_eq_false.1 h y (List.mem_range.2 (by have := I.st.lt y hy; rwa [olen] at this))
      apply this
      rw [Bool.and_eq_true]
      exact ⟨hall y hy, dstIs_iff.2 hd⟩
  · exfalso
    have K := chk_op e.os e.ds I.ck
    have : x ∈ Region.ready .any e.ops listed := (ready_iff I.size).2 ⟨by have := K.lt; rwa [olen] at this, fun h => K.new (I.sub x h), fun d hd => hall d (K.ahead d hd)⟩
    rw [h0] at this
    cases this

def open_ (listed : Array Bool) (n : Nat) : Nat := (List.range n).countP fun i => !listed.getD i false

theorem Inv.any (E : ExtOk e.c) (M : FmOk e.c) (C : CalOk e.c e.cal) {Q : Exit → Act → World → Prop} (hQ : ∀ a' W' ρ', Goes e.c e.base e.ρ0 e.H0 e.W0 ρ' e.HF W' → FRel e.c ρ' e.frF a'.tmps → a'.defers = e.df → Q .normal a' W') :
    ∀ (fuel : Nat) {listed : Array Bool} {a : Act} {W : World} {P : List Nat} {rest : List PIt} {fr : List AV} {H : Heap} {ρ : Rho} {bk : Nat → Nat}, e.Inv listed a W P rest fr H ρ bk → open_ listed e.ops.size ≤ fuel → wpAny e.c.P .any e.ops Q fuel listed a W := by
  intro fuel
  induction fuel with
  | zero =>
    intro listed a W P rest fr H ρ bk I hc
    have h0 : Region.ready .any e.ops listed = [] := by
      apply List.eq_nil_iff_forall_not_mem.2
      intro x hx
      obtain ⟨h1, h2, _⟩ := (ready_iff I.size).1 hx
      have hz : open_ listed e.ops.size = 0 := by omega
      unfold open_ at hz
      have := List.countP_eq_zero.1 hz x (List.mem_range.2 h1)
      unfold On at h2
      simp only [Bool.not_eq_true, Bool.not_eq_false'] at this
      exact h2 this
    obtain ⟨P', rest', fr', H', bk', I', hd⟩ := I.advance
    obtain ⟨g, f⟩ := I'.over hd h0
    exact ⟨h0, hQ a W ρ g f I.dfr⟩
  | succ fuel ih =>
    intro listed a W P rest fr H ρ bk I hc
    obtain ⟨P', rest', fr', H', bk', I', hd⟩ := I.advance
    refine ⟨fun h0 => ?_, fun x hx => ?_⟩
    · obtain ⟨g, f⟩ := I'.over hd h0
      exact hQ a W ρ g f I.dfr
    · obtain ⟨h1, h2, h3⟩ := (ready_iff I.size).1 hx
      have hcnt : open_ (listed.setIfInBounds x true) e.ops.size ≤ fuel := by
        have hxs : x < listed.size := by rw [I.size]; exact h1
        have : open_ (listed.setIfInBounds x true) e.ops.size < open_ listed e.ops.size := by
          refine cnt_lt (x := x) (fun i hi => ?_) ?_ ?_ (List.mem_range.2 h1)
          · simp only [Bool.not_eq_true'] at hi ⊢
            cases hl : listed.getD i false with
            | false => rfl
            | true => have := (on_set hxs i).2 (.inr hl); unfold On at this; rw [hi] at this; cases this
          · unfold On at h2
            simpa using h2
          · have := (on_set hxs x).2 (.inl rfl)
            unfold On at this
            rw [this]; rfl
        omega
      by_cases hxP : x ∈ P'
      · exact I'.lag E hxP h2 h3 fun a' W' ρ' I2 => ih I2 hcnt
      · rcases hd with rfl | ⟨y, r, rfl, hE⟩
        · exact absurd (chk_all e.os e.ds I'.ck x (by rw [olen]; exact h1)) hxP
        · have K := chk_op e.os e.ds I'.ck
          rcases chk_total I'.ck x (by rw [olen]; exact h1) with h | h
          · exact absurd h hxP
          · simp only [PIt.ops, List.mem_cons] at h
            rcases h with rfl | h
            · exact I'.effect M C hE h3 fun a' W' fr2 H2 ρ' I2 => ih I2 hcnt
            · exfalso
              obtain ⟨d, hd1, hd2⟩ := K.behind hE x h
              have hdP := I'.sub d (h3 d hd1)
              rcases hd2 with rfl | hd2
              · exact K.new hdP
              · exact chk_fresh e.os e.ds K.rest d hd2 (List.mem_cons_of_mem _ hdP)
end
end Env

/-- A region that draws its order comes to what its plan comes to. -/
theorem region_drawn {c : Cx} {base : Nat} {ρ : Rho} {H : Heap} {W : World} {fr : List AV} {a : Act} {cal : Cal} (hm : c.P.follows .mixedOrders = true) (E : ExtOk c) (M : FmOk c) (C : CalOk c cal) (R : Rel c base ρ H W) (F : FRel c ρ fr a.tmps) {id : Nat} {ops : Array Oper} {fr' : List AV} {H' : Heap} {Q : Exit → Act → World → Prop}
    (h : steps cal (trRegion c ops true) fr H = some (fr', H')) (hQ : ∀ a' W' ρ', Goes c base ρ H W ρ' H' W' → FRel c ρ' fr' a'.tmps → a'.defers = a.defers → Q .normal a' W') : (Code.region id ops true).wp c.P Q a W := by
  unfold trRegion at h
  simp only [cond_true] at h
  cases hc : chk (ops.toList.map (trO c ops)) (ops.toList.map directs) [] (plan (ops.toList.map (trO c ops)) (ops.toList.map directs) (List.range (ops.toList.map (trO c ops)).length) (ops.toList.map (trO c ops)).length []) with
  | false =>
    rw [hc] at h
    simp only [cond_false, steps_cons] at h
    unfold thenDo at h
    simp only [doIt, step, wanted, cond_true, evalO, evalR, withH, putR] at h
    cases h
  | true =>
    rw [hc] at h
    simp only [cond_true] at h
    have G0 : Goes c base ρ H W ρ H { W with drawn := W.drawn + 1 } := ⟨.refl _, Rel.heap (W := W) rfl R, ⟨rfl, rfl, rfl, Nat.le_refl _, fun _ _ => rfl⟩, Nat.le_refl _, fun _ _ h => .inl h, fun _ _ _ => rfl⟩
    let e : Env := { c, base, ops, cal, ρ0 := ρ, H0 := H, W0 := W, fr0 := fr, frF := fr', HF := H', df := a.defers }
    refine wp_region_any hm (Env.Inv.any (e := e) E M C hQ ops.size (P := []) (rest := plan (ops.toList.map (trO c ops)) (ops.toList.map directs) (List.range (ops.toList.map (trO c ops)).length) (ops.toList.map (trO c ops)).length []) (fr := fr) (H := H) (ρ := ρ) (bk := fun _ => 0) ?_ ?_)
    · have hoff : ∀ x, ¬ On (Array.replicate ops.size false) x := by
        intro x hx
        unfold On at hx
        rw [Array.getD_eq_getD_getElem?] at hx
        by_cases hl : x < ops.size
        · simp [hl] at hx
        · simp [hl] at hx
      refine ⟨(steps_keeps h).1, ⟨fun x hx => (by cases hx), fun x hx => (by cases hx), fun x hx => (by cases hx), trivial⟩, hc, h, rfl, fun _ _ => rfl, by simp [e], fun x hx => absurd hx (hoff x), fun x hx => absurd hx (hoff x), fun x hx => (by cases hx), G0, ?_, rfl, fun x hx => (by cases hx), fun x hx => by cases hx⟩
      refine F.of_get (by simp [Env.gS, ov_len, e]) fun t => ?_
      unfold Env.gS
      rw [ov_get (steps_keeps h).1]
      have : (List.range e.ops.size).any (fun y => (Array.replicate ops.size false).getD y false && dstIs e.os y t) = false := by
        rw [List.any_eq_false]
        intro y _ hy
        rw [Bool.and_eq_true] at hy
        exact hoff y hy.1
      rw [this]
      rfl
    · unfold Env.open_
      have := List.countP_le_length (p := fun i => !(Array.replicate ops.size false).getD i false) (l := List.range e.ops.size)
      simp at this
      simpa [e] using this

end Go.Dp
