/- A function's code: the model's run comes to what the clean machine's comes to. Conditions: none. -/
import Derived.Test.YtkjmelfgopammaaQqX
import Derived.Scope
namespace Go.Dp
open Go.RowKit

/-- What is asked of the program, at large. -/
structure ProgOk (c : Cx) : Prop where
  mixed : c.P.follows .mixedOrders = true
  ext : ExtOk c
  fm : FmOk c

def exOf : Ex → Exit
  | .normal => .normal
  | .exit id => .exit id
  | .ret => .ret

section
variable {c : Cx} {base : Nat} {ρ : Rho} {H : Heap} {W : World} {fr : List AV} {a : Act} {cal : Cal}

theorem op_run (O : ProgOk c) (C : CalOk c cal) (R : Rel c base ρ H W) (F : FRel c ρ fr a.tmps) {ops : Array Oper} {i : Nat} {o : Oper} (ho : ops[i]? = some o) {fr1 : List AV} {H1 : Heap} {K : Act → World → Prop} {Q : Exit → Act → World → Prop} (h : step cal (trO c ops o) fr H = some (fr1, H1))
    (hK : ∀ a' W' ρ', Goes c base ρ H W ρ' H1 W' → FRel c ρ' fr1 a'.tmps → a'.defers = a.defers → K a' W') : wpOp c.P ops Q i K a W := by
  unfold wpOp
  rw [ho]
  simp only []
  have hdst : (trO c ops o).dst = o.dst := trO_dst o
  rcases trO_inv (c := c) (ops := ops) o with ⟨hg, hop⟩ | ⟨hg, hop⟩
  · rcases step_inv h with ⟨hw, hf, hH⟩ | ⟨v, hw, he, hf⟩
    · rw [wanted_rel F hg hw]
      simp only [Bool.false_eq_true, if_false]
      subst hH
      refine hK _ _ ρ (.refl R) ?_ (put_defers _ _ _)
      rw [hf, hdst]
      exact F.put o.dst VRel_unit
    · rw [wanted_rel F hg hw, if_pos rfl]
      refine .inl ?_
      cases hopx : (trO c ops o).op with
      | r p =>
        rw [hopx] at he hop
        simp only [evalO] at he
        cases hv : evalR fr H p with
        | none => rw [hv] at he; cases he
        | some v' =>
          rw [hv] at he
          cases he
          refine wp_val (op_r O.ext R F hop hv) fun v' hv' => hK _ _ ρ (.refl R) ?_ (put_defers _ _ _)
          rw [hf, hdst]
          exact F.put o.dst hv'
      | n p =>
        rw [hopx] at he hop
        simp only [evalO] at he
        cases hv : evalN fr p with
        | none => rw [hv] at he; cases he
        | some bf =>
          obtain ⟨b, f⟩ := bf
          rw [hv] at he
          simp only [withN] at he
          split at he
          · cases he
            obtain ⟨v', W', obj, pl, m1, m2, m3, m4, m5, m6, m7⟩ := op_n O.ext R F hop hv
            obtain ⟨m8, m9⟩ := m7 H.next R.fresh
            unfold Oper.wp
            rw [m1, Oper.upon_value]
            refine hK _ _ (ρ.at_ H.next pl) (goes_new' R m6 m2 m3 m4 m5 m8) ?_ (put_defers _ _ _)
            rw [hf, hdst]
            exact (F.ext (Rho.ext_at R.fresh)).put o.dst m9
          · cases he
      | e p =>
        rw [hopx] at he hop
        simp only [evalO] at he
        refine op_e C O.fm R F hop he fun v' W' ρ' G r => hK _ _ ρ' G ?_ (put_defers _ _ _)
        rw [hf, hdst]
        exact (F.ext G.ext).put o.dst r
  · exfalso
    unfold step at h
    rw [hg, hop] at h
    simp only [wanted, cond_true, evalO, evalR, withH, putR] at h
    cases h

theorem ops_run (O : ProgOk c) (C : CalOk c cal) {ops : Array Oper} {Q : Exit → Act → World → Prop} : ∀ (l : List Nat) {ρ : Rho} {H : Heap} {W : World} {fr : List AV} {a : Act} {fr' : List AV} {H' : Heap}, (∀ i ∈ l, i < ops.size) → Rel c base ρ H W → FRel c ρ fr a.tmps →
    steps cal (l.map fun i => It.op (opAt (osOf c ops) i)) fr H = some (fr', H') → (∀ a' W' ρ', Goes c base ρ H W ρ' H' W' → FRel c ρ' fr' a'.tmps → a'.defers = a.defers → Q .normal a' W') → wpOps c.P ops Q l a W
  | [], ρ, H, W, fr, a, fr', H', _, R, F, h, hQ => by
    rw [List.map_nil, steps_nil] at h
    cases h
    exact hQ a W ρ (.refl R) F rfl
  | i :: l, ρ, H, W, fr, a, fr', H', hl, R, F, h, hQ => by
    rw [List.map_cons, steps_cons] at h
    unfold thenDo at h
    split at h
    · rename_i fr1 H1 h1
      rw [wpOps_cons]
      have hi := hl i List.mem_cons_self
      obtain ⟨o, ho⟩ : ∃ o, ops[i]? = some o := ⟨_, Array.getElem?_eq_getElem hi⟩
      have h1' : step cal (trO c ops o) fr H = some (fr1, H1) := by rw [← os_at ho]; exact h1
      refine op_run O C R F ho h1' fun a' W' ρ' G F' hd => ?_
      exact ops_run O C l (fun j hj => hl j (List.mem_cons_of_mem _ hj)) G.rel F' h fun a2 W2 ρ2 G2 F2 hd2 => hQ a2 W2 ρ2 (G.trans G2) F2 (hd2.trans hd)
    · cases h

theorem region_plain (O : ProgOk c) (C : CalOk c cal) (R : Rel c base ρ H W) (F : FRel c ρ fr a.tmps) {id : Nat} {ops : Array Oper} {fr' : List AV} {H' : Heap} {Q : Exit → Act → World → Prop} (h : steps cal (trRegion c ops false) fr H = some (fr', H'))
    (hQ : ∀ a' W' ρ', Goes c base ρ H W ρ' H' W' → FRel c ρ' fr' a'.tmps → a'.defers = a.defers → Q .normal a' W') : (Code.region id ops false).wp c.P Q a W := by
  refine wp_region (ops_run O C (List.range ops.size) (fun i hi => List.mem_range.1 hi) R F ?_ hQ)
  unfold trRegion at h
  simp only [cond_false] at h
  have : (ops.toList.map (trO c ops)).map It.op = (List.range ops.size).map fun i => It.op (opAt (osOf c ops) i) := by
    apply List.ext_getElem?
    intro i
    rw [List.map_map, List.getElem?_map, List.getElem?_map]
    by_cases hi : i < ops.size
    · rw [List.getElem?_range hi, Array.getElem?_toList, Array.getElem?_eq_getElem hi]
      simp only [Option.map_some, Function.comp]
      rw [os_at (Array.getElem?_eq_getElem hi)]
    · rw [List.getElem?_eq_none (by simpa using hi), List.getElem?_eq_none (by simpa using hi)]
      rfl
  rw [← this]; exact h

theorem region_run (O : ProgOk c) (C : CalOk c cal) (R : Rel c base ρ H W) (F : FRel c ρ fr a.tmps) {id : Nat} {ops : Array Oper} {d : Bool} {fr' : List AV} {H' : Heap} {Q : Exit → Act → World → Prop} (h : steps cal (trRegion c ops d) fr H = some (fr', H'))
    (hQ : ∀ a' W' ρ', Goes c base ρ H W ρ' H' W' → FRel c ρ' fr' a'.tmps → a'.defers = a.defers → Q .normal a' W') : (Code.region id ops d).wp c.P Q a W := by
  cases d with
  | false => exact region_plain O C R F h hQ
  | true => exact region_drawn O.mixed O.ext O.fm C R F h hQ

/-- The rounds of a loop. -/
def LoopWp (P : Program) (b : Code) (Q : Exit → Act → World → Prop) (a : Act) (w : World) : Prop :=
  ∀ (f : Frame) (k : List Item) (cs : List Frame), ∃ e a' w', Q e a' w' ∧ Arrives P (lone (f.at a (.code b :: .inLoop b :: k)) cs w) f k cs e a' w'

theorem LoopWp.round {P : Program} {b : Code} {Q : Exit → Act → World → Prop} {a : Act} {w : World} (h : b.wp P (Exit.then (LoopWp P b Q) Q) a w) : LoopWp P b Q a w := by
  intro f k cs
  obtain ⟨e, a₁, w₁, hq, harr⟩ := h f (.inLoop b :: k) cs
  cases e with
  | normal =>
    obtain ⟨e₂, a₂, w₂, hq₂, harr₂⟩ := hq f k cs
    exact ⟨e₂, a₂, w₂, hq₂, .of_steps (Steps.trans harr (.one step_inLoop)) harr₂⟩
  | exit id => exact ⟨_, a₁, w₁, hq, .pass (x := .inLoop b) rfl (fun _ _ => .inl (by simp)) harr⟩
  | goto l => exact ⟨_, a₁, w₁, hq, .pass (x := .inLoop b) rfl (fun _ _ => .inl (by simp)) harr⟩
  | ret => exact ⟨_, a₁, w₁, hq, .pass (x := .inLoop b) rfl (fun _ _ => .inl (by simp)) harr⟩
  | panic ch => exact ⟨_, a₁, w₁, hq, .pass (x := .inLoop b) rfl (fun _ _ => .inl (by simp)) harr⟩
  | outgrown => exact ⟨_, a₁, w₁, hq, .pass (x := .inLoop b) rfl (fun _ _ => .inl (by simp)) harr⟩

theorem LoopWp.loop {P : Program} {b : Code} {Q : Exit → Act → World → Prop} {a : Act} {w : World} (h : LoopWp P b Q a w) : (Code.loop b).wp P Q a w := by
  intro f k cs
  obtain ⟨e, a', w', hq, harr⟩ := h f k cs
  exact ⟨e, a', w', hq, .of_steps (.one step_loop) harr⟩

/-- A piece of code does what the clean machine's does. -/
def Sim (c : Cx) (code : Code) (f : Dn) : Prop := ∀ (base : Nat) (ρ : Rho) (H : Heap) (W : World) (fr : List AV) (a : Act) (ex : Ex) (fr' : List AV) (H' : Heap) (Q : Exit → Act → World → Prop), Rel c base ρ H W → FRel c ρ fr a.tmps → f fr H = some (ex, fr', H') →
  (∀ a' W' ρ', Goes c base ρ H W ρ' H' W' → FRel c ρ' fr' a'.tmps → a'.defers = a.defers → Q (exOf ex) a' W') → code.wp c.P Q a W

theorem sim_seq {x y : Code} {f g : Dn} (hx : Sim c x f) (hy : Sim c y g) : Sim c (.seq x y) (dSeq f g) := by
  intro base ρ H W fr a ex fr' H' Q R F h hQ
  unfold dSeq at h
  refine wp_seq ?_
  cases hf : f fr H with
  | none => rw [hf] at h; cases h
  | some r =>
    obtain ⟨e1, fr1, H1⟩ := r
    rw [hf] at h
    refine hx base ρ H W fr a e1 fr1 H1 _ R F hf fun a1 W1 ρ1 G F1 hd => ?_
    cases e1 with
    | normal => exact hy base ρ1 H1 W1 fr1 a1 ex fr' H' Q G.rel F1 h fun a2 W2 ρ2 G2 F2 hd2 => hQ a2 W2 ρ2 (G.trans G2) F2 (hd2.trans hd)
    | exit id => cases h; exact hQ a1 W1 ρ1 G F1 hd
    | ret => cases h; exact hQ a1 W1 ρ1 G F1 hd

theorem sim_loop {b : Code} {f : Dn} (hb : Sim c b f) : ∀ n (base : Nat) (ρ : Rho) (H : Heap) (W : World) (fr : List AV) (a : Act) (ex : Ex) (fr' : List AV) (H' : Heap) (Q : Exit → Act → World → Prop), Rel c base ρ H W → FRel c ρ fr a.tmps → iter f n fr H = some (ex, fr', H') →
    (∀ a' W' ρ', Goes c base ρ H W ρ' H' W' → FRel c ρ' fr' a'.tmps → a'.defers = a.defers → Q (exOf ex) a' W') → LoopWp c.P b Q a W
  | 0, base, ρ, H, W, fr, a, ex, fr', H', Q, R, F, h, hQ => by rw [iter_zero] at h; cases h
  | n + 1, base, ρ, H, W, fr, a, ex, fr', H', Q, R, F, h, hQ => by
    rw [iter_succ] at h
    unfold dSeq at h
    refine LoopWp.round ?_
    cases hf : f fr H with
    | none => rw [hf] at h; cases h
    | some r =>
      obtain ⟨e1, fr1, H1⟩ := r
      rw [hf] at h
      refine hb base ρ H W fr a e1 fr1 H1 _ R F hf fun a1 W1 ρ1 G F1 hd => ?_
      cases e1 with
      | normal => exact sim_loop hb n base ρ1 H1 W1 fr1 a1 ex fr' H' Q G.rel F1 h fun a2 W2 ρ2 G2 F2 hd2 => hQ a2 W2 ρ2 (G.trans G2) F2 (hd2.trans hd)
      | exit id => cases h; exact hQ a1 W1 ρ1 G F1 hd
      | ret => cases h; exact hQ a1 W1 ρ1 G F1 hd

theorem exec_run (O : ProgOk c) (C : CalOk c cal) (n : Nat) : ∀ code : Code, Sim c code (exec cal n (trC c code)) := by
  intro code
  induction code with
  | skip => intro base ρ H W fr a ex fr' H' Q R F h hQ; cases h; exact wp_skip (hQ a W ρ (.refl R) F rfl)
  | label l => intro base ρ H W fr a ex fr' H' Q R F h hQ; cases h; exact wp_label (hQ a W ρ (.refl R) F rfl)
  | exit id => intro base ρ H W fr a ex fr' H' Q R F h hQ; cases h; exact wp_exit (hQ a W ρ (.refl R) F rfl)
  | ret => intro base ρ H W fr a ex fr' H' Q R F h hQ; cases h; exact wp_ret (hQ a W ρ (.refl R) F rfl)
  | region id ops d =>
    intro base ρ H W fr a ex fr' H' Q R F h hQ
    have h' : dReg (steps cal (trRegion c ops d)) fr H = some (ex, fr', H') := h
    unfold dReg at h'
    split at h'
    · rename_i f1 H1 h1
      cases h'
      exact region_run O C R F h1 hQ
    · cases h'
  | seq x y ihx ihy => exact sim_seq ihx ihy
  | cond x y z ihy ihz =>
    intro base ρ H W fr a ex fr' H' Q R F h hQ
    simp only [trC] at h
    split at h
    · rename_i x' hx
      rw [exec_cond] at h
      unfold dCond at h
      have r := trX_rel R F hx
      split at h
      · rename_i hb
        rw [hb, VRel_bool] at r
        exact wp_cond_true r (ihy base ρ H W fr a ex fr' H' Q R F h hQ)
      · rename_i hb
        rw [hb, VRel_bool] at r
        exact wp_cond_false r (ihz base ρ H W fr a ex fr' H' Q R F h hQ)
      · cases h
    · cases h
  | block id b ih =>
    intro base ρ H W fr a ex fr' H' Q R F h hQ
    have h' : dBlock id (exec cal n (trC c b)) fr H = some (ex, fr', H') := h
    unfold dBlock at h'
    refine wp_block ?_
    cases hf : exec cal n (trC c b) fr H with
    | none => rw [hf] at h'; cases h'
    | some r =>
      obtain ⟨e1, fr1, H1⟩ := r
      rw [hf] at h'
      refine ih base ρ H W fr a e1 fr1 H1 _ R F hf fun a1 W1 ρ1 G F1 hd => ?_
      cases e1 with
      | normal => cases h'; exact hQ a1 W1 ρ1 G F1 hd
      | ret => cases h'; exact hQ a1 W1 ρ1 G F1 hd
      | exit j =>
        simp only [nbeq] at h'
        show (if j = id then Q .normal a1 W1 else Q (.exit j) a1 W1)
        by_cases hj : j = id
        · rw [decide_eq_true hj] at h'
          cases h'
          rw [if_pos hj]
          exact hQ a1 W1 ρ1 G F1 hd
        · rw [decide_eq_false hj] at h'
          cases h'
          rw [if_neg hj]
          exact hQ a1 W1 ρ1 G F1 hd
  | loop b ih =>
    intro base ρ H W fr a ex fr' H' Q R F h hQ
    exact (sim_loop ih n base ρ H W fr a ex fr' H' Q R F h hQ).loop
  | scope b ih =>
    intro base ρ H W fr a ex fr' H' Q R F h hQ
    refine wp_scope_straight (ih base ρ H W fr a ex fr' H' _ R F h fun a' W' ρ' G F' hd => ?_)
    have := hQ a' W' ρ' G F' hd
    cases ex <;> exact this
  | _ => intro base ρ H W fr a ex fr' H' Q R F h hQ; cases h

theorem results_eq (fn : Func) (tmps : Array Value) : ∃ f : ResultVar → Sem Value, (∀ t, f (.tmp t) = pure (tmps.getD t undef)) ∧ (∀ b t, f (.cell b t) = (do loadVar t (← asAddr (tmps.getD b undef)))) ∧
    results fn tmps = (do let vs ← fn.results.mapM f; pure (if h : vs.size = 1 then vs[0] else .tuple vs)) := by
  refine ⟨?f, ?a, ?b, ?h⟩
  case h => unfold results; exact rfl
  case a => intro t; rfl
  case b => intro b t; rfl

theorem res_run (R : Rel c base ρ H W) (F : FRel c ρ fr a.tmps) {f : ResultVar → Sem Value} (f1 : ∀ t, f (.tmp t) = pure (a.tmps.getD t undef)) (f2 : ∀ b t, f (.cell b t) = (do loadVar t (← asAddr (a.tmps.getD b undef)))) :
    ∀ {rs : List ResultVar} {vs : List AV}, resList fr H (rs.map (trRes c)) = some vs → ∃ ws : List Value, (rs.mapM f).run c.P W = .ok ws W ∧ All2 (VRel c ρ) vs ws
  | [], vs, h => by
    simp only [List.map_nil, resList] at h
    cases h
    exact ⟨[], rfl, trivial⟩
  | r :: rs, vs, h => by
    simp only [List.map_cons, resList] at h
    split at h
    · rename_i v vs' h1 h2
      cases h
      obtain ⟨ws, w1, w2⟩ := res_run R F f1 f2 h2
      cases r with
      | tmp t =>
        simp only [trRes, resOf] at h1
        cases h1
        exact ⟨a.tmps.getD t undef :: ws, by simp only [List.mapM_cons, f1, Sem.run_bind, Sem.run_pure, Result.andThen_ok, w1], F.at_ t, w2⟩
      | cell b t =>
        simp only [trRes] at h1
        split at h1
        · rename_i g n hg hn
          simp only [resOf] at h1
          obtain ⟨v', g1, g2⟩ := run_loadVar R hg hn rfl (F.at_ b) h1
          refine ⟨v' :: ws, ?_, g2, w2⟩
          have hb := F.at_ b
          unfold rLoad at h1
          split at h1
          · rename_i q o hq
            rw [hq, VRel_ptr] at hb
            obtain ⟨p, hp, hb⟩ := hb
            rw [hb] at g1
            have g1' : (loadVar t ⟨p.c, p.s + o, none⟩).run c.P W = .ok v' W := g1
            have ha : (asAddr (a.tmps.getD b undef)).run c.P W = .ok ⟨p.c, p.s + o, none⟩ W := by rw [hb]; rfl
            simp only [List.mapM_cons, f2, Sem.run_bind, ha, Sem.run_pure, Result.andThen_ok, g1', w1]
          · cases h1
        · simp only [resOf, rLoad] at h1
          split at h1
          · unfold oneOf Heap.ld at h1
            split at h1
            · rename_i l hl
              split at hl
              · simp only [Nat.add_zero] at hl
                cases hle : Nat.ble _ _ <;> rw [hle] at hl <;> cases hl
                simp at h1
              · cases hl
            · cases h1
          · cases h1
    · cases h

theorem resV_rel {vs : List AV} {ws : List Value} {v : AV} (h : resV vs = some v) (r : All2 (VRel c ρ) vs ws) : VRel c ρ v (if h : ws.toArray.size = 1 then ws.toArray[0] else .tuple ws.toArray) := by
  match vs, ws, r with
  | [], [], _ =>
    simp only [resV] at h
    cases h
    exact VRel_tup.2 ⟨#[], rfl, trivial⟩
  | v0 :: vs, w0 :: ws, ⟨r1, r2⟩ =>
    simp only [resV] at h
    cases vs with
    | nil =>
      match ws, r2 with
      | [], _ =>
        simp only [List.isEmpty_nil, cond_true] at h
        cases h
        exact r1
    | cons v1 vs =>
      match ws, r2 with
      | w1 :: ws, r2 =>
        simp only [List.isEmpty_cons, cond_false] at h
        cases hc : (v0 :: v1 :: vs).all AV.noT with
        | false => rw [hc] at h; cases h
        | true =>
          rw [hc] at h
          cases h
          rw [dif_neg (by simp)]
          have hall : ∀ {xs : List AV} {ys : List Value}, xs.all AV.noT = true → All2 (VRel c ρ) xs ys → All2 (VRel1 c ρ) xs ys := by
            intro xs
            induction xs with
            | nil => intro ys _ r; match ys, r with | [], _ => trivial
            | cons x xs ih =>
              intro ys hx r
              match ys, r with
              | y :: ys, ⟨q1, q2⟩ =>
                rw [List.all_cons, Bool.and_eq_true] at hx
                refine ⟨?_, ih hx.2 q2⟩
                cases x <;> first | (simp only [VRel] at q1; exact q1) | (exfalso; simp [AV.noT] at hx)
          exact VRel_tup.2 ⟨_, rfl, hall hc ⟨r1, r2⟩⟩
end

/-- What the library's functions are. -/
def LibOk (c : Cx) (L : Lib) : Prop := ∀ g f, c.fm g = some f → (∃ fn, c.P.funcs[g]? = some fn ∧ L f = some (.code (trF c fn))) ∨
  (∃ pr, L f = some (.prim pr) ∧ ∀ (base : Nat) (ρ : Rho) (H : Heap) (W : World) (args : List AV) (vs : Array Value) (v : AV) (H' : Heap), Rel c base ρ H W → All2 (VRel c ρ) args vs.toList → pr args H = some (v, H') →
    Calls c.P g vs W fun e W' => ∃ v' ρ', e = .returned v' ∧ Goes c base ρ H W ρ' H' W' ∧ VRel c ρ' v v')

theorem call_ok {c : Cx} {L : Lib} (O : ProgOk c) (hL : LibOk c L) : ∀ n, CalOk c (call L n)
  | 0 => by
    intro base ρ H W g f args vs v H' hg R hx h
    rw [call_zero] at h
    cases h
  | n + 1 => by
    intro base ρ H W g f args vs v H' hg R hx h
    rw [call_succ] at h
    unfold callBy at h
    rcases hL g f hg with ⟨fn, hfn, hLf⟩ | ⟨pr, hLf, hpr⟩
    · rw [hLf] at h
      simp only [] at h
      obtain ⟨fn', code, h1, h2, h3⟩ := O.fm.body g f hg
      rw [hfn] at h1
      cases h1
      have hbody : (trF c fn).body = trC c code := by unfold trF; rw [h2]
      rw [hbody] at h
      unfold leave at h
      have hlen := hx.length
      have hF : FRel c ρ (enter (trF c fn) args) (vs ++ Array.replicate (fn.ntmps - vs.size) undef) := by
        have hnt : (trF c fn).ntmps = fn.ntmps := rfl
        refine ⟨by simp [enter, hnt, hlen], fun i => ?_⟩
        unfold enter
        rw [hnt, List.getD_eq_getElem?_getD, Array.getD_eq_getD_getElem?, List.getElem?_append, Array.getElem?_append]
        have hlen' : args.length = vs.size := by simpa using hlen
        rw [hlen']
        by_cases hi : i < vs.size
        · rw [if_pos hi, if_pos hi]
          obtain ⟨w, hw, hr⟩ := hx.get (List.getElem?_eq_getElem (by omega : i < args.length))
          rw [Array.getElem?_toList] at hw
          rw [List.getElem?_eq_getElem (by omega : i < args.length), hw]
          exact hr
        · rw [if_neg hi, if_neg hi]
          by_cases hi2 : i - vs.size < fn.ntmps - vs.size
          · simp only [List.getElem?_replicate, if_pos hi2, Array.getElem?_replicate, Option.getD_some]
            exact VRel_unit
          · simp only [List.getElem?_replicate, if_neg hi2, Option.getD_none]
            exact VRel.undef
      split at h
      · cases h
      · rename_i ex fr' H1 hne he
        split at h
        · rename_i ws hws
          split at h
          · rename_i v1 hv1
            cases h
            refine calls_of_wp hfn h2 (exec_run O (call_ok O hL n) n code base ρ H W _ { tmps := vs ++ Array.replicate (fn.ntmps - vs.size) undef, defers := [] } ex fr' H' _ R hF he fun a' W' ρ' G F' hd => ?_)
            have hres : (trF c fn).results = fn.results.toList.map (trRes c) := rfl
            rw [hres] at hws
            have hrun0 : ∀ f : ResultVar → Sem Value, (∀ t, f (.tmp t) = pure (a'.tmps.getD t undef)) → (∀ b t, f (.cell b t) = (do loadVar t (← asAddr (a'.tmps.getD b undef)))) → ∃ us : List Value, (fn.results.toList.mapM f).run c.P W' = .ok us W' ∧ All2 (VRel c ρ') ws us := fun f f1 f2 => res_run G.rel F' f1 f2 hws
            have hrun : ∃ us : List Value, (results fn a'.tmps).run c.P W' = .ok (if h : us.toArray.size = 1 then us.toArray[0] else .tuple us.toArray) W' ∧ All2 (VRel c ρ') ws us := by
              obtain ⟨f, f1, f2, f3⟩ := results_eq fn a'.tmps
              obtain ⟨us, u1, u2⟩ := hrun0 f f1 f2
              rw [f3, Array.mapM_eq_mapM_toList, map_eq_pure_bind]
              refine ⟨us, ?_, u2⟩
              simp only [Sem.run_bind, u1, Result.andThen_ok, Sem.run_pure]
            obtain ⟨us, hrun, u2⟩ := hrun
            have hval := resV_rel hv1 u2
            have hfin : a'.defers = [] ∧ ∃ r, (results fn a'.tmps).run c.P W' = .ok r W' ∧ ∃ v' ρ', Ending.returned r = .returned v' ∧ Goes c base ρ H W ρ' H' W' ∧ VRel c ρ' v v' := ⟨hd, _, hrun, _, ρ', rfl, G, hval⟩
            cases ex with
            | normal => exact hfin
            | ret => exact hfin
            | exit id => exact (hne _ rfl).elim
          · cases h
        · cases h
      · cases h
    · rw [hLf] at h
      exact hpr base ρ H W args vs v H' R hx h

end Go.Dp
