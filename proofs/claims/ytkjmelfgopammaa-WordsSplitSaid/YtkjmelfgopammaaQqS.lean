/- One operation: what the model's step comes to. Conditions: none. -/
import Derived.Test.YtkjmelfgopammaaQqR
namespace Go.Dp
open Go.RowKit

/-- A function's run answers as the clean machine's does. -/
def CalOk (c : Cx) (cal : Cal) : Prop := ∀ (base : Nat) (ρ : Rho) (H : Heap) (W : World) (g f : Nat) (args : List AV) (vs : Array Value) (v : AV) (H' : Heap), c.fm g = some f → Rel c base ρ H W → All2 (VRel c ρ) args vs.toList → cal f args H = some (v, H') →
  Calls c.P g vs W fun e W' => ∃ v' ρ', e = .returned v' ∧ Goes c base ρ H W ρ' H' W' ∧ VRel c ρ' v v'

/-- What is asked of the program: its functions have bodies. -/
structure FmOk (c : Cx) : Prop where
  body : ∀ g f, c.fm g = some f → ∃ fn code, c.P.funcs[g]? = some fn ∧ fn.body = some code ∧ fn.name ≠ "runtime.NumGoroutine"

section
variable {c : Cx} {base : Nat} {ρ : Rho} {H : Heap} {W : World} {fr : List AV} {a : Act}

theorem callFunc_enter (M : FmOk c) {g f : Nat} (h : c.fm g = some f) (args : Array Value) : (callFunc g args).run c.P W = .ok (.enter g args) W := by
  obtain ⟨fn, code, h1, h2, h3⟩ := M.body g f h
  simp only [callFunc, Sem.run_bind, run_program, Result.andThen_ok, h1, h2]
  simp [h3]

theorem BRel.val {x : AV} {v : Value} (h : BRel ρ x v) : VRel c ρ x v := by
  cases x <;> first | exact h.elim | (simp only [VRel, VRel1, SRel]; exact h)

theorem e_call {cal : Cal} (C : CalOk c cal) (R : Rel c base ρ H W) {o : Oper} {g f : Nat} {args : List AV} {vs : Array Value} {v : AV} {H' : Heap} {K : Act → World → Prop} {Q : Exit → Act → World → Prop} {s : Sem Next} (hg : c.fm g = some f) (hs : s.run c.P W = .ok (.enter g vs) W)
    (hx : All2 (VRel c ρ) args vs.toList) (h : cal f args H = some (v, H')) (he : execOp a.eval o = s) (hK : ∀ v' W' ρ', Goes c base ρ H W ρ' H' W' → VRel c ρ' v v' → K (a.put o.dst v') W') : o.wp c.P a W K Q := by
  unfold Oper.wp
  rw [he, hs, Oper.upon_enter]
  refine (C base ρ H W g f args vs v H' hg R hx h).mono fun e W' ⟨v', ρ', h1, h2, h3⟩ => ?_
  subst h1
  exact hK v' W' ρ' h2 h3

theorem wp_turns {o : Oper} {v : AV} {H' : Heap} {K : Act → World → Prop} {Q : Exit → Act → World → Prop} (h : Turns c base ρ H W (execOp a.eval o) v H') (hK : ∀ v' W' ρ', Goes c base ρ H W ρ' H' W' → VRel c ρ' v v' → K (a.put o.dst v') W') : o.wp c.P a W K Q := by
  obtain ⟨nx, v', W', ρ', h1, h2, h3, h4⟩ := h
  unfold Oper.wp
  rw [h1]
  rcases h2 with rfl | ⟨rfl, rfl⟩
  · exact hK v' W' ρ' h3 h4
  · exact hK undef W' ρ' h3 h4

theorem wp_val {o : Oper} {v : AV} {K : Act → World → Prop} {Q : Exit → Act → World → Prop} (h : Val c ρ W (execOp a.eval o) v) (hK : ∀ v', VRel c ρ v v' → K (a.put o.dst v') W) : o.wp c.P a W K Q := by
  obtain ⟨v', h1, h2⟩ := h
  unfold Oper.wp
  rw [h1]
  exact hK v' h2

theorem trBuiltin_e (R : Rel c base ρ H W) (F : FRel c ρ fr a.tmps) {b : Builtin} {ts : Array TypeId} {xs : Array Operand} {ys : List X} {p : PE} {cal : Cal} {v : AV} {H' : Heap} (ty : TypeId) (cs : Array Bool) (hx : trXs c xs.toList = some ys) (h : trBuiltin c b ts.toList ys = some (.e p))
    (hv : evalE cal fr H p = some (v, H')) : Turns c base ρ H W (builtin b ts ty cs (xs.map a.eval)) v H' := by
  have head : ∀ {x : X} {rest : List X}, ys = x :: rest → ∃ o1 os, xs.toList = o1 :: os ∧ (xs.map a.eval)[0]? = some (a.eval o1) ∧ VRel c ρ (x.ev fr) (a.eval o1) ∧ trXs c os = some rest := by
    intro x rest hy
    rw [hy] at hx
    obtain ⟨o1, os, e1, e2, e3⟩ := trXs_cons hx
    exact ⟨o1, os, e1, by rw [← Array.getElem?_toList, Array.toList_map, e1]; rfl, trX_rel R F e2, e3⟩
  have two : ∀ {x y : X}, ys = [x, y] → ∃ o1 o2, xs.toList = [o1, o2] ∧ (xs.map a.eval)[0]? = some (a.eval o1) ∧ (xs.map a.eval)[1]? = some (a.eval o2) ∧ VRel c ρ (x.ev fr) (a.eval o1) ∧ VRel c ρ (y.ev fr) (a.eval o2) := by
    intro x y hy
    obtain ⟨o1, os, e1, h1, r1, e3⟩ := head hy
    obtain ⟨o2, os', e4, e5, e6⟩ := trXs_cons e3
    have := trXs_nil e6
    subst this
    subst e4
    exact ⟨o1, o2, e1, h1, by rw [← Array.getElem?_toList, Array.toList_map, e1]; rfl, r1, trX_rel R F e5⟩
  have tat : ∀ {i : Nat} {t : TypeId}, ts.toList[i]? = some t → ts[i]? = some t := fun h => by rw [← Array.getElem?_toList]; exact h
  unfold trBuiltin at h
  split at h
  · -- append
    rename_i s t x y hts
    obtain ⟨o1, o2, e1, h1, h2, r1, r2⟩ := two rfl
    have h0 : ts[0]? = some s := tat (by rw [hts]; rfl)
    have h0' : ts[1]? = some t := tat (by rw [hts]; rfl)
    split at h
    · rename_i e e' hs ht
      split at h
      · rename_i n b z hn hb hz
        cases h
        exact e_app R h0 h0' h1 h2 hs (.inl ⟨_, ht⟩) hn hb hz r1 r2 hv
      · cases h
    · rename_i e hs ht
      split at h
      · rename_i n b z hn hb hz
        cases h
        exact e_app R h0 h0' h1 h2 hs (.inr ht) hn hb hz r1 r2 hv
      · cases h
    · cases h
  · -- len
    split at h
    · cases h
    · cases h
    · cases h
    · cases h
    · split at h <;> cases h
    · cases h
  · -- cap
    split at h <;> cases h
  · -- copy
    rename_i s t x y hts
    obtain ⟨o1, o2, e1, h1, h2, r1, r2⟩ := two rfl
    have h0 : ts[0]? = some s := tat (by rw [hts]; rfl)
    split at h
    · rename_i e e' hs ht
      split at h
      · rename_i n hn
        cases h
        exact e_copy R h0 h1 h2 hs hn r1 r2 hv
      · cases h
    · rename_i e hs ht
      split at h
      · rename_i n hn
        cases h
        exact e_copy R h0 h1 h2 hs hn r1 r2 hv
      · cases h
    · cases h
  · -- clear
    rename_i t ts' x rest hts
    obtain ⟨o1, os, e1, h1, r1, _⟩ := head rfl
    have h0 : ts[0]? = some t := tat (by rw [hts]; rfl)
    split at h
    · rename_i e hs
      split at h
      · rename_i z hz
        cases h
        exact e_clear R h0 h1 hs hz r1 hv
      · cases h
    · cases h
  · -- delete
    rename_i t ts' x k hts
    obtain ⟨o1, o2, e1, h1, h2, r1, r2⟩ := two rfl
    have h0 : ts[0]? = some t := tat (by rw [hts]; rfl)
    split at h
    · rename_i kt e hs
      split at h
      · rename_i str hk
        cases h
        exact e_mdel R h0 h1 h2 hs hk r1 r2 hv
      · cases h
    · cases h
  · cases h
  · -- unsafe.String
    rename_i t ts' x y hts
    obtain ⟨o1, o2, e1, h1, h2, r1, r2⟩ := two rfl
    have h0 : ts[0]? = some t := tat (by rw [hts]; rfl)
    split at h
    · rename_i e hs
      split at h
      · rename_i i hi
        split at h
        · rename_i hd
          cases h
          have hargs : xs.map a.eval = #[a.eval o1, a.eval o2] := by
            apply Array.ext'
            rw [Array.toList_map, e1]
            rfl
          show Turns c base ρ H W (do pure (.value (← Builtin.unsafeString_ ts ty (xs.map a.eval)))) v H'
          rw [hargs]
          exact e_ustr R h0 hs hi hd r1 r2 hv
        · cases h
      · cases h
    · cases h
  · split at h <;> cases h
  · split at h <;> cases h
  · cases h

/-- An operation with an effect. -/
theorem op_e {cal : Cal} (C : CalOk c cal) (M : FmOk c) (R : Rel c base ρ H W) (F : FRel c ρ fr a.tmps) {o : Oper} {p : PE} {v : AV} {H' : Heap} {K : Act → World → Prop} {Q : Exit → Act → World → Prop} (h : trOp c o.op = some (.e p)) (hv : evalE cal fr H p = some (v, H'))
    (hK : ∀ v' W' ρ', Goes c base ρ H W ρ' H' W' → VRel c ρ' v v' → K (a.put o.dst v') W') : o.wp c.P a W K Q := by
  have one : ∀ {x : Operand} {y : X}, trX c x = some y → VRel c ρ (y.ev fr) (a.eval x) := fun h => trX_rel R F h
  generalize ho : o.op = op at h
  cases op with
  | store t x y =>
    have e : execOp a.eval o = (do Instr.storeAt t (a.eval x) (a.eval y); pure .skip) := by unfold execOp; rw [ho]
    refine wp_turns ?_ hK
    rw [e]
    simp only [trOp] at h
    split at h
    · rename_i n x' y' hn h1 h2; cases h; exact e_store R hn (one h1) (one h2) hv
    · cases h
  | mapUpdate t m k x =>
    have e : execOp a.eval o = (do Instr.mapUpdate t (a.eval m) (a.eval k) (a.eval x); pure .skip) := by unfold execOp; rw [ho]
    refine wp_turns ?_ hK
    rw [e]
    simp only [trOp] at h
    split at h
    · rename_i kt et m' k' x' ht h1 h2 h3
      split at h
      · rename_i str hk; cases h; exact e_mupd R ht hk (one h1) (one h2) (one h3) hv
      · cases h
    · cases h
  | mapEntry t m k =>
    have e : execOp a.eval o = (do pure (.value (← Instr.mapEntry t (a.eval m) (a.eval k)))) := by unfold execOp; rw [ho]
    refine wp_turns ?_ hK
    rw [e]
    simp only [trOp] at h
    split at h
    · rename_i kt et m' k' ht h1 h2
      split at h
      · rename_i str z hk hz; cases h; exact e_ment R ht hk hz (one h1) (one h2) hv
      · cases h
    · cases h
  | entryStore t m s x =>
    have e : execOp a.eval o = (do Instr.entryStore t (a.eval m) (a.eval s) (a.eval x); pure .skip) := by unfold execOp; rw [ho]
    refine wp_turns ?_ hK
    rw [e]
    simp only [trOp] at h
    split at h
    · rename_i m' s' x' h1 h2 h3; cases h; exact e_mest R (one h1) (one h2) (one h3) hv
    · cases h
  | call k =>
    simp only [trOp] at h
    split at h
    · rename_i ys hys
      split at h
      · rename_i b hk
        refine wp_turns ?_ hK
        rw [call_builtin o k b ho hk]
        exact trBuiltin_e R F _ _ hys h hv
      · rename_i g hk
        split at h
        · rename_i f hf
          cases h
          exact e_call C R hf (callFunc_enter M hf _) (by rw [Array.toList_map]; exact trXs_rel R F hys) hv (call_func o k g ho hk) hK
        · split at h
          · rename_i x _
            cases h2 : Nat.beq (c.ext g) 2 with
            | true => rw [h2] at h; cases h
            | false =>
              rw [h2] at h
              simp only [cond_false] at h
              cases h3 : Nat.beq (c.ext g) 3 <;> rw [h3] at h <;> cases h
          · cases h2 : Nat.beq (c.ext g) 1 <;> rw [h2] at h <;> cases h
          · cases h
      · rename_i fo hne hk
        split at h
        · rename_i f hf
          cases h
          simp only [evalE] at hv
          unfold eCallv at hv
          have hfo := one hf
          split at hv
          · rename_i f' caps hfe
            rw [hfe, VRel_fn] at hfo
            obtain ⟨g, cs, g1, g2, g3⟩ := hfo
            refine e_call C R g1 (callFunc_enter M g1 (k.args.map a.eval ++ cs)) ?_ hv ?_ hK
            · rw [Array.toList_append, Array.toList_map]
              exact (trXs_rel R F hys).append (g3.mono fun _ _ h => h.val)
            · unfold execOp
              rw [ho]
              simp only [resolve, hk, g2, Deferred.ofValue, pure_bind, invoke]
              congr 1
              simp
          · cases hv
        · cases h
      · cases h
    · cases h
  | convert s d x =>
    simp only [trOp] at h
    split at h
    · unfold trConv at h
      split at h
      · cases h
      · cases h
      · rename_i e _ _
        cases hb : (isU8 c.P e && Nat.beq (rowK c.P e) 2) <;> rw [hb] at h <;> cases h
      · rename_i e _ _
        cases hb : isU8 c.P e <;> rw [hb] at h <;> cases h
      · rename_i y hy _ _ e' e h1 h2
        cases hb : (Nat.beq s d && isU8 c.P e) with
        | false => rw [hb] at h; cases h
        | true =>
          rw [hb] at h
          cases h
          have e : execOp a.eval o = (do pure (.value (← convert s d (a.eval x)))) := by unfold execOp; rw [ho]
          refine wp_turns ?_ hK
          rw [e]
          simp only [nbeq, Bool.and_eq_true, decide_eq_true_eq] at hb
          exact e_mark R h1 h2 hb.1 hb.2 (one hy) hv
      · split at h <;> cases h
      · rename_i t _ _
        cases hb : c.isB t <;> rw [hb] at h <;> simp only [cond_true, cond_false] at h
        · cases h
        · split at h <;> cases h
      · cases h
    · cases h
  | build t ps =>
    simp only [trOp] at h
    split at h
    · rename_i fs z _ _
      cases hb : (fs.toList.all fun f => (c.size f.type).isSome) <;> rw [hb] at h <;> simp only [cond_true, cond_false] at h
      · cases h
      · split at h <;> cases h
    · split at h
      · split at h <;> cases h
      · cases h
    · cases h
  | buildSlice t n ps =>
    simp only [trOp] at h
    split at h
    · split at h
      · rename_i e _ n' z _ _
        cases hb : (Nat.ble (n * n') 16777216 && !Nat.beq n' 0) <;> rw [hb] at h <;> simp only [cond_true, cond_false] at h
        · cases h
        · split at h <;> cases h
      · cases h
    · cases h
  | makeFunc fn first caps =>
    cases fn with
    | func g =>
      simp only [trOp] at h
      split at h
      · cases hb : first.isEmpty <;> rw [hb] at h <;> cases h
      · cases h
    | _ => simp only [trOp] at h; cases h
  | makeMap t r =>
    cases r with
    | none =>
      simp only [trOp] at h
      split at h <;> cases h
    | some r => simp only [trOp] at h; cases h
  | slice t x lo hi mx =>
    simp only [trOp] at h
    split at h
    · split at h
      · split at h <;> cases h
      · split at h <;> cases h
      · split at h <;> cases h
      · cases h
    · cases h
  | _ =>
    simp only [trOp] at h
    first
      | (cases h; done)
      | (split at h <;> first | (cases h; done) | (split at h <;> first | (cases h; done) | (split at h <;> first | (cases h; done) | (split at h <;> first | (cases h; done) | (split at h <;> cases h; done)))))

end
end Go.Dp
