/- Operations that leave the heap alone: the theorem. Conditions: none. -/
import Derived.Test.YtkjmelfgopammaaQqK
namespace Go.Dp
open Go.RowKit

section
variable {c : Cx} {base : Nat} {ρ : Rho} {H : Heap} {W : World} {fr : List AV} {a : Act}

theorem op_r (E : ExtOk c) (R : Rel c base ρ H W) (F : FRel c ρ fr a.tmps) {o : Oper} {p : PR} {v : AV} (h : trOp c o.op = some (.r p)) (hv : evalR fr H p = some v) : Val c ρ W (execOp a.eval o) v := by
  have one : ∀ {x : Operand} {y : X}, trX c x = some y → VRel c ρ (y.ev fr) (a.eval x) := fun h => trX_rel R F h
  generalize ho : o.op = op at h
  cases op with
  | move x =>
    simp only [trOp] at h
    split at h
    · rename_i y hy; cases h; cases hv; exact ⟨a.eval x, by unfold execOp; rw [ho]; rfl, one hy⟩
    · cases h
  | assign x =>
    simp only [trOp] at h
    split at h
    · rename_i y hy; cases h; cases hv; exact ⟨a.eval x, by unfold execOp; rw [ho]; rfl, one hy⟩
    · cases h
  | pick k x y =>
    simp only [trOp] at h
    split at h
    · rename_i k' x' y' h1 h2 h3
      cases h
      exact pick_rel a.eval ho rfl rfl rfl (one h1) (one h2) (one h3) hv
    · cases h
  | alloc t => simp only [trOp] at h; split at h <;> cases h
  | box t x => simp only [trOp] at h; split at h <;> cases h
  | build t ps =>
    have e : execOp a.eval o = (do pure (.value (← Instr.build t (ps.map fun (i, x) => (i, a.eval x))))) := by unfold execOp; rw [ho]
    rw [e]
    simp only [trOp] at h
    split at h
    · rename_i fs z ht hz
      cases hall : fs.toList.all (fun f => (c.size f.type).isSome) with
      | false => rw [hall] at h; cases h
      | true =>
        rw [hall] at h
        simp only [cond_true] at h
        split at h
        · rename_i ps' hps
          cases h
          exact run_v (v_build_struct R F ht hz hall hps hv)
        · cases h
    · rename_i n e' z ht hz
      split at h
      · rename_i m hm
        split at h
        · rename_i ps' hps
          cases h
          exact run_v (v_build_array R F ht hz hm hps hv)
        · cases h
      · cases h
    · cases h
  | buildSlice t n ps =>
    simp only [trOp] at h
    split at h
    · split at h
      · rename_i n' z _ _
        cases hb : (Nat.ble (n * n') 16777216 && !Nat.beq n' 0) <;> rw [hb] at h <;> simp only [cond_true, cond_false] at h
        · cases h
        · split at h <;> cases h
      · cases h
    · cases h
  | insert t m k v => simp only [trOp] at h; cases h
  | load t x =>
    have e : execOp a.eval o = (do pure (.value (← Instr.loadAt t (a.eval x)))) := by unfold execOp; rw [ho]
    rw [e]
    simp only [trOp] at h
    split at h
    · rename_i g n y h1 h2 h3
      cases h
      exact run_v (run_loadVar R h1 h2 rfl (one h3) hv)
    · cases h
  | store t x y => simp only [trOp] at h; split at h <;> cases h
  | ready g => simp only [trOp] at h; cases h
  | waits g => simp only [trOp] at h; cases h
  | nilCheck x =>
    simp only [trOp] at h
    split at h
    · rename_i y hy; cases h; exact nilck_rel a.eval x ho rfl (one hy) hv
    · cases h
  | binOp op t x y t' =>
    have e : execOp a.eval o = (do pure (.value (← (do eqGuard op t x y (a.eval x) (a.eval y); binOp op t (a.eval x) (a.eval y))))) := by unfold execOp; rw [ho]
    rw [e]
    simp only [trOp] at h
    split at h
    · rename_i x' y' h1 h2
      split at h
      · rename_i p' hp
        cases h
        exact run_v (trBin_r R hp (one h1) (one h2) hv)
      · cases h
    · cases h
  | unOp op t x =>
    have e : execOp a.eval o = (do pure (.value (← Op.unary op (a.eval x)))) := by unfold execOp; rw [ho]
    rw [e]
    simp only [trOp] at h
    split at h
    · rename_i y hy; cases h; exact run_v (v_un (one hy) hv)
    · cases h
  | convert s d x =>
    have e : execOp a.eval o = (do pure (.value (← convert s d (a.eval x)))) := by unfold execOp; rw [ho]
    rw [e]
    simp only [trOp] at h
    split at h
    · rename_i y hy; exact run_v (trConv_r R h rfl (one hy) hv)
    · cases h
  | sliceToArrayPointer t x => simp only [trOp] at h; cases h
  | makeInterface t x => simp only [trOp] at h; cases h
  | makeFunc fn first caps =>
    have e : execOp a.eval o = (do pure (.value (← Instr.makeFunc fn (first.map a.eval) (caps.map a.eval)))) := by unfold execOp; rw [ho]
    rw [e]
    cases fn with
    | func g =>
      simp only [trOp] at h
      split at h
      · rename_i f xs hf hx
        cases hb : first.isEmpty with
        | false => rw [hb] at h; cases h
        | true =>
          rw [hb] at h
          cases h
          simp only [evalR, rMkfn] at hv
          cases hB : (xs.map (X.ev fr)).all AV.isB with
          | false => rw [hB] at hv; cases hv
          | true =>
            rw [hB] at hv
            cases hv
            have hfirst : first = #[] := by simpa using hb
            subst hfirst
            refine run_v ⟨.func (.func g) #[] (caps.map a.eval), by simp [Instr.makeFunc], VRel_fn.2 ⟨g, _, hf, rfl, ?_⟩⟩
            rw [Array.toList_map]
            exact all_B hB (trXs_rel R F hx)
      · cases h
    | method n => simp only [trOp] at h; cases h
    | methodOf t n => simp only [trOp] at h; cases h
    | via t p f b => simp only [trOp] at h; cases h
    | yield l => simp only [trOp] at h; cases h
  | makeMap t r =>
    cases r with
    | none => simp only [trOp] at h; split at h <;> cases h
    | some r => simp only [trOp] at h; cases h
  | makeChan t s => simp only [trOp] at h; cases h
  | makeSlice t l k =>
    simp only [trOp] at h
    split at h
    · split at h <;> cases h
    · cases h
  | slice t x lo hi mx =>
    have e : execOp a.eval o = (do pure (.value (← Instr.sliceAt t (a.eval x) (lo.map a.eval) (hi.map a.eval) (mx.map a.eval)))) := by unfold execOp; rw [ho]
    rw [e]
    simp only [trOp] at h
    split at h
    · rename_i x' lo' hi' mx' h1 h2 h3 h4
      split at h
      · rename_i ht
        split at h
        · cases h
          obtain rfl := trXo_none h4
          exact run_v (v_slstr R F ht h1 h2 h3 hv)
        · cases h
      · rename_i e' ht
        split at h
        · rename_i n hn
          cases h
          cases mx' with
          | none =>
            obtain rfl := trXo_none h4
            exact run_v (v_slsl R F ht hn h1 h2 h3 hv)
          | some y =>
            obtain ⟨z, rfl, hz⟩ := trXo_some h4
            exact run_v (v_slsl3 R F ht hn h1 h2 h3 hz hv)
        · cases h
      · rename_i n e' ht
        split at h
        · rename_i s hn
          cases h
          obtain rfl := trXo_none h4
          exact run_v (v_slarr R F ht hn h1 h2 h3 hv)
        · cases h
      · cases h
    · cases h
  | fieldAddr s x f =>
    have e : execOp a.eval o = (do pure (.value (← Instr.fieldAt s (a.eval x) f))) := by unfold execOp; rw [ho]
    rw [e]
    simp only [trOp] at h
    split at h
    · rename_i fs y hs hy
      split at h
      · rename_i off n hf
        cases h
        exact run_v (v_faddr hs hf (one hy) hv)
      · cases h
    · cases h
  | field t x f =>
    have e : execOp a.eval o = (do pure (.value (← Instr.field t (a.eval x) f))) := by unfold execOp; rw [ho]
    rw [e]
    simp only [trOp] at h
    split at h
    · rename_i fs y hs hy
      split at h
      · rename_i fd hf
        split at h
        · rename_i g n hg hn
          cases h
          exact run_v (v_fld hs hf hg hn (one hy) hv)
        · cases h
      · cases h
    · cases h
  | indexAddr t x i =>
    have e : execOp a.eval o = (do pure (.value (← Instr.indexAt t (a.eval x) (a.eval i)))) := by unfold execOp; rw [ho]
    rw [e]
    simp only [trOp] at h
    split at h
    · rename_i e' y j ht hy hj
      split at h
      · rename_i n hn
        cases h
        exact run_v (v_iasl ht hn (one hy) (one hj) hv)
      · cases h
    · rename_i len e' y j ht hy hj
      split at h
      · rename_i n hn
        cases h
        exact run_v (v_iaarr ht hn (one hy) (one hj) hv)
      · cases h
    · cases h
  | index t x i =>
    have e : execOp a.eval o = (do pure (.value (← Instr.index t (a.eval x) (a.eval i)))) := by unfold execOp; rw [ho]
    rw [e]
    simp only [trOp] at h
    split at h
    · rename_i y j ht hy hj
      cases h
      exact run_v (v_ixstr ht (one hy) (one hj) hv)
    · rename_i len e' y j ht hy hj
      split at h
      · rename_i g n hg hn
        cases h
        exact run_v (v_ixagg ht hg hn (one hy) (one hj) hv)
      · cases h
    · cases h
  | lookup t m k ok =>
    have e : execOp a.eval o = (do pure (.value (← Instr.lookup t (a.eval m) (a.eval k) ok))) := by unfold execOp; rw [ho]
    rw [e]
    simp only [trOp] at h
    split at h
    · rename_i kt e' m' k' ht hm hk
      split at h
      · rename_i s z h1 h2
        cases h
        exact run_v (v_look R ht h1 h2 (one hm) (one hk) hv)
      · cases h
    · cases h
  | mapUpdate t m k v =>
    simp only [trOp] at h
    split at h
    · split at h <;> cases h
    · cases h
  | mapEntry t m k =>
    simp only [trOp] at h
    split at h
    · split at h <;> cases h
    · cases h
  | entryStore t m s v => simp only [trOp] at h; split at h <;> cases h
  | range t x => simp only [trOp] at h; cases h
  | next i s => simp only [trOp] at h; cases h
  | entry i => simp only [trOp] at h; cases h
  | typeAssert x t u ok => simp only [trOp] at h; cases h
  | extract x i =>
    have e : execOp a.eval o = (do pure (.value (← Instr.extract (a.eval x) i))) := by unfold execOp; rw [ho]
    rw [e]
    simp only [trOp] at h
    split at h
    · rename_i y hy; cases h; exact run_v (ext_rel (one hy) hv)
    · cases h
  | call k =>
    simp only [trOp] at h
    split at h
    · rename_i xs hxs
      split at h
      · rename_i b hb
        rw [call_builtin o k b ho hb]
        exact trBuiltin_r R F _ _ hxs h hv
      · rename_i g hg
        split at h
        · cases h
        · rw [call_func o k g ho hg]
          split at h
          · rename_i x _
            cases h2 : Nat.beq (c.ext g) 2 with
            | true =>
              rw [h2] at h
              cases h
              rw [nbeq] at h2
              cases hv
              obtain ⟨o1, os, e1, e2, e3⟩ := trXs_cons hxs
              have := trXs_nil e3
              subst this
              have hargs : k.args.map a.eval = #[a.eval o1] := by apply Array.ext'; rw [Array.toList_map, e1]; rfl
              rw [hargs]
              exact ⟨a.eval o1, E.same g (by simpa using h2) _ _, one e2⟩
            | false =>
              rw [h2] at h
              cases h3 : Nat.beq (c.ext g) 3 <;> rw [h3] at h <;> cases h
          · rename_i x y _
            cases h1 : Nat.beq (c.ext g) 1 with
            | false => rw [h1] at h; cases h
            | true =>
              rw [h1] at h
              cases h
              rw [nbeq] at h1
              obtain ⟨o1, os, e1, e2, e3⟩ := trXs_cons hxs
              obtain ⟨o2, os2, e4, e5, e6⟩ := trXs_cons e3
              have := trXs_nil e6
              subst this
              have hargs : k.args.map a.eval = #[a.eval o1, a.eval o2] := by apply Array.ext'; rw [Array.toList_map, e1, e4]; rfl
              rw [hargs]
              have r1 := one e2
              have r2 := one e5
              simp only [evalR, rIndex] at hv
              split at hv
              · rename_i s hs
                rw [hs, VRel_str] at r1
                obtain ⟨b, hb1, rfl⟩ := r1
                split at hv
                · rename_i kk ch hch
                  cases hcc : (kbeq kk .u8 && (ible 0 ch && ible ch 255)) with
                  | false => rw [hcc] at hv; cases hv
                  | true =>
                    rw [hcc] at hv
                    simp only [kbeq_eq, ible_eq, Bool.and_eq_true, decide_eq_true_eq] at hcc
                    obtain ⟨rfl, h0, h255⟩ := hcc
                    cases hv
                    rw [hch, VRel_int] at r2
                    rw [hb1, r2]
                    exact ⟨_, E.index g (by simpa using h1) b ch W h0 h255, VRel_int.2 rfl⟩
                · cases hv
              · cases hv
          · cases h
      · split at h <;> cases h
      · cases h
    · cases h
  | go k => simp only [trOp] at h; cases h
  | defer k => simp only [trOp] at h; cases h
  | panic x => simp only [trOp] at h; cases h
  | send x y => simp only [trOp] at h; cases h
  | recv t x b => simp only [trOp] at h; cases h
  | select cs b => simp only [trOp] at h; cases h

end
end Go.Dp
