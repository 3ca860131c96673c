/- Operations that turn the heap: how the relation is kept. Conditions: none. -/
import Derived.Test.YtkjmelfgopammaaQqM
namespace Go.Dp
open Go.RowKit

section
variable {c : Cx} {base : Nat} {ρ : Rho} {H : Heap} {W : World} {fr : List AV} {a : Act}

theorem op_n (E : ExtOk c) (R : Rel c base ρ H W) (F : FRel c ρ fr a.tmps) {o : Oper} {p : PN} {b : Blk} {f : Nat → AV} (h : trOp c o.op = some (.n p)) (hv : evalN fr p = some (b, f)) : Makes c ρ W (execOp a.eval o) b f := by
  have one : ∀ {x : Operand} {y : X}, trX c x = some y → VRel c ρ (y.ev fr) (a.eval x) := fun h => trX_rel R F h
  generalize ho : o.op = op at h
  cases op with
  | alloc t =>
    have e : execOp a.eval o = (do pure (.value (← Instr.alloc t true (.tuple #[])))) := by unfold execOp; rw [ho]
    rw [e]
    simp only [trOp] at h
    split at h
    · rename_i z hz
      cases h
      simp only [evalN] at hv
      cases hv
      have := m_new (ρ := ρ) (W := W) hz
      exact this
    · cases h
  | box t x =>
    have e : execOp a.eval o = (do pure (.value (← Instr.box t (a.eval x)))) := by unfold execOp; rw [ho]
    rw [e]
    simp only [trOp] at h
    split at h
    · rename_i y hy; cases h; exact m_box (one hy) hv
    · cases h
  | buildSlice t n ps =>
    have e : execOp a.eval o = (do pure (.value (← Instr.buildSlice t n (ps.map fun (i, x) => (i, a.eval x))))) := by unfold execOp; rw [ho]
    rw [e]
    simp only [trOp] at h
    split at h
    · rename_i e' ht
      split at h
      · rename_i n' z hn hz
        cases hb : (Nat.ble (n * n') 16777216 && !Nat.beq n' 0) with
        | false => rw [hb] at h; cases h
        | true =>
          rw [hb] at h
          simp only [cond_true] at h
          simp only [nble, nbeq, Bool.and_eq_true, decide_eq_true_eq, Bool.not_eq_true', decide_eq_false_iff_not] at hb
          split at h
          · rename_i ps' hps
            cases h
            exact m_bslice R F ht hn hz hb.1 hb.2 hps hv
          · cases h
      · cases h
    · cases h
  | makeSlice t l k =>
    have e : execOp a.eval o = (do pure (.value (← Instr.makeSlice t (a.eval l) (a.eval k)))) := by unfold execOp; rw [ho]
    rw [e]
    simp only [trOp] at h
    split at h
    · rename_i e' ht
      split at h
      · rename_i n b' z l' k' h1 h2 h3 h4 h5
        cases h
        exact m_mksl ht h1 h2 h3 (one h4) (one h5) hv
      · cases h
    · cases h
  | makeMap t r =>
    cases r with
    | none =>
      have e : execOp a.eval o = (do pure (.value (← Instr.makeMap t none))) := by unfold execOp; rw [ho]; rfl
      rw [e]
      simp only [trOp] at h
      split at h
      · cases h
        simp only [evalN] at hv
        cases hv
        exact m_mkmap
      · cases h
    | some r => simp only [trOp] at h; cases h
  | convert s d x =>
    have e : execOp a.eval o = (do pure (.value (← convert s d (a.eval x)))) := by unfold execOp; rw [ho]
    rw [e]
    simp only [trOp] at h
    split at h
    · rename_i y hy
      unfold trConv at h
      split at h
      · cases h
      · cases h
      · rename_i e' h1 h2
        cases hb : (isU8 c.P e' && Nat.beq (rowK c.P e') 2) with
        | false => rw [hb] at h; cases h
        | true =>
          rw [hb] at h
          cases h
          simp only [nbeq, Bool.and_eq_true, decide_eq_true_eq] at hb
          exact m_s2b h1 h2 hb.1 hb.2 (one hy) hv
      · rename_i e' h1 h2
        cases hb : isU8 c.P e' <;> rw [hb] at h <;> cases h
      · rename_i e1 e' h1 h2
        cases hb : (Nat.beq s d && isU8 c.P e') <;> rw [hb] at h <;> cases h
      · split at h <;> cases h
      · rename_i t h1 h2
        cases hb : c.isB t with
        | false => rw [hb] at h; cases h
        | true =>
          rw [hb] at h
          simp only [cond_true] at h
          split at h <;> cases h
      · cases h
    · cases h
  | call k =>
    simp only [trOp] at h
    split at h
    · rename_i xs hxs
      split at h
      · rename_i b' hb
        unfold trBuiltin at h
        split at h <;> (try cases h) <;> (try (split at h <;> (try cases h) <;> (try (split at h <;> (try cases h) <;> (try (split at h <;> cases h))))))
      · rename_i g hg
        split at h
        · cases h
        · rw [call_func o k g ho hg]
          split at h
          · rename_i x _
            cases h2 : Nat.beq (c.ext g) 2 with
            | true => rw [h2] at h; cases h
            | false =>
              rw [h2] at h
              cases h3 : Nat.beq (c.ext g) 3 with
              | false => rw [h3] at h; cases h
              | true =>
                rw [h3] at h
                cases h
                rw [nbeq] at h3
                obtain ⟨o1, os, e1, e2, e3⟩ := trXs_cons hxs
                have := trXs_nil e3
                subst this
                have hargs : k.args.map a.eval = #[a.eval o1] := by apply Array.ext'; rw [Array.toList_map, e1]; rfl
                rw [hargs]
                simp only [evalN, nNozero] at hv
                split at hv
                · rename_i kk nn hkn
                  rw [kbeq_eq] at hv
                  by_cases hk : kk = .i64
                  · subst hk
                    simp only [decide_true, cond_true] at hv
                    split at hv
                    · rename_i n
                      rw [nble] at hv
                      by_cases hle : n ≤ 35184372088832
                      · rw [decide_eq_true hle] at hv
                        cases hv
                        have r1 := one e2
                        rw [hkn, VRel_int] at r1
                        obtain ⟨e', i, cs, g1, g2, g3, g4, g5⟩ := E.nozero g (by simpa using h3) n W hle
                        rw [r1]
                        refine new_row (n := n) (cs := cs) (e := e') (fz := (0, 0)) (v' := .slice (some ⟨W.heap.size, 0, none⟩) n cs.size) (W' := { W with heap := W.heap.push (.cells cs e'), drawn := W.drawn + 2 }) g5 rfl rfl rfl rfl (by simp) g4 ?_ ⟨fun _ _ => rfl, fun _ => ⟨.inl rfl, i, g1, g2, g3⟩, fun h => by omega⟩ (fun b => sl_new W g4 (by omega) (by omega) (by omega))
                        intro j x hj
                        have hlt : j < n := by have := (List.getElem?_eq_some_iff.1 hj).1; simpa using this
                        refine ⟨cs[j]'(by omega), by simp, ?_⟩
                        rw [List.getElem?_replicate, if_pos hlt] at hj
                        cases hj
                        simp only [SRel]
                      · rw [decide_eq_false hle] at hv; cases hv
                    · cases hv
                  · rw [decide_eq_false hk] at hv; cases hv
                · cases hv
          · cases h1 : Nat.beq (c.ext g) 1 <;> rw [h1] at h <;> cases h
          · cases h
      · split at h <;> cases h
      · cases h
    · cases h
  | makeFunc fn first caps =>
    cases fn <;> simp only [trOp] at h <;> (try cases h)
    split at h
    · cases hb : first.isEmpty <;> rw [hb] at h <;> cases h
    · cases h
  | build t ps =>
    simp only [trOp] at h
    split at h
    · rename_i fs z _ _
      cases hall : fs.toList.all (fun f => (c.size f.type).isSome) <;> rw [hall] at h <;> simp only [cond_true, cond_false] at h
      · cases h
      · split at h <;> cases h
    · split at h
      · split at h <;> cases h
      · cases h
    · cases h
  | slice t x lo hi mx =>
    simp only [trOp] at h
    split at h
    · split at h
      · split at h <;> cases h
      · split at h <;> cases h
      · split at h <;> cases h
      · cases h
    · cases h
  | binOp op t x y t' =>
    simp only [trOp] at h
    split at h
    · split at h <;> cases h
    · cases h
  | _ =>
    simp only [trOp] at h
    first
      | (cases h; done)
      | (split at h <;> first | (cases h; done) | (split at h <;> first | (cases h; done) | (split at h <;> cases h; done)))


theorem KindOk.frz {k : Nat} {p : Pl} {size : Nat} {e : TypeId} {fz fz' : Nat × Nat} (h : KindOk c k p size e fz) (hf : (fz.1 = fz.2 → fz'.1 = fz'.2) ∧ ((fz.1 = fz.2 ∨ size ≤ fz.1) → (fz'.1 = fz'.2 ∨ size ≤ fz'.1))) : KindOk c k p size e fz' :=
  ⟨fun a b => hf.1 (h.1 a b), fun a => ⟨hf.2 (h.2.1 a).1, (h.2.1 a).2⟩, h.2.2⟩

/-- One block's cells are written. -/
theorem Rel.rewrite (R : Rel c base ρ H W) {b : Nat} {p : Pl} {x x' : Blk} {H' : Heap} {W' : World} {cs cs' : Array Value} {e : TypeId} {fz : Nat × Nat} (hp : ρ b = some p) (hx : H.get b = some x) (hw : x.wr = true)
    (hW : W.heap[p.c]? = some (.cells cs e fz)) (hW' : W'.heap[p.c]? = some (.cells cs' e fz)) (hs : W'.heap.size = W.heap.size) (hsz : cs'.size = cs.size) (hother : ∀ i, i ≠ p.c → W'.heap[i]? = W.heap[i]?)
    (hout : ∀ i, i < p.s ∨ p.s + p.n + p.e ≤ i → cs'[i]? = cs[i]?) (hH : H'.next = H.next) (hget : ∀ i, H'.get i = if i = b then some x' else H.get i) (hb : BlkRel c ρ p W' x') (hx' : x'.wr = true → x.wr = true) : Rel c base ρ H' W' := by
  refine ⟨by rw [hs]; exact R.size, fun i q hq => by rw [hH]; exact R.dom i q hq, fun i q hq => by rw [hs]; exact R.in_ i q hq, fun i q hq => ?_, fun i q y hq hy hwr => ?_, fun i j q q' y y' hne hq hq' hy hy' hl hwr => ?_, R.glob⟩
  · rw [hget]
    by_cases hi : i = b
    · subst hi
      rw [hp] at hq
      cases hq
      exact ⟨x', by rw [if_pos rfl], hb⟩
    · rw [if_neg hi]
      obtain ⟨y, hy, hr⟩ := R.blk i q hq
      refine ⟨y, hy, ?_⟩
      by_cases hc : q.c = p.c
      · cases y with
        | cells l k =>
          obtain ⟨h1, ds, e', fz', h2, h3, h4, h5⟩ := hr
          rw [hc, hW] at h2
          cases h2
          refine ⟨h1, cs', e, fz, by rw [hc]; exact hW', by rw [hsz]; exact h3, fun j u hj => ?_, by rw [hsz]; exact h5⟩
          obtain ⟨v, hv, hrel⟩ := h4 j u hj
          refine ⟨v, ?_, hrel⟩
          rw [hout]
          · exact hv
          · have hap := R.apart i b q p _ _ hi hq hp hy hx rfl hw
            have hjl : j < q.n := by rw [← h1]; exact (List.getElem?_eq_some_iff.1 hj).1
            exact absurd hc hap
        | mp es cl =>
          obtain ⟨_, _, ms, h2, _⟩ := hr
          rw [hc, hW] at h2
          cases h2
        | dead => trivial
      · exact hr.heap (hother _ hc)
  · rw [hget] at hy
    by_cases hi : i = b
    · subst hi
      rw [if_pos rfl] at hy
      cases hy
      exact R.low i q x hq hx (hx' hwr)
    · rw [if_neg hi] at hy
      exact R.low i q y hq hy hwr
  · rw [hget] at hy hy'
    by_cases hi : i = b
    · subst hi
      have hj : j ≠ i := fun h => hne h.symm
      rw [if_neg hj] at hy'
      by_cases hl' : x.live = true
      · exact R.apart i j q q' x y' hne hq hq' hx hy' hl' hwr
      · exfalso
        cases x <;> first | exact hl' rfl | cases hw
    · rw [if_neg hi] at hy
      by_cases hj : j = b
      · subst hj
        rw [if_pos rfl] at hy'
        cases hy'
        exact R.apart i j q q' y x hne hq hq' hy hx hl (hx' hwr)
      · rw [if_neg hj] at hy'
        exact R.apart i j q q' y y' hne hq hq' hy hy' hl hwr

/-- A map's entries are written. -/
theorem Rel.rewriteMap (R : Rel c base ρ H W) {b : Nat} {p : Pl} {es es' : List (AV × AV × Nat)} {cl cl' : Nat} {ms' : Array MapEntry} (hp : ρ b = some p) (hx : H.get b = some (.mp es cl)) (hr : All2 (EntRel c ρ) es' ms'.toList) :
    Rel c base ρ (H.put b (.mp es' cl')) { W with heap := W.heap.setIfInBounds p.c (.map ms' cl') } := by
  have hin := R.in_ b p hp
  obtain ⟨xb, hxb, hrb⟩ := R.blk b p hp
  rw [hx] at hxb
  cases hxb
  obtain ⟨hs0, hn1, ms, hm, _⟩ := hrb
  have hother : ∀ i, i ≠ p.c → (W.heap.setIfInBounds p.c (.map ms' cl'))[i]? = W.heap[i]? := fun i hi => Array.getElem?_setIfInBounds_ne (Ne.symm hi)
  have hhere : (W.heap.setIfInBounds p.c (.map ms' cl'))[p.c]? = some (.map ms' cl') := by simp [hin]
  refine ⟨by simpa using R.size, fun i q hq => R.dom i q hq, fun i q hq => by simpa using R.in_ i q hq, fun i q hq => ?_, fun i q y hq hy hwr => ?_, fun i j q q' y y' hne hq hq' hy hy' hl hwr => ?_, R.glob⟩
  · rw [Heap.get_put]
    by_cases hi : i = b
    · subst hi
      rw [hp] at hq
      cases hq
      exact ⟨.mp es' cl', by rw [if_pos rfl], hs0, hn1, ms', hhere, hr⟩
    · rw [if_neg hi]
      obtain ⟨y, hy, hry⟩ := R.blk i q hq
      refine ⟨y, hy, ?_⟩
      by_cases hc : q.c = p.c
      · cases y with
        | cells l k =>
          obtain ⟨h1, ds, e', fz', h2, _⟩ := hry
          rw [hc, hm] at h2
          cases h2
        | mp es2 cl2 =>
          exfalso
          have hap := R.apart i b q p _ _ hi hq hp hy hx rfl rfl
          obtain ⟨g1, g2, _⟩ := hry
          exact hap hc
        | dead => trivial
      · exact hry.heap (hother _ hc)
  · rw [Heap.get_put] at hy
    by_cases hi : i = b
    · subst hi
      exact R.low i q _ hq hx rfl
    · rw [if_neg hi] at hy
      exact R.low i q y hq hy hwr
  · rw [Heap.get_put] at hy hy'
    by_cases hi : i = b
    · subst hi
      have hj : j ≠ i := fun h => hne h.symm
      rw [if_neg hj] at hy'
      exact R.apart i j q q' _ y' hne hq hq' hx hy' rfl hwr
    · rw [if_neg hi] at hy
      by_cases hj : j = b
      · subst hj
        exact R.apart i j q q' y _ hne hq hq' hy hx hl rfl
      · rw [if_neg hj] at hy'
        exact R.apart i j q q' y y' hne hq hq' hy hy' hl hwr

end
end Go.Dp
