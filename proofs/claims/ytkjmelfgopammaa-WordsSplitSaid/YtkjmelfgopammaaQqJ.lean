/- Operations that leave the heap alone: all of them. Conditions: none. -/
import Derived.Test.YtkjmelfgopammaaQqI
namespace Go.Dp
open Go.RowKit

section
variable {c : Cx} {base : Nat} {ρ : Rho} {H : Heap} {W : World} {fr : List AV} {a : Act}

/-- '==', '!=' of what is neither a number nor a string. -/
def Odd : Value → Bool
  | .int _ _ | .float _ _ | .complex _ _ _ | .string _ => false
  | _ => true

theorem binOp_eql_odd (t : TypeId) {u w : Value} (h : Odd u = true) : binOp .eql t u w = (do pure (.bool (← Op.equal t u w))) := by
  cases u <;> first | exact absurd (show false = true from h) (by decide) | (cases w <;> rfl)
theorem binOp_neq_odd (t : TypeId) {u w : Value} (h : Odd u = true) : binOp .neq t u w = (do pure (.bool (!(← Op.equal t u w)))) := by
  cases u <;> first | exact absurd (show false = true from h) (by decide) | (cases w <;> rfl)

theorem neg_run {op : BinOp} {neg : Bool} (ho : (match op with | .eql => some false | .neq => some true | _ => none) = some neg) {t : TypeId} {u w : Value} (hu : Odd u = true) {r : Bool} (h : (Op.equal t u w).run c.P W = .ok r W) {e : Option Bool} (he : e = some r) {v : AV} (hv : negIf neg e = some v) :
    ∃ v', (binOp op t u w).run c.P W = .ok v' W ∧ VRel c ρ v v' := by
  subst he
  simp only [negIf] at hv
  cases hv
  cases op <;> first | cases ho | skip
  · refine ⟨.bool r, by rw [binOp_eql_odd t hu]; simp [h], VRel_bool.2 rfl⟩
  · refine ⟨.bool (!r), by rw [binOp_neq_odd t hu]; simp [h], VRel_bool.2 rfl⟩

theorem equalIn_step (d : Nat) {t : TypeId} {D : TypeDesc} {u w : Value} {r : Bool} (ht : c.P.underlying t = some D)
    (h : (match D, u, w with
      | .slice _, .slice none _ _, .slice none _ _ => some true
      | .slice _, .slice none _ _, .slice (some _) _ _ => some false
      | .slice _, .slice (some _) _ _, .slice none _ _ => some false
      | .map _ _, .map none, .map none => some true
      | .map _ _, .map none, .map (some _) => some false
      | .map _ _, .map (some _), .map none => some false
      | .func _ _ _, .nilFunc, .nilFunc => some true
      | .func _ _ _, .nilFunc, .func _ _ _ => some false
      | .func _ _ _, .func _ _ _, .nilFunc => some false
      | .pointer _, .pointer none, .pointer none => some true
      | .pointer _, .pointer none, .pointer (some _) => some false
      | .pointer _, .pointer (some _), .pointer none => some false
      | _, _, _ => none) = some r) : (Op.equalIn (d + 1) t u w).run c.P W = .ok r W := by
  simp only [Op.equalIn, Sem.run_bind, run_underlying ht, Result.andThen_ok]
  split at h <;> first
    | (cases h; rfl)
    | (cases h)
theorem equal_step {t : TypeId} {D : TypeDesc} {u w : Value} {r : Bool} (ht : c.P.underlying t = some D)
    (h : (match D, u, w with
      | .slice _, .slice none _ _, .slice none _ _ => some true
      | .slice _, .slice none _ _, .slice (some _) _ _ => some false
      | .slice _, .slice (some _) _ _, .slice none _ _ => some false
      | .map _ _, .map none, .map none => some true
      | .map _ _, .map none, .map (some _) => some false
      | .map _ _, .map (some _), .map none => some false
      | .func _ _ _, .nilFunc, .nilFunc => some true
      | .func _ _ _, .nilFunc, .func _ _ _ => some false
      | .func _ _ _, .func _ _ _, .nilFunc => some false
      | .pointer _, .pointer none, .pointer none => some true
      | .pointer _, .pointer none, .pointer (some _) => some false
      | .pointer _, .pointer (some _), .pointer none => some false
      | _, _, _ => none) = some r) : (Op.equal t u w).run c.P W = .ok r W := equalIn_step 9999 ht h

theorem equal_ptr {t e : TypeId} {n : Nat} (ht : c.P.underlying t = some (.pointer e)) (hn : c.size e = some (n + 1)) (p q : Addr) : (Op.equal t (.pointer (some p)) (.pointer (some q))).run c.P W = (sameAddr p q).run c.P W := by
  have : ∀ d, (Op.equalIn (d + 1) t (.pointer (some p)) (.pointer (some q))).run c.P W = (sameAddr p q).run c.P W := by
    intro d
    simp only [Op.equalIn, Sem.run_bind, run_underlying ht, Result.andThen_ok, run_size hn, Nat.succ_ne_zero, ne_eq, not_false_eq_true, if_true]
  exact this 9999

def EKok (c : Cx) (t : TypeId) : EK → Prop
  | .b => c.P.underlying t = some .bool
  | .s => ∃ e, c.P.underlying t = some (.slice e)
  | .m => ∃ a b, c.P.underlying t = some (.map a b)
  | .f => ∃ a b d, c.P.underlying t = some (.func a b d)

theorem eqv_run {k : EK} {t : TypeId} {x y : AV} {u w : Value} {r : Bool} (hx : VRel c ρ x u) (hy : VRel c ρ y w) (h : eqv k x y = some r)
    (ht : EKok c t k) : (Op.equal t u w).run c.P W = .ok r W ∧ Odd u = true := by
  cases k with
  | b =>
    simp only [eqv] at h
    unfold eqB at h
    split at h
    · split at h
      · cases h
        rw [VRel_bool] at hx hy
        subst hx; subst hy
        exact ⟨run_equalIn_bool' W 9999 t _ _ ht, rfl⟩
      · cases h
    · cases h
  | s =>
    obtain ⟨e, ht⟩ := ht
    simp only [eqv] at h
    unfold eqS at h
    split at h
    · split at h
      · cases h
        rw [VRel_nils] at hx hy
        subst hx; subst hy
        exact ⟨equal_step ht rfl, rfl⟩
      · cases h
        rw [VRel_nils] at hx
        rw [VRel_sl] at hy
        obtain ⟨p, off, cap, hp, rfl, _⟩ := hy
        subst hx
        exact ⟨equal_step ht rfl, rfl⟩
      · cases h
    · split at h
      · cases h
        rw [VRel_nils] at hy
        rw [VRel_sl] at hx
        obtain ⟨p, off, cap, hp, rfl, _⟩ := hx
        subst hy
        exact ⟨equal_step ht rfl, rfl⟩
      · cases h
    · cases h
  | m =>
    obtain ⟨e, e', ht⟩ := ht
    simp only [eqv] at h
    unfold eqM at h
    split at h
    · split at h
      · cases h
        rw [VRel_nilm] at hx hy
        subst hx; subst hy
        exact ⟨equal_step ht rfl, rfl⟩
      · cases h
        rw [VRel_nilm] at hx
        rw [VRel_map] at hy
        obtain ⟨p, hp, rfl⟩ := hy
        subst hx
        exact ⟨equal_step ht rfl, rfl⟩
      · cases h
    · split at h
      · cases h
        rw [VRel_nilm] at hy
        rw [VRel_map] at hx
        obtain ⟨p, hp, rfl⟩ := hx
        subst hy
        exact ⟨equal_step ht rfl, rfl⟩
      · cases h
    · cases h
  | f =>
    obtain ⟨e, e', e'', ht⟩ := ht
    simp only [eqv] at h
    unfold eqF at h
    split at h
    · split at h
      · cases h
        rw [VRel_nilf] at hx hy
        subst hx; subst hy
        exact ⟨equal_step ht rfl, rfl⟩
      · cases h
        rw [VRel_nilf] at hx
        rw [VRel_fn] at hy
        obtain ⟨g, cs, _, rfl, _⟩ := hy
        subst hx
        exact ⟨equal_step ht rfl, rfl⟩
      · cases h
    · split at h
      · cases h
        rw [VRel_nilf] at hy
        rw [VRel_fn] at hx
        obtain ⟨g, cs, _, rfl, _⟩ := hx
        subst hy
        exact ⟨equal_step ht rfl, rfl⟩
      · cases h
    · cases h

theorem isVar_place (R : Rel c base ρ H W) {b o : Nat} {p : Pl} (hp : ρ b = some p) (h : isVar o (H.get b) = true) :
    ∃ l k cs e fz, H.get b = some (.cells l k) ∧ (k = 1 ∨ k = 2) ∧ o < l.length ∧ l.length = p.n ∧ W.heap[p.c]? = some (.cells cs e fz) ∧ p.s + p.n + p.e ≤ cs.size ∧ fz.1 = fz.2 := by
  unfold isVar at h
  split at h
  · rename_i x hx
    split at h
    · rename_i l k
      simp only [nbeq, nblt, Bool.and_eq_true, Bool.or_eq_true, decide_eq_true_eq] at h
      obtain ⟨hk, ho⟩ := h
      obtain ⟨xb, hxb, hr⟩ := R.blk b p hp
      rw [hx] at hxb
      cases hxb
      obtain ⟨h1, cs, e, fz, h2, h3, h4, h5⟩ := hr
      exact ⟨l, k, cs, e, fz, hx, hk, ho, h1, h2, h3, h5.1 (by omega) (by omega)⟩
    · cases h
  · cases h

theorem stringish_no {a : Addr} {cs : Array Value} {e : TypeId} {fz : Nat × Nat} (h : W.heap[a.block]? = some (.cells cs e fz)) (hf : fz.1 = fz.2) :
    (stringish a).run c.P W = .ok false W ∧ (frozen a).run c.P W = .ok false W ∧ (noView a).run c.P W = .ok () W ∧ (shape a.block).run c.P W = .ok (some (e, cs.size)) W := by
  have hz : ∀ b : Addr, b.block = a.block → W.frozen? b = false := by
    intro b hb
    obtain ⟨lo, hi⟩ := fz
    simp only at hf
    subst hf
    unfold World.frozen?
    rw [hb, h]
    simp only [Bool.and_eq_false_iff, decide_eq_false_iff_not]
    omega
  have hsh : W.shape? a.block = some (e, cs.size) := by unfold World.shape?; rw [h]
  refine ⟨?_, by rw [run_frozen, hz a rfl], ?_, by rw [run_shape, hsh]⟩
  · simp only [stringish, Sem.run_bind, run_frozen, hz a rfl, Result.andThen_ok, Bool.false_eq_true, if_false, run_shape, hsh]
    rw [hz ⟨a.block, cs.size, none⟩ rfl]
  · simp only [noView, viewAt, Sem.run_bind, run_shape, hsh, Result.andThen_ok, Option.isSome_some, if_true, Sem.run_pure, Option.isSome_none, Bool.false_eq_true, if_false]

theorem eqc_run (R : Rel c base ρ H W) {t e : TypeId} {n : Nat} {x y : AV} {u w : Value} {r : Bool} (ht : c.P.underlying t = some (.pointer e)) (hn : c.size e = some (n + 1)) (hx : VRel c ρ x u) (hy : VRel c ρ y w) (h : rEqc H x y = some r) :
    (Op.equal t u w).run c.P W = .ok r W ∧ Odd u = true := by
  unfold rEqc at h
  split at h
  · rename_i b o
    rw [VRel_ptr] at hx
    obtain ⟨p, hp, rfl⟩ := hx
    split at h
    · rename_i b' o'
      rw [VRel_ptr] at hy
      obtain ⟨p', hp', rfl⟩ := hy
      refine ⟨?_, rfl⟩
      unfold eqPlace at h
      cases hv : (isVar o (H.get b) && isVar o' (H.get b')) with
      | false => rw [hv] at h; cases h
      | true =>
        rw [hv] at h
        simp only [cond_true, nbeq] at h
        cases h
        simp only [Bool.and_eq_true] at hv
        obtain ⟨l, k, cs, te, fz, a1, a2, a3, a4, a5, a6, a7⟩ := isVar_place R hp hv.1
        obtain ⟨l', k', cs', te', fz', b1, b2, b3, b4, b5, b6, b7⟩ := isVar_place R hp' hv.2
        obtain ⟨s1, s2, s3, s4⟩ := stringish_no (c := c) (a := ⟨p.c, p.s + o, none⟩) a5 a7
        obtain ⟨s1', s2', s3', s4'⟩ := stringish_no (c := c) (a := ⟨p'.c, p'.s + o', none⟩) b5 b7
        rw [equal_ptr ht hn]
        by_cases hbb : b = b'
        · subst hbb
          rw [hp] at hp'
          cases hp'
          simp only [sameAddr, beq_self_eq_true, if_true, Sem.run_pure, decide_true, Bool.true_and]
          congr 1
          by_cases ho : o = o'
          · simp [ho]
          · simp only [ho, decide_false, beq_eq_false_iff_ne, ne_eq, Addr.mk.injEq, and_true, true_and]
            omega
        · simp only [hbb, decide_false, Bool.false_and]
          by_cases hcc : p.c = p'.c
          · have hap := R.apart b b' p p' _ _ hbb hp hp' a1 b1 rfl (by rcases b2 with rfl | rfl <;> rfl)
            exact absurd hcc hap
          · have hne : (p.c == p'.c) = false := by simp [hcc]
            simp only [sameAddr, hne, Bool.false_eq_true, if_false, Sem.run_bind, s2, s2', Result.andThen_ok, Bool.false_and, Sem.run_pure, s3, s3', mayBeOne, s1, s1', s4, s4', Bool.or_self]
    · rw [VRel_nilp] at hy
      subst hy
      cases h
      exact ⟨equal_step ht rfl, rfl⟩
    · cases h
  · split at h
    · rw [VRel_nilp] at hx hy
      subst hx; subst hy
      cases h
      exact ⟨equal_step ht rfl, rfl⟩
    · rw [VRel_nilp] at hx
      rw [VRel_ptr] at hy
      obtain ⟨p, hp, rfl⟩ := hy
      subst hx
      cases h
      exact ⟨equal_step ht rfl, rfl⟩
    · cases h
  · cases h

theorem eqa_run {t : TypeId} {ks : List CK} {x y : AV} {u w : Value} {r : Bool} (hk : kindsT c 8 t = some ks) (hg : c.agg t = some true) (hx : VRel c ρ x u) (hy : VRel c ρ y w) (h : aggEq ks x y = some r) :
    (Op.equal t u w).run c.P W = .ok r W ∧ ∃ a b, u = .agg a ∧ w = .agg b := by
  unfold aggEq at h
  split at h
  · split at h
    · rw [VRel_agg] at hx hy
      obtain ⟨cs, rfl, hx⟩ := hx
      obtain ⟨ds, rfl, hy⟩ := hy
      obtain ⟨g, q1, q2, q3, q4⟩ := kinds_ok ρ 8 t ks hk 10000 (by omega)
      rw [hg] at q1
      cases q1
      have := q4 W _ _ _ _ _ hx hy h
      exact ⟨by simpa [mkV, Op.equal, Op.maxDepth] using this, cs, ds, rfl, rfl⟩
    · cases h
  · cases h

theorem mms_rel (R : Rel c base ρ H W) (F : FRel c ρ fr a.tmps) (mx : Bool) : ∀ {xs : List Operand} {ys : List X} {x v : AV} {u : Value}, trXs c xs = some ys → VRel c ρ x u → mms mx fr x ys = some v →
    ∃ v', ((xs.map a.eval).foldlM (m := Sem) (if mx then Builtin.max2 else Builtin.min2) u).run c.P W = .ok v' W ∧ VRel c ρ v v'
  | [], ys, x, v, u, h, hx, hv => by
    simp only [trXs] at h
    cases h
    simp only [mms] at hv
    cases hv
    exact ⟨u, by simp, hx⟩
  | o :: xs, ys, x, v, u, h, hx, hv => by
    simp only [trXs] at h
    split at h
    · rename_i y ys' h1 h2
      cases h
      simp only [mms] at hv
      split at hv
      · rename_i z hz
        have hy := trX_rel R F h1
        unfold mm at hz
        split at hz
        · rename_i k p
          split at hz
          · rename_i k' q hq
            rw [kbeq_eq] at hz
            by_cases hk : k = k'
            · subst hk
              simp only [decide_true, cond_true] at hz
              cases hz
              rw [hq, VRel_int] at hy
              rw [VRel_int] at hx
              subst hx
              have hstep : ((if mx then Builtin.max2 else Builtin.min2) (.int k p) (a.eval o)).run c.P W = .ok (.int k (bif mx then (bif ible q p then p else q) else (bif ible p q then p else q))) W := by
                rw [hy]
                cases mx with
                | true =>
                  simp only [if_true, Builtin.max2, Sem.run_pure, cond_true, ible_eq]
                  congr 2
                  by_cases hpq : q ≤ p
                  · rw [decide_eq_true hpq]; simp; omega
                  · rw [decide_eq_false hpq]; simp; omega
                | false =>
                  simp only [Bool.false_eq_true, if_false, Builtin.min2, Sem.run_pure, cond_false, ible_eq]
                  congr 2
                  by_cases hpq : p ≤ q
                  · rw [decide_eq_true hpq]; simp; omega
                  · rw [decide_eq_false hpq]; simp; omega
              obtain ⟨v', e1, e2⟩ := mms_rel R F mx h2 (VRel_int.2 rfl) hv
              exact ⟨v', by simp only [List.map_cons, List.foldlM_cons, Sem.run_bind, hstep, Result.andThen_ok]; exact e1, e2⟩
            · rw [decide_eq_false hk] at hz; cases hz
          · cases hz
        · cases hz
      · cases hv
    · cases h

end
end Go.Dp
