/- Operations that leave the heap alone: comparisons. Conditions: none. -/
import Derived.Test.YtkjmelfgopammaaQqH
namespace Go.Dp
open Go.RowKit

section
variable {c : Cx} {base : Nat} {ρ : Rho} {H : Heap} {W : World} {fr : List AV} {a : Act}

/-- A value of a type out of its cells. -/
def mkV (g : Bool) (ws : List Value) : Value := if g then .agg ws.toArray else ws.getD 0 undef

def _root_.Go.Dp.CK.desc : CK → TypeDesc
  | .b => .bool
  | .i k => .int k
  | .s => .string

theorem scEq_run {d : Nat} {t : TypeId} {k : CK} {x y : AV} {u w : Value} {r : Bool} (hx : SRel c ρ x u) (hy : SRel c ρ y w) (h : scEq k x y = some r)
    (ht : c.P.underlying t = some k.desc) : (Op.equalIn (d + 1) t u w).run c.P W = .ok r W := by
  cases k with
  | i k =>
    simp only [scEq] at h
    split at h
    · rename_i j a'
      split at h
      · rename_i j' b'
        simp only [kbeq_eq, ibeq_eq] at h
        by_cases h1 : k = j
        · by_cases h2 : k = j'
          · subst h1; subst h2
            simp only [decide_true, Bool.and_self, cond_true] at h
            cases h
            simp only [SRel, BRel] at hx hy
            subst hx; subst hy
            exact run_equalIn_int W d t k k a' b' ht
          · rw [decide_eq_false h2, Bool.and_false] at h; cases h
        · rw [decide_eq_false h1, Bool.false_and] at h; cases h
      · cases h
    · cases h
  | s =>
    simp only [scEq] at h
    split at h
    · split at h
      · simp only [beqB_eq] at h
        cases h
        simp only [SRel, BRel] at hx hy
        obtain ⟨a', rfl, rfl⟩ := hx
        obtain ⟨b', rfl, rfl⟩ := hy
        rw [run_equalIn_string W d t a' b' ht, toList_eq, toList_eq]
      · cases h
    · cases h
  | b =>
    simp only [scEq] at h
    split at h
    · split at h
      · cases h
        simp only [SRel, BRel] at hx hy
        subst hx; subst hy
        exact run_equalIn_bool' W d t _ _ ht
      · cases h
    · cases h

theorem cellsEq_length : ∀ {ks : List CK} {x y : List AV} {r : Bool}, cellsEq ks x y = some r → x.length = ks.length ∧ y.length = ks.length
  | [], x, y, r, h => by
    simp only [cellsEq] at h
    cases x <;> cases y <;> simp at h ⊢
  | k :: ks, x, y, r, h => by
    simp only [cellsEq] at h
    split at h
    · split at h
      · unfold both at h
        split at h
        · split at h
          · rename_i q hq
            obtain ⟨h1, h2⟩ := cellsEq_length hq
            simp [h1, h2]
          · cases h
        · cases h
      · cases h
    · cases h

theorem cellsEq_append : ∀ {ks ks' : List CK} {x y : List AV} {r : Bool}, cellsEq (ks ++ ks') x y = some r →
    ∃ r1 r2, cellsEq ks (x.take ks.length) (y.take ks.length) = some r1 ∧ cellsEq ks' (x.drop ks.length) (y.drop ks.length) = some r2 ∧ r = (r1 && r2)
  | [], ks', x, y, r, h => ⟨true, r, by simp [cellsEq], by simpa using h, by simp⟩
  | k :: ks, ks', x, y, r, h => by
    simp only [List.cons_append, cellsEq] at h
    split at h
    · rename_i a' x'
      split at h
      · rename_i b' y'
        unfold both at h
        split at h
        · rename_i p hp
          split at h
          · rename_i q hq
            cases h
            obtain ⟨r1, r2, e1, e2, rfl⟩ := cellsEq_append hq
            refine ⟨p && r1, r2, ?_, by simpa using e2, by rw [Bool.and_assoc]⟩
            simp only [List.length_cons, List.take_succ_cons, cellsEq, hp, e1, both]
          · cases h
        · cases h
      · cases h
    · cases h

theorem part_mk {t : TypeId} {g : Bool} {n off : Nat} {cs : Array Value} (hg : c.agg t = some g) (hn : c.size t = some n) (hle : off + n ≤ cs.size) (h1 : g = false → n = 1) :
    (part t cs off).run c.P W = .ok (mkV g ((cs.toList.drop off).take n)) W := by
  cases g with
  | true =>
    simp only [part, Sem.run_bind, run_agg hg, Result.andThen_ok, if_true, run_size hn, Sem.run_pure, mkV]
    congr 2
    apply Array.ext'
    simp [Array.toList_extract, List.extract_eq_take_drop]
  | false =>
    have := h1 rfl
    subst this
    have hlt : off < cs.size := by omega
    have e : cs[off]? = some cs[off] := by simp [hlt]
    simp only [part, Sem.run_bind, run_agg hg, Result.andThen_ok, Bool.false_eq_true, if_false, e, Sem.run_pure, mkV]
    congr 1
    simp [List.getD, hlt]

/-- What comparing says, of a plain type. -/
def EqOk (c : Cx) (ρ : Rho) (D : Nat) (t : TypeId) (ks : List CK) : Prop :=
  ∃ g, c.agg t = some g ∧ c.size t = some ks.length ∧ (g = false → ks.length = 1) ∧
    ∀ (W : World) (x y : List AV) (us ws : List Value) (r : Bool), All2 (SRel c ρ) x us → All2 (SRel c ρ) y ws → cellsEq ks x y = some r → (Op.equalIn D t (mkV g us) (mkV g ws)).run c.P W = .ok r W

theorem fields_eq {D : Nat} {g : TypeId → Option (List CK)} (hg : ∀ t ks, g t = some ks → EqOk c ρ D t ks) {us ws : Array Value} : ∀ (fs : List Field) (o : Nat) (ks : List CK) (W : World) (x y : List AV) (r : Bool), kindsF g o fs = some ks →
    All2 (SRel c ρ) x (us.toList.drop o) → All2 (SRel c ρ) y (ws.toList.drop o) → cellsEq ks x y = some r → o + ks.length = us.size → o + ks.length = ws.size → (Op.eqFields D us ws fs).run c.P W = .ok r W
  | [], o, ks, W, x, y, r, hk, hx, hy, h, l1, l2 => by
    simp only [kindsF] at hk
    cases hk
    simp only [cellsEq] at h
    cases x <;> cases y <;> simp at h
    subst h
    simp [Op.eqFields]
  | f :: fs, o, ks, W, x, y, r, hk, hx, hy, h, l1, l2 => by
    simp only [kindsF] at hk
    cases hc : (f.name != "_" && Nat.beq f.offset o) with
    | false => rw [hc] at hk; cases hk
    | true =>
      rw [hc] at hk
      simp only [cond_true] at hk
      simp only [nbeq, Bool.and_eq_true, decide_eq_true_eq] at hc
      obtain ⟨hname, rfl⟩ := hc
      split at hk
      · rename_i ks1 hk1
        split at hk
        · rename_i ks2 hk2
          cases hk
          obtain ⟨r1, r2, e1, e2, rfl⟩ := cellsEq_append h
          obtain ⟨gf, q1, q2, q3, q4⟩ := hg _ _ hk1
          simp only [List.length_append] at l1 l2
          have p1 := part_mk (W := W) (cs := us) (off := f.offset) q1 q2 (by omega) q3
          have p2 := part_mk (W := W) (cs := ws) (off := f.offset) q1 q2 (by omega) q3
          have p3 := q4 W _ _ _ _ _ (hx.take ks1.length) (hy.take ks1.length) e1
          have hne : f.name ≠ "_" := by simpa using hname
          simp only [Op.eqFields, if_pos hne, Sem.run_bind, p1, p2, p3, Result.andThen_ok]
          cases r1 with
          | false => simp
          | true =>
            have ih := fields_eq hg fs (f.offset + ks1.length) ks2 W (x.drop ks1.length) (y.drop ks1.length) r2 hk2 (by have := hx.drop ks1.length; rwa [List.drop_drop] at this) (by have := hy.drop ks1.length; rwa [List.drop_drop] at this) e2 (by omega) (by omega)
            simp [ih]
        · cases hk
      · cases hk

theorem times_length (ks : List CK) : ∀ n, (times n ks).length = n * ks.length
  | 0 => by simp [times]
  | n + 1 => by rw [times, List.length_append, times_length ks n, Nat.succ_mul]; omega

theorem array_eq {D : Nat} {e : TypeId} {ks : List CK} (hg : EqOk c ρ D e ks) {us ws : Array Value} (n : Nat) : ∀ (m i : Nat) (W : World) (x y : List AV) (r : Bool), i + m = n →
    All2 (SRel c ρ) x (us.toList.drop (i * ks.length)) → All2 (SRel c ρ) y (ws.toList.drop (i * ks.length)) → cellsEq (times m ks) x y = some r → n * ks.length = us.size → n * ks.length = ws.size →
    (do
      for i in List.range' i m do
        if !(← Op.equalIn D e (← part e us (i * ks.length)) (← part e ws (i * ks.length))) then return false
      pure true : Sem Bool).run c.P W = .ok r W
  | 0, i, W, x, y, r, hi, hx, hy, h, l1, l2 => by
    simp only [times, cellsEq] at h
    cases x <;> cases y <;> simp at h
    subst h
    simp
  | m + 1, i, W, x, y, r, hi, hx, hy, h, l1, l2 => by
    simp only [times] at h
    obtain ⟨r1, r2, e1, e2, rfl⟩ := cellsEq_append h
    obtain ⟨gf, q1, q2, q3, q4⟩ := hg
    have hle : i * ks.length + ks.length ≤ n * ks.length := by
      rw [← Nat.succ_mul]; exact Nat.mul_le_mul_right _ (by omega)
    have p1 := part_mk (W := W) (cs := us) (off := i * ks.length) q1 q2 (by omega) q3
    have p2 := part_mk (W := W) (cs := ws) (off := i * ks.length) q1 q2 (by omega) q3
    have p3 := q4 W _ _ _ _ _ (hx.take ks.length) (hy.take ks.length) e1
    rw [List.range'_succ]
    simp only [List.forIn_cons, Sem.run_bind, p1, p2, p3, Result.andThen_ok]
    cases r1 with
    | false => simp
    | true =>
      have ih := array_eq ⟨gf, q1, q2, q3, q4⟩ (us := us) (ws := ws) n m (i + 1) W (x.drop ks.length) (y.drop ks.length) r2 (by omega)
        (by have := hx.drop ks.length; rwa [List.drop_drop, ← Nat.succ_mul] at this) (by have := hy.drop ks.length; rwa [List.drop_drop, ← Nat.succ_mul] at this) e2 l1 l2
      simpa using ih

theorem kinds_ok (ρ : Rho) : ∀ (d : Nat) (t : TypeId) (ks : List CK), kindsT c d t = some ks → ∀ D, d ≤ D → EqOk c ρ D t ks
  | 0, t, ks, h, D, hD => by simp only [kindsT] at h; cases h
  | d + 1, t, ks, h, D, hD => by
    obtain ⟨D, rfl⟩ : ∃ E, D = E + 1 := ⟨D - 1, by omega⟩
    simp only [kindsT] at h
    split at h
    · rename_i ks' hks
      split at h
      · rename_i n hn
        cases hb : Nat.beq n ks'.length with
        | false => rw [hb] at h; cases h
        | true =>
          rw [hb] at h
          cases h
          rw [nbeq] at hb
          have hn' : n = ks.length := by simpa using hb
          subst hn'
          have one : ∀ (k : CK), c.P.underlying t = some k.desc → ks = [k] → EqOk c ρ (D + 1) t ks := by
            intro k hu hk
            subst hk
            refine ⟨false, ?_, hn, fun _ => rfl, ?_⟩
            · unfold Cx.agg
              rw [hu]
              cases k <;> rfl
            · intro W x y us ws r hx hy hr
              obtain ⟨l1, l2⟩ := cellsEq_length hr
              match x, y, l1, l2, hx, hy, hr with
              | [a'], [b'], _, _, hx, hy, hr =>
                match us, ws, hx, hy with
                | [u], [w], ⟨hx, _⟩, ⟨hy, _⟩ =>
                  simp only [cellsEq, both] at hr
                  split at hr
                  · rename_i p hp
                    simp at hr
                    subst hr
                    exact scEq_run hx hy hp hu
                  · cases hr
          split at hks
          · rename_i hu; cases hks; exact one .b hu rfl
          · rename_i k hu; cases hks; exact one (.i k) hu rfl
          · rename_i hu; cases hks; exact one .s hu rfl
          · rename_i fs hu
            cases hst : c.P.stoodInHeld t with
            | true => rw [hst] at hks; cases hks
            | false =>
              rw [hst] at hks
              simp only [cond_false] at hks
              refine ⟨true, by unfold Cx.agg; rw [hu], hn, (fun h => by cases h), ?_⟩
              intro W x y us ws r hx hy hr
              obtain ⟨l1, l2⟩ := cellsEq_length hr
              have hfo : c.P.fieldsOf t = fs := by unfold Program.fieldsOf; rw [hu]
              have := fields_eq (D := D) (us := us.toArray) (ws := ws.toArray) (fun t ks h => kinds_ok ρ d t ks h D (by omega)) fs.toList 0 ks W x y r hks (by simpa using hx) (by simpa using hy) hr (by simp [← hx.length, l1]) (by simp [← hy.length, l2])
              show (Op.equalIn (D + 1) t (.agg us.toArray) (.agg ws.toArray)).run c.P W = _
              rw [run_equalIn_struct W D t _ _ (by rw [hfo]; exact hu) hst, hfo]
              exact this
          · rename_i m e hu
            split at hks
            · rename_i ks1 hk1
              cases hks
              refine ⟨true, by unfold Cx.agg; rw [hu], hn, (fun h => by cases h), ?_⟩
              intro W x y us ws r hx hy hr
              obtain ⟨l1, l2⟩ := cellsEq_length hr
              have hE := kinds_ok ρ d e ks1 hk1 D (by omega)
              have := array_eq (us := us.toArray) (ws := ws.toArray) hE m m 0 W x y r (by omega) (by simpa using hx) (by simpa using hy) hr (by simp [← hx.length, l1, times_length]) (by simp [← hy.length, l2, times_length])
              show (Op.equalIn (D + 1) t (.agg us.toArray) (.agg ws.toArray)).run c.P W = _
              obtain ⟨g, q1, q2, _, _⟩ := hE
              simp only [Op.equalIn, Sem.run_bind, run_underlying hu, Result.andThen_ok, run_size q2]
              simpa [Std.Legacy.Range.forIn_eq_forIn_range', Std.Legacy.Range.size] using this
            · cases hks
          · cases hks
      · cases h
    · cases h

end
end Go.Dp
