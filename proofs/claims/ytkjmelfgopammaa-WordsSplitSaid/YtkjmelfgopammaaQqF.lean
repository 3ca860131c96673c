/- Operations that leave the heap alone, more of them. Conditions: none. -/
import Derived.Test.YtkjmelfgopammaaQqE
import Derived.Laws.Slices
import Derived.Laws.BytesString
import Derived.Laws.BytesArg
import Derived.Laws.Externs
import Derived.Lib.Strings
namespace Go.Dp
open Go.RowKit

section
variable {c : Cx} {base : Nat} {ρ : Rho} {H : Heap} {W : World} {fr : List AV} {a : Act}

theorem natOf_inv {v : AV} {n : Nat} (h : natOf v = some n) : ∃ k, v = .int k (Int.ofNat n) := by
  unfold natOf at h
  split at h
  · split at h
    · cases h; exact ⟨_, rfl⟩
    · cases h
  · cases h

theorem natOf_rel {v : AV} {n : Nat} {w : Value} (h : natOf v = some n) (r : VRel c ρ v w) : ∃ k, w = .int k (n : Int) := by
  obtain ⟨k, rfl⟩ := natOf_inv h
  exact ⟨k, VRel_int.1 r⟩

theorem bnd_rel {v : AV} {m n y : Nat} {w : Value} (hm : m ≤ y) (h : bnd v m = some n) (r : VRel c ρ v w) : (∀ code, (Instr.sliceBound w y code).run c.P W = .ok n W) ∧ n ≤ m := by
  unfold bnd at h
  split at h
  · rename_i n' hn
    rw [nble] at h
    by_cases hle : n' ≤ m
    · rw [decide_eq_true hle] at h
      cases h
      obtain ⟨k, rfl⟩ := natOf_rel hn r
      exact ⟨fun code => by rw [run_sliceBound _ _ _ _ _ (by omega) (by omega)]; rfl, hle⟩
    · rw [decide_eq_false hle] at h; cases h
  · cases h

theorem trXo_none {x : Option Operand} (h : trXo c x = some none) : x = none := by
  cases x with
  | none => rfl
  | some x => simp only [trXo] at h; split at h <;> cases h
theorem trXo_some {x : Option Operand} {y : X} (h : trXo c x = some (some y)) : ∃ z, x = some z ∧ trX c z = some y := by
  cases x with
  | none => cases h
  | some x =>
    simp only [trXo] at h
    split at h
    · rename_i z hz; cases h; exact ⟨x, rfl, hz⟩
    · cases h

theorem bnds_rel (R : Rel c base ρ H W) (F : FRel c ρ fr a.tmps) {len m cap l h : Nat} {lo hi : Option Operand} {lo' hi' : Option X} (f : Bool) (hlo : trXo c lo = some lo') (hhi : trXo c hi = some hi')
    (hm : m ≤ cap) (hb : bnds fr len m lo' hi' = some (l, h)) :
    (Instr.sliceBounds f len cap (lo.map a.eval) (hi.map a.eval) none).run c.P W = .ok (l, h, cap) W ∧ l ≤ h ∧ (h ≤ m ∨ h = len) := by
  unfold bnds at hb
  split at hb
  · rename_i h' hh
    split at hb
    · rename_i l' hl
      cases hb
      have hlh : l ≤ h := by
        cases lo' with
        | none => simp only [Option.some.injEq] at hl; omega
        | some y =>
          obtain ⟨z, rfl, hz⟩ := trXo_some hlo
          exact (bnd_rel (W := W) (Nat.le_refl h) hl (trX_rel R F hz)).2
      have hhm : h ≤ m ∨ h = len := by
        cases hi' with
        | none => simp only [Option.some.injEq] at hh; exact .inr hh.symm
        | some y =>
          obtain ⟨z, rfl, hz⟩ := trXo_some hhi
          exact .inl (bnd_rel (W := W) (y := cap) hm hh (trX_rel R F hz)).2
      refine ⟨?_, hlh, hhm⟩
      unfold Instr.sliceBounds
      cases hi' with
      | none =>
        obtain rfl := trXo_none hhi
        simp only [Option.some.injEq] at hh
        subst hh
        cases lo' with
        | none =>
          obtain rfl := trXo_none hlo
          simp only [Option.some.injEq] at hl
          subst hl
          rfl
        | some y =>
          obtain ⟨z, rfl, hz⟩ := trXo_some hlo
          have B := (bnd_rel (W := W) (Nat.le_refl len) hl (trX_rel R F hz)).1
          simp only [Option.map_some, Option.map_none, pure_bind, Sem.run_bind, B, Result.andThen_ok, Sem.run_pure]
      | some u =>
        obtain ⟨z', rfl, hz'⟩ := trXo_some hhi
        have A := (bnd_rel (W := W) hm hh (trX_rel R F hz')).1
        cases lo' with
        | none =>
          obtain rfl := trXo_none hlo
          simp only [Option.some.injEq] at hl
          subst hl
          simp only [Option.map_some, Option.map_none, pure_bind, Sem.run_bind, A, Result.andThen_ok, Sem.run_pure]
        | some y =>
          obtain ⟨z, rfl, hz⟩ := trXo_some hlo
          have B := (bnd_rel (W := W) (Nat.le_refl h) hl (trX_rel R F hz)).1
          simp only [Option.map_some, pure_bind, Sem.run_bind, A, B, Result.andThen_ok, Sem.run_pure]
    · cases hb
  · cases hb

theorem extract_list (s : ByteArray) (l h : Nat) : (s.extract l h).data.toList = (s.data.toList.drop l).take (h - l) := Lib.extract_data s l h

theorem v_slstr (R : Rel c base ρ H W) (F : FRel c ρ fr a.tmps) {t : TypeId} {x : Operand} {x' : X} {lo hi : Option Operand} {lo' hi' : Option X} {v : AV}
    (ht : c.P.underlying t = some .string) (hx : trX c x = some x') (hlo : trXo c lo = some lo') (hhi : trXo c hi = some hi') (h : rSlstr fr (x'.ev fr) lo' hi' = some v) :
    ∃ v', (Instr.sliceAt t (a.eval x) (lo.map a.eval) (hi.map a.eval) none).run c.P W = .ok v' W ∧ VRel c ρ v v' := by
  unfold rSlstr at h
  have rx := trX_rel R F hx
  split at h
  · rename_i s hs
    rw [hs, VRel_str] at rx
    obtain ⟨b, hb, rfl⟩ := rx
    split at h
    · rename_i l h' hbn
      cases h
      have hsz : b.data.toList.length = b.size := rfl
      rw [hsz] at hbn
      obtain ⟨h1, h2, h3⟩ := bnds_rel R F false hlo hhi (Nat.le_refl _) hbn
      refine ⟨.string (b.extract l h'), ?_, VRel_str.2 ⟨_, rfl, extract_list b l h'⟩⟩
      rw [run_sliceAt_string _ _ _ _ _ _ ht, hb]
      simp only [Instr.slice, Sem.run_bind, run_underlying ht, Result.andThen_ok, Option.isSome_none, Bool.false_eq_true, if_false, h1, Sem.run_pure]
    · cases h
  · cases h

theorem v_slsl (R : Rel c base ρ H W) (F : FRel c ρ fr a.tmps) {t e : TypeId} {n : Nat} {x : Operand} {x' : X} {lo hi : Option Operand} {lo' hi' : Option X} {v : AV}
    (ht : c.P.underlying t = some (.slice e)) (hn : c.size e = some n) (hx : trX c x = some x') (hlo : trXo c lo = some lo') (hhi : trXo c hi = some hi') (h : rSlsl fr H n (x'.ev fr) lo' hi' none = some v) :
    ∃ v', (Instr.sliceAt t (a.eval x) (lo.map a.eval) (hi.map a.eval) none).run c.P W = .ok v' W ∧ VRel c ρ v v' := by
  have rx := trX_rel R F hx
  have hstep : ∀ (A : Option Addr) (ln cp l h' : Nat), (Instr.sliceBounds true ln cp (lo.map a.eval) (hi.map a.eval) none).run c.P W = .ok (l, h', cp) W →
      (Instr.sliceAt t (.slice A ln cp) (lo.map a.eval) (hi.map a.eval) none).run c.P W = .ok (.slice (if cp = l then A else A.map (·.add (l * n))) (h' - l) (cp - l)) W := by
    intro A ln cp l h' hb
    simp only [Instr.sliceAt, Instr.slice, Sem.run_bind, run_underlying ht, Result.andThen_ok, hb, run_size hn, Sem.run_pure]
  unfold rSlsl at h
  split at h
  · rename_i hs
    rw [hs, VRel_nils] at rx
    simp only [] at h
    split at h
    · rename_i lh hbn
      cases h
      obtain ⟨l, h'⟩ := lh
      obtain ⟨h1, h2, h3⟩ := bnds_rel R F true hlo hhi (Nat.le_refl 0) hbn
      refine ⟨_, by rw [rx]; exact hstep _ _ _ _ _ h1, VRel_nils.2 ?_⟩
      have : h' = 0 := by omega
      subst this
      have : l = 0 := by omega
      subst this
      rfl
    · cases h
  · rename_i b o len sz' hs
    rw [hs, VRel_sl] at rx
    obtain ⟨p, off, cap, hp, hv, q1, q2, q3, q4, q5, q6⟩ := rx
    split at h
    · rename_i cs k hg
      cases hc : (Nat.beq n sz' && !Nat.beq n 0) with
      | false => rw [hc] at h; cases h
      | true =>
        rw [hc] at h
        simp only [nbeq, Bool.and_eq_true, decide_eq_true_eq, Bool.not_eq_true', decide_eq_false_iff_not] at hc
        obtain ⟨rfl, hn0⟩ := hc
        simp only [cond_true] at h
        split at h
        · rename_i l h' hbn
          cases h
          obtain ⟨xb, hxb, hr⟩ := R.blk b p hp
          rw [hg] at hxb
          cases hxb
          have hlen : cs.length = p.n := hr.1
          rw [hlen] at hbn
          have hle : (p.n - o) / n ≤ cap := by
            rw [Nat.div_le_iff_le_mul_add_pred (by omega)]
            have := q4
            have h2 : n * cap = cap * n := Nat.mul_comm _ _
            omega
          obtain ⟨h1, h2, h3⟩ := bnds_rel R F true hlo hhi hle hbn
          have hcap : h' ≤ cap := by rcases h3 with h3 | h3 <;> omega
          refine ⟨_, by rw [hv]; exact hstep _ _ _ _ _ h1, VRel_sl.2 ⟨p, if cap = l then off else off + l * n, cap - l, hp, ?_, by omega, ?_, ?_, ?_, ?_, q6⟩⟩
          · by_cases hcl : cap = l
            · simp [hcl]
            · simp only [if_neg hcl, Option.map_some, Addr.add_lit]
          · by_cases hcl : cap = l
            · right; omega
            · rw [if_neg hcl]
              rcases q2 with q2 | q2
              · left; omega
              · omega
          · have : (cap - l) * n = cap * n - l * n := Nat.sub_mul ..
            have : l * n ≤ cap * n := Nat.mul_le_mul_right _ (by omega)
            omega
          · have : (cap - l) * n = cap * n - l * n := Nat.sub_mul ..
            have : l * n ≤ cap * n := Nat.mul_le_mul_right _ (by omega)
            omega
          · have e1 : (h' - l) * n = h' * n - l * n := Nat.sub_mul ..
            have e2 : l * n ≤ h' * n := Nat.mul_le_mul_right _ h2
            rcases h3 with h3 | h3
            · have e3 : h' * n ≤ (p.n - o) / n * n := Nat.mul_le_mul_right _ h3
              have e4 : (p.n - o) / n * n ≤ p.n - o := Nat.div_mul_le_self _ _
              omega
            · subst h3; omega
        · cases h
    · cases h
  · cases h


theorem v_slsl3 (R : Rel c base ρ H W) (F : FRel c ρ fr a.tmps) {t e : TypeId} {n : Nat} {x mx : Operand} {x' mx' : X} {lo hi : Option Operand} {lo' hi' : Option X} {v : AV}
    (ht : c.P.underlying t = some (.slice e)) (hn : c.size e = some n) (hx : trX c x = some x') (hlo : trXo c lo = some lo') (hhi : trXo c hi = some hi') (hmx : trX c mx = some mx')
    (h : rSlsl fr H n (x'.ev fr) lo' hi' (some mx') = some v) :
    ∃ v', (Instr.sliceAt t (a.eval x) (lo.map a.eval) (hi.map a.eval) (some (a.eval mx))).run c.P W = .ok v' W ∧ VRel c ρ v v' := by
  have rx := trX_rel R F hx
  have rm := trX_rel R F hmx
  unfold rSlsl at h
  split at h
  · cases h
  · rename_i b o len sz' hs
    rw [hs, VRel_sl] at rx
    obtain ⟨p, off, cap, hp, hv, q1, q2, q3, q4, q5, q6⟩ := rx
    split at h
    · rename_i cs k hg
      cases hc : (Nat.beq n sz' && !Nat.beq n 0) with
      | false => rw [hc] at h; cases h
      | true =>
        rw [hc] at h
        simp only [nbeq, Bool.and_eq_true, decide_eq_true_eq, Bool.not_eq_true', decide_eq_false_iff_not] at hc
        obtain ⟨rfl, hn0⟩ := hc
        simp only [cond_true] at h
        obtain ⟨xb, hxb, hr⟩ := R.blk b p hp
        rw [hg] at hxb
        cases hxb
        have hlen : cs.length = p.n := hr.1
        rw [hlen] at h
        have hle : (p.n - o) / n ≤ cap := by
          rw [Nat.div_le_iff_le_mul_add_pred (by omega)]
          have := q4
          have h2 : n * cap = cap * n := Nat.mul_comm _ _
          omega
        unfold rSl3 at h
        split at h
        · rename_i m' hm'
          have B1 := bnd_rel (W := W) hle hm' rm
          split at h
          · rename_i hx'
            obtain ⟨z, rfl, hz⟩ := trXo_some hhi
            split at h
            · rename_i lh hbn
              cases h
              obtain ⟨l, h'⟩ := lh
              unfold bnds at hbn
              simp only [] at hbn
              split at hbn
              · rename_i h'' hh
                have B2 := bnd_rel (W := W) (Nat.le_refl m') hh (trX_rel R F hz)
                split at hbn
                · rename_i l' hl
                  have hb : (Instr.sliceBounds true len cap (lo.map a.eval) (Option.map a.eval (some z)) (some (a.eval mx))).run c.P W = .ok (l', h'', m') W := by
                    cases lo' with
                    | none =>
                      obtain rfl := trXo_none hlo
                      simp only [Option.some.injEq] at hl
                      subst hl
                      simp only [Instr.sliceBounds, Sem.run_bind, Result.andThen_ok, Option.map_some, Option.map_none, B1.1, B2.1, Sem.run_pure]
                    | some y =>
                      obtain ⟨z', rfl, hz'⟩ := trXo_some hlo
                      have B3 := (bnd_rel (W := W) (Nat.le_refl h'') hl (trX_rel R F hz')).1
                      simp only [Instr.sliceBounds, Sem.run_bind, Result.andThen_ok, Option.map_some, B1.1, B2.1, B3, Sem.run_pure]
                  refine ⟨.slice (if m' = l' then some ⟨p.c, off, none⟩ else Option.map (fun A : Addr => A.add (l' * n)) (some (⟨p.c, off, none⟩ : Addr))) (h'' - l') (m' - l'), ?_, VRel.undef⟩
                  rw [hv]
                  simp only [Instr.sliceAt, Instr.slice, Sem.run_bind, run_underlying ht, Result.andThen_ok, hb, run_size hn, Sem.run_pure]
                · cases hbn
              · cases hbn
            · cases h
          · cases h
        · cases h
    · cases h
  · cases h

theorem v_slarr (R : Rel c base ρ H W) (F : FRel c ρ fr a.tmps) {t e : TypeId} {n s : Nat} {x : Operand} {x' : X} {lo hi : Option Operand} {lo' hi' : Option X} {v : AV}
    (ht : c.P.underlying t = some (.array n e)) (hn : c.size e = some s) (hx : trX c x = some x') (hlo : trXo c lo = some lo') (hhi : trXo c hi = some hi') (h : rSlarr fr H n s (x'.ev fr) lo' hi' = some v) :
    ∃ v', (Instr.sliceAt t (a.eval x) (lo.map a.eval) (hi.map a.eval) none).run c.P W = .ok v' W ∧ VRel c ρ v v' := by
  have rx := trX_rel R F hx
  unfold rSlarr at h
  split at h
  · rename_i b o hs
    rw [hs, VRel_ptr] at rx
    obtain ⟨p, hp, hv⟩ := rx
    split at h
    · rename_i cs k hg
      cases hc : (Nat.beq (o + n * s) cs.length && !Nat.beq s 0) with
      | false => rw [hc] at h; cases h
      | true =>
        rw [hc] at h
        simp only [nbeq, Bool.and_eq_true, decide_eq_true_eq, Bool.not_eq_true', decide_eq_false_iff_not] at hc
        obtain ⟨hc1, hn0⟩ := hc
        simp only [cond_true] at h
        split at h
        · rename_i l h' hbn
          cases h
          obtain ⟨xb, hxb, hr⟩ := R.blk b p hp
          rw [hg] at hxb
          cases hxb
          have hlen : cs.length = p.n := hr.1
          obtain ⟨h1, h2, h3⟩ := bnds_rel R F false hlo hhi (Nat.le_refl n) hbn
          have hle : h' ≤ n := by rcases h3 with h3 | h3 <;> omega
          have em : n * s - l * s = (n - l) * s := (Nat.sub_mul ..).symm
          have e1 : l * s ≤ n * s := Nat.mul_le_mul_right _ (by omega)
          have e2 : h' * s ≤ n * s := Nat.mul_le_mul_right _ hle
          have e3 : (h' - l) * s = h' * s - l * s := Nat.sub_mul ..
          have e4 : l * s ≤ h' * s := Nat.mul_le_mul_right _ h2
          refine ⟨.slice (some (if n = l then ⟨p.c, p.s + o, none⟩ else (⟨p.c, p.s + o, none⟩ : Addr).add (l * s))) (h' - l) (n - l), ?_, VRel_sl.2 ⟨p, if n = l then p.s + o else p.s + o + l * s, n - l, hp, ?_, by omega, ?_, by omega, by omega, by omega, by omega⟩⟩
          · rw [hv]
            simp only [Instr.sliceAt, Sem.run_bind, run_underlying ht, Result.andThen_ok, Instr.sureAddr, Sem.run_pure, h1, run_size hn]
          · by_cases hcl : n = l
            · simp [hcl]
            · simp only [if_neg hcl, Addr.add_lit]
          · by_cases hcl : n = l
            · right; omega
            · rw [if_neg hcl]; left; omega
        · cases h
    · cases h
  · cases h

theorem v_b2s (R : Rel c base ρ H W) {s d e : TypeId} {x v : AV} {w : Value} (hs : c.P.underlying s = some (.slice e)) (he : c.P.underlying e = some (.int .u8)) (hd : c.P.underlying d = some .string)
    (hx : VRel c ρ x w) (h : rB2s H x = some v) : ∃ v', (convert s d w).run c.P W = .ok v' W ∧ VRel c ρ v v' := by
  unfold rB2s at h
  split at h
  · rw [VRel_nils] at hx
    subst hx
    cases h
    exact ⟨.string .empty, by rw [run_convert_bytes_string W s d e none 0 0 hs he hd]; rfl, VRel_str.2 ⟨_, rfl, rfl⟩⟩
  · rename_i b o len sz
    rw [nbeq] at h
    by_cases hz : sz = 1
    · rw [decide_eq_true hz] at h
      subst hz
      simp only [cond_true] at h
      rw [VRel_sl] at hx
      obtain ⟨p, off, cap, hp, rfl, q1, q2, q3, q4, q5, q6⟩ := hx
      rw [run_convert_bytes_string W s d e _ _ _ hs he hd]
      have hoff : off = p.s + o ∨ len = 0 := by rcases q2 with h | h
                                                · exact .inl h
                                                · exact .inr (by omega)
      unfold strOf at h
      split at h
      · rename_i cs hcs
        split at h
        · rename_i l hl
          cases h
          obtain ⟨ws, h1, h2, h3, h4⟩ := ld_run R hp hcs
          have hw : ∀ (cs : List AV) (ws : List Value) (l : List UInt8), All2 (SRel c ρ) cs ws → bytesOf cs = some l → ∃ ns : List Int, ws = ns.map (Value.int .u8) ∧ ns.map (fun n => UInt8.ofNat n.toNat) = l := by
            intro cs
            induction cs with
            | nil =>
              intro ws l hr hb
              match ws, hr with
              | [], _ => simp only [bytesOf] at hb; cases hb; exact ⟨[], rfl, rfl⟩
            | cons q cs ih =>
              intro ws l hr hb
              match ws, hr with
              | w :: ws, ⟨r1, r2⟩ =>
                simp only [bytesOf] at hb
                split at hb
                · rename_i ch hch
                  split at hb
                  · rename_i l' hl'
                    cases hb
                    obtain ⟨ns, rfl, e2⟩ := ih ws l' r2 hl'
                    unfold byteOf at hch
                    split at hch
                    · rename_i k n
                      split at hch
                      · split at hch
                        · rename_i m
                          cases hch
                          simp only [SRel, BRel] at r1
                          exact ⟨(Int.ofNat m) :: ns, by simp [r1], by simp [e2]⟩
                        · cases hch
                      · cases hch
                    · cases hch
                  · cases hb
                · cases hb
          obtain ⟨ns, e1, e2⟩ := hw cs ws l h2 hl
          have hload : (loadCells ⟨p.c, off, none⟩ len).run c.P W = .ok (ns.map (Value.int .u8)).toArray W := by
            rcases hoff with rfl | h0
            · rw [h4, e1]
            · have : ws = [] := List.length_eq_zero_iff.1 (by omega)
              rw [h0]
              rw [this] at e1
              rw [← e1]
              rfl
          refine ⟨_, run_bytesToString W _ _ _ ns hload, VRel_str.2 ⟨_, rfl, ?_⟩⟩
          rw [foldl_push_bytes]
          simpa using e2
        · cases h
      · cases h
    · rw [decide_eq_false hz] at h; cases h
  · cases h

theorem v_ixstr {t : TypeId} {x i v : AV} {w u : Value} (ht : c.P.underlying t = some .string) (hx : VRel c ρ x w) (hi : VRel c ρ i u) (h : rIxstr x i = some v) :
    ∃ v', (Instr.index t w u).run c.P W = .ok v' W ∧ VRel c ρ v v' := by
  unfold rIxstr at h
  split at h
  · rename_i s
    rw [VRel_str] at hx
    obtain ⟨b, rfl, rfl⟩ := hx
    split at h
    · rename_i j hj
      unfold idx at hj
      split at hj
      · rename_i n hn
        rw [nblt] at hj
        by_cases hlt : n < b.data.toList.length
        · rw [decide_eq_true hlt] at hj
          cases hj
          obtain ⟨k, rfl⟩ := natOf_rel hn hi
          split at h
          · rename_i ch hch
            cases h
            have hsz : j < b.size := hlt
            refine ⟨_, ?_, VRel_int.2 rfl⟩
            rw [run_index_string W t b k _ ht, dif_pos ⟨by omega, by omega⟩]
            congr 2
            have e : b.data.toList[j]? = some b[j] := by
              rw [List.getElem?_eq_getElem hlt]; rfl
            rw [e] at hch
            cases hch
            rfl
          · cases h
        · rw [decide_eq_false hlt] at hj; cases hj
      · cases hj
    · cases h
  · cases h

theorem idx_rel {i : AV} {n j : Nat} {u : Value} (h : idx i n = some j) (r : VRel c ρ i u) : j < n ∧ ∃ k, u = .int k (j : Int) := by
  unfold idx at h
  split at h
  · rename_i m hm
    rw [nblt] at h
    by_cases hlt : m < n
    · rw [decide_eq_true hlt] at h
      cases h
      exact ⟨hlt, natOf_rel hm r⟩
    · rw [decide_eq_false hlt] at h; cases h
  · cases h

theorem v_iasl {t e : TypeId} {n : Nat} {x i v : AV} {w u : Value} (ht : c.P.underlying t = some (.slice e)) (hn : c.size e = some (n + 1)) (hx : VRel c ρ x w) (hi : VRel c ρ i u) (h : rIasl (n + 1) x i = some v) :
    ∃ v', (Instr.indexAt t w u).run c.P W = .ok v' W ∧ VRel c ρ v v' := by
  unfold rIasl at h
  split at h
  · rename_i b o len sz'
    rw [nbeq] at h
    by_cases hz : n + 1 = sz'
    · rw [decide_eq_true hz] at h
      subst hz
      simp only [cond_true] at h
      split at h
      · rename_i j hj
        cases h
        obtain ⟨hlt, k, rfl⟩ := idx_rel hj hi
        rw [VRel_sl] at hx
        obtain ⟨p, off, cap, hp, rfl, q1, q2, q3, q4, q5, q6⟩ := hx
        refine ⟨.pointer (some ⟨p.c, p.s + o + j * (n + 1), none⟩), ?_, VRel_ptr.2 ⟨p, hp, by rw [Nat.add_assoc]⟩⟩
        have : off = p.s + o := by rcases q2 with h | h <;> omega
        subst this
        have h1 : (0 : Int) ≤ (j : Int) ∧ (j : Int) < (len : Int) := ⟨by omega, by omega⟩
        simp only [Instr.indexAt, asIntOf, Sem.run_bind, Sem.run_pure, Result.andThen_ok, run_underlying ht, h1, and_self, if_true, run_size hn, Addr.add_lit, Int.toNat_natCast]
      · cases h
    · rw [decide_eq_false hz] at h; cases h
  · cases h

theorem v_iaarr {t e : TypeId} {len n : Nat} {x i v : AV} {w u : Value} (ht : c.P.underlying t = some (.array len e)) (hn : c.size e = some (n + 1)) (hx : VRel c ρ x w) (hi : VRel c ρ i u) (h : rIaarr len (n + 1) x i = some v) :
    ∃ v', (Instr.indexAt t w u).run c.P W = .ok v' W ∧ VRel c ρ v v' := by
  unfold rIaarr at h
  split at h
  · rename_i b o
    split at h
    · rename_i j hj
      cases h
      obtain ⟨hlt, k, rfl⟩ := idx_rel hj hi
      rw [VRel_ptr] at hx
      obtain ⟨p, hp, rfl⟩ := hx
      refine ⟨.pointer (some ⟨p.c, p.s + o + j * (n + 1), none⟩), ?_, VRel_ptr.2 ⟨p, hp, by rw [Nat.add_assoc]⟩⟩
      have h1 : (0 : Int) ≤ (j : Int) ∧ (j : Int) < (len : Int) := ⟨by omega, by omega⟩
      simp only [Instr.indexAt, asIntOf, Sem.run_bind, Sem.run_pure, Result.andThen_ok, run_underlying ht, Instr.sureAddr, h1, and_self, if_true, run_size hn, Addr.add_lit, Int.toNat_natCast]
    · cases h
  · cases h

end
end Go.Dp
