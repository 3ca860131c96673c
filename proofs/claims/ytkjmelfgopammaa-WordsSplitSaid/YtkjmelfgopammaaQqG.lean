/- Operations that leave the heap alone, the rest of them. Conditions: none. -/
import Derived.Test.YtkjmelfgopammaaQqF
import Derived.Laws.StructEq
namespace Go.Dp
open Go.RowKit

section
variable {c : Cx} {base : Nat} {ρ : Rho} {H : Heap} {W : World} {fr : List AV} {a : Act}

theorem SRel.sc {x : AV} {v : Value} (h : SRel c ρ x v) (hu : x ≠ .undef) : x.isSc = true := by
  cases x <;> first | rfl | exact absurd rfl hu | (simp only [SRel, BRel] at h)

theorem SRel.val {x : AV} {v : Value} (h : SRel c ρ x v) : VRel c ρ x v := by
  by_cases hu : x = .undef
  · subst hu; exact VRel.undef
  · exact SRel.v (SRel.sc h hu) h
theorem SRel.val1 {x : AV} {v : Value} (h : SRel c ρ x v) : VRel1 c ρ x v := by
  by_cases hu : x = .undef
  · subst hu; simp only [VRel1, SRel]
  · exact SRel.v1 (SRel.sc h hu) h
theorem VRel1.val {x : AV} {v : Value} (h : VRel1 c ρ x v) : VRel c ρ x v := by
  cases x with
  | tup l => simp only [VRel1, SRel, BRel] at h
  | _ => simp only [VRel]; exact h

/-- The part of an aggregate. -/
theorem part_rel {t : TypeId} {g : Bool} {n off : Nat} {l : List AV} {cs : Array Value} {v : AV} (hg : c.agg t = some g) (hn : c.size t = some n) (hr : All2 (SRel c ρ) l cs.toList) (h : partOf g n off l = some v) :
    ∃ v', (part t cs off).run c.P W = .ok v' W ∧ VRel c ρ v v' := by
  unfold partOf at h
  cases g with
  | true =>
    simp only [cond_true, nble] at h
    by_cases hle : off + n ≤ l.length
    · rw [decide_eq_true hle] at h
      cases h
      refine ⟨.agg (cs.extract off (off + n)), ?_, VRel_agg.2 ⟨_, rfl, ?_⟩⟩
      · simp only [part, Sem.run_bind, run_agg hg, Result.andThen_ok, if_true, run_size hn, Sem.run_pure]
      · rw [Array.toList_extract]
        simp only [List.extract_eq_take_drop, Nat.add_sub_cancel_left]
        exact (hr.drop off).take n
    · rw [decide_eq_false hle] at h; cases h
  | false =>
    simp only [cond_false] at h
    obtain ⟨v', hv, hr'⟩ := hr.get h
    refine ⟨v', ?_, hr'.val⟩
    rw [Array.getElem?_toList] at hv
    simp only [part, Sem.run_bind, run_agg hg, Result.andThen_ok, Bool.false_eq_true, if_false, hv, Sem.run_pure]

theorem v_fld {t : TypeId} {fs : Array Field} {i : Nat} {fd : Field} {g : Bool} {n : Nat} {x v : AV} {w : Value} (ht : c.P.underlying t = some (.struct fs)) (hf : fs[i]? = some fd) (hg : c.agg fd.type = some g) (hn : c.size fd.type = some n)
    (hx : VRel c ρ x w) (h : rFld g n fd.offset x = some v) : ∃ v', (Instr.field t w i).run c.P W = .ok v' W ∧ VRel c ρ v v' := by
  unfold rFld at h
  split at h
  · rw [VRel_agg] at hx
    obtain ⟨cs, rfl, hr⟩ := hx
    obtain ⟨v', h1, h2⟩ := part_rel (W := W) hg hn hr h
    exact ⟨v', by simp only [Instr.field, Sem.run_bind, run_underlying ht, Result.andThen_ok, hf, asAgg, Sem.run_pure, h1], h2⟩
  · cases h

theorem v_ixagg {t e : TypeId} {len n : Nat} {g : Bool} {x i v : AV} {w u : Value} (ht : c.P.underlying t = some (.array len e)) (hg : c.agg e = some g) (hn : c.size e = some n) (hx : VRel c ρ x w) (hi : VRel c ρ i u)
    (h : rIxagg len g n x i = some v) : ∃ v', (Instr.index t w u).run c.P W = .ok v' W ∧ VRel c ρ v v' := by
  unfold rIxagg at h
  split at h
  · rw [VRel_agg] at hx
    obtain ⟨cs, rfl, hr⟩ := hx
    split at h
    · rename_i j hj
      obtain ⟨hlt, k, rfl⟩ := idx_rel hj hi
      obtain ⟨v', h1, h2⟩ := part_rel (W := W) hg hn hr h
      have q : (0 : Int) ≤ (j : Int) ∧ (j : Int) < (len : Int) := ⟨by omega, by omega⟩
      exact ⟨v', by simp only [Instr.index, asIntOf, Sem.run_bind, run_underlying ht, Result.andThen_ok, Sem.run_pure, q, and_self, if_true, run_size hn, Int.toNat_natCast, h1], h2⟩
    · cases h
  · cases h

theorem v_faddr {s : TypeId} {fs : Array Field} {i o n : Nat} {x v : AV} {w : Value} (hs : c.P.underlying s = some (.struct fs)) (hf : fieldOf c fs i = some (o, n + 1)) (hx : VRel c ρ x w) (h : rFaddr o x = some v) :
    ∃ v', (Instr.fieldAt s w i).run c.P W = .ok v' W ∧ VRel c ρ v v' := by
  unfold fieldOf at hf
  split at hf
  · rename_i f hfi
    split at hf
    · rename_i m hm
      cases hf
      unfold rFaddr at h
      split at h
      · rename_i b o'
        rw [VRel_ptr] at hx
        obtain ⟨p, hp, rfl⟩ := hx
        cases h
        refine ⟨.pointer (some ⟨p.c, p.s + o' + f.offset, none⟩), ?_, VRel_ptr.2 ⟨p, hp, by rw [Nat.add_assoc]⟩⟩
        simp only [Instr.fieldAt, Sem.run_bind, run_underlying hs, Result.andThen_ok, hfi, Instr.sureAddr, Sem.run_pure, fieldPlace, run_size hm, Nat.succ_ne_zero, if_false, Addr.add_lit]
      · cases h
    · cases hf
  · cases hf

theorem v_lens {t ty : TypeId} {x v : AV} {w : Value} {ts : Array TypeId} {xs : Array Value} (h0 : ts[0]? = some t) (h1 : xs[0]? = some w) (ht : c.P.underlying t = some .string) (hx : VRel c ρ x w) (h : rLens x = some v) :
    ∃ v', (Builtin.len_ ts ty xs).run c.P W = .ok v' W ∧ VRel c ρ v v' := by
  unfold rLens at h
  split at h
  · rw [VRel_str] at hx
    obtain ⟨b, rfl, rfl⟩ := hx
    cases h
    exact ⟨.int .i64 b.size, by simp only [Builtin.len_, h0, h1, Sem.run_bind, run_underlying ht, Result.andThen_ok]; rfl, VRel_int.2 rfl⟩
  · cases h

theorem v_lensl {t e ty : TypeId} {x v : AV} {w : Value} {ts : Array TypeId} {xs : Array Value} (h0 : ts[0]? = some t) (h1 : xs[0]? = some w) (ht : c.P.underlying t = some (.slice e)) (hx : VRel c ρ x w) (h : rLensl x = some v) :
    ∃ v', (Builtin.len_ ts ty xs).run c.P W = .ok v' W ∧ VRel c ρ v v' := by
  unfold rLensl at h
  split at h
  · rw [VRel_nils] at hx
    subst hx
    cases h
    exact ⟨.int .i64 0, by simp only [Builtin.len_, h0, h1, Sem.run_bind, run_underlying ht, Result.andThen_ok]; rfl, VRel_int.2 rfl⟩
  · rename_i b o l s
    rw [VRel_sl] at hx
    obtain ⟨p, off, cap, hp, rfl, _⟩ := hx
    cases h
    exact ⟨.int .i64 l, by simp only [Builtin.len_, h0, h1, Sem.run_bind, run_underlying ht, Result.andThen_ok]; rfl, VRel_int.2 rfl⟩
  · cases h

theorem v_lenm {t k e ty : TypeId} {x v : AV} {w : Value} {ts : Array TypeId} {xs : Array Value} (R : Rel c base ρ H W) (h0 : ts[0]? = some t) (h1 : xs[0]? = some w) (ht : c.P.underlying t = some (.map k e)) (hx : VRel c ρ x w) (h : rLenm H x = some v) :
    ∃ v', (Builtin.len_ ts ty xs).run c.P W = .ok v' W ∧ VRel c ρ v v' := by
  unfold rLenm entries at h
  split at h
  · rename_i es hes
    cases h
    split at hes
    · cases hes
      rw [VRel_nilm] at hx
      subst hx
      exact ⟨.int .i64 0, by simp only [Builtin.len_, h0, h1, Sem.run_bind, run_underlying ht, Result.andThen_ok]; rfl, VRel_int.2 rfl⟩
    · rename_i b
      rw [VRel_map] at hx
      obtain ⟨p, hp, rfl⟩ := hx
      split at hes
      · rename_i es' cl hb
        cases hes
        obtain ⟨xb, hxb, hr⟩ := R.blk b p hp
        rw [hb] at hxb
        cases hxb
        obtain ⟨_, _, ms, h3, h4⟩ := hr
        have hl := h4.length
        refine ⟨.int .i64 ms.size, ?_, VRel_int.2 (by rw [hl]; simp)⟩
        simp only [Builtin.len_, h0, h1, Sem.run_bind, run_underlying ht, Result.andThen_ok, getObj, Sem.run, h3]
        rfl
      · cases hes
    · cases hes
  · cases h

theorem v_un {op : UnOp} {x v : AV} {w : Value} (hx : VRel c ρ x w) (h : un op x = some v) : ∃ v', (Op.unary op w).run c.P W = .ok v' W ∧ VRel c ρ v v' := by
  unfold un at h
  split at h
  · rename_i k n
    rw [VRel_int] at hx
    subst hx
    split at h
    · cases h; exact ⟨.int k (k.wrap (0 - n)), rfl, VRel_int.2 (by rw [wr_eq])⟩
    · cases h
      refine ⟨_, rfl, VRel_int.2 ?_⟩
      rw [wr_eq]
      cases k <;> rfl
    · cases h
  · rename_i b
    rw [VRel_bool] at hx
    subst hx
    split at h
    · cases h; exact ⟨_, rfl, VRel_bool.2 rfl⟩
    · cases h
  · cases h

theorem v_cint {s d : TypeId} {j k : IntKind} {x v : AV} {w : Value} (hs : c.P.underlying s = some (.int j)) (hd : c.P.underlying d = some (.int k)) (hx : VRel c ρ x w) (h : rCint k x = some v) :
    ∃ v', (convert s d w).run c.P W = .ok v' W ∧ VRel c ρ v v' := by
  unfold rCint at h
  split at h
  · rename_i k' n
    rw [VRel_int] at hx
    subst hx
    cases h
    exact ⟨.int k (k.wrap n), by simp [convert, run_underlying hs, run_underlying hd, Conv.intToInt], VRel_int.2 (by rw [wr_eq])⟩
  · cases h

/-- A value that is found under a key. -/
theorem find_rel {kt : TypeId} {str : Bool} (hk : keyStr c.P kt = some str) {k : AV} {w : Value} (hw : VRel c ρ k w) :
    ∀ {es : List (AV × AV × Nat)} {ms : List MapEntry} {i : Nat} {r : Option (Nat × AV × Nat)}, All2 (EntRel c ρ) es ms → findE str k es i = some r →
      ∃ d r', c.P.underlying kt = some d ∧ Instr.findNow d w ms i = some r' ∧
        (match r with
         | none => r' = none
         | some (j, v, born) => ∃ v', r' = some (j, v') ∧ VRel1 c ρ v v' ∧ v.isV = true ∧ i ≤ j ∧ ∃ k' e, es[j - i]? = some (k', v, born) ∧ ms[j - i]? = some e ∧ EntRel c ρ (k', v, born) e ∧ Instr.sameBits 10000 e.key w = true ∧ e.val = v')
  | [], [], i, r, _, h => by
    unfold keyStr at hk
    split at hk
    · rename_i hu; cases hk; simp only [findE] at h; cases h; exact ⟨_, none, hu, rfl, rfl⟩
    · rename_i j hu; cases hk; simp only [findE] at h; cases h; exact ⟨_, none, hu, rfl, rfl⟩
    · cases hk
  | (k', v, born) :: es, m :: ms, i, r, ⟨he, hr⟩, h => by
    obtain ⟨e1, e2, e3, e4, e5⟩ := he
    simp only [] at e1 e2 e3 e4 e5
    have key : ∀ b, keyEq str k k' = some b → ∃ d, c.P.underlying kt = some d ∧ Instr.sameNow d w m.key = some b ∧ (b = true → Instr.sameBits 10000 m.key w = true) := by
      intro b hb
      unfold keyEq at hb
      split at hb
      · rename_i x
        split at hb
        · rename_i y
          cases str with
          | true =>
            simp only [cond_true, beqB_eq] at hb
            rw [VRel_str] at hw
            obtain ⟨bx, rfl, rfl⟩ := hw
            simp only [SRel, BRel] at e1
            obtain ⟨by', e1, rfl⟩ := e1
            unfold keyStr at hk
            split at hk
            · rename_i hu
              refine ⟨_, hu, ?_, ?_⟩
              · rw [e1]
                cases hb
                simp only [Instr.sameNow]
                congr 1
                rw [beq_toListBytes, toList_eq, toList_eq]
              · intro hbt
                subst hbt
                rw [e1]
                have hbt : bx.data.toList = by'.data.toList := by simpa using hb
                have : by' = bx := Go.WideShapes.bytes_inj hbt.symm
                rw [this]
                simp only [Instr.sameBits, beq_toListBytes, beq_self_eq_true]
            · cases hk
            · cases hk
          | false => cases hb
        · cases hb
      · rename_i kx x
        split at hb
        · rename_i ky y
          cases str with
          | true => cases hb
          | false =>
            simp only [Bool.not_false, Bool.true_and, kbeq_eq] at hb
            by_cases hkk : kx = ky
            · subst hkk
              simp only [decide_true, cond_true, ibeq_eq] at hb
              rw [VRel_int] at hw
              subst hw
              simp only [SRel, BRel] at e1
              unfold keyStr at hk
              split at hk
              · cases hk
              · rename_i j hu
                refine ⟨_, hu, ?_, ?_⟩
                · rw [e1]; cases hb; simp [Instr.sameNow]
                · intro hbt
                  subst hbt
                  rw [e1]
                  have : x = y := by simpa using hb
                  subst this
                  simp [Instr.sameBits]
              · cases hk
            · rw [decide_eq_false hkk] at hb; cases hb
        · cases hb
      · cases hb
    simp only [findE] at h
    split at h
    · rename_i hq
      cases h
      obtain ⟨d, h1, h2, h3⟩ := key true hq
      refine ⟨d, some (i, m.val), h1, by simp only [Instr.findNow, h2], m.val, rfl, e3, e4, Nat.le_refl _, k', m, by simp, by simp, ⟨e1, e2, e3, e4, e5⟩, h3 rfl, rfl⟩
    · rename_i hq
      obtain ⟨d, h1, h2, _⟩ := key false hq
      obtain ⟨d', r', g1, g2, g3⟩ := find_rel hk hw hr h
      rw [h1] at g1
      cases g1
      refine ⟨d, r', h1, by simp only [Instr.findNow, h2, g2], ?_⟩
      cases r with
      | none => exact g3
      | some q =>
        obtain ⟨j, v1, b1⟩ := q
        obtain ⟨v', z1, z2, z3, z4, kk, e, z5, z6, z7, z8⟩ := g3
        refine ⟨v', z1, z2, z3, by omega, kk, e, ?_, ?_, z7, z8⟩
        · rw [show j - i = (j - (i + 1)) + 1 by omega]; simpa using z5
        · rw [show j - i = (j - (i + 1)) + 1 by omega]; simpa using z6
    · cases h
  | [], _ :: _, _, _, h, _ => h.elim
  | _ :: _, [], _, _, h, _ => h.elim

end
end Go.Dp
