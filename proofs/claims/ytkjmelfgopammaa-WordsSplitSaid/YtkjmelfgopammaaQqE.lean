/- Operations that leave the heap alone, one by one. Conditions: none. -/
import Derived.Test.YtkjmelfgopammaaQqD
import Derived.Laws.Strings
namespace Go.Dp
open Go.RowKit

section inv
variable {c : Cx} {ρ : Rho} {v : Value}
theorem VRel_bool {b : Bool} : VRel c ρ (.bool b) v ↔ v = .bool b := by simp only [VRel, VRel1, SRel, BRel]
theorem VRel_int {k : IntKind} {n : Int} : VRel c ρ (.int k n) v ↔ v = .int k n := by simp only [VRel, VRel1, SRel, BRel]
theorem VRel_str {s : List UInt8} : VRel c ρ (.str s) v ↔ ∃ b : ByteArray, v = .string b ∧ b.data.toList = s := by simp only [VRel, VRel1, SRel, BRel]
theorem VRel_nilp : VRel c ρ .nilp v ↔ v = .pointer none := by simp only [VRel, VRel1, SRel, BRel]
theorem VRel_ptr {b o : Nat} : VRel c ρ (.ptr b o) v ↔ ∃ p, ρ b = some p ∧ v = .pointer (some ⟨p.c, p.s + o, none⟩) := by simp only [VRel, VRel1, SRel, BRel]
theorem VRel_nils : VRel c ρ .nils v ↔ v = .slice none 0 0 := by simp only [VRel, VRel1, SRel, BRel]
theorem VRel_sl {b o len sz : Nat} : VRel c ρ (.sl b o len sz) v ↔ ∃ p off cap, ρ b = some p ∧ v = .slice (some ⟨p.c, off, none⟩) len cap ∧ len ≤ cap ∧ (off = p.s + o ∨ cap = 0) ∧
      o + cap * sz ≤ p.n + p.e ∧ p.n ≤ o + cap * sz ∧ o + len * sz ≤ p.n ∧ 0 < sz := by simp only [VRel, VRel1, SRel, BRel]
theorem VRel_nilm : VRel c ρ .nilm v ↔ v = .map none := by simp only [VRel, VRel1, SRel, BRel]
theorem VRel_map {b : Nat} : VRel c ρ (.map b) v ↔ ∃ p, ρ b = some p ∧ v = .map (some p.c) := by simp only [VRel, VRel1, SRel, BRel]
theorem VRel_nilf : VRel c ρ .nilf v ↔ v = .nilFunc := by simp only [VRel, VRel1, SRel, BRel]
theorem VRel_nili : VRel c ρ .nili v ↔ v = .nilIface := by simp only [VRel, VRel1, SRel, BRel]
theorem VRel_fn {f : Nat} {caps : List AV} : VRel c ρ (.fn f caps) v ↔ ∃ g cs, c.fm g = some f ∧ v = .func (.func g) #[] cs ∧ All2 (BRel ρ) caps cs.toList := by simp only [VRel, VRel1, SRel]
theorem VRel_agg {l : List AV} : VRel c ρ (.agg l) v ↔ ∃ cs, v = .agg cs ∧ All2 (SRel c ρ) l cs.toList := by simp only [VRel, VRel1]
theorem VRel_tup {l : List AV} : VRel c ρ (.tup l) v ↔ ∃ vs, v = .tuple vs ∧ All2 (VRel1 c ρ) l vs.toList := by simp only [VRel]
end inv

theorem run_info {P : Program} {t : TypeId} {i : TypeInfo} (h : P.info? t = some i) (w : World) : (typeInfo t).run P w = .ok i w := by simp [typeInfo, h]
theorem run_size {c : Cx} {t : TypeId} {n : Nat} (h : c.size t = some n) (w : World) : (sizeOf t).run c.P w = .ok n w := by
  unfold Cx.size at h
  split at h
  · rename_i i hi
    cases h
    simp [sizeOf, run_info hi]
  · cases h
theorem run_agg {c : Cx} {t : TypeId} {g : Bool} (h : c.agg t = some g) (w : World) : (isAgg t).run c.P w = .ok g w := by
  unfold Cx.agg at h
  split at h
  · rename_i d hd; cases h; simp [isAgg, run_underlying hd]
  · rename_i a b hd; cases h; simp [isAgg, run_underlying hd]
  · rename_i d h1 h2 hd
    cases h
    simp only [isAgg, Sem.run_bind, run_underlying hd, Result.andThen_ok]
    cases d <;> first | rfl | exact absurd hd (h1 _) | exact absurd hd (h2 _ _)
  · cases h

/-- What a run of an operation is to give: a value, and the world as it was. -/
def Val (c : Cx) (ρ : Rho) (W : World) (s : Sem Next) (v : AV) : Prop := ∃ v', s.run c.P W = .ok (.value v') W ∧ VRel c ρ v v'

section
variable {c : Cx} {base : Nat} {ρ : Rho} {H : Heap} {W : World}

theorem Val.of {s : Sem Value} {v : AV} {v' : Value} (h : s.run c.P W = .ok v' W) (r : VRel c ρ v v') : Val c ρ W (do pure (.value (← s))) v :=
  ⟨v', by simp [h], r⟩

theorem run_binInt {op : BinOp} {k : IntKind} {x y : Int} {v : AV} (t : TypeId) (h : binInt op k x y = some v) :
    ∃ v', (binOp op t (.int k x) (.int k y)).run c.P W = .ok v' W ∧ VRel c ρ v v' := by
  cases op <;> simp only [binInt, wr_eq, ibeq_eq, ible_eq] at h
  case quo =>
    cases hy : (y == 0) with
    | true => rw [hy] at h; cases h
    | false =>
      rw [hy] at h
      cases h
      have hy' : ¬ y = 0 := by simpa using hy
      exact ⟨_, by rw [binOp_quo, Op.intDiv, if_neg hy']; rfl, VRel_int.2 rfl⟩
  case rem =>
    cases hy : (y == 0) with
    | true => rw [hy] at h; cases h
    | false =>
      rw [hy] at h
      cases h
      have hy' : ¬ y = 0 := by simpa using hy
      exact ⟨_, by rw [binOp_rem, Op.intDiv, if_neg hy']; rfl, VRel_int.2 rfl⟩
  case add => cases h; exact ⟨_, by rw [binOp_add]; rfl, VRel_int.2 rfl⟩
  case sub => cases h; exact ⟨_, by rw [binOp_sub]; rfl, VRel_int.2 rfl⟩
  case mul => cases h; exact ⟨_, by rw [binOp_mul]; rfl, VRel_int.2 rfl⟩
  case and => cases h; exact ⟨_, by rw [binOp_and]; rfl, VRel_int.2 rfl⟩
  case or => cases h; exact ⟨_, by rw [binOp_or]; rfl, VRel_int.2 rfl⟩
  case xor => cases h; exact ⟨_, by rw [binOp_xor]; rfl, VRel_int.2 rfl⟩
  case andNot => cases h; exact ⟨_, by rw [binOp_andNot]; rfl, VRel_int.2 rfl⟩
  case eql => cases h; exact ⟨_, by rw [binOp_eql]; rfl, VRel_bool.2 rfl⟩
  case neq => cases h; exact ⟨_, by rw [binOp_neq]; rfl, VRel_bool.2 rfl⟩
  case lss => cases h; exact ⟨_, by rw [binOp_lss]; rfl, VRel_bool.2 (by congr 1; rw [Bool.eq_iff_iff]; simp)⟩
  case leq => cases h; exact ⟨_, by rw [binOp_leq]; rfl, VRel_bool.2 rfl⟩
  case gtr => cases h; exact ⟨_, by rw [binOp_gtr]; rfl, VRel_bool.2 (by congr 1; rw [Bool.eq_iff_iff]; simp)⟩
  case geq => cases h; exact ⟨_, by rw [binOp_geq]; rfl, VRel_bool.2 rfl⟩
  all_goals cases h

theorem run_shift {op : BinOp} (ho : op = .shl ∨ op = .shr) {k k' : IntKind} {x y : Int} {v : AV} (t : TypeId) (h : shiftInt op k x y = some v) :
    ∃ v', (binOp op t (.int k x) (.int k' y)).run c.P W = .ok v' W ∧ VRel c ρ v v' := by
  unfold shiftInt at h
  rw [ible_eq] at h
  by_cases hy : (0 : Int) ≤ y
  · rw [decide_eq_true hy] at h
    have hy' : ¬ y < 0 := by omega
    rcases ho with rfl | rfl
    · simp only [cond_true, wr_eq] at h; cases h
      exact ⟨_, by rw [binOp_shl, Op.shift, if_neg hy']; rfl, VRel_int.2 rfl⟩
    · simp only [cond_true] at h; cases h
      exact ⟨_, by rw [binOp_shr, Op.shift, if_neg hy']; rfl, VRel_int.2 rfl⟩
  · rw [decide_eq_false hy] at h; cases h

theorem toList_eq (b : ByteArray) : b.toList = b.data.toList := ByteArray.toList_eq b

theorem run_binStr {op : BinOp} {x y : ByteArray} {v : AV} (t : TypeId) (h : binStr op x.data.toList y.data.toList = some v) :
    ∃ v', (binOp op t (.string x) (.string y)).run c.P W = .ok v' W ∧ VRel c ρ v v' := by
  have e : binOp op t (.string x) (.string y) = Op.stringOp op x y := by cases op <;> rfl
  rw [e]
  cases op <;> simp only [binStr, beqB_eq, bltB_eq, nble] at h
  case add =>
    by_cases hl : x.data.toList.length + y.data.toList.length ≤ 4611686018427387904
    · rw [decide_eq_true hl] at h
      cases h
      have hl' : ¬ ((x.size + y.size : Nat) : Int) > IntKind.i64.max := by
        have h1 : x.size = x.data.toList.length := rfl
        have h2 : y.size = y.data.toList.length := rfl
        rw [IntKind.max_i64, h1, h2]; omega
      exact ⟨.string (x ++ y), by unfold Op.stringOp; simp only []; rw [if_neg hl']; rfl, VRel_str.2 ⟨_, rfl, by simp⟩⟩
    · rw [decide_eq_false hl] at h; cases h
  case eql => cases h; exact ⟨_, rfl, VRel_bool.2 (by simp only [toList_eq])⟩
  case neq => cases h; exact ⟨_, rfl, VRel_bool.2 (by simp only [toList_eq])⟩
  case lss => cases h; exact ⟨_, rfl, VRel_bool.2 (by simp only [toList_eq])⟩
  case leq => cases h; exact ⟨_, rfl, VRel_bool.2 (by simp only [toList_eq])⟩
  case gtr => cases h; exact ⟨_, rfl, VRel_bool.2 (by simp only [toList_eq])⟩
  case geq => cases h; exact ⟨_, rfl, VRel_bool.2 (by simp only [toList_eq])⟩
  all_goals cases h

theorem run_bin {op : BinOp} {x y v : AV} {u w : Value} (t : TypeId) (hx : VRel c ρ x u) (hy : VRel c ρ y w) (h : bin op x y = some v) :
    ∃ v', (binOp op t u w).run c.P W = .ok v' W ∧ VRel c ρ v v' := by
  unfold bin at h
  split at h
  · rename_i k a
    split at h
    · rename_i k' b
      rw [VRel_int] at hx hy
      subst hx; subst hy
      unfold binII at h
      split at h
      · exact run_shift (.inl rfl) t h
      · exact run_shift (.inr rfl) t h
      · rw [kbeq_eq] at h
        by_cases hk : k = k'
        · subst hk
          simp only [decide_true, cond_true] at h
          exact run_binInt t h
        · rw [decide_eq_false hk] at h; cases h
    · cases h
  · rename_i s
    split at h
    · rename_i s'
      rw [VRel_str] at hx hy
      obtain ⟨a, rfl, rfl⟩ := hx
      obtain ⟨b, rfl, rfl⟩ := hy
      exact run_binStr t h
    · cases h
  · cases h

theorem eqGuard_bin {op : BinOp} {x y v : AV} {u w : Value} (t : TypeId) (X Y : Operand) (hx : VRel c ρ x u) (h : bin op x y = some v) : eqGuard op t X Y u w = pure () := by
  unfold bin at h
  split at h
  · rw [VRel_int] at hx; subst hx; exact eqGuard_at_int ..
  · rw [VRel_str] at hx; obtain ⟨a, rfl, rfl⟩ := hx; exact eqGuard_at_string ..
  · cases h


/-- Reading cells. -/
theorem ld_run (R : Rel c base ρ H W) {b o n : Nat} {p : Pl} {cs : List AV} (hp : ρ b = some p) (h : H.ld b o n = some cs) :
    ∃ ws : List Value, ws.length = n ∧ All2 (SRel c ρ) cs ws ∧ (∀ j v, ws[j]? = some v → W.cell? ⟨p.c, p.s + o + j, none⟩ = some v) ∧
      (loadCells ⟨p.c, p.s + o, none⟩ n).run c.P W = .ok ws.toArray W := by
  obtain ⟨x, hx, hr⟩ := R.blk b p hp
  unfold Heap.ld at h
  rw [hx] at h
  cases x with
  | cells l k =>
    simp only [nble] at h
    by_cases hle : o + n ≤ l.length
    · rw [decide_eq_true hle] at h
      cases h
      obtain ⟨h1, vs, e, fz, h2, h3, h4, h5⟩ := hr
      have hsz : p.s + o + n ≤ vs.size := by omega
      refine ⟨(vs.toList.drop (p.s + o)).take n, by simp; omega, ?_, ?_, ?_⟩
      · refine All2.of_get (by simp; omega) fun i a hi => ?_
        have hin : i < n := by
          have := (List.getElem?_eq_some_iff.1 hi).1
          simp at this; omega
        rw [List.getElem?_take, if_pos hin, List.getElem?_drop] at hi
        obtain ⟨v, hv, hrel⟩ := h4 (o + i) a hi
        refine ⟨v, ?_, hrel⟩
        rw [List.getElem?_take, if_pos hin, List.getElem?_drop, Array.getElem?_toList, Nat.add_assoc]
        exact hv
      · intro j v hj
        have hin : j < n := by
          have := (List.getElem?_eq_some_iff.1 hj).1
          simp at this; omega
        rw [List.getElem?_take, if_pos hin, List.getElem?_drop, Array.getElem?_toList] at hj
        simp only [World.cell?, h2]
        simpa using hj
      · have hc : ∀ j v, ((vs.toList.drop (p.s + o)).take n)[j]? = some v → W.cell? ((⟨p.c, p.s + o, none⟩ : Addr).add j) = some v := by
          intro j v hj
          have hin : j < n := by
            have := (List.getElem?_eq_some_iff.1 hj).1
            simp at this; omega
          rw [List.getElem?_take, if_pos hin, List.getElem?_drop, Array.getElem?_toList] at hj
          rw [Addr.add_lit]
          simp only [World.cell?, h2]
          simpa using hj
        have := run_loadCells_list (P := c.P) W _ _ hc
        rwa [show ((vs.toList.drop (p.s + o)).take n).length = n by simp; omega] at this
    · rw [decide_eq_false hle] at h; cases h
  | mp es cl => cases h
  | dead => cases h

theorem oneOf_rel {g : Bool} {n : Nat} {cs : List AV} {v : AV} {ws : List Value} (hn : g = false → n = 1) (hl : ws.length = n) (hr : All2 (SRel c ρ) cs ws) (h : oneOf g (some cs) = some v) :
    (g = true ∧ VRel c ρ v (.agg ws.toArray)) ∨ (g = false ∧ ∃ w, ws = [w] ∧ VRel c ρ v w) := by
  cases g with
  | true =>
    cases h
    exact .inl ⟨rfl, VRel_agg.2 ⟨_, rfl, by simpa using hr⟩⟩
  | false =>
    have h1 := hn rfl
    simp only [oneOf, cond_false] at h
    match ws, hl, hr with
    | [w], _, hr =>
      match cs, hr, h with
      | [a], ⟨h2, _⟩, h =>
        simp at h
        subst h
        refine .inr ⟨rfl, w, rfl, ?_⟩
        cases a with
        | agg l => simp only [SRel, BRel] at h2
        | tup l => simp only [SRel, BRel] at h2
        | undef => exact VRel.undef
        | _ => exact SRel.v (by rfl) h2
    | [], hl, _ => simp at hl; omega
    | _ :: _ :: _, hl, _ => simp at hl; omega

theorem run_loadVar (R : Rel c base ρ H W) {t : TypeId} {g : Bool} {n m : Nat} {x v : AV} {w : Value} (hg : c.agg t = some g) (hs : c.size t = some n) (hm : m = (bif g then n else 1)) (hx : VRel c ρ x w) (h : rLoad H g m x = some v) :
    ∃ v', (Instr.loadAt t w).run c.P W = .ok v' W ∧ VRel c ρ v v' := by
  unfold rLoad at h
  split at h
  · rename_i b o
    rw [VRel_ptr] at hx
    obtain ⟨p, hp, rfl⟩ := hx
    cases hl : H.ld b o m with
    | none => rw [hl] at h; cases h
    | some cs =>
      rw [hl] at h
      obtain ⟨ws, h1, h2, h3, h4⟩ := ld_run R hp hl
      have hrun : (Instr.loadAt t (.pointer (some ⟨p.c, p.s + o, none⟩))).run c.P W = (loadVar t ⟨p.c, p.s + o, none⟩).run c.P W := rfl
      rcases oneOf_rel (by intro e; rw [hm, e]; rfl) h1 h2 h with ⟨rfl, hv⟩ | ⟨rfl, w, rfl, hv⟩
      · simp only [cond_true] at hm
        subst hm
        exact ⟨_, by rw [hrun, loadVar]; simp [run_agg hg, run_size hs, h4], hv⟩
      · have := h3 0 w (by simp)
        exact ⟨w, by rw [hrun, loadVar]; simp only [Sem.run_bind, run_agg hg, Result.andThen_ok, Bool.false_eq_true, if_false, run_load]; rw [show p.s + o + 0 = p.s + o from rfl] at this; rw [this], hv⟩
  · cases h

end
end Go.Dp
