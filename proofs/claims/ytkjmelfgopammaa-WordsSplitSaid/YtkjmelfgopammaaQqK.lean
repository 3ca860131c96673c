/- Operations that leave the heap alone: the theorem. Conditions: none. -/
import Derived.Test.YtkjmelfgopammaaQqJ
namespace Go.Dp
open Go.RowKit

/-- What the functions without a body do. -/
structure ExtOk (c : Cx) : Prop where
  index : ∀ g, c.ext g = 1 → ∀ (s : ByteArray) (ch : Int) (W : World), 0 ≤ ch → ch ≤ 255 → (callFunc g #[.string s, .int .u8 ch]).run c.P W = .ok (.value (.int .i64 (indexB ch s.data.toList 0))) W
  same : ∀ g, c.ext g = 2 → ∀ (v : Value) (W : World), (callFunc g #[v]).run c.P W = .ok (.value v) W
  nozero : ∀ g, c.ext g = 3 → ∀ (n : Nat) (W : World), n ≤ 35184372088832 → ∃ e i cs, c.P.info? e = some i ∧ i.desc = .int .u8 ∧ i.size = 1 ∧ n ≤ cs.size ∧
    (callFunc g #[.int .i64 n]).run c.P W = .ok (.value (.slice (some ⟨W.heap.size, 0, none⟩) n cs.size)) ({ W with heap := W.heap.push (.cells cs e), drawn := W.drawn + 2 })

section
variable {c : Cx} {base : Nat} {ρ : Rho} {H : Heap} {W : World} {fr : List AV} {a : Act}

theorem run_v {s : Sem Value} {v : AV} (h : ∃ v', s.run c.P W = .ok v' W ∧ VRel c ρ v v') : Val c ρ W (do pure (.value (← s))) v := by
  obtain ⟨v', h1, h2⟩ := h
  exact ⟨v', by simp [h1], h2⟩

theorem trXs_nil {xs : List Operand} (h : trXs c xs = some []) : xs = [] := by
  cases xs with
  | nil => rfl
  | cons x xs => simp only [trXs] at h; split at h <;> cases h
theorem trXs_cons {xs : List Operand} {y : X} {ys : List X} (h : trXs c xs = some (y :: ys)) : ∃ x xs', xs = x :: xs' ∧ trX c x = some y ∧ trXs c xs' = some ys := by
  cases xs with
  | nil => simp only [trXs] at h; cases h
  | cons x xs =>
    simp only [trXs] at h
    split at h
    · rename_i h1 h2; cases h; exact ⟨x, xs, rfl, h1, h2⟩
    · cases h

/-- A call of a builtin. -/
theorem call_builtin (o : Oper) (k : Call) (b : Builtin) (ho : o.op = .call k) (hk : k.callee = .builtin b) :
    execOp a.eval o = builtin b k.argTypes o.type (k.args.map fun | .const _ => true | _ => false) (k.args.map a.eval) := by
  unfold execOp
  rw [ho]
  simp only [resolve, hk, pure_bind, invoke]
  rfl
theorem call_func (o : Oper) (k : Call) (g : Nat) (ho : o.op = .call k) (hk : k.callee = .value (.func g)) : execOp a.eval o = callFunc g (k.args.map a.eval) := by
  unfold execOp
  rw [ho]
  simp only [resolve, hk, Act.eval, Deferred.ofValue, pure_bind, invoke]
  congr 1
  simp

theorem trBuiltin_r (R : Rel c base ρ H W) (F : FRel c ρ fr a.tmps) {b : Builtin} {ts : Array TypeId} {xs : Array Operand} {ys : List X} {p : PR} {v : AV} (ty : TypeId) (cs : Array Bool) (hx : trXs c xs.toList = some ys) (h : trBuiltin c b ts.toList ys = some (.r p))
    (hv : evalR fr H p = some v) : Val c ρ W (builtin b ts ty cs (xs.map a.eval)) v := by
  have hxs := trXs_rel R F hx
  have head : ∀ {x : X} {rest : List X}, ys = x :: rest → ∃ o1 os, xs.toList = o1 :: os ∧ (xs.map a.eval)[0]? = some (a.eval o1) ∧ VRel c ρ (x.ev fr) (a.eval o1) ∧ trXs c os = some rest := by
    intro x rest hy
    rw [hy] at hx
    obtain ⟨o1, os, e1, e2, e3⟩ := trXs_cons hx
    exact ⟨o1, os, e1, by rw [← Array.getElem?_toList, Array.toList_map, e1]; rfl, trX_rel R F e2, e3⟩
  unfold trBuiltin at h
  split at h
  · split at h
    · split at h <;> cases h
    · split at h <;> cases h
    · cases h
  · -- len
    rename_i t ts' x rest hts
    obtain ⟨o1, os, e1, h1, rx, _⟩ := head rfl
    have h0 : ts[0]? = some t := by rw [← Array.getElem?_toList, hts]; rfl
    split at h
    · rename_i n e hd
      cases h
      simp only [evalR, X.ev] at hv
      cases hv
      exact run_v ⟨.int .i64 n, by simp only [Builtin.len_, h0, h1, Sem.run_bind, run_underlying hd, Result.andThen_ok]; rfl, VRel_int.2 rfl⟩
    · rename_i hd
      cases h
      exact run_v (v_lens h0 h1 hd rx hv)
    · rename_i e hd
      cases h
      exact run_v (v_lensl h0 h1 hd rx hv)
    · rename_i k e hd
      cases h
      exact run_v (v_lenm R h0 h1 hd rx hv)
    · rename_i e hd
      split at h
      · rename_i n e' hd'
        cases h
        simp only [evalR, X.ev] at hv
        cases hv
        exact run_v ⟨.int .i64 n, by simp only [Builtin.len_, h0, h1, Sem.run_bind, run_underlying hd, run_underlying hd', Result.andThen_ok]; rfl, VRel_int.2 rfl⟩
      · cases h
    · cases h
  · -- cap
    rename_i t ts' x rest hts
    obtain ⟨o1, os, e1, h1, rx, _⟩ := head rfl
    have h0 : ts[0]? = some t := by rw [← Array.getElem?_toList, hts]; rfl
    split at h
    · rename_i e hd
      cases h
      simp only [evalR, rCap] at hv
      split at hv
      · rename_i hx0
        cases hv
        rw [hx0, VRel_nils] at rx
        rw [rx] at h1
        exact run_v ⟨.int .i64 0, by simp only [Builtin.cap_, h0, h1, Sem.run_bind, run_underlying hd, Result.andThen_ok]; rfl, VRel_int.2 rfl⟩
      · cases hv
    · cases h
  · split at h
    · split at h <;> cases h
    · split at h <;> cases h
    · cases h
  · split at h
    · split at h <;> cases h
    · cases h
  · split at h
    · split at h <;> cases h
    · cases h
  · -- unsafe.SliceData
    rename_i x
    obtain ⟨o1, os, e1, h1, rx, e3⟩ := head rfl
    have hos := trXs_nil e3
    subst hos
    have hargs : xs.map a.eval = #[a.eval o1] := by
      apply Array.ext'
      rw [Array.toList_map, e1]
      rfl
    cases h
    rw [hargs]
    simp only [evalR, rSdata] at hv
    split at hv
    · rename_i hx0
      cases hv
      rw [hx0, VRel_nils] at rx
      exact run_v ⟨.pointer none, by rw [rx]; rfl, VRel_nilp.2 rfl⟩
    · rename_i b' o len sz hx0
      rw [hx0, VRel_sl] at rx
      obtain ⟨q, off, cap, hq, hw, q1, q2, q3, q4, q5, q6⟩ := rx
      split at hv
      · rename_i l k hb
        rw [nblt] at hv
        by_cases hlt : o < l.length
        · rw [decide_eq_true hlt] at hv
          cases hv
          obtain ⟨xb, hxb, hr⟩ := R.blk b' q hq
          rw [hb] at hxb
          cases hxb
          have hn : l.length = q.n := hr.1
          have hcap : cap ≠ 0 := by
            intro e
            subst e
            omega
          refine run_v ⟨.pointer (some ⟨q.c, off, none⟩), ?_, VRel_ptr.2 ⟨q, hq, ?_⟩⟩
          · rw [hw]
            have e : Builtin.unsafeSliceData_ ts ty #[.slice (some ⟨q.c, off, none⟩) len cap] = (if cap ≠ 0 then pure (.pointer (some ⟨q.c, off, none⟩)) else do
              if (← viewAt q.c).isSome then pure (.pointer (some ⟨q.c, off, none⟩))
              else pure (.pointer (some ⟨← newObj (.view ⟨q.c, off, none⟩ (← elemOf ty)), 0, none⟩))) := rfl
            rw [e, if_pos hcap]
            rfl
          · rcases q2 with q2 | q2
            · rw [q2]
            · exact absurd q2 hcap
        · rw [decide_eq_false hlt] at hv; cases hv
      · cases hv
    · cases hv
  · split at h
    · split at h
      · split at h <;> cases h
      · cases h
    · cases h
  · -- min
    rename_i t ts' hts
    split at h
    · rename_i k hd
      cases h
      simp only [evalR, rMm] at hv
      split at hv
      · cases hv
      · rename_i y ys' hys
        obtain ⟨o1, os, e1, h1, rx, e3⟩ := head rfl
        obtain ⟨v', m1, m2⟩ := mms_rel R F false e3 rx hv
        refine run_v ⟨v', ?_, m2⟩
        simp only [Builtin.min_, Array.toList_map, e1, List.map_cons]
        simpa using m1
    · cases h
  · rename_i t ts' hts
    split at h
    · rename_i k hd
      cases h
      simp only [evalR, rMm] at hv
      split at hv
      · cases hv
      · rename_i y ys' hys
        obtain ⟨o1, os, e1, h1, rx, e3⟩ := head rfl
        obtain ⟨v', m1, m2⟩ := mms_rel R F true e3 rx hv
        refine run_v ⟨v', ?_, m2⟩
        simp only [Builtin.max_, Array.toList_map, e1, List.map_cons]
        simpa using m1
    · cases h
  · cases h


theorem ext_rel {i : Nat} {x v : AV} {w : Value} (hx : VRel c ρ x w) (h : rExt i x = some v) : ∃ v', (Instr.extract w i).run c.P W = .ok v' W ∧ VRel c ρ v v' := by
  unfold rExt at h
  split at h
  · rw [VRel_tup] at hx
    obtain ⟨vs, rfl, hr⟩ := hx
    obtain ⟨v', hv, hrel⟩ := hr.get h
    rw [Array.getElem?_toList] at hv
    exact ⟨v', by simp only [Instr.extract, hv, Sem.run_pure], hrel.val⟩
  · cases h

theorem BRel.of_VRel {x : AV} {v : Value} (hb : x.isB = true) (h : VRel c ρ x v) : BRel ρ x v := by
  cases x <;> first
    | exact absurd (show false = true from hb) (by decide)
    | (simp only [VRel, VRel1, SRel] at h; exact h)

theorem all_B : ∀ {xs : List AV} {vs : List Value}, xs.all AV.isB = true → All2 (VRel c ρ) xs vs → All2 (BRel ρ) xs vs
  | [], [], _, _ => trivial
  | x :: xs, v :: vs, hb, ⟨h1, h2⟩ => by
    simp only [List.all_cons, Bool.and_eq_true] at hb
    exact ⟨BRel.of_VRel hb.1 h1, all_B hb.2 h2⟩
  | [], _ :: _, _, h => h.elim
  | _ :: _, [], _, h => h.elim

theorem nilck_rel {x v : AV} {w : Value} {o : Oper} (ρ' : Operand → Value) (y : Operand) (ho : o.op = .nilCheck y) (hw : ρ' y = w) (hx : VRel c ρ x w) (h : rNilck x = some v) : Val c ρ W (execOp ρ' o) v := by
  unfold rNilck at h
  split at h
  · rw [VRel_ptr] at hx
    obtain ⟨p, hp, rfl⟩ := hx
    cases h
    refine ⟨.pointer (some ⟨p.c, p.s + _, none⟩), ?_, VRel_ptr.2 ⟨p, hp, rfl⟩⟩
    unfold execOp
    rw [ho]
    simp only [hw, Sem.run_pure]
  · rw [VRel_fn] at hx
    obtain ⟨g, cs, h1, rfl, h3⟩ := hx
    cases h
    refine ⟨.func (.func g) #[] cs, ?_, VRel_fn.2 ⟨g, cs, h1, rfl, h3⟩⟩
    unfold execOp
    rw [ho]
    simp only [hw, Sem.run_pure]
  · cases h

theorem pick_rel {x y z v : AV} {w u t : Value} {k p q : Operand} {o : Oper} (ρ' : Operand → Value) (ho : o.op = .pick k p q) (hw : ρ' k = w) (hu : ρ' p = u) (ht : ρ' q = t) (hx : VRel c ρ x w) (hy : VRel c ρ y u) (hz : VRel c ρ z t) (h : rPick x y z = some v) :
    Val c ρ W (execOp ρ' o) v := by
  unfold rPick at h
  unfold execOp
  rw [ho]
  split at h
  · rw [VRel_bool] at hx
    cases h
    exact ⟨u, by simp [hw, hx, hu, asBool], hy⟩
  · rw [VRel_bool] at hx
    cases h
    exact ⟨t, by simp [hw, hx, ht, asBool], hz⟩
  · cases h

theorem p2u_rel (R : Rel c base ρ H W) {s d t : TypeId} {n : Nat} {x v : AV} {w : Value} (hs : c.P.underlying s = some (.pointer t)) (hd : c.P.underlying d = some .unsafePointer) (hn : c.size t = some (n + 1)) (hx : VRel c ρ x w) (h : rP2u H x = some v) :
    ∃ v', (convert s d w).run c.P W = .ok v' W ∧ VRel c ρ v v' := by
  unfold rP2u at h
  split at h
  · rw [VRel_nilp] at hx
    subst hx
    cases h
    refine ⟨.pointer none, ?_, VRel_nilp.2 rfl⟩
    simp only [convert, Sem.run_bind, run_underlying hs, run_underlying hd, Result.andThen_ok, Conv.unsafePointer, Sem.run_pure]
  · rename_i b o
    rw [VRel_ptr] at hx
    obtain ⟨p, hp, rfl⟩ := hx
    split at h
    · rename_i l k hb
      rw [nblt] at h
      by_cases hlt : o < l.length
      · rw [decide_eq_true hlt] at h
        cases h
        obtain ⟨xb, hxb, hr⟩ := R.blk b p hp
        rw [hb] at hxb
        cases hxb
        obtain ⟨h1, cs, e, fz, h2, h3, h4, h5⟩ := hr
        have hsh : W.shape? p.c = some (e, cs.size) := by unfold World.shape?; rw [h2]
        refine ⟨.pointer (some ⟨p.c, p.s + o, none⟩), ?_, VRel_ptr.2 ⟨p, hp, rfl⟩⟩
        have hno : ¬ (p.s + o ≥ cs.size) := by omega
        have hview : (viewAt p.c).run c.P W = .ok none W := by simp [viewAt, hsh]
        have hseen : (Conv.seenAt ⟨p.c, p.s + o, none⟩).run c.P W = .ok ⟨p.c, p.s + o, none⟩ W := by
          unfold Conv.seenAt
          simp [hview]
        have hcells : (cellsIn p.c).run c.P W = .ok (some cs.size) W := by simp [cellsIn, hsh]
        simp only [convert, Sem.run_bind, run_underlying hs, run_underlying hd, Result.andThen_ok, Conv.unsafePointer, hseen, hcells, run_size hn]
        simp [hno]
      · rw [decide_eq_false hlt] at h; cases h
    · cases h
  · cases h


theorem variables_one {e : TypeId} {n off cells : Nat} {A : Addr} (hn : c.size e = some (n + 1)) (hA : W.shape? A.block = some (e, cells)) (hoff : A.off = off * (n + 1)) (m : Nat) (hm : off + m ≤ cells / (n + 1)) : (variablesAt A e m).run c.P W = .ok true W := by
  have hs : c.P.cellsOf e = n + 1 := by
    unfold Cx.size at hn
    unfold Program.cellsOf
    split at hn
    · rename_i i hi
      rw [hi]
      simpa using hn
    · cases hn
  have hd : ∃ d, c.P.depth = d + 1 := ⟨2 * (c.P.types.size + Made.depth) + 1, rfl⟩
  obtain ⟨d, hd⟩ := hd
  have hrow : rowAt c.P (sameLayout c.P (d + 1) · e) (d + 1) e (cells / (n + 1)) A.off m = true := by
    have h1 : A.off % (n + 1) = 0 := by rw [hoff]; exact Nat.mul_mod_left _ _
    have h2 : A.off / (n + 1) = off := by rw [hoff]; exact Nat.mul_div_cancel _ (by omega)
    have h3 : sameLayout c.P (d + 1) e e = true := by simp [sameLayout]
    unfold rowAt
    simp only [hs, Nat.succ_ne_zero, if_false, h1, h2, h3, beq_self_eq_true, Bool.true_and, Bool.and_true]
    rw [decide_eq_true hm]
    rfl
  have hl : liesAt c.P (d + 1) e (cells / (n + 1)) A.off e m = true := by
    unfold liesAt
    rw [hd, hrow]
    rfl
  simp only [variablesAt, Sem.run_bind, run_program, Result.andThen_ok, run_shape, hA, hs, hd, hl, Sem.run_pure]

theorem u2b_rel (R : Rel c base ρ H W) {s d t : TypeId} {n : Nat} {x v : AV} {w : Value} (hs : c.P.underlying s = some .unsafePointer) (hd : c.P.underlying d = some (.pointer t)) (hb : c.isB t = true) (hn : c.size t = some (n + 1)) (hx : VRel c ρ x w) (h : rU2b H (n + 1) x = some v) :
    ∃ v', (convert s d w).run c.P W = .ok v' W ∧ VRel c ρ v v' := by
  unfold rU2b at h
  split at h
  · rw [VRel_nilp] at hx
    subst hx
    cases h
    refine ⟨.pointer none, ?_, VRel_nilp.2 rfl⟩
    simp only [convert, Sem.run_bind, run_underlying hs, run_underlying hd, Result.andThen_ok, Conv.unsafePointer, Sem.run_pure]
  · rename_i b o
    rw [VRel_ptr] at hx
    obtain ⟨p, hp, rfl⟩ := hx
    split at h
    · rename_i l k hbk
      cases hc : (Nat.beq k 2 && (Nat.beq o 0 && Nat.ble (n + 1) l.length)) with
      | false => rw [hc] at h; cases h
      | true =>
        rw [hc] at h
        simp only [nbeq, nble, Bool.and_eq_true, decide_eq_true_eq] at hc
        obtain ⟨rfl, rfl, hle⟩ := hc
        cases h
        obtain ⟨xb, hxb, hr⟩ := R.blk b p hp
        rw [hbk] at hxb
        cases hxb
        obtain ⟨h1, cs, e, fz, h2, h3, h4, h5⟩ := hr
        obtain ⟨he, hps⟩ := h5.2.2 rfl
        have hee : e = t := by
          unfold Cx.isB at he hb
          split at he
          · rename_i bt hbt
            rw [hbt] at hb
            simp only [nbeq, decide_eq_true_eq] at he hb
            rw [← he, ← hb]
          · cases he
        subst hee
        have hsh : W.shape? p.c = some (e, cs.size) := by unfold World.shape?; rw [h2]
        refine ⟨.pointer (some ⟨p.c, p.s + 0, none⟩), ?_, VRel_ptr.2 ⟨p, hp, rfl⟩⟩
        have hview : (viewAt p.c).run c.P W = .ok none W := by simp [viewAt, hsh]
        have hseen : (Conv.seenAt ⟨p.c, p.s + 0, none⟩).run c.P W = .ok ⟨p.c, p.s + 0, none⟩ W := by
          unfold Conv.seenAt
          simp [hview]
        have hvar : (variablesAt ⟨p.c, p.s + 0, none⟩ e 1).run c.P W = .ok true W := by
          refine variables_one (off := 0) hn hsh (by simp [hps]) 1 ?_
          have : 1 * (n + 1) ≤ cs.size := by omega
          have := (Nat.le_div_iff_mul_le (by omega : 0 < n + 1)).2 this
          omega
        simp only [convert, Sem.run_bind, run_underlying hs, run_underlying hd, Result.andThen_ok, Conv.unsafePointer, hseen, run_size hn, hvar]
        simp
    · cases h
  · cases h


theorem trConv_r (R : Rel c base ρ H W) {s d : TypeId} {y : X} {p : PR} {x v : AV} {w : Value} (h : trConv c s d y = some (.r p)) (hy : y.ev fr = x) (hx : VRel c ρ x w) (hv : evalR fr H p = some v) :
    ∃ v', (convert s d w).run c.P W = .ok v' W ∧ VRel c ρ v v' := by
  unfold trConv at h
  split at h
  · rename_i j k h1 h2
    cases h
    simp only [evalR, hy] at hv
    exact v_cint h1 h2 hx hv
  · rename_i h1 h2
    cases h
    simp only [evalR, hy, rSstr] at hv
    split at hv
    · rw [VRel_str] at hx
      obtain ⟨b, rfl, rfl⟩ := hx
      cases hv
      exact ⟨.string b, by simp only [convert, Sem.run_bind, run_underlying h1, run_underlying h2, Result.andThen_ok, Sem.run_pure], VRel_str.2 ⟨b, rfl, rfl⟩⟩
    · cases hv
  · rename_i e h1 h2
    cases hb : (isU8 c.P e && Nat.beq (rowK c.P e) 2) <;> rw [hb] at h <;> cases h
  · rename_i e h1 h2
    cases hb : isU8 c.P e with
    | false => rw [hb] at h; cases h
    | true =>
      rw [hb] at h
      cases h
      simp only [evalR, hy] at hv
      unfold isU8 at hb
      split at hb
      · rename_i he
        exact v_b2s R h1 he h2 hx hv
      · cases hb
  · rename_i e' e h1 h2
    cases hb : (Nat.beq s d && isU8 c.P e) <;> rw [hb] at h <;> cases h
  · rename_i t h1 h2
    split at h
    · rename_i n hn
      cases h
      simp only [evalR, hy] at hv
      exact p2u_rel R h1 h2 hn hx hv
    · cases h
  · rename_i t h1 h2
    cases hb : c.isB t with
    | false => rw [hb] at h; cases h
    | true =>
      rw [hb] at h
      simp only [cond_true] at h
      split at h
      · rename_i n hn
        cases h
        simp only [evalR, hy] at hv
        exact u2b_rel R h1 h2 hb hn hx hv
      · cases h
  · cases h

theorem trBin_r (R : Rel c base ρ H W) {op : BinOp} {t : TypeId} {o1 o2 : Operand} {x y : X} {p : PR} {v : AV} {u w : Value} (h : trBin c op t x y = some p) (hx : VRel c ρ (x.ev fr) u) (hy : VRel c ρ (y.ev fr) w) (hv : evalR fr H p = some v) :
    ∃ v', (do eqGuard op t o1 o2 u w; binOp op t u w : Sem Value).run c.P W = .ok v' W ∧ VRel c ρ v v' := by
  have plain : bin op (x.ev fr) (y.ev fr) = some v → ∃ v', (do eqGuard op t o1 o2 u w; binOp op t u w : Sem Value).run c.P W = .ok v' W ∧ VRel c ρ v v' := by
    intro hb
    obtain ⟨v', h1, h2⟩ := run_bin (W := W) t hx hy hb
    exact ⟨v', by rw [eqGuard_bin t o1 o2 hx hb]; simpa using h1, h2⟩
  unfold trBin at h
  split at h
  · cases h; exact plain hv
  · cases h; exact plain hv
  · rename_i d h1 h2 hd
    split at h
    · cases h
    · rename_i neg hneg
      have guard : Odd u = true → (∀ cs, u ≠ .agg cs) → (∀ _ : Unit, u ≠ .nilIface) → eqGuard op t o1 o2 u w = pure () := by
        intro h1 h2 h3
        cases u <;> first
          | exact absurd (show false = true from h1) (by decide)
          | exact absurd rfl (h2 _)
          | exact absurd rfl (h3 ())
          | exact eqGuard_at_bool ..
          | exact eqGuard_at_pointer ..
          | exact eqGuard_at_slice ..
          | exact eqGuard_at_map ..
          | exact eqGuard_at_chan ..
          | exact eqGuard_at_func ..
          | exact eqGuard_at_nilFunc ..
          | exact eqGuard_at_iface ..
          | exact eqGuard_at_tuple ..
      have fin : ∀ {e : Option Bool}, negIf neg e = some v → (∀ r, e = some r → (Op.equal t u w).run c.P W = .ok r W ∧ Odd u = true ∧ eqGuard op t o1 o2 u w = pure ()) →
          ∃ v', (do eqGuard op t o1 o2 u w; binOp op t u w : Sem Value).run c.P W = .ok v' W ∧ VRel c ρ v v' := by
        intro e he hall
        cases e with
        | none => cases he
        | some r =>
          obtain ⟨q1, q2, q3⟩ := hall r rfl
          obtain ⟨v', m1, m2⟩ := neg_run hneg (t := t) (w := w) q2 q1 rfl he
          exact ⟨v', by rw [q3]; simpa using m1, m2⟩
      have noagg : ∀ {a : AV}, VRel c ρ a u → (∀ l, a ≠ .agg l) → a ≠ .undef → a ≠ .nili → (∀ l, a ≠ .tup l) → (∀ cs, u ≠ .agg cs) ∧ (∀ _ : Unit, u ≠ .nilIface) := by
        intro a ha h1 h2 h3 h4
        constructor
        · intro cs e
          subst e
          cases a <;> first
            | exact absurd rfl (h1 _)
            | exact absurd rfl h2
            | exact absurd rfl (h4 _)
            | (simp only [VRel, VRel1, SRel, BRel] at ha; done)
            | (simp only [VRel, VRel1, SRel, BRel] at ha; simp at ha)
        · intro _ e
          subst e
          cases a <;> first
            | exact absurd rfl (h1 _)
            | exact absurd rfl h2
            | exact absurd rfl h3
            | exact absurd rfl (h4 _)
            | (simp only [VRel, VRel1, SRel, BRel] at ha; done)
            | (simp only [VRel, VRel1, SRel, BRel] at ha; simp at ha)
      have odd : ∀ {k : EK}, EKok c t k → evalR fr H (.eqv neg k x y) = some v → ∃ v', (do eqGuard op t o1 o2 u w; binOp op t u w : Sem Value).run c.P W = .ok v' W ∧ VRel c ρ v v' := by
        intro k hk he
        refine fin he fun r hr => ?_
        obtain ⟨q1, q2⟩ := eqv_run (W := W) hx hy hr hk
        have hna := noagg hx (by intro l e; rw [e] at hr; cases k <;> cases hr) (by intro e; rw [e] at hr; cases k <;> cases hr) (by intro e; rw [e] at hr; cases k <;> cases hr) (by intro l e; rw [e] at hr; cases k <;> cases hr)
        exact ⟨q1, q2, guard q2 hna.1 hna.2⟩
      have aggr : ∀ {ks : List CK}, c.P.eqGuardType c.P.depth t = false → kindsT c 8 t = some ks → c.agg t = some true → evalR fr H (.eqa neg ks x y) = some v → ∃ v', (do eqGuard op t o1 o2 u w; binOp op t u w : Sem Value).run c.P W = .ok v' W ∧ VRel c ρ v v' := by
        intro ks hg hk ha he
        simp only [evalR] at he
        cases hr : aggEq ks (x.ev fr) (y.ev fr) with
        | none => rw [hr] at he; cases he
        | some r =>
          obtain ⟨q1, a', b', rfl, rfl⟩ := eqa_run (W := W) hk ha hx hy hr
          rw [hr] at he
          obtain ⟨v', m1, m2⟩ := neg_run hneg (t := t) (u := .agg a') (w := .agg b') rfl q1 rfl he
          refine ⟨v', ?_, m2⟩
          simp only [Sem.run_bind, run_eqGuard_agg W op t o1 o2 a' b' hg, Result.andThen_ok]
          exact m1
      split at h
      · cases h; exact odd (k := .b) hd hv
      · rename_i fs
        cases hg : c.P.eqGuardType c.P.depth t with
        | true => rw [hg] at h; cases h
        | false =>
          rw [hg] at h
          simp only [cond_false] at h
          split at h
          · rename_i ks hk; cases h; exact aggr hg hk (by unfold Cx.agg; rw [hd]) hv
          · cases h
      · rename_i n e
        cases hg : c.P.eqGuardType c.P.depth t with
        | true => rw [hg] at h; cases h
        | false =>
          rw [hg] at h
          simp only [cond_false] at h
          split at h
          · rename_i ks hk; cases h; exact aggr hg hk (by unfold Cx.agg; rw [hd]) hv
          · cases h
      · rename_i e
        split at h
        · rename_i n hn
          cases h
          refine fin hv fun r hr => ?_
          obtain ⟨q1, q2⟩ := eqc_run R hd hn hx hy hr
          have hna := noagg hx (by intro l e; rw [e] at hr; cases hr) (by intro e; rw [e] at hr; cases hr) (by intro e; rw [e] at hr; cases hr) (by intro l e; rw [e] at hr; cases hr)
          exact ⟨q1, q2, guard q2 hna.1 hna.2⟩
        · cases h
      · cases h; exact odd (k := .s) ⟨_, hd⟩ hv
      · cases h; exact odd (k := .m) ⟨_, _, hd⟩ hv
      · cases h; exact odd (k := .f) ⟨_, _, _, hd⟩ hv
      · cases h
  · cases h

end
end Go.Dp
