/- Operations that turn the heap: copy, clear, unsafe.String. Conditions: none. -/
import Derived.Test.YtkjmelfgopammaaQqQ
namespace Go.Dp
open Go.RowKit

section
variable {c : Cx} {base : Nat} {ρ : Rho} {H : Heap} {W : World}

theorem all_take {xs : List AV} (h : xs.all AV.isSc = true) (n : Nat) : (xs.take n).all AV.isSc = true := by
  rw [List.all_eq_true] at h ⊢
  exact fun x hx => h x (List.mem_of_mem_take hx)

theorem st_inv {b o : Nat} {us : List AV} {H' : Heap} (h : H.st b o us = some H') : ∃ l k, H.get b = some (.cells l (k + 1)) ∧ o + us.length ≤ l.length ∧ H' = H.put b (.cells (over l o us) (k + 1)) := by
  unfold Heap.st at h
  split at h
  · rename_i l k hb
    rw [nble] at h
    by_cases hle : o + us.length ≤ l.length
    · rw [decide_eq_true hle] at h
      cases h
      exact ⟨l, k, hb, hle, rfl⟩
    · rw [decide_eq_false hle] at h; cases h
  · cases h

theorem e_copy (R : Rel c base ρ H W) {s e ty : TypeId} {sz : Nat} {ts : Array TypeId} {xs : Array Value} {x y : AV} {w u : Value} (h0 : ts[0]? = some s) (k0 : xs[0]? = some w) (k1 : xs[1]? = some u)
    (hs : c.P.underlying s = some (.slice e)) (hn : c.size e = some sz) (hx : VRel c ρ x w) (hy : VRel c ρ y u) {v : AV} {H' : Heap} (h : eCopy H sz x y = some (v, H')) :
    Turns c base ρ H W (do pure (.value (← Builtin.copy_ ts ty xs))) v H' := by
  unfold eCopy at h
  cases hsrc : srcCells H sz y with
  | none => rw [hsrc] at h; cases h
  | some q =>
    obtain ⟨n, new⟩ := q
    rw [hsrc] at h
    obtain ⟨ws, w1, w2, w3, w4, w5⟩ := src_rel R hy hsrc
    simp only [] at h
    have hrun : ∀ (a : Option Addr) (len cap : Nat) (W' : World), w = .slice a len cap → (∀ a', a = some a' → (storeCells a' (ws.take (min n len * sz))).run c.P W = .ok () W') → (a = none → W' = W) → (Builtin.copy_ ts ty xs).run c.P W = .ok (goInt (min n len : Nat)) W' := by
      intro a len cap W' hw hst hno
      subst hw
      have hmin : Nat.min n len = min n len := rfl
      simp only [Builtin.copy_, h0, k0, k1, Sem.run_bind, run_underlying hs, Result.andThen_ok, w4 W, run_size hn, w5 (Nat.min n len) W (Nat.min_le_left _ _) rfl]
      cases a with
      | none => rw [hno rfl]; rfl
      | some a' => simp only [hmin, hst a' rfl, Sem.run_bind, Result.andThen_ok, Sem.run_pure]
    split at h
    · rw [VRel_nils] at hx
      cases h
      exact Turns.of (hrun none 0 0 W hx (by intro a' h; cases h) fun _ => rfl) (.refl R) (VRel_int.2 (by simp [goInt]))
    · rename_i b o len sz'
      rw [nbeq] at h
      by_cases hz : sz = sz'
      · rw [decide_eq_true hz] at h
        subst hz
        simp only [cond_true] at h
        split at h
        · rename_i H'' hst
          cases h
          rw [VRel_sl] at hx
          obtain ⟨p, off, cap, hp, rfl, q1, q2, q3, q4, q5, q6⟩ := hx
          obtain ⟨l, k, hb, hle, rfl⟩ := st_inv hst
          have hr := w2.take (min n len * sz)
          obtain ⟨W', r1, r2⟩ := write_cells R hp hb hle hr (all_one (all_take w3 _) hr)
          refine Turns.of (hrun _ len cap W' rfl (fun a' ha => ?_) (fun h => by cases h)) r2 (VRel_int.2 rfl)
          cases ha
          rcases q2 with rfl | hc0
          · exact r1
          · have hl : len = 0 := by omega
            rw [hl] at r1 ⊢
            simp only [Nat.min_zero, Nat.zero_mul, List.take_zero] at r1 ⊢
            exact r1
        · cases h
      · rw [decide_eq_false hz] at h; cases h
    · cases h

theorem rep_sc {z : List AV} (h : z.all AV.isSc = true) : ∀ n, (rep n z).all AV.isSc = true
  | 0 => rfl
  | n + 1 => by rw [rep, List.all_append, h, rep_sc h n]; rfl

theorem e_clear (R : Rel c base ρ H W) {s e ty : TypeId} {z : List AV} {ts : Array TypeId} {xs : Array Value} {x : AV} {w : Value} (h0 : ts[0]? = some s) (k0 : xs[0]? = some w)
    (hs : c.P.underlying s = some (.slice e)) (hz : c.zero e = some z) (hx : VRel c ρ x w) {v : AV} {H' : Heap} (h : eClear H z x = some (v, H')) :
    Turns c base ρ H W (do pure (.value (← Builtin.clear_ ts ty xs))) v H' := by
  obtain ⟨zv, zn, zrun, zsz, zlen, zall, zrel⟩ := zero_run hz W
  unfold eClear at h
  split at h
  · rw [VRel_nils] at hx
    subst hx
    cases h
    refine Turns.of (v' := .tuple #[]) ?_ (.refl R) VRel_unit
    simp only [Builtin.clear_, h0, k0, Sem.run_bind, run_underlying hs, Result.andThen_ok, Sem.run_pure]
  · rename_i b o len sz
    rw [nbeq] at h
    by_cases hzz : z.length = sz
    · rw [decide_eq_true hzz] at h
      simp only [cond_true, nbeq] at h
      rw [VRel_sl] at hx
      obtain ⟨p, off, cap, hp, rfl, q1, q2, q3, q4, q5, q6⟩ := hx
      by_cases hl : len = 0
      · rw [decide_eq_true hl] at h
        cases h
        subst hl
        refine Turns.of (v' := .tuple #[]) ?_ (.refl R) VRel_unit
        simp only [Builtin.clear_, h0, k0, Sem.run_bind, run_underlying hs, Result.andThen_ok, Sem.run_pure]
      · rw [decide_eq_false hl] at h
        simp only [cond_false] at h
        unfold unit at h
        split at h
        · rename_i H'' hst
          cases h
          obtain ⟨l, k, hb, hle, rfl⟩ := st_inv hst
          have hsize : zv.cells.size = z.length := by have := (zrel ρ).length; simp at this; omega
          have hr : All2 (SRel c ρ) (rep len z) (Builtin.zeroCells zv.cells len).toList := by
            have := rows_rel len (zrel ρ)
            unfold Builtin.zeroCells
            rw [← hsize] at this
            exact this
          obtain ⟨W', r1, r2⟩ := write_cells R hp hb hle hr (all_one (rep_sc zall _) hr)
          obtain ⟨len', rfl⟩ : ∃ m, len = m + 1 := ⟨len - 1, by omega⟩
          have hoff : off = p.s + o := by rcases q2 with h | h
                                          · exact h
                                          · omega
          subst hoff
          refine Turns.of (v' := .tuple #[]) ?_ r2 VRel_unit
          simp only [Builtin.clear_, h0, k0, Sem.run_bind, run_underlying hs, Result.andThen_ok, zrun, r1, Sem.run_pure]
        · cases h
    · rw [decide_eq_false hzz] at h; cases h
  · cases h

theorem run_loadB (P : Program) (w : World) : ∀ (ns : List Int) (a : Addr) (acc : ByteArray), (∀ j x, ns[j]? = some x → w.cell? (a.add j) = some (.int .u8 x)) →
    (loadBytes a acc ns.length).run P w = .ok ⟨acc.data ++ (ns.map fun n => UInt8.ofNat n.toNat).toArray⟩ w
  | [], a, acc, _ => by simp [loadBytes]
  | x :: l, a, acc, h => by
    have h0 : w.cell? a = some (.int .u8 x) := by
      have := h 0 x rfl
      simpa [Addr.add] using this
    have ih := run_loadB P w l (a.add 1) (acc.push x.toNat.toUInt8) (fun j y hy => by
      have := h (j + 1) y (by simpa using hy)
      have e : (a.add 1).add j = a.add (j + 1) := by
        unfold Addr.add
        by_cases hj : j = 0
        · subst hj; simp
        · simp [hj]; omega
      rw [e]; exact this)
    simp only [List.length_cons, loadBytes, Sem.run_bind, run_load, h0, Result.andThen]
    rw [ih]
    congr 1
    apply ByteArray.ext
    simp [ByteArray.push]

theorem bytes_rel : ∀ {cs : List AV} {ws : List Value} {l : List UInt8}, All2 (SRel c ρ) cs ws → bytesOf cs = some l → ∃ ns : List Int, ws = ns.map (Value.int .u8) ∧ ns.map (fun n => UInt8.ofNat n.toNat) = l
  | [], [], l, _, hb => by simp only [bytesOf] at hb; cases hb; exact ⟨[], rfl, rfl⟩
  | q :: cs, w :: ws, l, ⟨r1, r2⟩, hb => by
    simp only [bytesOf] at hb
    split at hb
    · rename_i ch hch
      split at hb
      · rename_i l' hl'
        cases hb
        obtain ⟨ns, rfl, e2⟩ := bytes_rel r2 hl'
        unfold byteOf at hch
        split at hch
        · rename_i k n
          split at hch
          · split at hch
            · rename_i m
              cases hch
              simp only [SRel, BRel] at r1
              exact ⟨(Int.ofNat m) :: ns, by simp [r1], by simp [e2]⟩
            · cases hch
          · cases hch
        · cases hch
      · cases hb
    · cases hb
  | [], _ :: _, _, h, _ => h.elim
  | _ :: _, [], _, h, _ => h.elim

theorem under_u8 {e : TypeId} {i : TypeInfo} (hi : c.P.info? e = some i) (hd : i.desc = .int .u8) : c.P.underlying e = some (.int .u8) := by
  obtain ⟨⟩ := i
  simp only at hd
  subst hd
  simp [Program.underlying, hi]

theorem variables_u8 {e e' : TypeId} {cells : Nat} {A : Addr} (hn : c.size e = some 1) (he : c.P.underlying e = some (.int .u8)) (he' : c.P.underlying e' = some (.int .u8)) (hA : W.shape? A.block = some (e, cells)) (m : Nat) (hm : A.off + m ≤ cells) : (variablesAt A e' m).run c.P W = .ok true W := by
  have hs : c.P.cellsOf e = 1 := by
    obtain ⟨i, hi, h1⟩ := size_info hn
    unfold Program.cellsOf
    rw [hi]
    simpa using h1
  obtain ⟨d, hd⟩ : ∃ d, c.P.depth = d + 1 := ⟨2 * (c.P.types.size + Made.depth) + 1, rfl⟩
  have hsame : sameLayout c.P (d + 1) e e' = true := by
    unfold sameLayout
    rw [he, he']
    simp
  have hrow : rowAt c.P (sameLayout c.P (d + 1) · e') (d + 1) e (cells / 1) A.off m = true := by
    unfold rowAt
    simp only [hs, Nat.one_ne_zero, if_false, Nat.mod_one, Nat.div_one, hsame, beq_self_eq_true, Bool.true_and, Bool.and_true]
    rw [decide_eq_true hm]
    rfl
  have hl : liesAt c.P (d + 1) e (cells / 1) A.off e' m = true := by
    unfold liesAt
    rw [hd, hrow]
    rfl
  simp only [variablesAt, Sem.run_bind, run_program, Result.andThen_ok, run_shape, hA, hs, hd, hl, Sem.run_pure]

/-- One block is turned. -/
theorem Rel.turn (R : Rel c base ρ H W) {b : Nat} {p : Pl} {x x' : Blk} {H' : Heap} {W' : World} (hp : ρ b = some p) (hx : H.get b = some x) (hw : x.wr = true) (hs : W'.heap.size = W.heap.size) (hother : ∀ i, i ≠ p.c → W'.heap[i]? = W.heap[i]?)
    (hH : H'.next = H.next) (hget : ∀ i, H'.get i = if i = b then some x' else H.get i) (hb : BlkRel c ρ p W' x') : Rel c base ρ H' W' := by
  have hxl : x.live = true := by cases x <;> first | rfl | cases hw
  refine ⟨by rw [hs]; exact R.size, fun i q hq => by rw [hH]; exact R.dom i q hq, fun i q hq => by rw [hs]; exact R.in_ i q hq, fun i q hq => ?_, fun i q y hq hy hwr => ?_, fun i j q q' y y' hne hq hq' hy hy' hl hwr => ?_, R.glob⟩
  · rw [hget]
    by_cases hi : i = b
    · subst hi
      rw [hp] at hq
      cases hq
      exact ⟨x', by rw [if_pos rfl], hb⟩
    · rw [if_neg hi]
      obtain ⟨y, hy, hr⟩ := R.blk i q hq
      refine ⟨y, hy, ?_⟩
      by_cases hl : y.live = true
      · exact hr.heap (hother _ (R.apart i b q p y x hi hq hp hy hx hl hw))
      · cases y <;> first | exact absurd rfl hl | trivial
  · rw [hget] at hy
    by_cases hi : i = b
    · subst hi
      exact R.low i q x hq hx hw
    · rw [if_neg hi] at hy
      exact R.low i q y hq hy hwr
  · rw [hget] at hy hy'
    by_cases hi : i = b
    · subst hi
      have hj : j ≠ i := fun h => hne h.symm
      rw [if_neg hj] at hy'
      exact R.apart i j q q' x y' hne hq hq' hx hy' hxl hwr
    · rw [if_neg hi] at hy
      by_cases hj : j = b
      · subst hj
        exact R.apart i j q q' y x hne hq hq' hy hx hl hw
      · rw [if_neg hj] at hy'
        exact R.apart i j q q' y y' hne hq hq' hy hy' hl hwr

theorem e_ustr (R : Rel c base ρ H W) {pt e' ty : TypeId} {i' : TypeInfo} {ts : Array TypeId} {x y : AV} {w u : Value} (h0 : ts[0]? = some pt) (ht : c.P.underlying pt = some (.pointer e')) (hi' : c.P.info? e' = some i') (hd' : i'.desc = .int .u8) (hx : VRel c ρ x w) (hy : VRel c ρ y u) {v : AV} {H' : Heap} (h : eUstr' H x y = some (v, H')) :
    Turns c base ρ H W (do pure (.value (← Builtin.unsafeString_ ts ty #[w, u]))) v H' := by
  unfold eUstr' at h
  split at h
  · rename_i n hn
    have hint := natOf_i64 (W := W) hn hy
    rw [nble] at h
    by_cases hbig : n ≤ 35184372088832
    case neg => rw [decide_eq_false hbig] at h; cases h
    rw [decide_eq_true hbig] at h
    simp only [cond_true] at h
    have hno : ¬ ((n : Int) < 0) := by omega
    have hmax : ¬ ((n : Int) > IntKind.i64.max) := by rw [IntKind.max_i64]; omega
    unfold eUstr at h
    split at h
    · rw [VRel_nilp] at hx
      subst hx
      rw [nbeq] at h
      by_cases h0' : n = 0
      · rw [decide_eq_true h0'] at h
        cases h
        subst h0'
        refine Turns.of (v' := .string .empty) ?_ (.refl R) (VRel_str.2 ⟨_, rfl, rfl⟩)
        show Sem.run c.P (asInt u >>= _) W = _
        rw [Sem.run_bind, hint, Result.andThen_ok, h0]
        simp [IntKind.max_i64]
      · rw [decide_eq_false h0'] at h; cases h
    · rename_i b o
      rw [VRel_ptr] at hx
      obtain ⟨p, hp, rfl⟩ := hx
      rw [nbeq] at h
      by_cases h0' : n = 0
      · rw [decide_eq_true h0'] at h
        cases h
        subst h0'
        refine Turns.of (v' := .string .empty) ?_ (.refl R) (VRel_str.2 ⟨_, rfl, rfl⟩)
        show Sem.run c.P (asInt u >>= _) W = _
        rw [Sem.run_bind, hint, Result.andThen_ok, h0]
        simp [IntKind.max_i64]
      · rw [decide_eq_false h0'] at h
        simp only [cond_false] at h
        split at h
        · rename_i l k' hb
          rw [nbeq] at h
          by_cases hk3 : k' = 3
          · rw [decide_eq_true hk3] at h
            subst hk3
            simp only [cond_true] at h
            unfold strOf at h
            split at h
            · rename_i s hs
              cases h
              split at hs
              · rename_i cs hld
                split at hs
                · rename_i l' hl'
                  cases hs
                  obtain ⟨ws, w1, w2, w3, w4⟩ := ld_run R hp hld
                  obtain ⟨ns, rfl, n2⟩ := bytes_rel w2 hl'
                  obtain ⟨xb, hxb, hrb⟩ := R.blk b p hp
                  rw [hb] at hxb
                  cases hxb
                  obtain ⟨e1, cells, e, fz, e2, e3, e4, e5⟩ := hrb
                  obtain ⟨_, i, hi, hid, his⟩ := e5.2.1 rfl
                  have hle : o + n ≤ l.length := by
                    unfold Heap.ld at hld
                    rw [hb] at hld
                    simp only [nble] at hld
                    by_cases hle : o + n ≤ l.length
                    · exact hle
                    · rw [decide_eq_false hle] at hld; cases hld
                  have hsh : W.shape? p.c = some (e, cells.size) := by unfold World.shape?; rw [e2]
                  have hvar : (variablesAt ⟨p.c, p.s + o, none⟩ e' n).run c.P W = .ok true W := variables_u8 (by simp [Cx.size, hi, his]) (under_u8 hi hid) (under_u8 hi' hd') hsh n (by simp only; omega)
                  have hlen : ns.length = n := by simpa using w1
                  have hload := run_loadB c.P W ns ⟨p.c, p.s + o, none⟩ .empty (fun j x hj => by
                    rw [Addr.add_lit]
                    exact w3 j _ (by rw [List.getElem?_map, hj]; rfl))
                  rw [hlen] at hload
                  have hnz : ¬ ((n : Int) = 0) := by omega
                  have helem : (elemOf pt).run c.P W = .ok e' W := by simp only [elemOf, Sem.run_bind, run_underlying ht, Result.andThen_ok, Sem.run_pure]
                  have hrun : (Builtin.unsafeString_ ts ty #[.pointer (some ⟨p.c, p.s + o, none⟩), u]).run c.P W = .ok (.string ⟨ByteArray.empty.data ++ (ns.map fun n => UInt8.ofNat n.toNat).toArray⟩) (W.freeze ⟨p.c, p.s + o, none⟩ n) := by
                    show Sem.run c.P (asInt u >>= _) W = _
                    rw [Sem.run_bind, hint, Result.andThen_ok, h0]
                    simp only [Sem.run_bind, Result.andThen_ok, if_neg hno, if_neg hmax, if_neg hnz, helem, Int.toNat_natCast, hvar, if_true, hload, run_freeze, Sem.run_pure]
                  have hoth : ∀ i, i ≠ p.c → (W.freeze ⟨p.c, p.s + o, none⟩ n).heap[i]? = W.heap[i]? := by
                    intro i hi
                    unfold World.freeze
                    rw [if_neg h0']
                    simp only [Array.getElem?_modify]
                    rw [if_neg (Ne.symm hi)]
                  have hhere : ∃ fz', (W.freeze ⟨p.c, p.s + o, none⟩ n).heap[p.c]? = some (.cells cells e fz') := by
                    unfold World.freeze
                    rw [if_neg h0']
                    simp only [Array.getElem?_modify, if_true, e2, Option.map_some]
                    exact ⟨_, rfl⟩
                  obtain ⟨fz', hhere⟩ := hhere
                  have hsz : (W.freeze ⟨p.c, p.s + o, none⟩ n).heap.size = W.heap.size := by unfold World.freeze; rw [if_neg h0']; simp
                  have hos : (W.freeze ⟨p.c, p.s + o, none⟩ n).os = W.os ∧ (W.freeze ⟨p.c, p.s + o, none⟩ n).tape = W.tape ∧ (W.freeze ⟨p.c, p.s + o, none⟩ n).output = W.output := by unfold World.freeze; rw [if_neg h0']; exact ⟨rfl, rfl, rfl⟩
                  refine Turns.of hrun (ρ' := ρ) ⟨.refl _, R.turn hp hb rfl hsz hoth rfl (Heap.get_put _ _ _) ⟨e1, cells, e, fz', hhere, e3, e4, by omega, by omega, by omega⟩, ⟨hos.1, hos.2.1, hos.2.2, by omega, fun k hk => hoth k (by have := R.low b p _ hp hb rfl; omega)⟩, Nat.le_refl _, fun _ _ h => .inl h, fun i hi hn => by rw [Heap.get_put, if_neg (by intro e; subst e; rw [hp] at hn; cases hn)]⟩ (VRel_str.2 ⟨_, rfl, ?_⟩)
                  simpa using n2
                · cases hs
              · cases hs
            · cases h
          · rw [decide_eq_false hk3] at h; cases h
        · cases h
    · cases h
  · cases h

theorem e_mark (R : Rel c base ρ H W) {s d e' e : TypeId} {x : AV} {w : Value} (hs : c.P.underlying s = some (.slice e')) (hd : c.P.underlying d = some (.slice e)) (hsd : s = d) (hu : isU8 c.P e = true) (hx : VRel c ρ x w) {v : AV} {H' : Heap} (h : eMark H x = some (v, H')) :
    Turns c base ρ H W (do pure (.value (← convert s d w))) v H' := by
  unfold eMark at h
  split at h
  · rename_i b o len sz
    split at h
    · rename_i l k hb
      rw [nbeq] at h
      by_cases hk3 : k = 3
      case neg => rw [decide_eq_false hk3] at h; cases h
      rw [decide_eq_true hk3] at h
      subst hk3
      cases h
      have hx0 := hx
      rw [VRel_sl] at hx
      obtain ⟨p, off, cap, hp, rfl, _⟩ := hx
      have he : c.P.underlying e = some (.int .u8) := by
        unfold isU8 at hu
        split at hu
        · rename_i h; exact h
        · cases hu
      obtain ⟨xb, hxb, hrb⟩ := R.blk b p hp
      rw [hb] at hxb
      cases hxb
      obtain ⟨e1, cells, et, fz, e2, e3, e4, e5⟩ := hrb
      have hsh : W.shape? p.c = some (et, cells.size) := by unfold World.shape?; rw [e2]
      obtain ⟨lo, hi⟩ := fz
      have hrun : (convert s d (.slice (some ⟨p.c, off, none⟩) len cap)).run c.P W = .ok (.slice (some ⟨p.c, off, none⟩) len cap) (W.freeze ⟨p.c, cells.size, none⟩ 1) := by
        subst hsd
        obtain rfl : e' = e := by rw [hs] at hd; cases hd; rfl
        simp only [convert, Sem.run_bind, run_underlying hs, run_underlying hd, run_underlying he, Result.andThen_ok, beq_self_eq_true, markStringish, run_shape, hsh, run_freeze, Sem.run_pure]
      have hoth : ∀ i, i ≠ p.c → (W.freeze ⟨p.c, cells.size, none⟩ 1).heap[i]? = W.heap[i]? := by
        intro i hi
        unfold World.freeze
        rw [if_neg Nat.one_ne_zero]
        simp only [Array.getElem?_modify]
        rw [if_neg (Ne.symm hi)]
      have hhere : (W.freeze ⟨p.c, cells.size, none⟩ 1).heap[p.c]? = some (.cells cells et (if lo == hi then (cells.size, cells.size + 1) else (min lo cells.size, max hi (cells.size + 1)))) := by
        unfold World.freeze
        rw [if_neg Nat.one_ne_zero]
        simp only [Array.getElem?_modify, if_true, e2, Option.map_some]
      have hsz : (W.freeze ⟨p.c, cells.size, none⟩ 1).heap.size = W.heap.size := by unfold World.freeze; rw [if_neg Nat.one_ne_zero]; simp
      have hos : (W.freeze ⟨p.c, cells.size, none⟩ 1).os = W.os ∧ (W.freeze ⟨p.c, cells.size, none⟩ 1).tape = W.tape ∧ (W.freeze ⟨p.c, cells.size, none⟩ 1).output = W.output := by unfold World.freeze; rw [if_neg Nat.one_ne_zero]; exact ⟨rfl, rfl, rfl⟩
      have hkind : KindOk c 3 p cells.size et (if lo == hi then (cells.size, cells.size + 1) else (min lo cells.size, max hi (cells.size + 1))) := by
        obtain ⟨k1, k2, k3⟩ := e5
        refine ⟨fun _ h => absurd rfl h, fun _ => ⟨.inr ?_, (k2 rfl).2⟩, fun h => by omega⟩
        split
        · exact Nat.le_refl _
        · rename_i hne
          have hne : lo ≠ hi := fun e => hne (by rw [e]; exact beq_self_eq_true hi)
          rcases (k2 rfl).1 with h | h
          · exact absurd h hne
          · have h : cells.size ≤ lo := h
            show cells.size ≤ min lo cells.size
            omega
      refine Turns.of hrun (ρ' := ρ) ⟨.refl _, R.turn (x' := .cells l 3) hp hb rfl hsz hoth rfl (fun i => ?_) ⟨e1, cells, et, _, hhere, e3, e4, hkind⟩, ⟨hos.1, hos.2.1, hos.2.2, by omega, fun k hk => hoth k (by have := R.low b p _ hp hb rfl; omega)⟩, Nat.le_refl _, fun _ _ h => .inl h, fun i hi hn => rfl⟩ hx0
      by_cases hi : i = b
      · rw [if_pos hi, hi, hb]
      · rw [if_neg hi]
    · cases h
  · cases h

end
end Go.Dp
