/- Operations that turn the heap: append, copy, clear, unsafe.String. Conditions: none. -/
import Derived.Test.YtkjmelfgopammaaQqP
import Derived.Laws.AppendOwn
import Derived.Lib.UnsafeStr
namespace Go.Dp
open Go.RowKit

section
variable {c : Cx} {base : Nat} {ρ : Rho} {H : Heap} {W : World}

theorem _root_.Go.Dp.Rho.at_self (ρ : Rho) (b : Nat) (p : Pl) : ρ.at_ b p b = some p := if_pos rfl

theorem goes_new (R : Rel c base ρ H W) {p : Pl} {x : Blk} {o : Obj} {W' : World} {b : Nat} (hH : (H.put b .dead).next = H.next) (hp : p.c = W.heap.size) (hw : W'.heap = W.heap.push o) (h1 : W'.os = W.os) (h2 : W'.tape = W.tape) (h3 : W'.output = W.output) (hr : BlkRel c (ρ.at_ H.next p) p W' x) (hb : ρ b ≠ none) :
    Goes c base ρ H W (ρ.at_ H.next p) ((H.put b .dead).new x) W' := by
  have hfr := R.fresh
  refine ⟨Rho.ext_at hfr, ?_, ⟨h1, h2, h3, by rw [hw]; simp, fun k hk => ?_⟩, by show H.next ≤ H.next + 1; omega, fun i q hq => ?_, fun i hi hn => ?_⟩
  · have R' := (R.kill b).more (H' := (H.put b .dead).new x) (by show H.next ≤ H.next + 1; omega) (fun i hi => by rw [Heap.get_new, if_neg (by show ¬ i = H.next; have : i < H.next := hi; omega)])
    exact R'.adopt (by show H.next < H.next + 1; omega) hfr (by rw [Heap.get_new]; exact if_pos rfl) hw hp hr
  · rw [hw, Array.getElem?_push, if_neg (by have := R.size; omega)]
  · unfold Rho.at_ at hq
    by_cases e : i = H.next
    · exact .inr (by omega)
    · rw [if_neg e] at hq; exact .inl hq
  · rw [Heap.get_new, if_neg (by show ¬ i = H.next; omega), Heap.get_put, if_neg (by intro e; subst e; exact hb hn)]

theorem goes_new' (R : Rel c base ρ H W) {p : Pl} {x : Blk} {o : Obj} {W' : World} (hp : p.c = W.heap.size) (hw : W'.heap = W.heap.push o) (h1 : W'.os = W.os) (h2 : W'.tape = W.tape) (h3 : W'.output = W.output) (hr : BlkRel c (ρ.at_ H.next p) p W' x) :
    Goes c base ρ H W (ρ.at_ H.next p) (H.new x) W' := by
  have hfr := R.fresh
  refine ⟨Rho.ext_at hfr, ?_, ⟨h1, h2, h3, by rw [hw]; simp, fun k hk => ?_⟩, by show H.next ≤ H.next + 1; omega, fun i q hq => ?_, fun i hi hn => ?_⟩
  · have R' := R.more (H' := H.new x) (by show H.next ≤ H.next + 1; omega) (fun i hi => by rw [Heap.get_new, if_neg (by omega)])
    exact R'.adopt (by show H.next < H.next + 1; omega) hfr (by rw [Heap.get_new]; exact if_pos rfl) hw hp hr
  · rw [hw, Array.getElem?_push, if_neg (by have := R.size; omega)]
  · unfold Rho.at_ at hq
    by_cases e : i = H.next
    · exact .inr (by omega)
    · rw [if_neg e] at hq; exact .inl hq
  · rw [Heap.get_new, if_neg (by omega)]

theorem Turns.of {s : Sem Value} {v : AV} {v' : Value} {H' : Heap} {W' : World} {ρ' : Rho} (h : s.run c.P W = .ok v' W') (g : Goes c base ρ H W ρ' H' W') (r : VRel c ρ' v v') : Turns c base ρ H W (do pure (.value (← s))) v H' :=
  ⟨.value v', v', W', ρ', by simp only [Sem.run_bind, h, Result.andThen_ok, Sem.run_pure], .inl rfl, g, r⟩

theorem zeroCells_size (z : Array Value) (n : Nat) : (Builtin.zeroCells z n).size = n * z.size := by simp [Builtin.zeroCells]

/-- A grown row. -/
theorem row_grown {ρ' : Rho} {W' : World} {k sz m cap : Nat} {e : TypeId} {xs : List AV} {vs : List Value} {zs : Array Value} (hh : W'.heap = W.heap.push (.cells (vs.toArray ++ Builtin.zeroCells zs (cap - m)) e (0, 0))) (hr : All2 (SRel c ρ') xs vs) (hl : vs.length = m * sz) (hz : zs.size = sz) (hk : k = rowK c.P e + 1) :
    BlkRel c ρ' ⟨W.heap.size, 0, m * sz, (cap - m) * sz⟩ W' (.cells xs k) := by
  have hxl := hr.length
  refine ⟨by rw [hxl, hl], _, e, (0, 0), by rw [hh]; exact Array.getElem?_push_size, by simp [hl, zeroCells_size, hz], fun i a hi => ?_, by rw [hk]; exact kind_row⟩
  obtain ⟨v, hv, hrel⟩ := hr.get hi
  refine ⟨v, ?_, hrel⟩
  have hlt := (List.getElem?_eq_some_iff.1 hv).1
  simp only [Nat.zero_add]
  rw [Array.getElem?_append_left (by simpa using hlt)]
  simpa using hv

theorem e_app (R : Rel c base ρ H W) {s t e ty : TypeId} {sz bytes : Nat} {z : List AV} {ts : Array TypeId} {xs : Array Value} {x y : AV} {w u : Value} (h0 : ts[0]? = some s) (h1 : ts[1]? = some t) (k0 : xs[0]? = some w) (k1 : xs[1]? = some u)
    (hs : c.P.underlying s = some (.slice e)) (ht : NoInt c t) (hn : c.size e = some sz) (hb : c.bytes e = some bytes) (hz : c.zero e = some z) (hx : VRel c ρ x w) (hy : VRel c ρ y u) {v : AV} {H' : Heap} (h : evalApp (rowK c.P e) sz bytes H x y = some (v, H')) :
    Turns c base ρ H W (do pure (.value (← Builtin.append_ ts ty xs))) v H' := by
  obtain ⟨zv, zn, zrun, zsz, zlen, _, zrel⟩ := zero_run hz W
  have zall : ∀ w', (zeroValue e).run c.P w' = .ok zv w' := by
    intro w'
    obtain ⟨zv', _, zrun', _⟩ := zero_run hz w'
    have : zv' = zv := by
      obtain ⟨i, hi, _⟩ := size_info hn
      simp only [zeroValue, Sem.run_bind, run_info hi, Result.andThen_ok] at zrun zrun'
      cases hiz : i.zero with
      | none => rw [hiz] at zrun; cases zrun
      | some q => rw [hiz] at zrun zrun'; cases zrun; cases zrun'; rfl
    rw [← this]; exact zrun'
  rw [hn] at zsz
  cases zsz
  have zsize : zv.cells.size = sz := by have := (zrel ρ).length; simp at this; omega
  unfold evalApp at h
  cases hsrc : srcCells H sz y with
  | none => rw [hsrc] at h; cases h
  | some q =>
    obtain ⟨n, new⟩ := q
    rw [hsrc] at h
    obtain ⟨ws, w1, w2, w3, w4, w5⟩ := src_rel R hy hsrc
    have wtake : ws.take (n * sz) = ws := by rw [← w1]; exact List.take_length
    simp only [] at h
    split at h
    · -- nothing yet
      rw [VRel_nils] at hx
      subst hx
      rw [nbeq] at h
      by_cases hn0 : n = 0
      · rw [decide_eq_true hn0] at h
        cases h
        subst hn0
        have hrun := append_fits (W := W) (ty := ty) h0 h1 k0 k1 hs ht hn (w4 W) (by rw [w5 0 W (Nat.le_refl _) rfl]) (by omega) (W' := W) (by intro a' h; cases h) (fun _ => rfl)
        exact Turns.of hrun (.refl R) (VRel_nils.2 rfl)
      · rw [decide_eq_false hn0] at h
        simp only [cond_false] at h
        cases hc : (Nat.ble (n * bytes) 35184372088832 && (Nat.ble n 35184372088832 && !Nat.beq sz 0)) with
        | false => rw [hc] at h; cases h
        | true =>
          rw [hc] at h
          cases h
          simp only [nbeq, nble, Bool.and_eq_true, decide_eq_true_eq, Bool.not_eq_true', decide_eq_false_iff_not] at hc
          obtain ⟨hc1, hc2, hc3⟩ := hc
          have hrun := append_grows (W := W) (ty := ty) (os := []) h0 h1 k0 k1 hs ht hn hb zall (w4 W) (by simp [Builtin.firstCells]) (by rw [w5 n W.drew (Nat.le_refl _) rfl, wtake]) (by omega) (by simpa using hc1) (by simpa using hc2)
          simp only [Nat.zero_add, List.nil_append] at hrun
          have hcap := grownCap_ge W n 0 e
          have hmul : grownCap W n 0 e * sz = n * sz + (grownCap W n 0 e - n) * sz := by rw [← Nat.add_mul]; congr 1; omega
          refine Turns.of (ρ' := ρ.at_ H.next ⟨W.heap.size, 0, n * sz, (grownCap W n 0 e - n) * sz⟩) hrun (goes_new' R rfl rfl rfl rfl rfl ?_) ?_
          · exact row_grown rfl (w2.mono fun _ _ h => h.ext (Rho.ext_at R.fresh)) w1 zsize rfl
          · exact VRel_sl.2 ⟨_, 0, _, Rho.at_self _ _ _, rfl, hcap, .inl rfl, by simp only; omega, by simp only; omega, by simp only; omega, by omega⟩
    · -- a slice
      rename_i b o len sz'
      cases hc : (Nat.beq sz sz' && !Nat.beq sz 0) with
      | false => rw [hc] at h; cases h
      | true =>
        rw [hc] at h
        simp only [nbeq, Bool.and_eq_true, decide_eq_true_eq, Bool.not_eq_true', decide_eq_false_iff_not] at hc
        obtain ⟨rfl, hz0⟩ := hc
        simp only [cond_true] at h
        rw [VRel_sl] at hx
        obtain ⟨p, off, cap, hp, rfl, q1, q2, q3, q4, q5, q6⟩ := hx
        split at h
        · rename_i l k hbk
          unfold appTo at h
          obtain ⟨xb, hxb, hrb⟩ := R.blk b p hp
          rw [hbk] at hxb
          cases hxb
          obtain ⟨e1, cs, eb, fz, e2, e3, e4, e5⟩ := hrb
          rw [nble] at h
          by_cases hfit : o + len * sz ≤ l.length
          · rw [decide_eq_true hfit] at h
            simp only [cond_true, nbeq] at h
            by_cases hn0 : n = 0
            · rw [decide_eq_true hn0] at h
              cases h
              subst hn0
              have w0 : ws = [] := List.length_eq_zero_iff.1 (by omega)
              have hrun := append_fits (W := W) (ty := ty) (ws := []) h0 h1 k0 k1 hs ht hn (w4 W) (by rw [w5 0 W (Nat.le_refl _) rfl, w0]; simp) (by omega) (W' := W) (fun a' _ => rfl) (fun h => by cases h)
              exact Turns.of hrun (.refl R) (VRel_sl.2 ⟨p, off, cap, hp, rfl, q1, q2, q3, q4, q5, q6⟩)
            · rw [decide_eq_false hn0] at h
              simp only [cond_false] at h
              have hmul : (len + n) * sz = len * sz + n * sz := Nat.add_mul _ _ _
              have hnpos : 0 < n * sz := Nat.mul_pos (by omega) q6
              cases k with
              | zero => cases h
              | succ k =>
                simp only [nble] at h
                by_cases hin : o + (len + n) * sz ≤ l.length
                · rw [decide_eq_true hin] at h
                  cases h
                  have hcapn : len + n ≤ cap := by
                    have : (len + n) * sz ≤ cap * sz := by omega
                    exact Nat.le_of_mul_le_mul_right this q6
                  have hoff : off = p.s + o := by rcases q2 with h | h
                                                  · exact h
                                                  · omega
                  subst hoff
                  obtain ⟨W', r1, r2⟩ := write_cells R hp hbk (o := o + len * sz) (us := new) (ws := ws) (by rw [w2.length, w1]; omega) w2 (all_one w3 w2)
                  have hrun := append_fits (W := W) (ty := ty) h0 h1 k0 k1 hs ht hn (w4 W) (by rw [w5 n W (Nat.le_refl _) rfl, wtake]) hcapn (W' := W') (fun a' ha => by cases ha; rw [Addr.add_lit, Nat.add_assoc]; exact r1) (fun h => by cases h)
                  exact Turns.of hrun r2 (VRel_sl.2 ⟨p, p.s + o, cap, hp, rfl, hcapn, .inl rfl, q3, q4, by omega, q6⟩)
                · rw [decide_eq_false hin] at h
                  simp only [cond_false] at h
                  cases hc : (decide (k = rowK c.P e) && (decide ((len + n) * bytes ≤ 35184372088832) && decide (len + n ≤ 35184372088832))) with
                  | false => rw [hc] at h; cases h
                  | true =>
                    rw [hc] at h
                    cases h
                    simp only [Bool.and_eq_true, decide_eq_true_eq] at hc
                    obtain ⟨hk, hc1, hc2⟩ := hc
                    subst hk
                    have hldb : H.ld b o (len * sz) = some ((l.drop o).take (len * sz)) := by
                      unfold Heap.ld; rw [hbk]; simp only [nble]; rw [decide_eq_true hfit]; rfl
                    obtain ⟨os, o1, o2, o3, o4⟩ := ld_run R hp hldb
                    have hall : ∀ ρ', Ext ρ ρ' → All2 (SRel c ρ') ((l.drop o).take (len * sz) ++ new) (os ++ ws) := fun ρ' hx => (o2.append w2).mono fun _ _ h => h.ext hx
                    by_cases hcapn : len + n ≤ cap
                    · -- in place
                      have hoff : off = p.s + o := by rcases q2 with h | h
                                                      · exact h
                                                      · omega
                      subst hoff
                      have hmul2 : (len + n) * sz ≤ cap * sz := Nat.mul_le_mul_right _ hcapn
                      have hf : fz.1 = fz.2 ∨ cs.size ≤ fz.1 := by
                        by_cases h3 : rowK c.P e + 1 = 3
                        · exact (e5.2.1 h3).1
                        · exact .inl (e5.1 (by omega) h3)
                      have hst := run_st c.P p.c (p.s + o + len * sz) eb fz ws 0 cs W e2 hf (by omega) (all_one w3 w2)
                      simp only [Nat.add_zero] at hst
                      have hrun := append_fits (W := W) (ty := ty) h0 h1 k0 k1 hs ht hn (w4 W) (by rw [w5 n W (Nat.le_refl _) rfl, wtake]) hcapn (fun a' ha => by cases ha; rw [Addr.add_lit]; exact hst) (fun h => by cases h)
                      have hovl : (over cs.toList (p.s + o + len * sz) ws).length = cs.toList.length := over_length _ _ _ (by simp; omega)
                      have hfr := R.fresh
                      have hbw : BlkRel c (ρ.at_ H.next ⟨p.c, p.s + o, (len + n) * sz, p.n + p.e - o - (len + n) * sz⟩) ⟨p.c, p.s + o, (len + n) * sz, p.n + p.e - o - (len + n) * sz⟩ (W.setRow p.c (over cs.toList (p.s + o + len * sz) ws).toArray) (.cells ((l.drop o).take (len * sz) ++ new) (rowK c.P e + 1)) := by
                        have hlen := (hall ρ (.refl _)).length
                        refine ⟨by rw [hlen, List.length_append, o1, w1, hmul], _, eb, fz, setRow_heap W p.c cs _ eb fz e2, by simp only [List.size_toArray, hovl, Array.length_toList]; omega, fun i a hi => ?_, ?_⟩
                        · obtain ⟨v, hv, hrel⟩ := (hall _ (Rho.ext_at hfr)).get hi
                          refine ⟨v, ?_, hrel⟩
                          rw [List.getElem?_toArray, over_get _ _ _ (by simp; omega)]
                          by_cases hi1 : i < len * sz
                          · rw [List.getElem?_append_left (by omega)] at hv
                            rw [if_pos (by simp only; omega), Array.getElem?_toList]
                            have := o3 i v hv
                            unfold World.cell? at this
                            rw [e2] at this
                            simpa using this
                          · rw [List.getElem?_append_right (by omega), o1] at hv
                            have := (List.getElem?_eq_some_iff.1 hv).1
                            rw [if_neg (by simp only; omega), if_pos (by simp only; omega)]
                            rw [← hv]; congr 1; simp only; omega
                        · simp only [List.size_toArray, hovl, Array.length_toList]
                          refine ⟨e5.1, e5.2.1, fun h2 => ?_⟩
                          exfalso
                          rcases rowK_ok (c := c) (e := e) with hh | ⟨hh, _⟩ <;> omega
                      refine Turns.of (ρ' := ρ.at_ H.next ⟨p.c, p.s + o, (len + n) * sz, p.n + p.e - o - (len + n) * sz⟩) hrun ⟨Rho.ext_at hfr, R.take (p' := ⟨p.c, p.s + o, (len + n) * sz, p.n + p.e - o - (len + n) * sz⟩) hp hbk rfl (by simp [World.setRow]) (fun i hi => by simp only [World.setRow, Array.getElem?_modify]; rw [if_neg (Ne.symm hi)]) hbw, Below.setRow W _ (R.low b p _ hp hbk rfl), by show H.next ≤ H.next + 1; omega, fun i q hq => ?_, fun i hi hno => ?_⟩ ?_
                      · unfold Rho.at_ at hq
                        by_cases e : i = H.next
                        · exact .inr (by omega)
                        · rw [if_neg e] at hq; exact .inl hq
                      · rw [Heap.get_new, Heap.next_put, if_neg (by omega), Heap.get_put, if_neg (by intro e; subst e; rw [hp] at hno; cases hno)]
                      · exact VRel_sl.2 ⟨_, p.s + o, cap, Rho.at_self _ _ _, rfl, hcapn, .inl rfl, by simp only; omega, by simp only; omega, by simp only; omega, q6⟩
                    · -- a new block
                      have hofs : (Builtin.firstCells sz len (.slice (some ⟨p.c, off, none⟩) len cap)).run c.P W.drew = .ok os.toArray W.drew := by
                        refine run_firstCells_some W.drew sz len _ len cap os o1 fun j v hj => ?_
                        rcases q2 with rfl | hc0
                        · rw [Addr.add_lit]; exact o3 j v hj
                        · have := (List.getElem?_eq_some_iff.1 hj).1
                          have hl0 : len = 0 := by omega
                          rw [o1, hl0] at this; omega
                      have hrun := append_grows (W := W) (ty := ty) h0 h1 k0 k1 hs ht hn hb zall (w4 W) hofs (by rw [w5 n W.drew (Nat.le_refl _) rfl, wtake]) (by omega) hc1 hc2
                      have hcap := grownCap_ge W (len + n) cap e
                      have hmul2 : grownCap W (len + n) cap e * sz = (len + n) * sz + (grownCap W (len + n) cap e - (len + n)) * sz := by rw [← Nat.add_mul]; congr 1; omega
                      refine Turns.of (ρ' := ρ.at_ H.next ⟨W.heap.size, 0, (len + n) * sz, (grownCap W (len + n) cap e - (len + n)) * sz⟩) hrun (goes_new R rfl rfl rfl rfl rfl rfl ?_ (by rw [hp]; simp)) ?_
                      · exact row_grown rfl (hall _ (Rho.ext_at R.fresh)) (by rw [List.length_append, o1, w1, hmul]) zsize rfl
                      · exact VRel_sl.2 ⟨_, 0, _, Rho.at_self _ _ _, rfl, hcap, .inl rfl, by simp only; omega, by simp only; omega, by simp only; omega, q6⟩
          · rw [decide_eq_false hfit] at h; cases h
        · cases h
    · cases h

end
end Go.Dp
