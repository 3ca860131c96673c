/- Operations that turn the heap: stores, maps. Conditions: none. -/
import Derived.Test.YtkjmelfgopammaaQqN
namespace Go.Dp
open Go.RowKit

theorem frozen_no {w : World} {g i : Nat} {cur : Array Value} {e : TypeId} {fz : Nat × Nat} (hg : w.heap[g]? = some (.cells cur e fz)) (hf : fz.1 = fz.2 ∨ cur.size ≤ fz.1) (hi : i < cur.size) : w.frozen? ⟨g, i, none⟩ = false := by
  obtain ⟨lo, hi'⟩ := fz
  simp only at hf
  unfold World.frozen?
  rw [hg]
  simp only [Bool.and_eq_false_iff, decide_eq_false_iff_not]
  omega

theorem run_st (P : Program) (g o : Nat) (e : TypeId) (fz : Nat × Nat) : ∀ (vs : List Value) (i : Nat) (cur : Array Value) (w : World), w.heap[g]? = some (.cells cur e fz) → (fz.1 = fz.2 ∨ cur.size ≤ fz.1) → o + i + vs.length ≤ cur.size → (∀ v ∈ vs, v.oneCell' = true) →
    (storeCells ⟨g, o, none⟩ vs i).run P w = .ok () (w.setRow g (over cur.toList (o + i) vs).toArray)
  | [], i, cur, w, hg, _, _, _ => by
    simp only [storeCells, over_nil, Array.toArray_toList]
    rw [setRow_self w g cur e fz hg]
    rfl
  | v :: rest, i, cur, w, hg, hf, hl, h1 => by
    have hi : o + i < cur.size := by simp at hl; omega
    have hadd : (⟨g, o, none⟩ : Addr).add i = ⟨g, o + i, none⟩ := Addr.add_lit g o i
    have hcell : w.cell? ⟨g, o + i, none⟩ = some cur[o + i] := by simp [World.cell?, hg, hi]
    have hst : (store ((⟨g, o, none⟩ : Addr).add i) v).run P w = .ok () (w.setRow g (cur.setIfInBounds (o + i) v)) := by
      rw [hadd, run_store P w _ v _ (h1 v (by simp)), hcell]
      simp [frozen_no hg hf hi, setCell_eq_setRow w g (o + i) cur e fz v hg]
    have ih := run_st P g o e fz rest (i + 1) (cur.setIfInBounds (o + i) v) (w.setRow g (cur.setIfInBounds (o + i) v)) (setRow_heap w g cur _ e _ hg) (by simpa using hf) (by simp at hl ⊢; omega) (fun x hx => h1 x (by simp [hx]))
    simp only [storeCells, Sem.run_bind, hst, Result.andThen_ok, ih, setRow_setRow]
    congr 3
    rw [Array.toList_setIfInBounds, ← over_cons _ _ _ _ (by simp at hl ⊢; omega)]
    rfl

theorem over_get {α : Type} (l : List α) (o : Nat) (vs : List α) (h : o + vs.length ≤ l.length) (i : Nat) : (over l o vs)[i]? = if i < o then l[i]? else if i < o + vs.length then vs[i - o]? else l[i]? := by
  unfold over
  rw [List.getElem?_append, List.length_take]
  have hm : min o l.length = o := by omega
  rw [hm]
  by_cases h1 : i < o
  · rw [if_pos h1, if_pos h1, List.getElem?_take, if_pos h1]
  · rw [if_neg h1, if_neg h1, List.getElem?_append]
    by_cases h2 : i < o + vs.length
    · rw [if_pos (by omega), if_pos h2]
    · rw [if_neg (by omega), if_neg h2, List.getElem?_drop]
      congr 1
      omega

section
variable {c : Cx} {base : Nat} {ρ : Rho} {H : Heap} {W : World} {fr : List AV} {a : Act}

theorem SRel.one {x : AV} {v : Value} (hs : x.isSc = true) (h : SRel c ρ x v) : v.oneCell' = true := by
  cases x <;> first
    | exact absurd (show false = true from hs) (by decide)
    | (simp only [SRel, BRel] at h; subst h; rfl)
    | (simp only [SRel, BRel] at h; obtain ⟨_, rfl, _⟩ := h; rfl)
    | (simp only [SRel, BRel] at h; obtain ⟨_, _, rfl⟩ := h; rfl)
    | (simp only [SRel, BRel] at h; obtain ⟨_, _, _, rfl, _⟩ := h; rfl)
    | (simp only [SRel, BRel] at h; obtain ⟨_, _, _, _, rfl, _⟩ := h; rfl)

theorem all_one : ∀ {xs : List AV} {vs : List Value}, xs.all AV.isSc = true → All2 (SRel c ρ) xs vs → ∀ v ∈ vs, v.oneCell' = true
  | [], [], _, _, v, hv => by simp at hv
  | x :: xs, w :: vs, h, ⟨h1, h2⟩, v, hv => by
    simp only [List.all_cons, Bool.and_eq_true] at h
    rcases List.mem_cons.1 hv with rfl | hv
    · exact SRel.one h.1 h1
    · exact all_one h.2 h2 v hv
  | [], _ :: _, _, h, _, _ => h.elim
  | _ :: _, [], _, h, _, _ => h.elim

theorem Below.setRow {B g : Nat} (w : World) (cs : Array Value) (h : B ≤ g) : Below B w (w.setRow g cs) :=
  ⟨rfl, rfl, rfl, by simp [World.setRow], fun k hk => by simp only [World.setRow, Array.getElem?_modify]; rw [if_neg (by omega)]⟩

/-- Cells are written: in the model, in the clean heap. -/
theorem write_cells (R : Rel c base ρ H W) {b o k : Nat} {p : Pl} {l us : List AV} {ws : List Value} (hp : ρ b = some p) (hx : H.get b = some (.cells l (k + 1))) (hle : o + us.length ≤ l.length) (hr : All2 (SRel c ρ) us ws) (h1 : ∀ v ∈ ws, v.oneCell' = true) :
    ∃ W', (storeCells ⟨p.c, p.s + o, none⟩ ws).run c.P W = .ok () W' ∧ Goes c base ρ H W ρ (H.put b (.cells (over l o us) (k + 1))) W' := by
  obtain ⟨xb, hxb, hrb⟩ := R.blk b p hp
  rw [hx] at hxb
  cases hxb
  obtain ⟨e1, cs, e, fz, e2, e3, e4, e5⟩ := hrb
  have hlen := hr.length
  have hf : fz.1 = fz.2 ∨ cs.size ≤ fz.1 := by
    by_cases h3 : k + 1 = 3
    · exact (e5.2.1 h3).1
    · exact .inl (e5.1 (by omega) h3)
  have hfit : p.s + o + ws.length ≤ cs.size := by omega
  have hrun := run_st c.P p.c (p.s + o) e fz ws 0 cs W e2 hf (by simpa using hfit) h1
  simp only [Nat.add_zero] at hrun
  have hovl : (over cs.toList (p.s + o) ws).length = cs.toList.length := over_length _ _ _ (by simpa using hfit)
  have hlow := R.low b p _ hp hx rfl
  refine ⟨_, hrun, Ext.refl _, ?_, Below.setRow W _ hlow, Nat.le_refl _, fun _ _ h => .inl h, fun i hi hn => ?_⟩
  · refine R.rewrite (cs := cs) (cs' := (over cs.toList (p.s + o) ws).toArray) (e := e) (fz := fz) hp hx rfl e2 (setRow_heap W p.c cs _ e fz e2) (by simp [World.setRow]) (by simpa using hovl) (fun i hi => ?_) (fun i hi => ?_) rfl (Heap.get_put _ _ _) ?_ (fun _ => rfl)
    · simp only [World.setRow, Array.getElem?_modify]
      rw [if_neg (Ne.symm hi)]
    · rw [List.getElem?_toArray, over_get _ _ _ (by simpa using hfit)]
      by_cases h1 : i < p.s + o
      · rw [if_pos h1, Array.getElem?_toList]
      · rw [if_neg h1, if_neg (by omega), Array.getElem?_toList]
    · refine ⟨by rw [over_length _ _ _ hle]; exact e1, (over cs.toList (p.s + o) ws).toArray, e, fz, setRow_heap W p.c cs _ e fz e2, by simp [hovl]; exact e3, fun i x hi => ?_, by
        have : (over cs.toList (p.s + o) ws).toArray.size = cs.size := by simpa using hovl
        rw [this]; exact e5⟩
      rw [over_get _ _ _ hle] at hi
      rw [List.getElem?_toArray, over_get _ _ _ (by simpa using hfit)]
      by_cases h1 : i < o
      · rw [if_pos h1] at hi
        rw [if_pos (by omega), Array.getElem?_toList]
        exact e4 i x hi
      · rw [if_neg h1] at hi
        by_cases h2 : i < o + us.length
        · rw [if_pos h2] at hi
          rw [if_neg (by omega), if_pos (by omega)]
          have := hr.get hi
          rwa [show p.s + i - (p.s + o) = i - o by omega]
        · rw [if_neg h2] at hi
          rw [if_neg (by omega), if_neg (by omega), Array.getElem?_toList]
          exact e4 i x hi
  · rw [Heap.get_put, if_neg (by intro e; subst e; rw [hp] at hn; cases hn)]

/-- What an operation with an effect comes to. -/
def Turns (c : Cx) (base : Nat) (ρ : Rho) (H : Heap) (W : World) (s : Sem Next) (v : AV) (H' : Heap) : Prop :=
  ∃ nx v' W' ρ', s.run c.P W = .ok nx W' ∧ (nx = .value v' ∨ (nx = .skip ∧ v' = undef)) ∧ Goes c base ρ H W ρ' H' W' ∧ VRel c ρ' v v'

theorem VRel_unit : VRel c ρ (.tup []) undef := VRel_tup.2 ⟨#[], rfl, trivial⟩

theorem e_store (R : Rel c base ρ H W) {t : TypeId} {n : Nat} {x y : AV} {u w : Value} (hn : c.size t = some n) (hx : VRel c ρ x u) (hy : VRel c ρ y w) {v : AV} {H' : Heap} (h : eStore H n x y.cells = some (v, H')) :
    Turns c base ρ H W (do Instr.storeAt t u w; pure .skip) v H' := by
  unfold eStore at h
  split at h
  · rename_i b o
    cases hc : (Nat.beq y.cells.length n && y.cells.all AV.isSc) with
    | false => rw [hc] at h; cases h
    | true =>
      rw [hc] at h
      simp only [cond_true] at h
      simp only [nbeq, Bool.and_eq_true, decide_eq_true_eq] at hc
      obtain ⟨hc1, hc2⟩ := hc
      rw [VRel_ptr] at hx
      obtain ⟨p, hp, rfl⟩ := hx
      unfold unit at h
      split at h
      · rename_i H'' hst
        cases h
        unfold Heap.st at hst
        split at hst
        · rename_i l k hb
          rw [nble] at hst
          by_cases hle : o + y.cells.length ≤ l.length
          · rw [decide_eq_true hle] at hst
            cases hst
            have hr := VRel.cells hc2 hy
            obtain ⟨W', q1, q2⟩ := write_cells R hp hb hle hr (all_one hc2 hr)
            refine ⟨.skip, undef, W', ρ, ?_, .inr ⟨rfl, rfl⟩, q2, VRel_unit⟩
            have hsz : ¬ w.cells.size ≠ n := by have := hr.length; simp at this; omega
            have : (Instr.storeAt t (.pointer (some ⟨p.c, p.s + o, none⟩)) w).run c.P W = .ok () W' := by
              show (storeVar t ⟨p.c, p.s + o, none⟩ w).run c.P W = _
              simp only [storeVar, Sem.run_bind, run_size hn, Result.andThen_ok, if_neg hsz]
              exact q1
            simp [this]
          · rw [decide_eq_false hle] at hst; cases hst
        · cases hst
      · cases h
  · cases h

theorem setE_rel {es : List (AV × AV × Nat)} {ms : Array MapEntry} (hr : All2 (EntRel c ρ) es ms.toList) {j : Nat} {k k' v v0 : AV} {born : Nat} {w u : Value} {m : MapEntry} (he : es[j]? = some (k', v0, born)) (hm : ms[j]? = some m) (hk : SRel c ρ k w) (hks : k.isSc = true) (hv : VRel1 c ρ v u) (hvs : v.isV = true) :
    All2 (EntRel c ρ) (setE es j k v) (ms.modify j fun e => { e with key := w, val := u }).toList := by
  unfold setE
  rw [he]
  simp only []
  have hl := hr.length
  refine All2.of_get (by simp; exact hl) fun i x hi => ?_
  rw [List.getElem?_set] at hi
  by_cases hij : j = i
  · subst hij
    rw [if_pos rfl] at hi
    have hjl : j < es.length := (List.getElem?_eq_some_iff.1 he).1
    rw [if_pos hjl] at hi
    cases hi
    obtain ⟨m', hm', e1, e2, e3, e4, e5⟩ := hr.get he
    rw [Array.getElem?_toList, hm] at hm'
    cases hm'
    refine ⟨{ m with key := w, val := u }, ?_, hk, hks, hv, hvs, e5⟩
    rw [Array.getElem?_toList, Array.getElem?_modify, if_pos rfl, hm]
    rfl
  · rw [if_neg hij] at hi
    obtain ⟨m', hm', hrel⟩ := hr.get hi
    refine ⟨m', ?_, hrel⟩
    rw [Array.getElem?_toList] at hm' ⊢
    rw [Array.getElem?_modify, if_neg hij]
    exact hm'

theorem below_map {g : Nat} {o : Obj} (h : base ≤ g) : Below base W { W with heap := W.heap.setIfInBounds g o } :=
  ⟨rfl, rfl, rfl, by simp, fun k hk => Array.getElem?_setIfInBounds_ne (by omega)⟩

theorem goes_map (R : Rel c base ρ H W) {b : Nat} {p : Pl} {es es' : List (AV × AV × Nat)} {cl cl' : Nat} {ms' : Array MapEntry} (hp : ρ b = some p) (hx : H.get b = some (.mp es cl)) (hr : All2 (EntRel c ρ) es' ms'.toList) :
    Goes c base ρ H W ρ (H.put b (.mp es' cl')) { W with heap := W.heap.setIfInBounds p.c (.map ms' cl') } :=
  ⟨.refl _, R.rewriteMap hp hx hr, below_map (R.low b p _ hp hx rfl), Nat.le_refl _, fun _ _ h => .inl h, fun i hi hn => by rw [Heap.get_put, if_neg (by intro e; subst e; rw [hp] at hn; cases hn)]⟩

theorem setMap_run (R : Rel c base ρ H W) {b : Nat} {p : Pl} {es : List (AV × AV × Nat)} {cl : Nat} (hp : ρ b = some p) (hx : H.get b = some (.mp es cl)) (o : Obj) : (setObj p.c o).run c.P W = .ok () { W with heap := W.heap.setIfInBounds p.c o } := by
  obtain ⟨ms, m1, m2, m3⟩ := getMap R hp hx
  simp only [setObj, Sem.run, m1]

theorem keyStays {old new : Value} (h : Instr.sameBits 10000 old new = true) : (Instr.keyThatStays old new).run c.P W = .ok new W := by
  unfold Instr.keyThatStays
  rw [if_pos h]
  rfl

theorem e_mupd (R : Rel c base ρ H W) {t kt e : TypeId} {str : Bool} {m k x : AV} {w u y : Value} (ht : c.P.underlying t = some (.map kt e)) (hk : keyStr c.P kt = some str) (hm : VRel c ρ m w) (hkv : VRel c ρ k u) (hx : VRel c ρ x y) {v : AV} {H' : Heap} (h : eMupd H str m k x = some (v, H')) :
    Turns c base ρ H W (do Instr.mapUpdate t w u y; pure .skip) v H' := by
  unfold eMupd at h
  split at h
  · rename_i b
    rw [VRel_map] at hm
    obtain ⟨p, hp, rfl⟩ := hm
    split at h
    · rename_i es cl hb
      cases hc : (x.isV && k.isSc) with
      | false => rw [hc] at h; cases h
      | true =>
        rw [hc] at h
        simp only [cond_true] at h
        simp only [Bool.and_eq_true] at hc
        obtain ⟨ms, m1, m2, m3⟩ := getMap R hp hb
        cases hf : findE str k es 0 with
        | none => rw [hf] at h; cases h
        | some r =>
          rw [hf] at h
          obtain ⟨d, r', f1, f2, f3⟩ := find_rel hk hkv m2 hf
          have hfk : (Instr.findKey kt u ms.toList).run c.P W = .ok r' W := by
            simp only [Instr.findKey, Sem.run_bind, run_underlying f1, Result.andThen_ok, f2, Sem.run_pure]
          cases r with
          | none =>
            simp only [] at f3
            subst f3
            cases h
            refine ⟨.skip, undef, _, ρ, ?_, .inr ⟨rfl, rfl⟩, goes_map R hp hb (es' := es ++ [(k, x, cl)]) (ms' := ms.push { key := u, val := y, born := cl }) ?_, VRel_unit⟩
            · simp only [Instr.mapUpdate, Sem.run_bind, run_underlying ht, Result.andThen_ok, m3, checkKey_run hk, hfk, setMap_run R hp hb, Sem.run_pure]
            · rw [Array.toList_push]
              exact m2.append ⟨⟨VRel.sc hc.2 hkv, hc.2, VRel.v1 hc.1 hx, hc.1, rfl⟩, trivial⟩
          | some q =>
            obtain ⟨j, v1, b1⟩ := q
            obtain ⟨v', rfl, g2, g3, g4, k', mm, g5, g6, g7, g8, g9⟩ := f3
            cases h
            simp only [Nat.sub_zero] at g5 g6
            rw [Array.getElem?_toList] at g6
            refine ⟨.skip, undef, _, ρ, ?_, .inr ⟨rfl, rfl⟩, goes_map R hp hb (es' := setE es j k x) (ms' := ms.modify j fun e => { e with key := u, val := y }) (setE_rel m2 g5 g6 (VRel.sc hc.2 hkv) hc.2 (VRel.v1 hc.1 hx) hc.1), VRel_unit⟩
            have hkey : (((ms[j]?).map (·.key)).getD u) = mm.key := by rw [g6]; rfl
            simp only [Instr.mapUpdate, Sem.run_bind, run_underlying ht, Result.andThen_ok, m3, checkKey_run hk, hfk, hkey, keyStays g8, setMap_run R hp hb, Sem.run_pure]
    · cases h
  · cases h

theorem e_mdel (R : Rel c base ρ H W) {t kt e : TypeId} {str : Bool} {m k : AV} {w u : Value} {ts : Array TypeId} {xs : Array Value} {ty : TypeId} (h0 : ts[0]? = some t) (h1 : xs[0]? = some w) (h2 : xs[1]? = some u) (ht : c.P.underlying t = some (.map kt e)) (hk : keyStr c.P kt = some str) (hm : VRel c ρ m w) (hkv : VRel c ρ k u)
    {v : AV} {H' : Heap} (h : eMdel H str m k = some (v, H')) : Turns c base ρ H W (do pure (.value (← Builtin.delete_ ts ty xs))) v H' := by
  unfold eMdel at h
  split at h
  · rw [VRel_nilm] at hm
    subst hm
    cases h
    refine ⟨.value undef, undef, W, ρ, ?_, .inl rfl, Goes.refl R, VRel_unit⟩
    simp only [Builtin.delete_, h0, h1, h2, Sem.run_bind, run_underlying ht, Result.andThen_ok, checkKey_run hk, Sem.run_pure]
    rfl
  · rename_i b
    rw [VRel_map] at hm
    obtain ⟨p, hp, rfl⟩ := hm
    split at h
    · rename_i es cl hb
      obtain ⟨ms, m1, m2, m3⟩ := getMap R hp hb
      cases hf : findE str k es 0 with
      | none => rw [hf] at h; cases h
      | some r =>
        rw [hf] at h
        obtain ⟨d, r', f1, f2, f3⟩ := find_rel hk hkv m2 hf
        have hfk : (Instr.findKey kt u ms.toList).run c.P W = .ok r' W := by
          simp only [Instr.findKey, Sem.run_bind, run_underlying f1, Result.andThen_ok, f2, Sem.run_pure]
        cases r with
        | none =>
          simp only [] at f3
          subst f3
          cases h
          have hself : ({ W with heap := W.heap.setIfInBounds p.c (.map ms cl) } : World) = W := by
            have hlt := R.in_ b p hp
            have : W.heap.setIfInBounds p.c (.map ms cl) = W.heap := by
              apply Array.ext
              · simp
              · intro i h1 h2
                rw [Array.getElem_setIfInBounds]
                split
                · rename_i hi
                  subst hi
                  rw [Array.getElem?_eq_getElem hlt] at m1
                  exact (Option.some.inj m1).symm
                · rfl
            rw [this]
          refine ⟨.value undef, undef, W, ρ, ?_, .inl rfl, Goes.refl R, VRel_unit⟩
          simp only [Builtin.delete_, h0, h1, h2, Sem.run_bind, run_underlying ht, Result.andThen_ok, m3, checkKey_run hk, hfk, setMap_run R hp hb, hself, Sem.run_pure]
          rfl
        | some q =>
          obtain ⟨j, v1, b1⟩ := q
          obtain ⟨v', rfl, g2, g3, g4, k', mm, g5, g6, g7, g8, g9⟩ := f3
          cases h
          simp only [Nat.sub_zero] at g5 g6
          refine ⟨.value undef, undef, _, ρ, ?_, .inl rfl, goes_map R hp hb (es' := es.eraseIdx j) (ms' := ms.eraseIdxIfInBounds j) ?_, VRel_unit⟩
          · simp only [Builtin.delete_, h0, h1, h2, Sem.run_bind, run_underlying ht, Result.andThen_ok, m3, checkKey_run hk, hfk, setMap_run R hp hb, Sem.run_pure]
            rfl
          · have hjl : j < ms.size := by have := (List.getElem?_eq_some_iff.1 g6).1; simpa using this
            rw [Array.eraseIdxIfInBounds, dif_pos hjl, Array.toList_eraseIdx]
            have hl := m2.length
            refine All2.of_get (by simp [List.length_eraseIdx, hl]) fun i x hi => ?_
            rw [List.getElem?_eraseIdx] at hi ⊢
            split at hi
            · rename_i hlt; rw [if_pos hlt]; exact m2.get hi
            · rename_i hlt; rw [if_neg hlt]; exact m2.get hi
    · cases h
  · cases h


theorem e_ment (R : Rel c base ρ H W) {t kt e : TypeId} {str : Bool} {z m k : AV} {w u : Value} (ht : c.P.underlying t = some (.map kt e)) (hk : keyStr c.P kt = some str) (hz : c.zeroV e = some z) (hm : VRel c ρ m w) (hkv : VRel c ρ k u) {v : AV} {H' : Heap} (h : eMent H str z m k = some (v, H')) :
    Turns c base ρ H W (do pure (.value (← Instr.mapEntry t w u))) v H' := by
  unfold eMent at h
  split at h
  · rename_i b
    rw [VRel_map] at hm
    obtain ⟨p, hp, rfl⟩ := hm
    split at h
    · rename_i es cl hb
      cases hc : k.isSc with
      | false => rw [hc] at h; cases h
      | true =>
        rw [hc] at h
        simp only [cond_true] at h
        obtain ⟨ms, m1, m2, m3⟩ := getMap R hp hb
        cases hf : findE str k es 0 with
        | none => rw [hf] at h; cases h
        | some r =>
          rw [hf] at h
          obtain ⟨d, r', f1, f2, f3⟩ := find_rel hk hkv m2 hf
          have hfk : (Instr.findKey kt u ms.toList).run c.P W = .ok r' W := by
            simp only [Instr.findKey, Sem.run_bind, run_underlying f1, Result.andThen_ok, f2, Sem.run_pure]
          cases r with
          | none =>
            simp only [] at f3
            subst f3
            cases h
            obtain ⟨zv, z1, z0, z2⟩ := zeroV_run hz W
            refine ⟨.value (.tuple #[zv, .int .i64 cl]), .tuple #[zv, .int .i64 cl], _, ρ, ?_, .inl rfl, goes_map R hp hb (es' := es ++ [(k, z, cl)]) (ms' := ms.push { key := u, val := zv, born := cl }) ?_, VRel_tup.2 ⟨_, rfl, VRel.v1 z0 (z2 ρ), by simp only [VRel1, SRel, BRel]; rfl, trivial⟩⟩
            · simp only [Instr.mapEntry, Sem.run_bind, run_underlying ht, Result.andThen_ok, m3, checkKey_run hk, hfk, z1, setMap_run R hp hb, Sem.run_pure, goInt]
            · rw [Array.toList_push]
              exact m2.append ⟨⟨VRel.sc hc hkv, hc, VRel.v1 z0 (z2 ρ), z0, rfl⟩, trivial⟩
          | some q =>
            obtain ⟨j, v1, b1⟩ := q
            obtain ⟨v', rfl, g2, g3, g4, k', mm, g5, g6, g7, g8, g9⟩ := f3
            cases h
            simp only [Nat.sub_zero] at g5 g6
            rw [Array.getElem?_toList] at g6
            have hkey : (((ms[j]?).map (·.key)).getD u) = mm.key := by rw [g6]; rfl
            have hborn : ((ms[j]?).map (fun x : MapEntry => (x.born : Int))).getD 0 = (b1 : Int) := by rw [g6]; exact congrArg Int.ofNat g7.2.2.2.2
            refine ⟨.value (.tuple #[v', .int .i64 b1]), .tuple #[v', .int .i64 b1], { W with heap := W.heap.setIfInBounds p.c (.map (ms.modify j fun e => { e with key := u }) cl) }, ρ, ?_, .inl rfl, goes_map R hp hb (es' := setE es j k v1) (ms' := ms.modify j fun e => { e with key := u }) ?_, VRel_tup.2 ⟨_, rfl, g2, by simp only [VRel1, SRel, BRel]; rfl, trivial⟩⟩
            · simp only [Instr.mapEntry, Sem.run_bind, run_underlying ht, Result.andThen_ok, m3, checkKey_run hk, hfk, hkey, keyStays g8, setMap_run R hp hb, Sem.run_pure, goInt, hborn]
            · have := setE_rel m2 g5 g6 (VRel.sc hc hkv) hc g2 g3
              have e1 : (ms.modify j fun e => { e with key := u, val := v' }) = ms.modify j fun e => { e with key := u } := by
                apply Array.ext
                · simp
                · intro i h1 h2
                  simp only [Array.getElem_modify]
                  split
                  · rename_i hi
                    subst hi
                    have hlt : j < ms.size := by simpa using h1
                    have : ms[j] = mm := by
                      rw [Array.getElem?_eq_getElem hlt] at g6
                      exact Option.some.inj g6
                    rw [this, ← g9]
                  · rfl
              rwa [e1] at this
    · cases h
  · cases h

theorem e_mest (R : Rel c base ρ H W) {t : TypeId} {m s x : AV} {w u y : Value} (hm : VRel c ρ m w) (hs : VRel c ρ s u) (hx : VRel c ρ x y) {v : AV} {H' : Heap} (h : eMest H m s x = some (v, H')) :
    Turns c base ρ H W (do Instr.entryStore t w u y; pure .skip) v H' := by
  unfold eMest at h
  split at h
  · rename_i b
    rw [VRel_map] at hm
    obtain ⟨p, hp, rfl⟩ := hm
    split at h
    · rename_i born hborn
      split at h
      · rename_i es cl hb
        cases hc : x.isV with
        | false => rw [hc] at h; cases h
        | true =>
          rw [hc] at h
          simp only [cond_true] at h
          obtain ⟨ms, m1, m2, m3⟩ := getMap R hp hb
          split at h
          · rename_i i hi
            split at h
            · rename_i k v0 b0 he
              cases h
              obtain ⟨mm, g6, g7⟩ := m2.get he
              rw [Array.getElem?_toList] at g6
              have hfind : ∀ {es : List (AV × AV × Nat)} {ms : List MapEntry}, All2 (EntRel c ρ) es ms → es.findIdx? (fun e => Nat.beq e.2.2 born) = ms.findIdx? (fun e => (e.born : Int) == (born : Int)) := by
                intro es
                induction es with
                | nil => intro ms h; match ms, h with | [], _ => rfl
                | cons q es ih =>
                  intro ms h
                  match ms, h with
                  | m :: ms, ⟨h1, h2⟩ =>
                    rw [List.findIdx?_cons, List.findIdx?_cons, ih h2]
                    have e5 := h1.2.2.2.2
                    have : Nat.beq q.2.2 born = ((m.born : Int) == (born : Int)) := by
                      rw [nbeq, e5]
                      by_cases hb : q.2.2 = born
                      · simp [hb]
                      · have : ¬ (q.2.2 : Int) = (born : Int) := by omega
                        simp [hb, this]
                    rw [this]
              have hfi : ms.findIdx? (fun e => (e.born : Int) == (born : Int)) = some i := by
                have e0 : ms.findIdx? (fun e => (e.born : Int) == (born : Int)) = ms.toList.findIdx? (fun e => (e.born : Int) == (born : Int)) := by
                  have e1 : ms = ms.toList.toArray := by simp
                  rw [e1, List.findIdx?_toArray]
                rw [e0, ← hfind m2]; exact hi
              have hint : (asInt u).run c.P W = .ok (born : Int) W := natOf_i64 hborn hs
              refine ⟨.skip, undef, _, ρ, ?_, .inr ⟨rfl, rfl⟩, goes_map R hp hb (es' := setE es i k x) (ms' := ms.modify i fun e => { e with val := y }) ?_, VRel_unit⟩
              · simp only [Instr.entryStore, Sem.run_bind, m3, Result.andThen_ok, hint, hfi, setMap_run R hp hb, Sem.run_pure]
              · have := setE_rel m2 he g6 g7.1 g7.2.1 (VRel.v1 hc hx) hc
                have e1 : (ms.modify i fun e => { e with key := mm.key, val := y }) = ms.modify i fun e => { e with val := y } := by
                  apply Array.ext
                  · simp
                  · intro j h1 h2
                    simp only [Array.getElem_modify]
                    split
                    · rename_i hj
                      subst hj
                      have hlt : i < ms.size := by simpa using h1
                      have : ms[i] = mm := by
                        rw [Array.getElem?_eq_getElem hlt] at g6
                        exact Option.some.inj g6
                      rw [this]
                    · rfl
                rwa [e1] at this
            · cases h
          · cases h
      · cases h
    · cases h
  · cases h

end
end Go.Dp
