/- The clean machine, part QqZ. Conditions: none. -/
import Derived.Test.YtihoblfmhighpaaQqN
import Derived.Laws.Append
import Derived.Laws.AppendOwn
import Derived.Lib.UnsafeStr
import Derived.Orders
import Derived.Scope
import Derived.Lib.Bytealg
import Derived.Lib.MakeNoZero
set_option linter.unusedSimpArgs false
set_option linter.unusedVariables false
namespace Go.Dp
open Go.RowKit

theorem frozen_no {w : World} {g i : Nat} {cur : Array Value} {e : TypeId} {fz : Nat × Nat} (hg : w.heap[g]? = some (.cells cur e fz)) (hf : fz.1 = fz.2 ∨ cur.size ≤ fz.1) (hi : i < cur.size) : w.frozen? ⟨g, i, none⟩ = false := by
  obtain ⟨lo, hi'⟩ := fz
  simp only at hf
  unfold World.frozen?
  rw [hg]
  simp only [Bool.and_eq_false_iff, decide_eq_false_iff_not]
  omega

theorem run_st (P : Program) (g o : Nat) (e : TypeId) (fz : Nat × Nat) : ∀ (vs : List Value) (i : Nat) (cur : Array Value) (w : World), w.heap[g]? = some (.cells cur e fz) → (fz.1 = fz.2 ∨ cur.size ≤ fz.1) → o + i + vs.length ≤ cur.size → (∀ v ∈ vs, v.oneCell' = true) →
    (storeCells ⟨g, o, none⟩ vs i).run P w = .ok () (w.setRow g (over cur.toList (o + i) vs).toArray)
  | [], i, cur, w, hg, _, _, _ => by
    simp only [storeCells, over_nil, Array.toArray_toList]
    rw [setRow_self w g cur e fz hg]
    rfl
  | v :: rest, i, cur, w, hg, hf, hl, h1 => by
    have hi : o + i < cur.size := by simp at hl; omega
    have hadd : (⟨g, o, none⟩ : Addr).add i = ⟨g, o + i, none⟩ := Addr.add_lit g o i
    have hcell : w.cell? ⟨g, o + i, none⟩ = some cur[o + i] := by simp [World.cell?, hg, hi]
    have hst : (store ((⟨g, o, none⟩ : Addr).add i) v).run P w = .ok () (w.setRow g (cur.setIfInBounds (o + i) v)) := by
      rw [hadd, run_store P w _ v _ (h1 v (by simp)), hcell]
      simp [frozen_no hg hf hi, setCell_eq_setRow w g (o + i) cur e fz v hg]
    have ih := run_st P g o e fz rest (i + 1) (cur.setIfInBounds (o + i) v) (w.setRow g (cur.setIfInBounds (o + i) v)) (setRow_heap w g cur _ e _ hg) (by simpa using hf) (by simp at hl ⊢; omega) (fun x hx => h1 x (by simp [hx]))
    simp only [storeCells, Sem.run_bind, hst, Result.andThen_ok, ih, setRow_setRow]
    congr 3
    rw [Array.toList_setIfInBounds, ← over_cons _ _ _ _ (by simp at hl ⊢; omega)]
    rfl

theorem over_get {α : Type} (l : List α) (o : Nat) (vs : List α) (h : o + vs.length ≤ l.length) (i : Nat) : (over l o vs)[i]? = if i < o then l[i]? else if i < o + vs.length then vs[i - o]? else l[i]? := by
  unfold over
  rw [List.getElem?_append, List.length_take]
  have hm : min o l.length = o := by omega
  rw [hm]
  by_cases h1 : i < o
  · rw [if_pos h1, if_pos h1, List.getElem?_take, if_pos h1]
  · rw [if_neg h1, if_neg h1, List.getElem?_append]
    by_cases h2 : i < o + vs.length
    · rw [if_pos (by omega), if_pos h2]
    · rw [if_neg (by omega), if_neg h2, List.getElem?_drop]
      congr 1
      omega

section
variable {c : Cx} {base : Nat} {ρ : Rho} {H : Heap} {W : World} {fr : List AV} {a : Act}

theorem SRel.one {x : AV} {v : Value} (hs : x.isSc = true) (h : SRel c ρ x v) : v.oneCell' = true := by
  cases x <;> first
    | exact absurd (show false = true from hs) (by decide)
    | (simp only [SRel, BRel] at h; subst h; rfl)
    | (simp only [SRel, BRel] at h; obtain ⟨_, rfl, _⟩ := h; rfl)
    | (simp only [SRel, BRel] at h; obtain ⟨_, _, rfl⟩ := h; rfl)
    | (simp only [SRel, BRel] at h; obtain ⟨_, _, _, rfl, _⟩ := h; rfl)
    | (simp only [SRel, BRel] at h; obtain ⟨_, _, _, _, rfl, _⟩ := h; rfl)

theorem all_one : ∀ {xs : List AV} {vs : List Value}, xs.all AV.isSc = true → All2 (SRel c ρ) xs vs → ∀ v ∈ vs, v.oneCell' = true
  | [], [], _, _, v, hv => by simp at hv
  | x :: xs, w :: vs, h, ⟨h1, h2⟩, v, hv => by
    simp only [List.all_cons, Bool.and_eq_true] at h
    rcases List.mem_cons.1 hv with rfl | hv
    · exact SRel.one h.1 h1
    · exact all_one h.2 h2 v hv
  | [], _ :: _, _, h, _, _ => h.elim
  | _ :: _, [], _, h, _, _ => h.elim

theorem Below.setRow {B g : Nat} (w : World) (cs : Array Value) (h : B ≤ g) : Below B w (w.setRow g cs) :=
  ⟨rfl, rfl, rfl, by simp [World.setRow], fun k hk => by simp only [World.setRow, Array.getElem?_modify]; rw [if_neg (by omega)]⟩

theorem write_cells (R : Rel c base ρ H W) {b o k : Nat} {p : Pl} {l us : List AV} {ws : List Value} (hp : ρ b = some p) (hx : H.get b = some (.cells l (k + 1))) (hle : o + us.length ≤ l.length) (hr : All2 (SRel c ρ) us ws) (h1 : ∀ v ∈ ws, v.oneCell' = true) :
    ∃ W', (storeCells ⟨p.c, p.s + o, none⟩ ws).run c.P W = .ok () W' ∧ Goes c base ρ H W ρ (H.put b (.cells (over l o us) (k + 1))) W' := by
  obtain ⟨xb, hxb, hrb⟩ := R.blk b p hp
  rw [hx] at hxb
  cases hxb
  obtain ⟨e1, cs, e, fz, e2, e3, e4, e5⟩ := hrb
  have hlen := hr.length
  have hf : fz.1 = fz.2 ∨ cs.size ≤ fz.1 := by
    by_cases h3 : k + 1 = 3
    · exact (e5.2.1 h3).1
    · exact .inl (e5.1 (by omega) h3)
  have hfit : p.s + o + ws.length ≤ cs.size := by omega
  have hrun := run_st c.P p.c (p.s + o) e fz ws 0 cs W e2 hf (by simpa using hfit) h1
  simp only [Nat.add_zero] at hrun
  have hovl : (over cs.toList (p.s + o) ws).length = cs.toList.length := over_length _ _ _ (by simpa using hfit)
  have hlow := R.low b p _ hp hx rfl
  refine ⟨_, hrun, Ext.refl _, ?_, Below.setRow W _ hlow, Nat.le_refl _, fun _ _ h => .inl h, fun i hi hn => ?_⟩
  · refine R.rewrite (cs := cs) (cs' := (over cs.toList (p.s + o) ws).toArray) (e := e) (fz := fz) hp hx rfl e2 (setRow_heap W p.c cs _ e fz e2) (by simp [World.setRow]) (by simpa using hovl) (fun i hi => ?_) (fun i hi => ?_) rfl (Heap.get_put _ _ _) ?_ (fun _ => rfl)
    · simp only [World.setRow, Array.getElem?_modify]
      rw [if_neg (Ne.symm hi)]
    · rw [List.getElem?_toArray, over_get _ _ _ (by simpa using hfit)]
      by_cases h1 : i < p.s + o
      · rw [if_pos h1, Array.getElem?_toList]
      · rw [if_neg h1, if_neg (by omega), Array.getElem?_toList]
    · refine ⟨by rw [over_length _ _ _ hle]; exact e1, (over cs.toList (p.s + o) ws).toArray, e, fz, setRow_heap W p.c cs _ e fz e2, by simp [hovl]; exact e3, fun i x hi => ?_, by
        have : (over cs.toList (p.s + o) ws).toArray.size = cs.size := by simpa using hovl
        rw [this]; exact e5⟩
      rw [over_get _ _ _ hle] at hi
      rw [List.getElem?_toArray, over_get _ _ _ (by simpa using hfit)]
      by_cases h1 : i < o
      · rw [if_pos h1] at hi
        rw [if_pos (by omega), Array.getElem?_toList]
        exact e4 i x hi
      · rw [if_neg h1] at hi
        by_cases h2 : i < o + us.length
        · rw [if_pos h2] at hi
          rw [if_neg (by omega), if_pos (by omega)]
          have := hr.get hi
          rwa [show p.s + i - (p.s + o) = i - o by omega]
        · rw [if_neg h2] at hi
          rw [if_neg (by omega), if_neg (by omega), Array.getElem?_toList]
          exact e4 i x hi
  · rw [Heap.get_put, if_neg (by intro e; subst e; rw [hp] at hn; cases hn)]

def Turns (c : Cx) (base : Nat) (ρ : Rho) (H : Heap) (W : World) (s : Sem Next) (v : AV) (H' : Heap) : Prop :=
  ∃ nx v' W' ρ', s.run c.P W = .ok nx W' ∧ (nx = .value v' ∨ (nx = .skip ∧ v' = undef)) ∧ Goes c base ρ H W ρ' H' W' ∧ VRel c ρ' v v'

theorem VRel_unit : VRel c ρ (.tup []) undef := VRel_tup.2 ⟨#[], rfl, trivial⟩

theorem e_store (R : Rel c base ρ H W) {t : TypeId} {n : Nat} {x y : AV} {u w : Value} (hn : c.size t = some n) (hx : VRel c ρ x u) (hy : VRel c ρ y w) {v : AV} {H' : Heap} (h : eStore H n x y.cells = some (v, H')) :
    Turns c base ρ H W (do Instr.storeAt t u w; pure .skip) v H' := by
  unfold eStore at h
  split at h
  · rename_i b o
    cases hc : (Nat.beq y.cells.length n && y.cells.all AV.isSc) with
    | false => rw [hc] at h; cases h
    | true =>
      rw [hc] at h
      simp only [cond_true] at h
      simp only [nbeq, Bool.and_eq_true, decide_eq_true_eq] at hc
      obtain ⟨hc1, hc2⟩ := hc
      rw [VRel_ptr] at hx
      obtain ⟨p, hp, rfl⟩ := hx
      unfold unit at h
      split at h
      · rename_i H'' hst
        cases h
        unfold Heap.st at hst
        split at hst
        · rename_i l k hb
          rw [nble] at hst
          by_cases hle : o + y.cells.length ≤ l.length
          · rw [decide_eq_true hle] at hst
            cases hst
            have hr := VRel.cells hc2 hy
            obtain ⟨W', q1, q2⟩ := write_cells R hp hb hle hr (all_one hc2 hr)
            refine ⟨.skip, undef, W', ρ, ?_, .inr ⟨rfl, rfl⟩, q2, VRel_unit⟩
            have hsz : ¬ w.cells.size ≠ n := by have := hr.length; simp at this; omega
            have : (Instr.storeAt t (.pointer (some ⟨p.c, p.s + o, none⟩)) w).run c.P W = .ok () W' := by
              show (storeVar t ⟨p.c, p.s + o, none⟩ w).run c.P W = _
              simp only [storeVar, Sem.run_bind, run_size hn, Result.andThen_ok, if_neg hsz]
              exact q1
            simp [this]
          · rw [decide_eq_false hle] at hst; cases hst
        · cases hst
      · cases h
  · cases h

theorem setE_rel {es : List (AV × AV × Nat)} {ms : Array MapEntry} (hr : All2 (EntRel c ρ) es ms.toList) {j : Nat} {k k' v v0 : AV} {born : Nat} {w u : Value} {m : MapEntry} (he : es[j]? = some (k', v0, born)) (hm : ms[j]? = some m) (hk : SRel c ρ k w) (hks : k.isSc = true) (hv : VRel1 c ρ v u) (hvs : v.isV = true) :
    All2 (EntRel c ρ) (setE es j k v) (ms.modify j fun e => { e with key := w, val := u }).toList := by
  unfold setE
  rw [he]
  simp only []
  have hl := hr.length
  refine All2.of_get (by simp; exact hl) fun i x hi => ?_
  rw [List.getElem?_set] at hi
  by_cases hij : j = i
  · subst hij
    rw [if_pos rfl] at hi
    have hjl : j < es.length := (List.getElem?_eq_some_iff.1 he).1
    rw [if_pos hjl] at hi
    cases hi
    obtain ⟨m', hm', e1, e2, e3, e4, e5⟩ := hr.get he
    rw [Array.getElem?_toList, hm] at hm'
    cases hm'
    refine ⟨{ m with key := w, val := u }, ?_, hk, hks, hv, hvs, e5⟩
    rw [Array.getElem?_toList, Array.getElem?_modify, if_pos rfl, hm]
    rfl
  · rw [if_neg hij] at hi
    obtain ⟨m', hm', hrel⟩ := hr.get hi
    refine ⟨m', ?_, hrel⟩
    rw [Array.getElem?_toList] at hm' ⊢
    rw [Array.getElem?_modify, if_neg hij]
    exact hm'

theorem below_map {g : Nat} {o : Obj} (h : base ≤ g) : Below base W { W with heap := W.heap.setIfInBounds g o } :=
  ⟨rfl, rfl, rfl, by simp, fun k hk => Array.getElem?_setIfInBounds_ne (by omega)⟩

theorem goes_map (R : Rel c base ρ H W) {b : Nat} {p : Pl} {es es' : List (AV × AV × Nat)} {cl cl' : Nat} {ms' : Array MapEntry} (hp : ρ b = some p) (hx : H.get b = some (.mp es cl)) (hr : All2 (EntRel c ρ) es' ms'.toList) :
    Goes c base ρ H W ρ (H.put b (.mp es' cl')) { W with heap := W.heap.setIfInBounds p.c (.map ms' cl') } :=
  ⟨.refl _, R.rewriteMap hp hx hr, below_map (R.low b p _ hp hx rfl), Nat.le_refl _, fun _ _ h => .inl h, fun i hi hn => by rw [Heap.get_put, if_neg (by intro e; subst e; rw [hp] at hn; cases hn)]⟩

theorem setMap_run (R : Rel c base ρ H W) {b : Nat} {p : Pl} {es : List (AV × AV × Nat)} {cl : Nat} (hp : ρ b = some p) (hx : H.get b = some (.mp es cl)) (o : Obj) : (setObj p.c o).run c.P W = .ok () { W with heap := W.heap.setIfInBounds p.c o } := by
  obtain ⟨ms, m1, m2, m3⟩ := getMap R hp hx
  simp only [setObj, Sem.run, m1]

theorem keyStays {old new : Value} (h : Instr.sameBits 10000 old new = true) : (Instr.keyThatStays old new).run c.P W = .ok new W := by
  unfold Instr.keyThatStays
  rw [if_pos h]
  rfl

theorem e_mupd (R : Rel c base ρ H W) {t kt e : TypeId} {str : Bool} {m k x : AV} {w u y : Value} (ht : c.P.underlying t = some (.map kt e)) (hk : keyStr c.P kt = some str) (hm : VRel c ρ m w) (hkv : VRel c ρ k u) (hx : VRel c ρ x y) {v : AV} {H' : Heap} (h : eMupd H str m k x = some (v, H')) :
    Turns c base ρ H W (do Instr.mapUpdate t w u y; pure .skip) v H' := by
  unfold eMupd at h
  split at h
  · rename_i b
    rw [VRel_map] at hm
    obtain ⟨p, hp, rfl⟩ := hm
    split at h
    · rename_i es cl hb
      cases hc : (x.isV && k.isSc) with
      | false => rw [hc] at h; cases h
      | true =>
        rw [hc] at h
        simp only [cond_true] at h
        simp only [Bool.and_eq_true] at hc
        obtain ⟨ms, m1, m2, m3⟩ := getMap R hp hb
        cases hf : findE str k es 0 with
        | none => rw [hf] at h; cases h
        | some r =>
          rw [hf] at h
          obtain ⟨d, r', f1, f2, f3⟩ := find_rel hk hkv m2 hf
          have hfk : (Instr.findKey kt u ms.toList).run c.P W = .ok r' W := by
            simp only [Instr.findKey, Sem.run_bind, run_underlying f1, Result.andThen_ok, f2, Sem.run_pure]
          cases r with
          | none =>
            simp only [] at f3
            subst f3
            cases h
            refine ⟨.skip, undef, _, ρ, ?_, .inr ⟨rfl, rfl⟩, goes_map R hp hb (es' := es ++ [(k, x, cl)]) (ms' := ms.push { key := u, val := y, born := cl }) ?_, VRel_unit⟩
            · simp only [Instr.mapUpdate, Sem.run_bind, run_underlying ht, Result.andThen_ok, m3, checkKey_run hk, hfk, setMap_run R hp hb, Sem.run_pure]
            · rw [Array.toList_push]
              exact m2.append ⟨⟨VRel.sc hc.2 hkv, hc.2, VRel.v1 hc.1 hx, hc.1, rfl⟩, trivial⟩
          | some q =>
            obtain ⟨j, v1, b1⟩ := q
            obtain ⟨v', rfl, g2, g3, g4, k', mm, g5, g6, g7, g8, g9⟩ := f3
            cases h
            simp only [Nat.sub_zero] at g5 g6
            rw [Array.getElem?_toList] at g6
            refine ⟨.skip, undef, _, ρ, ?_, .inr ⟨rfl, rfl⟩, goes_map R hp hb (es' := setE es j k x) (ms' := ms.modify j fun e => { e with key := u, val := y }) (setE_rel m2 g5 g6 (VRel.sc hc.2 hkv) hc.2 (VRel.v1 hc.1 hx) hc.1), VRel_unit⟩
            have hkey : (((ms[j]?).map (·.key)).getD u) = mm.key := by rw [g6]; rfl
            simp only [Instr.mapUpdate, Sem.run_bind, run_underlying ht, Result.andThen_ok, m3, checkKey_run hk, hfk, hkey, keyStays g8, setMap_run R hp hb, Sem.run_pure]
    · cases h
  · cases h

theorem e_mdel (R : Rel c base ρ H W) {t kt e : TypeId} {str : Bool} {m k : AV} {w u : Value} {ts : Array TypeId} {xs : Array Value} {ty : TypeId} (h0 : ts[0]? = some t) (h1 : xs[0]? = some w) (h2 : xs[1]? = some u) (ht : c.P.underlying t = some (.map kt e)) (hk : keyStr c.P kt = some str) (hm : VRel c ρ m w) (hkv : VRel c ρ k u)
    {v : AV} {H' : Heap} (h : eMdel H str m k = some (v, H')) : Turns c base ρ H W (do pure (.value (← Builtin.delete_ ts ty xs))) v H' := by
  unfold eMdel at h
  split at h
  · rw [VRel_nilm] at hm
    subst hm
    cases h
    refine ⟨.value undef, undef, W, ρ, ?_, .inl rfl, Goes.refl R, VRel_unit⟩
    simp only [Builtin.delete_, h0, h1, h2, Sem.run_bind, run_underlying ht, Result.andThen_ok, checkKey_run hk, Sem.run_pure]
    rfl
  · rename_i b
    rw [VRel_map] at hm
    obtain ⟨p, hp, rfl⟩ := hm
    split at h
    · rename_i es cl hb
      obtain ⟨ms, m1, m2, m3⟩ := getMap R hp hb
      cases hf : findE str k es 0 with
      | none => rw [hf] at h; cases h
      | some r =>
        rw [hf] at h
        obtain ⟨d, r', f1, f2, f3⟩ := find_rel hk hkv m2 hf
        have hfk : (Instr.findKey kt u ms.toList).run c.P W = .ok r' W := by
          simp only [Instr.findKey, Sem.run_bind, run_underlying f1, Result.andThen_ok, f2, Sem.run_pure]
        cases r with
        | none =>
          simp only [] at f3
          subst f3
          cases h
          have hself : ({ W with heap := W.heap.setIfInBounds p.c (.map ms cl) } : World) = W := by
            have hlt := R.in_ b p hp
            have : W.heap.setIfInBounds p.c (.map ms cl) = W.heap := by
              apply Array.ext
              · simp
              · intro i h1 h2
                rw [Array.getElem_setIfInBounds]
                split
                · rename_i hi
                  subst hi
                  rw [Array.getElem?_eq_getElem hlt] at m1
                  exact (Option.some.inj m1).symm
                · rfl
            rw [this]
          refine ⟨.value undef, undef, W, ρ, ?_, .inl rfl, Goes.refl R, VRel_unit⟩
          simp only [Builtin.delete_, h0, h1, h2, Sem.run_bind, run_underlying ht, Result.andThen_ok, m3, checkKey_run hk, hfk, setMap_run R hp hb, hself, Sem.run_pure]
          rfl
        | some q =>
          obtain ⟨j, v1, b1⟩ := q
          obtain ⟨v', rfl, g2, g3, g4, k', mm, g5, g6, g7, g8, g9⟩ := f3
          cases h
          simp only [Nat.sub_zero] at g5 g6
          refine ⟨.value undef, undef, _, ρ, ?_, .inl rfl, goes_map R hp hb (es' := es.eraseIdx j) (ms' := ms.eraseIdxIfInBounds j) ?_, VRel_unit⟩
          · simp only [Builtin.delete_, h0, h1, h2, Sem.run_bind, run_underlying ht, Result.andThen_ok, m3, checkKey_run hk, hfk, setMap_run R hp hb, Sem.run_pure]
            rfl
          · have hjl : j < ms.size := by have := (List.getElem?_eq_some_iff.1 g6).1; simpa using this
            rw [Array.eraseIdxIfInBounds, dif_pos hjl, Array.toList_eraseIdx]
            have hl := m2.length
            refine All2.of_get (by simp [List.length_eraseIdx, hl]) fun i x hi => ?_
            rw [List.getElem?_eraseIdx] at hi ⊢
            split at hi
            · rename_i hlt; rw [if_pos hlt]; exact m2.get hi
            · rename_i hlt; rw [if_neg hlt]; exact m2.get hi
    · cases h
  · cases h

theorem e_ment (R : Rel c base ρ H W) {t kt e : TypeId} {str : Bool} {z m k : AV} {w u : Value} (ht : c.P.underlying t = some (.map kt e)) (hk : keyStr c.P kt = some str) (hz : c.zeroV e = some z) (hm : VRel c ρ m w) (hkv : VRel c ρ k u) {v : AV} {H' : Heap} (h : eMent H str z m k = some (v, H')) :
    Turns c base ρ H W (do pure (.value (← Instr.mapEntry t w u))) v H' := by
  unfold eMent at h
  split at h
  · rename_i b
    rw [VRel_map] at hm
    obtain ⟨p, hp, rfl⟩ := hm
    split at h
    · rename_i es cl hb
      cases hc : k.isSc with
      | false => rw [hc] at h; cases h
      | true =>
        rw [hc] at h
        simp only [cond_true] at h
        obtain ⟨ms, m1, m2, m3⟩ := getMap R hp hb
        cases hf : findE str k es 0 with
        | none => rw [hf] at h; cases h
        | some r =>
          rw [hf] at h
          obtain ⟨d, r', f1, f2, f3⟩ := find_rel hk hkv m2 hf
          have hfk : (Instr.findKey kt u ms.toList).run c.P W = .ok r' W := by
            simp only [Instr.findKey, Sem.run_bind, run_underlying f1, Result.andThen_ok, f2, Sem.run_pure]
          cases r with
          | none =>
            simp only [] at f3
            subst f3
            cases h
            obtain ⟨zv, z1, z0, z2⟩ := zeroV_run hz W
            refine ⟨.value (.tuple #[zv, .int .i64 cl]), .tuple #[zv, .int .i64 cl], _, ρ, ?_, .inl rfl, goes_map R hp hb (es' := es ++ [(k, z, cl)]) (ms' := ms.push { key := u, val := zv, born := cl }) ?_, VRel_tup.2 ⟨_, rfl, VRel.v1 z0 (z2 ρ), by simp only [VRel1, SRel, BRel]; rfl, trivial⟩⟩
            · simp only [Instr.mapEntry, Sem.run_bind, run_underlying ht, Result.andThen_ok, m3, checkKey_run hk, hfk, z1, setMap_run R hp hb, Sem.run_pure, goInt]
            · rw [Array.toList_push]
              exact m2.append ⟨⟨VRel.sc hc hkv, hc, VRel.v1 z0 (z2 ρ), z0, rfl⟩, trivial⟩
          | some q =>
            obtain ⟨j, v1, b1⟩ := q
            obtain ⟨v', rfl, g2, g3, g4, k', mm, g5, g6, g7, g8, g9⟩ := f3
            cases h
            simp only [Nat.sub_zero] at g5 g6
            rw [Array.getElem?_toList] at g6
            have hkey : (((ms[j]?).map (·.key)).getD u) = mm.key := by rw [g6]; rfl
            have hborn : ((ms[j]?).map (fun x : MapEntry => (x.born : Int))).getD 0 = (b1 : Int) := by rw [g6]; exact congrArg Int.ofNat g7.2.2.2.2
            refine ⟨.value (.tuple #[v', .int .i64 b1]), .tuple #[v', .int .i64 b1], { W with heap := W.heap.setIfInBounds p.c (.map (ms.modify j fun e => { e with key := u }) cl) }, ρ, ?_, .inl rfl, goes_map R hp hb (es' := setE es j k v1) (ms' := ms.modify j fun e => { e with key := u }) ?_, VRel_tup.2 ⟨_, rfl, g2, by simp only [VRel1, SRel, BRel]; rfl, trivial⟩⟩
            · simp only [Instr.mapEntry, Sem.run_bind, run_underlying ht, Result.andThen_ok, m3, checkKey_run hk, hfk, hkey, keyStays g8, setMap_run R hp hb, Sem.run_pure, goInt, hborn]
            · have := setE_rel m2 g5 g6 (VRel.sc hc hkv) hc g2 g3
              have e1 : (ms.modify j fun e => { e with key := u, val := v' }) = ms.modify j fun e => { e with key := u } := by
                apply Array.ext
                · simp
                · intro i h1 h2
                  simp only [Array.getElem_modify]
                  split
                  · rename_i hi
                    subst hi
                    have hlt : j < ms.size := by simpa using h1
                    have : ms[j] = mm := by
                      rw [Array.getElem?_eq_getElem hlt] at g6
                      exact Option.some.inj g6
                    rw [this, ← g9]
                  · rfl
              rwa [e1] at this
    · cases h
  · cases h

theorem e_mest (R : Rel c base ρ H W) {t : TypeId} {m s x : AV} {w u y : Value} (hm : VRel c ρ m w) (hs : VRel c ρ s u) (hx : VRel c ρ x y) {v : AV} {H' : Heap} (h : eMest H m s x = some (v, H')) :
    Turns c base ρ H W (do Instr.entryStore t w u y; pure .skip) v H' := by
  unfold eMest at h
  split at h
  · rename_i b
    rw [VRel_map] at hm
    obtain ⟨p, hp, rfl⟩ := hm
    split at h
    · rename_i born hborn
      split at h
      · rename_i es cl hb
        cases hc : x.isV with
        | false => rw [hc] at h; cases h
        | true =>
          rw [hc] at h
          simp only [cond_true] at h
          obtain ⟨ms, m1, m2, m3⟩ := getMap R hp hb
          split at h
          · rename_i i hi
            split at h
            · rename_i k v0 b0 he
              cases h
              obtain ⟨mm, g6, g7⟩ := m2.get he
              rw [Array.getElem?_toList] at g6
              have hfind : ∀ {es : List (AV × AV × Nat)} {ms : List MapEntry}, All2 (EntRel c ρ) es ms → es.findIdx? (fun e => Nat.beq e.2.2 born) = ms.findIdx? (fun e => (e.born : Int) == (born : Int)) := by
                intro es
                induction es with
                | nil => intro ms h; match ms, h with | [], _ => rfl
                | cons q es ih =>
                  intro ms h
                  match ms, h with
                  | m :: ms, ⟨h1, h2⟩ =>
                    rw [List.findIdx?_cons, List.findIdx?_cons, ih h2]
                    have e5 := h1.2.2.2.2
                    have : Nat.beq q.2.2 born = ((m.born : Int) == (born : Int)) := by
                      rw [nbeq, e5]
                      by_cases hb : q.2.2 = born
                      · simp [hb]
                      · have : ¬ (q.2.2 : Int) = (born : Int) := by omega
                        simp [hb, this]
                    rw [this]
              have hfi : ms.findIdx? (fun e => (e.born : Int) == (born : Int)) = some i := by
                have e0 : ms.findIdx? (fun e => (e.born : Int) == (born : Int)) = ms.toList.findIdx? (fun e => (e.born : Int) == (born : Int)) := by
                  have e1 : ms = ms.toList.toArray := by simp
                  rw [e1, List.findIdx?_toArray]
                rw [e0, ← hfind m2]; exact hi
              have hint : (asInt u).run c.P W = .ok (born : Int) W := natOf_i64 hborn hs
              refine ⟨.skip, undef, _, ρ, ?_, .inr ⟨rfl, rfl⟩, goes_map R hp hb (es' := setE es i k x) (ms' := ms.modify i fun e => { e with val := y }) ?_, VRel_unit⟩
              · simp only [Instr.entryStore, Sem.run_bind, m3, Result.andThen_ok, hint, hfi, setMap_run R hp hb, Sem.run_pure]
              · have := setE_rel m2 he g6 g7.1 g7.2.1 (VRel.v1 hc hx) hc
                have e1 : (ms.modify i fun e => { e with key := mm.key, val := y }) = ms.modify i fun e => { e with val := y } := by
                  apply Array.ext
                  · simp
                  · intro j h1 h2
                    simp only [Array.getElem_modify]
                    split
                    · rename_i hj
                      subst hj
                      have hlt : i < ms.size := by simpa using h1
                      have : ms[i] = mm := by
                        rw [Array.getElem?_eq_getElem hlt] at g6
                        exact Option.some.inj g6
                      rw [this]
                    · rfl
                rwa [e1] at this
            · cases h
          · cases h
      · cases h
    · cases h
  · cases h

end
end Go.Dp
namespace Go.Dp
open Go.RowKit

section
variable {c : Cx} {base : Nat} {ρ : Rho} {H : Heap} {W : World}

theorem cell_heap {W W' : World} (h : W'.heap = W.heap) (a : Addr) : W'.cell? a = W.cell? a := by unfold World.cell?; rw [h]

theorem ofBytes_sc (s : List UInt8) : (ofBytes s).all AV.isSc = true := by
  induction s with
  | nil => rfl
  | cons b s ih => exact ih

theorem src_rel (R : Rel c base ρ H W) {sz n : Nat} {x : AV} {w : Value} {cs : List AV} (hx : VRel c ρ x w) (h : srcCells H sz x = some (n, cs)) :
    ∃ ws : List Value, ws.length = n * sz ∧ All2 (SRel c ρ) cs ws ∧ cs.all AV.isSc = true ∧ (∀ W', (Builtin.lenOf w).run c.P W' = .ok n W') ∧
      ∀ m W', m ≤ n → W'.heap = W.heap → (Builtin.firstCells sz m w).run c.P W' = .ok (ws.take (m * sz)).toArray W' := by
  unfold srcCells at h
  split at h
  · cases h
    rw [VRel_nils] at hx
    subst hx
    exact ⟨[], by simp, trivial, rfl, fun _ => rfl, fun m W' _ _ => by simp [Builtin.firstCells]⟩
  · rename_i b o len sz'
    rw [nbeq] at h
    by_cases hs : sz = sz'
    · rw [decide_eq_true hs] at h
      subst hs
      simp only [cond_true] at h
      split at h
      · rename_i cs' hld
        cases hsc : cs'.all AV.isSc with
        | false => rw [hsc] at h; cases h
        | true =>
          rw [hsc] at h
          cases h
          rw [VRel_sl] at hx
          obtain ⟨p, off, cap, hp, rfl, q1, q2, q3, q4, q5, q6⟩ := hx
          obtain ⟨ws, h1, h2, h3, h4⟩ := ld_run R hp hld
          refine ⟨ws, h1, h2, hsc, fun _ => rfl, fun m W' hm hW => ?_⟩
          have hm2 : m * sz ≤ n * sz := Nat.mul_le_mul_right _ hm
          refine run_firstCells_some W' sz m _ n cap (ws.take (m * sz)) (by rw [List.length_take, h1]; omega) fun j v hj => ?_
          have hj' : ws[j]? = some v := by
            rw [List.getElem?_take] at hj
            split at hj
            · exact hj
            · cases hj
          rcases q2 with rfl | h0
          · rw [Addr.add_lit, cell_heap hW]; exact h3 j v hj'
          · exfalso
            have hn : n = 0 := by omega
            rw [hn] at h1
            have := (List.getElem?_eq_some_iff.1 hj').1
            omega
      · cases h
    · rw [decide_eq_false hs] at h; cases h
  · rename_i s
    rw [nbeq] at h
    by_cases hs : sz = 1
    · rw [decide_eq_true hs] at h
      subst hs
      cases h
      rw [VRel_str] at hx
      obtain ⟨sb, rfl, rfl⟩ := hx
      refine ⟨sb.data.toList.map fun b => Value.int .u8 b.toNat, by simp, ofBytes_rel _, ofBytes_sc _, fun _ => rfl, fun m W' hm hW => ?_⟩
      simp only [Builtin.firstCells, Sem.run_pure, Nat.mul_one]
      congr 1
      apply Array.ext'
      rw [Array.toList_map, extract_list]
      simp [List.map_take]
    · rw [decide_eq_false hs] at h; cases h
  · cases h

theorem size_info {e : TypeId} {sz : Nat} (h : c.size e = some sz) : ∃ i, c.P.info? e = some i ∧ i.size = sz := by
  unfold Cx.size at h
  split at h
  · rename_i i hi; cases h; exact ⟨i, hi, rfl⟩
  · cases h
theorem bytes_info {e : TypeId} {b : Nat} (h : c.bytes e = some b) : ∃ i, c.P.info? e = some i ∧ i.bytes = b := by
  unfold Cx.bytes at h
  split at h
  · rename_i i hi; cases h; exact ⟨i, hi, rfl⟩
  · cases h

def NoInt (c : Cx) (t : TypeId) : Prop := (∃ e, c.P.underlying t = some (.slice e)) ∨ c.P.underlying t = some .string

theorem append_fits {s t e ty : TypeId} {sz n len cap : Nat} {ts : Array TypeId} {xs : Array Value} {a : Option Addr} {u : Value} {ws : List Value} (h0 : ts[0]? = some s) (h1 : ts[1]? = some t) (k0 : xs[0]? = some (.slice a len cap)) (k1 : xs[1]? = some u)
    (hs : c.P.underlying s = some (.slice e)) (ht : NoInt c t) (hn : c.size e = some sz) (hl : (Builtin.lenOf u).run c.P W = .ok n W) (hf : (Builtin.firstCells sz n u).run c.P W = .ok ws.toArray W) (hle : len + n ≤ cap) {W' : World}
    (hst : ∀ a', a = some a' → (storeCells (a'.add (len * sz)) ws).run c.P W = .ok () W') (ha : a = none → W' = W) :
    (Builtin.append_ ts ty xs).run c.P W = .ok (.slice a (len + n) cap) W' := by
  obtain ⟨i, hi, hisz⟩ := size_info hn
  subst hisz
  rcases ht with ⟨e', ht⟩ | ht <;> simp only [Builtin.append_, h0, h1, k0, k1, Sem.run_bind, run_underlying hs, run_underlying ht, Result.andThen_ok, sizeOf, run_info hi, Sem.run_pure, Bool.false_eq_true, if_false, hl, hle, if_true, Bool.not_false, hf]
  all_goals
    cases a with
    | none => rw [ha rfl]; rfl
    | some a' => simp only [Sem.run_bind, hst a' rfl, Result.andThen_ok, Sem.run_pure]

theorem append_grows {s t e ty : TypeId} {sz bytes n len cap : Nat} {z : Value} {ts : Array TypeId} {xs : Array Value} {a : Option Addr} {u : Value} {os ws : List Value} (h0 : ts[0]? = some s) (h1 : ts[1]? = some t) (k0 : xs[0]? = some (.slice a len cap)) (k1 : xs[1]? = some u)
    (hs : c.P.underlying s = some (.slice e)) (ht : NoInt c t) (hn : c.size e = some sz) (hb : c.bytes e = some bytes) (hz : ∀ w, (zeroValue e).run c.P w = .ok z w) (hl : (Builtin.lenOf u).run c.P W = .ok n W) (ho : (Builtin.firstCells sz len (.slice a len cap)).run c.P W.drew = .ok os.toArray W.drew)
    (hf : (Builtin.firstCells sz n u).run c.P W.drew = .ok ws.toArray W.drew) (hlt : cap < len + n) (hbd : (len + n) * bytes ≤ 35184372088832) (hbn : len + n ≤ 35184372088832) :
    (Builtin.append_ ts ty xs).run c.P W = .ok (.slice (some ⟨W.heap.size, 0, none⟩) (len + n) (grownCap W (len + n) cap e)) (W.drew.alloc (.cells ((os ++ ws).toArray ++ Builtin.zeroCells z.cells (grownCap W (len + n) cap e - (len + n))) e)) := by
  obtain ⟨i, hi, hisz⟩ := size_info hn
  subst hisz
  obtain ⟨i', hi', hib⟩ := bytes_info hb
  rw [hi] at hi'
  cases hi'
  subst hib
  have hnn : ¬ (len + n ≤ cap) := by omega
  have h63' : ¬ (9223372036854775807 < ((len : Int) + (n : Int))) := by omega
  have hfit := growslice_fits hlt (by omega : (len + n) * i.bytes ≤ 140737488355328)
  have h48' : ¬ (281474976710656 < Builtin.nextslicecap (len + n) cap * i.bytes) := by omega
  have hq : (Question.appendCap (len + n) cap e).forced = false := rfl
  rcases ht with ⟨e', ht⟩ | ht <;> simp [Builtin.append_, h0, h1, k0, k1, run_underlying hs, run_underlying ht, sizeOf, typeInfo, hi, hl, hnn, h63', h48', hq, ho, hf, hz, newRow, grownCap]
  all_goals
    congr 2
    apply Array.ext'
    simp [List.append_assoc]

theorem Rel.fresh (R : Rel c base ρ H W) : ρ H.next = none := by
  cases h : ρ H.next with
  | none => rfl
  | some p => exact absurd (R.dom _ _ h) (Nat.lt_irrefl _)

theorem Rel.kill (R : Rel c base ρ H W) (b : Nat) : Rel c base ρ (H.put b .dead) W := by
  refine ⟨R.size, R.dom, R.in_, fun i q hq => ?_, fun i q y hq hy hwr => ?_, fun i j q q' y y' hne hq hq' hy hy' hl hwr => ?_, R.glob⟩
  · rw [Heap.get_put]
    by_cases hi : i = b
    · exact ⟨.dead, by rw [if_pos hi], trivial⟩
    · rw [if_neg hi]; exact R.blk i q hq
  · rw [Heap.get_put] at hy
    by_cases hi : i = b
    · rw [if_pos hi] at hy; cases hy; cases hwr
    · rw [if_neg hi] at hy; exact R.low i q y hq hy hwr
  · rw [Heap.get_put] at hy hy'
    by_cases hi : i = b
    · rw [if_pos hi] at hy; cases hy; cases hl
    · rw [if_neg hi] at hy
      by_cases hj : j = b
      · rw [if_pos hj] at hy'; cases hy'; cases hwr
      · rw [if_neg hj] at hy'; exact R.apart i j q q' y y' hne hq hq' hy hy' hl hwr

theorem Rel.take (R : Rel c base ρ H W) {b k : Nat} {p p' : Pl} {l l' : List AV} {W' : World} (hp : ρ b = some p) (hx : H.get b = some (.cells l (k + 1))) (hc : p'.c = p.c) (hs : W'.heap.size = W.heap.size) (hother : ∀ i, i ≠ p.c → W'.heap[i]? = W.heap[i]?)
    (hb : BlkRel c (ρ.at_ H.next p') p' W' (.cells l' (k + 1))) : Rel c base (ρ.at_ H.next p') ((H.put b .dead).new (.cells l' (k + 1))) W' := by
  have hfr := R.fresh
  have hext := Rho.ext_at (p := p') hfr
  have hbn := R.dom b p hp
  have hget : ∀ i, i ≠ H.next → i ≠ b → ((H.put b .dead).new (.cells l' (k + 1))).get i = H.get i := by
    intro i h1 h2
    rw [Heap.get_new, Heap.next_put, if_neg h1, Heap.get_put, if_neg h2]
  have hgb : ((H.put b .dead).new (.cells l' (k + 1))).get b = some .dead := by
    rw [Heap.get_new, Heap.next_put, if_neg (by omega), Heap.get_put, if_pos rfl]
  have hgn : ((H.put b .dead).new (.cells l' (k + 1))).get H.next = some (.cells l' (k + 1)) := by
    rw [Heap.get_new, Heap.next_put, if_pos rfl]
  have hcase : ∀ i q, (ρ.at_ H.next p') i = some q → (i = H.next ∧ q = p') ∨ (i ≠ H.next ∧ ρ i = some q) := by
    intro i q hq
    unfold Rho.at_ at hq
    by_cases e : i = H.next
    · rw [if_pos e] at hq; exact .inl ⟨e, (Option.some.inj hq).symm⟩
    · rw [if_neg e] at hq; exact .inr ⟨e, hq⟩
  refine ⟨by rw [hs]; exact R.size, fun i q hq => ?_, fun i q hq => ?_, fun i q hq => ?_, fun i q y hq hy hwr => ?_, fun i j q q' y y' hne hq hq' hy hy' hl hwr => ?_, fun g i hg => let ⟨q, h1, h2, h3⟩ := R.glob g i hg; ⟨q, hext i q h1, h2, h3⟩⟩
  · show i < H.next + 1
    rcases hcase i q hq with ⟨rfl, _⟩ | ⟨_, h⟩
    · omega
    · have := R.dom i q h; omega
  · rw [hs]
    rcases hcase i q hq with ⟨_, rfl⟩ | ⟨_, h⟩
    · rw [hc]; exact R.in_ b p hp
    · exact R.in_ i q h
  · rcases hcase i q hq with ⟨rfl, rfl⟩ | ⟨hi, h⟩
    · exact ⟨_, hgn, hb⟩
    · by_cases hib : i = b
      · subst hib; exact ⟨.dead, hgb, trivial⟩
      · obtain ⟨y, hy, hyr⟩ := R.blk i q h
        refine ⟨y, by rw [hget i hi hib]; exact hy, ?_⟩
        by_cases hl : y.live = true
        · exact (hyr.ext hext).heap (hother _ (R.apart i b q p y _ hib h hp hy hx hl rfl))
        · cases y <;> first | exact absurd rfl hl | trivial
  · rcases hcase i q hq with ⟨rfl, rfl⟩ | ⟨hi, h⟩
    · rw [hc]; exact R.low b p _ hp hx rfl
    · by_cases hib : i = b
      · subst hib; rw [hgb] at hy; cases hy; cases hwr
      · rw [hget i hi hib] at hy; exact R.low i q y h hy hwr
  · rcases hcase i q hq with ⟨rfl, rfl⟩ | ⟨hi, h⟩ <;> rcases hcase j q' hq' with ⟨rfl, rfl⟩ | ⟨hj, h'⟩
    · exact absurd rfl hne
    · by_cases hjb : j = b
      · subst hjb; rw [hgb] at hy'; cases hy'; cases hwr
      · rw [hget j hj hjb] at hy'
        intro e
        exact R.apart b j p q' _ y' (Ne.symm hjb) hp h' hx hy' rfl hwr (hc.symm.trans e)
    · by_cases hib : i = b
      · subst hib; rw [hgb] at hy; cases hy; cases hl
      · rw [hget i hi hib] at hy
        intro e
        exact R.apart i b q p y _ hib h hp hy hx hl rfl (e.trans hc)
    · by_cases hib : i = b
      · subst hib; rw [hgb] at hy; cases hy; cases hl
      · by_cases hjb : j = b
        · subst hjb; rw [hgb] at hy'; cases hy'; cases hwr
        · rw [hget i hi hib] at hy
          rw [hget j hj hjb] at hy'
          exact R.apart i j q q' y y' hne h h' hy hy' hl hwr

end
end Go.Dp
namespace Go.Dp
open Go.RowKit

section
variable {c : Cx} {base : Nat} {ρ : Rho} {H : Heap} {W : World}

theorem _root_.Go.Dp.Rho.at_self (ρ : Rho) (b : Nat) (p : Pl) : ρ.at_ b p b = some p := if_pos rfl

theorem goes_new (R : Rel c base ρ H W) {p : Pl} {x : Blk} {o : Obj} {W' : World} {b : Nat} (hH : (H.put b .dead).next = H.next) (hp : p.c = W.heap.size) (hw : W'.heap = W.heap.push o) (h1 : W'.os = W.os) (h2 : W'.tape = W.tape) (h3 : W'.output = W.output) (hr : BlkRel c (ρ.at_ H.next p) p W' x) (hb : ρ b ≠ none) :
    Goes c base ρ H W (ρ.at_ H.next p) ((H.put b .dead).new x) W' := by
  have hfr := R.fresh
  refine ⟨Rho.ext_at hfr, ?_, ⟨h1, h2, h3, by rw [hw]; simp, fun k hk => ?_⟩, by show H.next ≤ H.next + 1; omega, fun i q hq => ?_, fun i hi hn => ?_⟩
  · have R' := (R.kill b).more (H' := (H.put b .dead).new x) (by show H.next ≤ H.next + 1; omega) (fun i hi => by rw [Heap.get_new, if_neg (by show ¬ i = H.next; have : i < H.next := hi; omega)])
    exact R'.adopt (by show H.next < H.next + 1; omega) hfr (by rw [Heap.get_new]; exact if_pos rfl) hw hp hr
  · rw [hw, Array.getElem?_push, if_neg (by have := R.size; omega)]
  · unfold Rho.at_ at hq
    by_cases e : i = H.next
    · exact .inr (by omega)
    · rw [if_neg e] at hq; exact .inl hq
  · rw [Heap.get_new, if_neg (by show ¬ i = H.next; omega), Heap.get_put, if_neg (by intro e; subst e; exact hb hn)]

theorem goes_new' (R : Rel c base ρ H W) {p : Pl} {x : Blk} {o : Obj} {W' : World} (hp : p.c = W.heap.size) (hw : W'.heap = W.heap.push o) (h1 : W'.os = W.os) (h2 : W'.tape = W.tape) (h3 : W'.output = W.output) (hr : BlkRel c (ρ.at_ H.next p) p W' x) :
    Goes c base ρ H W (ρ.at_ H.next p) (H.new x) W' := by
  have hfr := R.fresh
  refine ⟨Rho.ext_at hfr, ?_, ⟨h1, h2, h3, by rw [hw]; simp, fun k hk => ?_⟩, by show H.next ≤ H.next + 1; omega, fun i q hq => ?_, fun i hi hn => ?_⟩
  · have R' := R.more (H' := H.new x) (by show H.next ≤ H.next + 1; omega) (fun i hi => by rw [Heap.get_new, if_neg (by omega)])
    exact R'.adopt (by show H.next < H.next + 1; omega) hfr (by rw [Heap.get_new]; exact if_pos rfl) hw hp hr
  · rw [hw, Array.getElem?_push, if_neg (by have := R.size; omega)]
  · unfold Rho.at_ at hq
    by_cases e : i = H.next
    · exact .inr (by omega)
    · rw [if_neg e] at hq; exact .inl hq
  · rw [Heap.get_new, if_neg (by omega)]

theorem Turns.of {s : Sem Value} {v : AV} {v' : Value} {H' : Heap} {W' : World} {ρ' : Rho} (h : s.run c.P W = .ok v' W') (g : Goes c base ρ H W ρ' H' W') (r : VRel c ρ' v v') : Turns c base ρ H W (do pure (.value (← s))) v H' :=
  ⟨.value v', v', W', ρ', by simp only [Sem.run_bind, h, Result.andThen_ok, Sem.run_pure], .inl rfl, g, r⟩

theorem zeroCells_size (z : Array Value) (n : Nat) : (Builtin.zeroCells z n).size = n * z.size := by simp [Builtin.zeroCells]

theorem row_grown {ρ' : Rho} {W' : World} {k sz m cap : Nat} {e : TypeId} {xs : List AV} {vs : List Value} {zs : Array Value} (hh : W'.heap = W.heap.push (.cells (vs.toArray ++ Builtin.zeroCells zs (cap - m)) e (0, 0))) (hr : All2 (SRel c ρ') xs vs) (hl : vs.length = m * sz) (hz : zs.size = sz) (hk : k = rowK c.P e + 1) :
    BlkRel c ρ' ⟨W.heap.size, 0, m * sz, (cap - m) * sz⟩ W' (.cells xs k) := by
  have hxl := hr.length
  refine ⟨by rw [hxl, hl], _, e, (0, 0), by rw [hh]; exact Array.getElem?_push_size, by simp [hl, zeroCells_size, hz], fun i a hi => ?_, by rw [hk]; exact kind_row⟩
  obtain ⟨v, hv, hrel⟩ := hr.get hi
  refine ⟨v, ?_, hrel⟩
  have hlt := (List.getElem?_eq_some_iff.1 hv).1
  simp only [Nat.zero_add]
  rw [Array.getElem?_append_left (by simpa using hlt)]
  simpa using hv

theorem e_app (R : Rel c base ρ H W) {s t e ty : TypeId} {sz bytes : Nat} {z : List AV} {ts : Array TypeId} {xs : Array Value} {x y : AV} {w u : Value} (h0 : ts[0]? = some s) (h1 : ts[1]? = some t) (k0 : xs[0]? = some w) (k1 : xs[1]? = some u)
    (hs : c.P.underlying s = some (.slice e)) (ht : NoInt c t) (hn : c.size e = some sz) (hb : c.bytes e = some bytes) (hz : c.zero e = some z) (hx : VRel c ρ x w) (hy : VRel c ρ y u) {v : AV} {H' : Heap} (h : evalApp (rowK c.P e) sz bytes H x y = some (v, H')) :
    Turns c base ρ H W (do pure (.value (← Builtin.append_ ts ty xs))) v H' := by
  obtain ⟨zv, zn, zrun, zsz, zlen, _, zrel⟩ := zero_run hz W
  have zall : ∀ w', (zeroValue e).run c.P w' = .ok zv w' := by
    intro w'
    obtain ⟨zv', _, zrun', _⟩ := zero_run hz w'
    have : zv' = zv := by
      obtain ⟨i, hi, _⟩ := size_info hn
      simp only [zeroValue, Sem.run_bind, run_info hi, Result.andThen_ok] at zrun zrun'
      cases hiz : i.zero with
      | none => rw [hiz] at zrun; cases zrun
      | some q => rw [hiz] at zrun zrun'; cases zrun; cases zrun'; rfl
    rw [← this]; exact zrun'
  rw [hn] at zsz
  cases zsz
  have zsize : zv.cells.size = sz := by have := (zrel ρ).length; simp at this; omega
  unfold evalApp at h
  cases hsrc : srcCells H sz y with
  | none => rw [hsrc] at h; cases h
  | some q =>
    obtain ⟨n, new⟩ := q
    rw [hsrc] at h
    obtain ⟨ws, w1, w2, w3, w4, w5⟩ := src_rel R hy hsrc
    have wtake : ws.take (n * sz) = ws := by rw [← w1]; exact List.take_length
    simp only [] at h
    split at h
    · -- nothing yet
      rw [VRel_nils] at hx
      subst hx
      rw [nbeq] at h
      by_cases hn0 : n = 0
      · rw [decide_eq_true hn0] at h
        cases h
        subst hn0
        have hrun := append_fits (W := W) (ty := ty) h0 h1 k0 k1 hs ht hn (w4 W) (by rw [w5 0 W (Nat.le_refl _) rfl]) (by omega) (W' := W) (by intro a' h; cases h) (fun _ => rfl)
        exact Turns.of hrun (.refl R) (VRel_nils.2 rfl)
      · rw [decide_eq_false hn0] at h
        simp only [cond_false] at h
        cases hc : (Nat.ble (n * bytes) 35184372088832 && (Nat.ble n 35184372088832 && !Nat.beq sz 0)) with
        | false => rw [hc] at h; cases h
        | true =>
          rw [hc] at h
          cases h
          simp only [nbeq, nble, Bool.and_eq_true, decide_eq_true_eq, Bool.not_eq_true', decide_eq_false_iff_not] at hc
          obtain ⟨hc1, hc2, hc3⟩ := hc
          have hrun := append_grows (W := W) (ty := ty) (os := []) h0 h1 k0 k1 hs ht hn hb zall (w4 W) (by simp [Builtin.firstCells]) (by rw [w5 n W.drew (Nat.le_refl _) rfl, wtake]) (by omega) (by simpa using hc1) (by simpa using hc2)
          simp only [Nat.zero_add, List.nil_append] at hrun
          have hcap := grownCap_ge W n 0 e
          have hmul : grownCap W n 0 e * sz = n * sz + (grownCap W n 0 e - n) * sz := by rw [← Nat.add_mul]; congr 1; omega
          refine Turns.of (ρ' := ρ.at_ H.next ⟨W.heap.size, 0, n * sz, (grownCap W n 0 e - n) * sz⟩) hrun (goes_new' R rfl rfl rfl rfl rfl ?_) ?_
          · exact row_grown rfl (w2.mono fun _ _ h => h.ext (Rho.ext_at R.fresh)) w1 zsize rfl
          · exact VRel_sl.2 ⟨_, 0, _, Rho.at_self _ _ _, rfl, hcap, .inl rfl, by simp only; omega, by simp only; omega, by simp only; omega, by omega⟩
    · -- a slice
      rename_i b o len sz'
      cases hc : (Nat.beq sz sz' && !Nat.beq sz 0) with
      | false => rw [hc] at h; cases h
      | true =>
        rw [hc] at h
        simp only [nbeq, Bool.and_eq_true, decide_eq_true_eq, Bool.not_eq_true', decide_eq_false_iff_not] at hc
        obtain ⟨rfl, hz0⟩ := hc
        simp only [cond_true] at h
        rw [VRel_sl] at hx
        obtain ⟨p, off, cap, hp, rfl, q1, q2, q3, q4, q5, q6⟩ := hx
        split at h
        · rename_i l k hbk
          unfold appTo at h
          obtain ⟨xb, hxb, hrb⟩ := R.blk b p hp
          rw [hbk] at hxb
          cases hxb
          obtain ⟨e1, cs, eb, fz, e2, e3, e4, e5⟩ := hrb
          rw [nble] at h
          by_cases hfit : o + len * sz ≤ l.length
          · rw [decide_eq_true hfit] at h
            simp only [cond_true, nbeq] at h
            by_cases hn0 : n = 0
            · rw [decide_eq_true hn0] at h
              cases h
              subst hn0
              have w0 : ws = [] := List.length_eq_zero_iff.1 (by omega)
              have hrun := append_fits (W := W) (ty := ty) (ws := []) h0 h1 k0 k1 hs ht hn (w4 W) (by rw [w5 0 W (Nat.le_refl _) rfl, w0]; simp) (by omega) (W' := W) (fun a' _ => rfl) (fun h => by cases h)
              exact Turns.of hrun (.refl R) (VRel_sl.2 ⟨p, off, cap, hp, rfl, q1, q2, q3, q4, q5, q6⟩)
            · rw [decide_eq_false hn0] at h
              simp only [cond_false] at h
              have hmul : (len + n) * sz = len * sz + n * sz := Nat.add_mul _ _ _
              have hnpos : 0 < n * sz := Nat.mul_pos (by omega) q6
              cases k with
              | zero => cases h
              | succ k =>
                simp only [nble] at h
                by_cases hin : o + (len + n) * sz ≤ l.length
                · rw [decide_eq_true hin] at h
                  cases h
                  have hcapn : len + n ≤ cap := by
                    have : (len + n) * sz ≤ cap * sz := by omega
                    exact Nat.le_of_mul_le_mul_right this q6
                  have hoff : off = p.s + o := by rcases q2 with h | h
                                                  · exact h
                                                  · omega
                  subst hoff
                  obtain ⟨W', r1, r2⟩ := write_cells R hp hbk (o := o + len * sz) (us := new) (ws := ws) (by rw [w2.length, w1]; omega) w2 (all_one w3 w2)
                  have hrun := append_fits (W := W) (ty := ty) h0 h1 k0 k1 hs ht hn (w4 W) (by rw [w5 n W (Nat.le_refl _) rfl, wtake]) hcapn (W' := W') (fun a' ha => by cases ha; rw [Addr.add_lit, Nat.add_assoc]; exact r1) (fun h => by cases h)
                  exact Turns.of hrun r2 (VRel_sl.2 ⟨p, p.s + o, cap, hp, rfl, hcapn, .inl rfl, q3, q4, by omega, q6⟩)
                · rw [decide_eq_false hin] at h
                  simp only [cond_false] at h
                  cases hc : (decide (k = rowK c.P e) && (decide ((len + n) * bytes ≤ 35184372088832) && decide (len + n ≤ 35184372088832))) with
                  | false => rw [hc] at h; cases h
                  | true =>
                    rw [hc] at h
                    cases h
                    simp only [Bool.and_eq_true, decide_eq_true_eq] at hc
                    obtain ⟨hk, hc1, hc2⟩ := hc
                    subst hk
                    have hldb : H.ld b o (len * sz) = some ((l.drop o).take (len * sz)) := by
                      unfold Heap.ld; rw [hbk]; simp only [nble]; rw [decide_eq_true hfit]; rfl
                    obtain ⟨os, o1, o2, o3, o4⟩ := ld_run R hp hldb
                    have hall : ∀ ρ', Ext ρ ρ' → All2 (SRel c ρ') ((l.drop o).take (len * sz) ++ new) (os ++ ws) := fun ρ' hx => (o2.append w2).mono fun _ _ h => h.ext hx
                    by_cases hcapn : len + n ≤ cap
                    · -- in place
                      have hoff : off = p.s + o := by rcases q2 with h | h
                                                      · exact h
                                                      · omega
                      subst hoff
                      have hmul2 : (len + n) * sz ≤ cap * sz := Nat.mul_le_mul_right _ hcapn
                      have hf : fz.1 = fz.2 ∨ cs.size ≤ fz.1 := by
                        by_cases h3 : rowK c.P e + 1 = 3
                        · exact (e5.2.1 h3).1
                        · exact .inl (e5.1 (by omega) h3)
                      have hst := run_st c.P p.c (p.s + o + len * sz) eb fz ws 0 cs W e2 hf (by omega) (all_one w3 w2)
                      simp only [Nat.add_zero] at hst
                      have hrun := append_fits (W := W) (ty := ty) h0 h1 k0 k1 hs ht hn (w4 W) (by rw [w5 n W (Nat.le_refl _) rfl, wtake]) hcapn (fun a' ha => by cases ha; rw [Addr.add_lit]; exact hst) (fun h => by cases h)
                      have hovl : (over cs.toList (p.s + o + len * sz) ws).length = cs.toList.length := over_length _ _ _ (by simp; omega)
                      have hfr := R.fresh
                      have hbw : BlkRel c (ρ.at_ H.next ⟨p.c, p.s + o, (len + n) * sz, p.n + p.e - o - (len + n) * sz⟩) ⟨p.c, p.s + o, (len + n) * sz, p.n + p.e - o - (len + n) * sz⟩ (W.setRow p.c (over cs.toList (p.s + o + len * sz) ws).toArray) (.cells ((l.drop o).take (len * sz) ++ new) (rowK c.P e + 1)) := by
                        have hlen := (hall ρ (.refl _)).length
                        refine ⟨by rw [hlen, List.length_append, o1, w1, hmul], _, eb, fz, setRow_heap W p.c cs _ eb fz e2, by simp only [List.size_toArray, hovl, Array.length_toList]; omega, fun i a hi => ?_, ?_⟩
                        · obtain ⟨v, hv, hrel⟩ := (hall _ (Rho.ext_at hfr)).get hi
                          refine ⟨v, ?_, hrel⟩
                          rw [List.getElem?_toArray, over_get _ _ _ (by simp; omega)]
                          by_cases hi1 : i < len * sz
                          · rw [List.getElem?_append_left (by omega)] at hv
                            rw [if_pos (by simp only; omega), Array.getElem?_toList]
                            have := o3 i v hv
                            unfold World.cell? at this
                            rw [e2] at this
                            simpa using this
                          · rw [List.getElem?_append_right (by omega), o1] at hv
                            have := (List.getElem?_eq_some_iff.1 hv).1
                            rw [if_neg (by simp only; omega), if_pos (by simp only; omega)]
                            rw [← hv]; congr 1; simp only; omega
                        · simp only [List.size_toArray, hovl, Array.length_toList]
                          refine ⟨e5.1, e5.2.1, fun h2 => ?_⟩
                          exfalso
                          rcases rowK_ok (c := c) (e := e) with hh | ⟨hh, _⟩ <;> omega
                      refine Turns.of (ρ' := ρ.at_ H.next ⟨p.c, p.s + o, (len + n) * sz, p.n + p.e - o - (len + n) * sz⟩) hrun ⟨Rho.ext_at hfr, R.take (p' := ⟨p.c, p.s + o, (len + n) * sz, p.n + p.e - o - (len + n) * sz⟩) hp hbk rfl (by simp [World.setRow]) (fun i hi => by simp only [World.setRow, Array.getElem?_modify]; rw [if_neg (Ne.symm hi)]) hbw, Below.setRow W _ (R.low b p _ hp hbk rfl), by show H.next ≤ H.next + 1; omega, fun i q hq => ?_, fun i hi hno => ?_⟩ ?_
                      · unfold Rho.at_ at hq
                        by_cases e : i = H.next
                        · exact .inr (by omega)
                        · rw [if_neg e] at hq; exact .inl hq
                      · rw [Heap.get_new, Heap.next_put, if_neg (by omega), Heap.get_put, if_neg (by intro e; subst e; rw [hp] at hno; cases hno)]
                      · exact VRel_sl.2 ⟨_, p.s + o, cap, Rho.at_self _ _ _, rfl, hcapn, .inl rfl, by simp only; omega, by simp only; omega, by simp only; omega, q6⟩
                    · -- a new block
                      have hofs : (Builtin.firstCells sz len (.slice (some ⟨p.c, off, none⟩) len cap)).run c.P W.drew = .ok os.toArray W.drew := by
                        refine run_firstCells_some W.drew sz len _ len cap os o1 fun j v hj => ?_
                        rcases q2 with rfl | hc0
                        · rw [Addr.add_lit]; exact o3 j v hj
                        · have := (List.getElem?_eq_some_iff.1 hj).1
                          have hl0 : len = 0 := by omega
                          rw [o1, hl0] at this; omega
                      have hrun := append_grows (W := W) (ty := ty) h0 h1 k0 k1 hs ht hn hb zall (w4 W) hofs (by rw [w5 n W.drew (Nat.le_refl _) rfl, wtake]) (by omega) hc1 hc2
                      have hcap := grownCap_ge W (len + n) cap e
                      have hmul2 : grownCap W (len + n) cap e * sz = (len + n) * sz + (grownCap W (len + n) cap e - (len + n)) * sz := by rw [← Nat.add_mul]; congr 1; omega
                      refine Turns.of (ρ' := ρ.at_ H.next ⟨W.heap.size, 0, (len + n) * sz, (grownCap W (len + n) cap e - (len + n)) * sz⟩) hrun (goes_new R rfl rfl rfl rfl rfl rfl ?_ (by rw [hp]; simp)) ?_
                      · exact row_grown rfl (hall _ (Rho.ext_at R.fresh)) (by rw [List.length_append, o1, w1, hmul]) zsize rfl
                      · exact VRel_sl.2 ⟨_, 0, _, Rho.at_self _ _ _, rfl, hcap, .inl rfl, by simp only; omega, by simp only; omega, by simp only; omega, q6⟩
          · rw [decide_eq_false hfit] at h; cases h
        · cases h
    · cases h

end
end Go.Dp
namespace Go.Dp
open Go.RowKit

section
variable {c : Cx} {base : Nat} {ρ : Rho} {H : Heap} {W : World}

theorem all_take {xs : List AV} (h : xs.all AV.isSc = true) (n : Nat) : (xs.take n).all AV.isSc = true := by
  rw [List.all_eq_true] at h ⊢
  exact fun x hx => h x (List.mem_of_mem_take hx)

theorem st_inv {b o : Nat} {us : List AV} {H' : Heap} (h : H.st b o us = some H') : ∃ l k, H.get b = some (.cells l (k + 1)) ∧ o + us.length ≤ l.length ∧ H' = H.put b (.cells (over l o us) (k + 1)) := by
  unfold Heap.st at h
  split at h
  · rename_i l k hb
    rw [nble] at h
    by_cases hle : o + us.length ≤ l.length
    · rw [decide_eq_true hle] at h
      cases h
      exact ⟨l, k, hb, hle, rfl⟩
    · rw [decide_eq_false hle] at h; cases h
  · cases h

theorem e_copy (R : Rel c base ρ H W) {s e ty : TypeId} {sz : Nat} {ts : Array TypeId} {xs : Array Value} {x y : AV} {w u : Value} (h0 : ts[0]? = some s) (k0 : xs[0]? = some w) (k1 : xs[1]? = some u)
    (hs : c.P.underlying s = some (.slice e)) (hn : c.size e = some sz) (hx : VRel c ρ x w) (hy : VRel c ρ y u) {v : AV} {H' : Heap} (h : eCopy H sz x y = some (v, H')) :
    Turns c base ρ H W (do pure (.value (← Builtin.copy_ ts ty xs))) v H' := by
  unfold eCopy at h
  cases hsrc : srcCells H sz y with
  | none => rw [hsrc] at h; cases h
  | some q =>
    obtain ⟨n, new⟩ := q
    rw [hsrc] at h
    obtain ⟨ws, w1, w2, w3, w4, w5⟩ := src_rel R hy hsrc
    simp only [] at h
    have hrun : ∀ (a : Option Addr) (len cap : Nat) (W' : World), w = .slice a len cap → (∀ a', a = some a' → (storeCells a' (ws.take (min n len * sz))).run c.P W = .ok () W') → (a = none → W' = W) → (Builtin.copy_ ts ty xs).run c.P W = .ok (goInt (min n len : Nat)) W' := by
      intro a len cap W' hw hst hno
      subst hw
      have hmin : Nat.min n len = min n len := rfl
      simp only [Builtin.copy_, h0, k0, k1, Sem.run_bind, run_underlying hs, Result.andThen_ok, w4 W, run_size hn, w5 (Nat.min n len) W (Nat.min_le_left _ _) rfl]
      cases a with
      | none => rw [hno rfl]; rfl
      | some a' => simp only [hmin, hst a' rfl, Sem.run_bind, Result.andThen_ok, Sem.run_pure]
    split at h
    · rw [VRel_nils] at hx
      cases h
      exact Turns.of (hrun none 0 0 W hx (by intro a' h; cases h) fun _ => rfl) (.refl R) (VRel_int.2 (by simp [goInt]))
    · rename_i b o len sz'
      rw [nbeq] at h
      by_cases hz : sz = sz'
      · rw [decide_eq_true hz] at h
        subst hz
        simp only [cond_true] at h
        split at h
        · rename_i H'' hst
          cases h
          rw [VRel_sl] at hx
          obtain ⟨p, off, cap, hp, rfl, q1, q2, q3, q4, q5, q6⟩ := hx
          obtain ⟨l, k, hb, hle, rfl⟩ := st_inv hst
          have hr := w2.take (min n len * sz)
          obtain ⟨W', r1, r2⟩ := write_cells R hp hb hle hr (all_one (all_take w3 _) hr)
          refine Turns.of (hrun _ len cap W' rfl (fun a' ha => ?_) (fun h => by cases h)) r2 (VRel_int.2 rfl)
          cases ha
          rcases q2 with rfl | hc0
          · exact r1
          · have hl : len = 0 := by omega
            rw [hl] at r1 ⊢
            simp only [Nat.min_zero, Nat.zero_mul, List.take_zero] at r1 ⊢
            exact r1
        · cases h
      · rw [decide_eq_false hz] at h; cases h
    · cases h

theorem rep_sc {z : List AV} (h : z.all AV.isSc = true) : ∀ n, (rep n z).all AV.isSc = true
  | 0 => rfl
  | n + 1 => by rw [rep, List.all_append, h, rep_sc h n]; rfl

theorem e_clear (R : Rel c base ρ H W) {s e ty : TypeId} {z : List AV} {ts : Array TypeId} {xs : Array Value} {x : AV} {w : Value} (h0 : ts[0]? = some s) (k0 : xs[0]? = some w)
    (hs : c.P.underlying s = some (.slice e)) (hz : c.zero e = some z) (hx : VRel c ρ x w) {v : AV} {H' : Heap} (h : eClear H z x = some (v, H')) :
    Turns c base ρ H W (do pure (.value (← Builtin.clear_ ts ty xs))) v H' := by
  obtain ⟨zv, zn, zrun, zsz, zlen, zall, zrel⟩ := zero_run hz W
  unfold eClear at h
  split at h
  · rw [VRel_nils] at hx
    subst hx
    cases h
    refine Turns.of (v' := .tuple #[]) ?_ (.refl R) VRel_unit
    simp only [Builtin.clear_, h0, k0, Sem.run_bind, run_underlying hs, Result.andThen_ok, Sem.run_pure]
  · rename_i b o len sz
    rw [nbeq] at h
    by_cases hzz : z.length = sz
    · rw [decide_eq_true hzz] at h
      simp only [cond_true, nbeq] at h
      rw [VRel_sl] at hx
      obtain ⟨p, off, cap, hp, rfl, q1, q2, q3, q4, q5, q6⟩ := hx
      by_cases hl : len = 0
      · rw [decide_eq_true hl] at h
        cases h
        subst hl
        refine Turns.of (v' := .tuple #[]) ?_ (.refl R) VRel_unit
        simp only [Builtin.clear_, h0, k0, Sem.run_bind, run_underlying hs, Result.andThen_ok, Sem.run_pure]
      · rw [decide_eq_false hl] at h
        simp only [cond_false] at h
        unfold unit at h
        split at h
        · rename_i H'' hst
          cases h
          obtain ⟨l, k, hb, hle, rfl⟩ := st_inv hst
          have hsize : zv.cells.size = z.length := by have := (zrel ρ).length; simp at this; omega
          have hr : All2 (SRel c ρ) (rep len z) (Builtin.zeroCells zv.cells len).toList := by
            have := rows_rel len (zrel ρ)
            unfold Builtin.zeroCells
            rw [← hsize] at this
            exact this
          obtain ⟨W', r1, r2⟩ := write_cells R hp hb hle hr (all_one (rep_sc zall _) hr)
          obtain ⟨len', rfl⟩ : ∃ m, len = m + 1 := ⟨len - 1, by omega⟩
          have hoff : off = p.s + o := by rcases q2 with h | h
                                          · exact h
                                          · omega
          subst hoff
          refine Turns.of (v' := .tuple #[]) ?_ r2 VRel_unit
          simp only [Builtin.clear_, h0, k0, Sem.run_bind, run_underlying hs, Result.andThen_ok, zrun, r1, Sem.run_pure]
        · cases h
    · rw [decide_eq_false hzz] at h; cases h
  · cases h

theorem run_loadB (P : Program) (w : World) : ∀ (ns : List Int) (a : Addr) (acc : ByteArray), (∀ j x, ns[j]? = some x → w.cell? (a.add j) = some (.int .u8 x)) →
    (loadBytes a acc ns.length).run P w = .ok ⟨acc.data ++ (ns.map fun n => UInt8.ofNat n.toNat).toArray⟩ w
  | [], a, acc, _ => by simp [loadBytes]
  | x :: l, a, acc, h => by
    have h0 : w.cell? a = some (.int .u8 x) := by
      have := h 0 x rfl
      simpa [Addr.add] using this
    have ih := run_loadB P w l (a.add 1) (acc.push x.toNat.toUInt8) (fun j y hy => by
      have := h (j + 1) y (by simpa using hy)
      have e : (a.add 1).add j = a.add (j + 1) := by
        unfold Addr.add
        by_cases hj : j = 0
        · subst hj; simp
        · simp [hj]; omega
      rw [e]; exact this)
    simp only [List.length_cons, loadBytes, Sem.run_bind, run_load, h0, Result.andThen]
    rw [ih]
    congr 1
    apply ByteArray.ext
    simp [ByteArray.push]

theorem bytes_rel : ∀ {cs : List AV} {ws : List Value} {l : List UInt8}, All2 (SRel c ρ) cs ws → bytesOf cs = some l → ∃ ns : List Int, ws = ns.map (Value.int .u8) ∧ ns.map (fun n => UInt8.ofNat n.toNat) = l
  | [], [], l, _, hb => by simp only [bytesOf] at hb; cases hb; exact ⟨[], rfl, rfl⟩
  | q :: cs, w :: ws, l, ⟨r1, r2⟩, hb => by
    simp only [bytesOf] at hb
    split at hb
    · rename_i ch hch
      split at hb
      · rename_i l' hl'
        cases hb
        obtain ⟨ns, rfl, e2⟩ := bytes_rel r2 hl'
        unfold byteOf at hch
        split at hch
        · rename_i k n
          split at hch
          · split at hch
            · rename_i m
              cases hch
              simp only [SRel, BRel] at r1
              exact ⟨(Int.ofNat m) :: ns, by simp [r1], by simp [e2]⟩
            · cases hch
          · cases hch
        · cases hch
      · cases hb
    · cases hb
  | [], _ :: _, _, h, _ => h.elim
  | _ :: _, [], _, h, _ => h.elim

theorem under_u8 {e : TypeId} {i : TypeInfo} (hi : c.P.info? e = some i) (hd : i.desc = .int .u8) : c.P.underlying e = some (.int .u8) := by
  obtain ⟨⟩ := i
  simp only at hd
  subst hd
  simp [Program.underlying, hi]

theorem variables_u8 {e e' : TypeId} {cells : Nat} {A : Addr} (hn : c.size e = some 1) (he : c.P.underlying e = some (.int .u8)) (he' : c.P.underlying e' = some (.int .u8)) (hA : W.shape? A.block = some (e, cells)) (m : Nat) (hm : A.off + m ≤ cells) : (variablesAt A e' m).run c.P W = .ok true W := by
  have hs : c.P.cellsOf e = 1 := by
    obtain ⟨i, hi, h1⟩ := size_info hn
    unfold Program.cellsOf
    rw [hi]
    simpa using h1
  obtain ⟨d, hd⟩ : ∃ d, c.P.depth = d + 1 := ⟨2 * (c.P.types.size + Made.depth) + 1, rfl⟩
  have hsame : sameLayout c.P (d + 1) e e' = true := by
    unfold sameLayout
    rw [he, he']
    simp
  have hrow : rowAt c.P (sameLayout c.P (d + 1) · e') (d + 1) e (cells / 1) A.off m = true := by
    unfold rowAt
    simp only [hs, Nat.one_ne_zero, if_false, Nat.mod_one, Nat.div_one, hsame, beq_self_eq_true, Bool.true_and, Bool.and_true]
    rw [decide_eq_true hm]
    rfl
  have hl : liesAt c.P (d + 1) e (cells / 1) A.off e' m = true := by
    unfold liesAt
    rw [hd, hrow]
    rfl
  simp only [variablesAt, Sem.run_bind, run_program, Result.andThen_ok, run_shape, hA, hs, hd, hl, Sem.run_pure]

theorem Rel.turn (R : Rel c base ρ H W) {b : Nat} {p : Pl} {x x' : Blk} {H' : Heap} {W' : World} (hp : ρ b = some p) (hx : H.get b = some x) (hw : x.wr = true) (hs : W'.heap.size = W.heap.size) (hother : ∀ i, i ≠ p.c → W'.heap[i]? = W.heap[i]?)
    (hH : H'.next = H.next) (hget : ∀ i, H'.get i = if i = b then some x' else H.get i) (hb : BlkRel c ρ p W' x') : Rel c base ρ H' W' := by
  have hxl : x.live = true := by cases x <;> first | rfl | cases hw
  refine ⟨by rw [hs]; exact R.size, fun i q hq => by rw [hH]; exact R.dom i q hq, fun i q hq => by rw [hs]; exact R.in_ i q hq, fun i q hq => ?_, fun i q y hq hy hwr => ?_, fun i j q q' y y' hne hq hq' hy hy' hl hwr => ?_, R.glob⟩
  · rw [hget]
    by_cases hi : i = b
    · subst hi
      rw [hp] at hq
      cases hq
      exact ⟨x', by rw [if_pos rfl], hb⟩
    · rw [if_neg hi]
      obtain ⟨y, hy, hr⟩ := R.blk i q hq
      refine ⟨y, hy, ?_⟩
      by_cases hl : y.live = true
      · exact hr.heap (hother _ (R.apart i b q p y x hi hq hp hy hx hl hw))
      · cases y <;> first | exact absurd rfl hl | trivial
  · rw [hget] at hy
    by_cases hi : i = b
    · subst hi
      exact R.low i q x hq hx hw
    · rw [if_neg hi] at hy
      exact R.low i q y hq hy hwr
  · rw [hget] at hy hy'
    by_cases hi : i = b
    · subst hi
      have hj : j ≠ i := fun h => hne h.symm
      rw [if_neg hj] at hy'
      exact R.apart i j q q' x y' hne hq hq' hx hy' hxl hwr
    · rw [if_neg hi] at hy
      by_cases hj : j = b
      · subst hj
        exact R.apart i j q q' y x hne hq hq' hy hx hl hw
      · rw [if_neg hj] at hy'
        exact R.apart i j q q' y y' hne hq hq' hy hy' hl hwr

theorem e_ustr (R : Rel c base ρ H W) {pt e' ty : TypeId} {i' : TypeInfo} {ts : Array TypeId} {x y : AV} {w u : Value} (h0 : ts[0]? = some pt) (ht : c.P.underlying pt = some (.pointer e')) (hi' : c.P.info? e' = some i') (hd' : i'.desc = .int .u8) (hx : VRel c ρ x w) (hy : VRel c ρ y u) {v : AV} {H' : Heap} (h : eUstr' H x y = some (v, H')) :
    Turns c base ρ H W (do pure (.value (← Builtin.unsafeString_ ts ty #[w, u]))) v H' := by
  unfold eUstr' at h
  split at h
  · rename_i n hn
    have hint := natOf_i64 (W := W) hn hy
    rw [nble] at h
    by_cases hbig : n ≤ 35184372088832
    case neg => rw [decide_eq_false hbig] at h; cases h
    rw [decide_eq_true hbig] at h
    simp only [cond_true] at h
    have hno : ¬ ((n : Int) < 0) := by omega
    have hmax : ¬ ((n : Int) > IntKind.i64.max) := by rw [IntKind.max_i64]; omega
    unfold eUstr at h
    split at h
    · rw [VRel_nilp] at hx
      subst hx
      rw [nbeq] at h
      by_cases h0' : n = 0
      · rw [decide_eq_true h0'] at h
        cases h
        subst h0'
        refine Turns.of (v' := .string .empty) ?_ (.refl R) (VRel_str.2 ⟨_, rfl, rfl⟩)
        show Sem.run c.P (asInt u >>= _) W = _
        rw [Sem.run_bind, hint, Result.andThen_ok, h0]
        simp [IntKind.max_i64]
      · rw [decide_eq_false h0'] at h; cases h
    · rename_i b o
      rw [VRel_ptr] at hx
      obtain ⟨p, hp, rfl⟩ := hx
      rw [nbeq] at h
      by_cases h0' : n = 0
      · rw [decide_eq_true h0'] at h
        cases h
        subst h0'
        refine Turns.of (v' := .string .empty) ?_ (.refl R) (VRel_str.2 ⟨_, rfl, rfl⟩)
        show Sem.run c.P (asInt u >>= _) W = _
        rw [Sem.run_bind, hint, Result.andThen_ok, h0]
        simp [IntKind.max_i64]
      · rw [decide_eq_false h0'] at h
        simp only [cond_false] at h
        split at h
        · rename_i l k' hb
          rw [nbeq] at h
          by_cases hk3 : k' = 3
          · rw [decide_eq_true hk3] at h
            subst hk3
            simp only [cond_true] at h
            unfold strOf at h
            split at h
            · rename_i s hs
              cases h
              split at hs
              · rename_i cs hld
                split at hs
                · rename_i l' hl'
                  cases hs
                  obtain ⟨ws, w1, w2, w3, w4⟩ := ld_run R hp hld
                  obtain ⟨ns, rfl, n2⟩ := bytes_rel w2 hl'
                  obtain ⟨xb, hxb, hrb⟩ := R.blk b p hp
                  rw [hb] at hxb
                  cases hxb
                  obtain ⟨e1, cells, e, fz, e2, e3, e4, e5⟩ := hrb
                  obtain ⟨_, i, hi, hid, his⟩ := e5.2.1 rfl
                  have hle : o + n ≤ l.length := by
                    unfold Heap.ld at hld
                    rw [hb] at hld
                    simp only [nble] at hld
                    by_cases hle : o + n ≤ l.length
                    · exact hle
                    · rw [decide_eq_false hle] at hld; cases hld
                  have hsh : W.shape? p.c = some (e, cells.size) := by unfold World.shape?; rw [e2]
                  have hvar : (variablesAt ⟨p.c, p.s + o, none⟩ e' n).run c.P W = .ok true W := variables_u8 (by simp [Cx.size, hi, his]) (under_u8 hi hid) (under_u8 hi' hd') hsh n (by simp only; omega)
                  have hlen : ns.length = n := by simpa using w1
                  have hload := run_loadB c.P W ns ⟨p.c, p.s + o, none⟩ .empty (fun j x hj => by
                    rw [Addr.add_lit]
                    exact w3 j _ (by rw [List.getElem?_map, hj]; rfl))
                  rw [hlen] at hload
                  have hnz : ¬ ((n : Int) = 0) := by omega
                  have helem : (elemOf pt).run c.P W = .ok e' W := by simp only [elemOf, Sem.run_bind, run_underlying ht, Result.andThen_ok, Sem.run_pure]
                  have hrun : (Builtin.unsafeString_ ts ty #[.pointer (some ⟨p.c, p.s + o, none⟩), u]).run c.P W = .ok (.string ⟨ByteArray.empty.data ++ (ns.map fun n => UInt8.ofNat n.toNat).toArray⟩) (W.freeze ⟨p.c, p.s + o, none⟩ n) := by
                    show Sem.run c.P (asInt u >>= _) W = _
                    rw [Sem.run_bind, hint, Result.andThen_ok, h0]
                    simp only [Sem.run_bind, Result.andThen_ok, if_neg hno, if_neg hmax, if_neg hnz, helem, Int.toNat_natCast, hvar, if_true, hload, run_freeze, Sem.run_pure]
                  have hoth : ∀ i, i ≠ p.c → (W.freeze ⟨p.c, p.s + o, none⟩ n).heap[i]? = W.heap[i]? := by
                    intro i hi
                    unfold World.freeze
                    rw [if_neg h0']
                    simp only [Array.getElem?_modify]
                    rw [if_neg (Ne.symm hi)]
                  have hhere : ∃ fz', (W.freeze ⟨p.c, p.s + o, none⟩ n).heap[p.c]? = some (.cells cells e fz') := by
                    unfold World.freeze
                    rw [if_neg h0']
                    simp only [Array.getElem?_modify, if_true, e2, Option.map_some]
                    exact ⟨_, rfl⟩
                  obtain ⟨fz', hhere⟩ := hhere
                  have hsz : (W.freeze ⟨p.c, p.s + o, none⟩ n).heap.size = W.heap.size := by unfold World.freeze; rw [if_neg h0']; simp
                  have hos : (W.freeze ⟨p.c, p.s + o, none⟩ n).os = W.os ∧ (W.freeze ⟨p.c, p.s + o, none⟩ n).tape = W.tape ∧ (W.freeze ⟨p.c, p.s + o, none⟩ n).output = W.output := by unfold World.freeze; rw [if_neg h0']; exact ⟨rfl, rfl, rfl⟩
                  refine Turns.of hrun (ρ' := ρ) ⟨.refl _, R.turn hp hb rfl hsz hoth rfl (Heap.get_put _ _ _) ⟨e1, cells, e, fz', hhere, e3, e4, by omega, by omega, by omega⟩, ⟨hos.1, hos.2.1, hos.2.2, by omega, fun k hk => hoth k (by have := R.low b p _ hp hb rfl; omega)⟩, Nat.le_refl _, fun _ _ h => .inl h, fun i hi hn => by rw [Heap.get_put, if_neg (by intro e; subst e; rw [hp] at hn; cases hn)]⟩ (VRel_str.2 ⟨_, rfl, ?_⟩)
                  simpa using n2
                · cases hs
              · cases hs
            · cases h
          · rw [decide_eq_false hk3] at h; cases h
        · cases h
    · cases h
  · cases h

theorem e_mark (R : Rel c base ρ H W) {s d e' e : TypeId} {x : AV} {w : Value} (hs : c.P.underlying s = some (.slice e')) (hd : c.P.underlying d = some (.slice e)) (hsd : s = d) (hu : isU8 c.P e = true) (hx : VRel c ρ x w) {v : AV} {H' : Heap} (h : eMark H x = some (v, H')) :
    Turns c base ρ H W (do pure (.value (← convert s d w))) v H' := by
  unfold eMark at h
  split at h
  · rename_i b o len sz
    split at h
    · rename_i l k hb
      rw [nbeq] at h
      by_cases hk3 : k = 3
      case neg => rw [decide_eq_false hk3] at h; cases h
      rw [decide_eq_true hk3] at h
      subst hk3
      cases h
      have hx0 := hx
      rw [VRel_sl] at hx
      obtain ⟨p, off, cap, hp, rfl, _⟩ := hx
      have he : c.P.underlying e = some (.int .u8) := by
        unfold isU8 at hu
        split at hu
        · rename_i h; exact h
        · cases hu
      obtain ⟨xb, hxb, hrb⟩ := R.blk b p hp
      rw [hb] at hxb
      cases hxb
      obtain ⟨e1, cells, et, fz, e2, e3, e4, e5⟩ := hrb
      have hsh : W.shape? p.c = some (et, cells.size) := by unfold World.shape?; rw [e2]
      obtain ⟨lo, hi⟩ := fz
      have hrun : (convert s d (.slice (some ⟨p.c, off, none⟩) len cap)).run c.P W = .ok (.slice (some ⟨p.c, off, none⟩) len cap) (W.freeze ⟨p.c, cells.size, none⟩ 1) := by
        subst hsd
        obtain rfl : e' = e := by rw [hs] at hd; cases hd; rfl
        simp only [convert, Sem.run_bind, run_underlying hs, run_underlying hd, run_underlying he, Result.andThen_ok, beq_self_eq_true, markStringish, run_shape, hsh, run_freeze, Sem.run_pure]
      have hoth : ∀ i, i ≠ p.c → (W.freeze ⟨p.c, cells.size, none⟩ 1).heap[i]? = W.heap[i]? := by
        intro i hi
        unfold World.freeze
        rw [if_neg Nat.one_ne_zero]
        simp only [Array.getElem?_modify]
        rw [if_neg (Ne.symm hi)]
      have hhere : (W.freeze ⟨p.c, cells.size, none⟩ 1).heap[p.c]? = some (.cells cells et (if lo == hi then (cells.size, cells.size + 1) else (min lo cells.size, max hi (cells.size + 1)))) := by
        unfold World.freeze
        rw [if_neg Nat.one_ne_zero]
        simp only [Array.getElem?_modify, if_true, e2, Option.map_some]
      have hsz : (W.freeze ⟨p.c, cells.size, none⟩ 1).heap.size = W.heap.size := by unfold World.freeze; rw [if_neg Nat.one_ne_zero]; simp
      have hos : (W.freeze ⟨p.c, cells.size, none⟩ 1).os = W.os ∧ (W.freeze ⟨p.c, cells.size, none⟩ 1).tape = W.tape ∧ (W.freeze ⟨p.c, cells.size, none⟩ 1).output = W.output := by unfold World.freeze; rw [if_neg Nat.one_ne_zero]; exact ⟨rfl, rfl, rfl⟩
      have hkind : KindOk c 3 p cells.size et (if lo == hi then (cells.size, cells.size + 1) else (min lo cells.size, max hi (cells.size + 1))) := by
        obtain ⟨k1, k2, k3⟩ := e5
        refine ⟨fun _ h => absurd rfl h, fun _ => ⟨.inr ?_, (k2 rfl).2⟩, fun h => by omega⟩
        split
        · exact Nat.le_refl _
        · rename_i hne
          have hne : lo ≠ hi := fun e => hne (by rw [e]; exact beq_self_eq_true hi)
          rcases (k2 rfl).1 with h | h
          · exact absurd h hne
          · have h : cells.size ≤ lo := h
            show cells.size ≤ min lo cells.size
            omega
      refine Turns.of hrun (ρ' := ρ) ⟨.refl _, R.turn (x' := .cells l 3) hp hb rfl hsz hoth rfl (fun i => ?_) ⟨e1, cells, et, _, hhere, e3, e4, hkind⟩, ⟨hos.1, hos.2.1, hos.2.2, by omega, fun k hk => hoth k (by have := R.low b p _ hp hb rfl; omega)⟩, Nat.le_refl _, fun _ _ h => .inl h, fun i hi hn => rfl⟩ hx0
      by_cases hi : i = b
      · rw [if_pos hi, hi, hb]
      · rw [if_neg hi]
    · cases h
  · cases h

end
end Go.Dp
namespace Go.Dp
open Go.RowKit

def CalOk (c : Cx) (cal : Cal) : Prop := ∀ (base : Nat) (ρ : Rho) (H : Heap) (W : World) (g f : Nat) (args : List AV) (vs : Array Value) (v : AV) (H' : Heap), c.fm g = some f → Rel c base ρ H W → All2 (VRel c ρ) args vs.toList → cal f args H = some (v, H') →
  Calls c.P g vs W fun e W' => ∃ v' ρ', e = .returned v' ∧ Goes c base ρ H W ρ' H' W' ∧ VRel c ρ' v v'

structure FmOk (c : Cx) : Prop where
  body : ∀ g f, c.fm g = some f → ∃ fn code, c.P.funcs[g]? = some fn ∧ fn.body = some code ∧ fn.name ≠ "runtime.NumGoroutine"

section
variable {c : Cx} {base : Nat} {ρ : Rho} {H : Heap} {W : World} {fr : List AV} {a : Act}

theorem callFunc_enter (M : FmOk c) {g f : Nat} (h : c.fm g = some f) (args : Array Value) : (callFunc g args).run c.P W = .ok (.enter g args) W := by
  obtain ⟨fn, code, h1, h2, h3⟩ := M.body g f h
  simp only [callFunc, Sem.run_bind, run_program, Result.andThen_ok, h1, h2]
  simp [h3]

theorem BRel.val {x : AV} {v : Value} (h : BRel ρ x v) : VRel c ρ x v := by
  cases x <;> first | exact h.elim | (simp only [VRel, VRel1, SRel]; exact h)

theorem e_call {cal : Cal} (C : CalOk c cal) (R : Rel c base ρ H W) {o : Oper} {g f : Nat} {args : List AV} {vs : Array Value} {v : AV} {H' : Heap} {K : Act → World → Prop} {Q : Exit → Act → World → Prop} {s : Sem Next} (hg : c.fm g = some f) (hs : s.run c.P W = .ok (.enter g vs) W)
    (hx : All2 (VRel c ρ) args vs.toList) (h : cal f args H = some (v, H')) (he : execOp a.eval o = s) (hK : ∀ v' W' ρ', Goes c base ρ H W ρ' H' W' → VRel c ρ' v v' → K (a.put o.dst v') W') : o.wp c.P a W K Q := by
  unfold Oper.wp
  rw [he, hs, Oper.upon_enter]
  refine (C base ρ H W g f args vs v H' hg R hx h).mono fun e W' ⟨v', ρ', h1, h2, h3⟩ => ?_
  subst h1
  exact hK v' W' ρ' h2 h3

theorem wp_turns {o : Oper} {v : AV} {H' : Heap} {K : Act → World → Prop} {Q : Exit → Act → World → Prop} (h : Turns c base ρ H W (execOp a.eval o) v H') (hK : ∀ v' W' ρ', Goes c base ρ H W ρ' H' W' → VRel c ρ' v v' → K (a.put o.dst v') W') : o.wp c.P a W K Q := by
  obtain ⟨nx, v', W', ρ', h1, h2, h3, h4⟩ := h
  unfold Oper.wp
  rw [h1]
  rcases h2 with rfl | ⟨rfl, rfl⟩
  · exact hK v' W' ρ' h3 h4
  · exact hK undef W' ρ' h3 h4

theorem wp_val {o : Oper} {v : AV} {K : Act → World → Prop} {Q : Exit → Act → World → Prop} (h : Val c ρ W (execOp a.eval o) v) (hK : ∀ v', VRel c ρ v v' → K (a.put o.dst v') W) : o.wp c.P a W K Q := by
  obtain ⟨v', h1, h2⟩ := h
  unfold Oper.wp
  rw [h1]
  exact hK v' h2

theorem trBuiltin_e (R : Rel c base ρ H W) (F : FRel c ρ fr a.tmps) {b : Builtin} {ts : Array TypeId} {xs : Array Operand} {ys : List X} {p : PE} {cal : Cal} {v : AV} {H' : Heap} (ty : TypeId) (cs : Array Bool) (hx : trXs c xs.toList = some ys) (h : trBuiltin c b ts.toList ys = some (.e p))
    (hv : evalE cal fr H p = some (v, H')) : Turns c base ρ H W (builtin b ts ty cs (xs.map a.eval)) v H' := by
  have head : ∀ {x : X} {rest : List X}, ys = x :: rest → ∃ o1 os, xs.toList = o1 :: os ∧ (xs.map a.eval)[0]? = some (a.eval o1) ∧ VRel c ρ (x.ev fr) (a.eval o1) ∧ trXs c os = some rest := by
    intro x rest hy
    rw [hy] at hx
    obtain ⟨o1, os, e1, e2, e3⟩ := trXs_cons hx
    exact ⟨o1, os, e1, by rw [← Array.getElem?_toList, Array.toList_map, e1]; rfl, trX_rel R F e2, e3⟩
  have two : ∀ {x y : X}, ys = [x, y] → ∃ o1 o2, xs.toList = [o1, o2] ∧ (xs.map a.eval)[0]? = some (a.eval o1) ∧ (xs.map a.eval)[1]? = some (a.eval o2) ∧ VRel c ρ (x.ev fr) (a.eval o1) ∧ VRel c ρ (y.ev fr) (a.eval o2) := by
    intro x y hy
    obtain ⟨o1, os, e1, h1, r1, e3⟩ := head hy
    obtain ⟨o2, os', e4, e5, e6⟩ := trXs_cons e3
    have := trXs_nil e6
    subst this
    subst e4
    exact ⟨o1, o2, e1, h1, by rw [← Array.getElem?_toList, Array.toList_map, e1]; rfl, r1, trX_rel R F e5⟩
  have tat : ∀ {i : Nat} {t : TypeId}, ts.toList[i]? = some t → ts[i]? = some t := fun h => by rw [← Array.getElem?_toList]; exact h
  unfold trBuiltin at h
  split at h
  · -- append
    rename_i s t x y hts
    obtain ⟨o1, o2, e1, h1, h2, r1, r2⟩ := two rfl
    have h0 : ts[0]? = some s := tat (by rw [hts]; rfl)
    have h0' : ts[1]? = some t := tat (by rw [hts]; rfl)
    split at h
    · rename_i e e' hs ht
      split at h
      · rename_i n b z hn hb hz
        cases h
        exact e_app R h0 h0' h1 h2 hs (.inl ⟨_, ht⟩) hn hb hz r1 r2 hv
      · cases h
    · rename_i e hs ht
      split at h
      · rename_i n b z hn hb hz
        cases h
        exact e_app R h0 h0' h1 h2 hs (.inr ht) hn hb hz r1 r2 hv
      · cases h
    · cases h
  · -- len
    split at h
    · cases h
    · cases h
    · cases h
    · cases h
    · split at h <;> cases h
    · cases h
  · -- cap
    split at h <;> cases h
  · -- copy
    rename_i s t x y hts
    obtain ⟨o1, o2, e1, h1, h2, r1, r2⟩ := two rfl
    have h0 : ts[0]? = some s := tat (by rw [hts]; rfl)
    split at h
    · rename_i e e' hs ht
      split at h
      · rename_i n hn
        cases h
        exact e_copy R h0 h1 h2 hs hn r1 r2 hv
      · cases h
    · rename_i e hs ht
      split at h
      · rename_i n hn
        cases h
        exact e_copy R h0 h1 h2 hs hn r1 r2 hv
      · cases h
    · cases h
  · -- clear
    rename_i t ts' x rest hts
    obtain ⟨o1, os, e1, h1, r1, _⟩ := head rfl
    have h0 : ts[0]? = some t := tat (by rw [hts]; rfl)
    split at h
    · rename_i e hs
      split at h
      · rename_i z hz
        cases h
        exact e_clear R h0 h1 hs hz r1 hv
      · cases h
    · cases h
  · -- delete
    rename_i t ts' x k hts
    obtain ⟨o1, o2, e1, h1, h2, r1, r2⟩ := two rfl
    have h0 : ts[0]? = some t := tat (by rw [hts]; rfl)
    split at h
    · rename_i kt e hs
      split at h
      · rename_i str hk
        cases h
        exact e_mdel R h0 h1 h2 hs hk r1 r2 hv
      · cases h
    · cases h
  · cases h
  · -- unsafe.String
    rename_i t ts' x y hts
    obtain ⟨o1, o2, e1, h1, h2, r1, r2⟩ := two rfl
    have h0 : ts[0]? = some t := tat (by rw [hts]; rfl)
    split at h
    · rename_i e hs
      split at h
      · rename_i i hi
        split at h
        · rename_i hd
          cases h
          have hargs : xs.map a.eval = #[a.eval o1, a.eval o2] := by
            apply Array.ext'
            rw [Array.toList_map, e1]
            rfl
          show Turns c base ρ H W (do pure (.value (← Builtin.unsafeString_ ts ty (xs.map a.eval)))) v H'
          rw [hargs]
          exact e_ustr R h0 hs hi hd r1 r2 hv
        · cases h
      · cases h
    · cases h
  · split at h <;> cases h
  · split at h <;> cases h
  · cases h

theorem op_e {cal : Cal} (C : CalOk c cal) (M : FmOk c) (R : Rel c base ρ H W) (F : FRel c ρ fr a.tmps) {o : Oper} {p : PE} {v : AV} {H' : Heap} {K : Act → World → Prop} {Q : Exit → Act → World → Prop} (h : trOp c o.op = some (.e p)) (hv : evalE cal fr H p = some (v, H'))
    (hK : ∀ v' W' ρ', Goes c base ρ H W ρ' H' W' → VRel c ρ' v v' → K (a.put o.dst v') W') : o.wp c.P a W K Q := by
  have one : ∀ {x : Operand} {y : X}, trX c x = some y → VRel c ρ (y.ev fr) (a.eval x) := fun h => trX_rel R F h
  generalize ho : o.op = op at h
  cases op with
  | store t x y =>
    have e : execOp a.eval o = (do Instr.storeAt t (a.eval x) (a.eval y); pure .skip) := by unfold execOp; rw [ho]
    refine wp_turns ?_ hK
    rw [e]
    simp only [trOp] at h
    split at h
    · rename_i n x' y' hn h1 h2; cases h; exact e_store R hn (one h1) (one h2) hv
    · cases h
  | mapUpdate t m k x =>
    have e : execOp a.eval o = (do Instr.mapUpdate t (a.eval m) (a.eval k) (a.eval x); pure .skip) := by unfold execOp; rw [ho]
    refine wp_turns ?_ hK
    rw [e]
    simp only [trOp] at h
    split at h
    · rename_i kt et m' k' x' ht h1 h2 h3
      split at h
      · rename_i str hk; cases h; exact e_mupd R ht hk (one h1) (one h2) (one h3) hv
      · cases h
    · cases h
  | mapEntry t m k =>
    have e : execOp a.eval o = (do pure (.value (← Instr.mapEntry t (a.eval m) (a.eval k)))) := by unfold execOp; rw [ho]
    refine wp_turns ?_ hK
    rw [e]
    simp only [trOp] at h
    split at h
    · rename_i kt et m' k' ht h1 h2
      split at h
      · rename_i str z hk hz; cases h; exact e_ment R ht hk hz (one h1) (one h2) hv
      · cases h
    · cases h
  | entryStore t m s x =>
    have e : execOp a.eval o = (do Instr.entryStore t (a.eval m) (a.eval s) (a.eval x); pure .skip) := by unfold execOp; rw [ho]
    refine wp_turns ?_ hK
    rw [e]
    simp only [trOp] at h
    split at h
    · rename_i m' s' x' h1 h2 h3; cases h; exact e_mest R (one h1) (one h2) (one h3) hv
    · cases h
  | call k =>
    simp only [trOp] at h
    split at h
    · rename_i ys hys
      split at h
      · rename_i b hk
        refine wp_turns ?_ hK
        rw [call_builtin o k b ho hk]
        exact trBuiltin_e R F _ _ hys h hv
      · rename_i g hk
        split at h
        · rename_i f hf
          cases h
          exact e_call C R hf (callFunc_enter M hf _) (by rw [Array.toList_map]; exact trXs_rel R F hys) hv (call_func o k g ho hk) hK
        · split at h
          · rename_i x _
            cases h2 : Nat.beq (c.ext g) 2 with
            | true => rw [h2] at h; cases h
            | false =>
              rw [h2] at h
              simp only [cond_false] at h
              cases h3 : Nat.beq (c.ext g) 3 <;> rw [h3] at h <;> cases h
          · cases h2 : Nat.beq (c.ext g) 1 <;> rw [h2] at h <;> (try cases h) <;> cases h4 : Nat.beq (c.ext g) 4 <;> rw [h4] at h <;> cases h
          · cases h
      · rename_i fo hne hk
        split at h
        · rename_i f hf
          cases h
          simp only [evalE] at hv
          unfold eCallv at hv
          have hfo := one hf
          split at hv
          · rename_i f' caps hfe
            rw [hfe, VRel_fn] at hfo
            obtain ⟨g, cs, g1, g2, g3⟩ := hfo
            refine e_call C R g1 (callFunc_enter M g1 (k.args.map a.eval ++ cs)) ?_ hv ?_ hK
            · rw [Array.toList_append, Array.toList_map]
              exact (trXs_rel R F hys).append (g3.mono fun _ _ h => h.val)
            · unfold execOp
              rw [ho]
              simp only [resolve, hk, g2, Deferred.ofValue, pure_bind, invoke]
              congr 1
              simp
          · cases hv
        · cases h
      · cases h
    · cases h
  | convert s d x =>
    simp only [trOp] at h
    split at h
    · unfold trConv at h
      split at h
      · cases h
      · cases h
      · rename_i e _ _
        cases hb : (isU8 c.P e && Nat.beq (rowK c.P e) 2) <;> rw [hb] at h <;> cases h
      · rename_i e _ _
        cases hb : isU8 c.P e <;> rw [hb] at h <;> cases h
      · rename_i y hy _ _ e' e h1 h2
        cases hb : (Nat.beq s d && isU8 c.P e) with
        | false => rw [hb] at h; cases h
        | true =>
          rw [hb] at h
          cases h
          have e : execOp a.eval o = (do pure (.value (← convert s d (a.eval x)))) := by unfold execOp; rw [ho]
          refine wp_turns ?_ hK
          rw [e]
          simp only [nbeq, Bool.and_eq_true, decide_eq_true_eq] at hb
          exact e_mark R h1 h2 hb.1 hb.2 (one hy) hv
      · split at h <;> cases h
      · rename_i t _ _
        cases hb : c.isB t <;> rw [hb] at h <;> simp only [cond_true, cond_false] at h
        · cases h
        · split at h <;> cases h
      · cases h
    · cases h
  | build t ps =>
    simp only [trOp] at h
    split at h
    · rename_i fs z _ _
      cases hb : (fs.toList.all fun f => (c.size f.type).isSome) <;> rw [hb] at h <;> simp only [cond_true, cond_false] at h
      · cases h
      · split at h <;> cases h
    · split at h
      · split at h <;> cases h
      · cases h
    · cases h
  | buildSlice t n ps =>
    simp only [trOp] at h
    split at h
    · split at h
      · rename_i e _ n' z _ _
        cases hb : (Nat.ble (n * n') 16777216 && !Nat.beq n' 0) <;> rw [hb] at h <;> simp only [cond_true, cond_false] at h
        · cases h
        · split at h <;> cases h
      · cases h
    · cases h
  | makeFunc fn first caps =>
    cases fn with
    | func g =>
      simp only [trOp] at h
      split at h
      · cases hb : first.isEmpty <;> rw [hb] at h <;> cases h
      · cases h
    | _ => simp only [trOp] at h; cases h
  | makeMap t r =>
    cases r with
    | none =>
      simp only [trOp] at h
      split at h <;> cases h
    | some r => simp only [trOp] at h; cases h
  | slice t x lo hi mx =>
    simp only [trOp] at h
    split at h
    · split at h
      · split at h <;> cases h
      · split at h <;> cases h
      · split at h <;> cases h
      · cases h
    · cases h
  | _ =>
    simp only [trOp] at h
    first
      | (cases h; done)
      | (split at h <;> first | (cases h; done) | (split at h <;> first | (cases h; done) | (split at h <;> first | (cases h; done) | (split at h <;> first | (cases h; done) | (split at h <;> cases h; done)))))

end
end Go.Dp
namespace Go.Dp
open Go.RowKit

def Ag (ts : List Nat) (fr fr' : List AV) : Prop := ∀ i ∈ ts, fr.getD i .undef = fr'.getD i .undef

theorem Ag.left {s t : List Nat} {fr fr' : List AV} (h : Ag (s ++ t) fr fr') : Ag s fr fr' := fun i hi => h i (List.mem_append_left _ hi)
theorem Ag.right {s t : List Nat} {fr fr' : List AV} (h : Ag (s ++ t) fr fr') : Ag t fr fr' := fun i hi => h i (List.mem_append_right _ hi)

section
variable {fr fr' : List AV}
theorem Ag.x {x : X} (h : Ag x.tm fr fr') : x.ev fr = x.ev fr' := by
  cases x with
  | t i => exact h i (by simp [X.tm])
  | c v => rfl
theorem Ag.xs : ∀ {xs : List X}, Ag (X.tms xs) fr fr' → xs.map (X.ev fr) = xs.map (X.ev fr')
  | [], _ => rfl
  | x :: xs, h => by rw [List.map_cons, List.map_cons, Ag.x (Ag.left h), Ag.xs (Ag.right h)]
theorem Ag.lay : ∀ {ps : List (Nat × Nat × X)} {cs : List AV}, Ag (X.tmp ps) fr fr' → lay fr cs ps = lay fr' cs ps
  | [], _, _ => rfl
  | (o, n, x) :: ps, cs, h => by
    simp only [Dp.lay]
    rw [Ag.x (Ag.left h), Ag.lay (ps := ps) (Ag.right h)]
theorem Ag.mms {mx : Bool} : ∀ {xs : List X} {v : AV}, Ag (X.tms xs) fr fr' → mms mx fr v xs = mms mx fr' v xs
  | [], _, _ => rfl
  | x :: xs, v, h => by
    simp only [Dp.mms]
    rw [Ag.x (Ag.left h)]
    split
    · exact Ag.mms (Ag.right h)
    · rfl
theorem Ag.bnds {len m : Nat} {lo hi : Option X} (h1 : Ag (Xo.tm lo) fr fr') (h2 : Ag (Xo.tm hi) fr fr') : bnds fr len m lo hi = bnds fr' len m lo hi := by
  unfold Dp.bnds
  cases lo <;> cases hi <;> simp only [Xo.tm] at h1 h2
  · rfl
  · simp only [Ag.x h2]
  · simp only [Ag.x h1]
  · simp only [Ag.x h2, Ag.x h1]

theorem evalR_congr {p : PR} (H : Heap) (h : Ag p.tm fr fr') : evalR fr H p = evalR fr' H p := by
  cases p <;> simp only [PR.tm] at h <;> simp only [evalR]
  case build z ps => rw [h.lay]
  case slstr x lo hi => rw [h.left.x]; unfold rSlstr; split <;> first | rfl | rw [Ag.bnds h.right.left h.right.right]
  case slsl sz x lo hi mx =>
    rw [h.left.x]
    unfold rSlsl
    have hb : ∀ len m, Dp.bnds fr len m lo hi = Dp.bnds fr' len m lo hi := fun len m => Ag.bnds h.right.left h.right.right.left
    have h3 : ∀ len m u, rSl3 fr len m lo hi u = rSl3 fr' len m lo hi u := fun len m u => by unfold rSl3; simp only [hb]
    cases mx with
    | none => simp only [hb]
    | some u =>
      have hu : u.ev fr = u.ev fr' := Ag.x h.right.right.right
      simp only [h3, hu]
  case slarr n sz x lo hi => rw [h.left.x]; unfold rSlarr; simp only [Ag.bnds h.right.left h.right.right]
  case minmax mx xs =>
    unfold rMm
    cases xs with
    | nil => rfl
    | cons x xs => simp only [X.tms] at h; simp only []; rw [h.left.x, h.right.mms]
  case mkfn f xs => rw [h.xs]
  all_goals first | rfl | rw [h.x] | rw [h.left.x, h.right.x] | rw [h.left.x, h.right.left.x, h.right.right.x]

theorem evalN_congr {p : PN} (h : Ag p.tm fr fr') : evalN fr p = evalN fr' p := by
  cases p <;> simp only [PN.tm] at h <;> simp only [evalN]
  case bslice => rw [h.lay]
  all_goals first | rw [h.x] | rw [h.left.x, h.right.x]

theorem evalE_congr {p : PE} {cal : Cal} (H : Heap) (h : Ag p.tm fr fr') : evalE cal fr H p = evalE cal fr' H p := by
  cases p <;> simp only [PE.tm] at h <;> simp only [evalE]
  case call => rw [h.xs]
  case callv => rw [h.left.x, h.right.xs]
  all_goals first | rw [h.x] | rw [h.left.x, h.right.x] | rw [h.left.x, h.right.left.x, h.right.right.x]

theorem wanted_congr {g : Option (Nat × Bool)} (h : Ag (guardTm g) fr fr') : wanted fr g = wanted fr' g := by
  cases g with
  | none => rfl
  | some q =>
    obtain ⟨g, w⟩ := q
    simp only [wanted]
    rw [h g (by simp [guardTm])]
end

def HLe (H H' : Heap) : Prop := ∀ b x, H.get b = some x → H'.get b = some x

section
variable {H H' : Heap}
theorem HLe.new (h : H.get H.next = none) (x : Blk) : HLe H (H.new x) := by
  intro b y hy
  rw [Heap.get_new]
  by_cases e : b = H.next
  · subst e; rw [h] at hy; cases hy
  · rw [if_neg e]; exact hy

theorem HLe.ld (h : HLe H H') {b o n : Nat} {l : List AV} (hl : H.ld b o n = some l) : H'.ld b o n = some l := by
  unfold Heap.ld at hl ⊢
  cases hb : H.get b with
  | none => rw [hb] at hl; cases hl
  | some x => rw [hb] at hl; rw [h b x hb]; exact hl

theorem isVar_mono (h : HLe H H') {o b : Nat} (hv : isVar o (H.get b) = true) : isVar o (H'.get b) = true := by
  cases hb : H.get b with
  | none => rw [hb] at hv; cases hv
  | some x => rw [hb] at hv; rw [h b x hb]; exact hv

theorem evalR_mono (h : HLe H H') {fr : List AV} {p : PR} {v : AV} (hv : evalR fr H p = some v) : evalR fr H' p = some v := by
  cases p <;> simp only [evalR] at hv ⊢ <;> try exact hv
  case load g n x =>
    unfold rLoad at hv ⊢
    split at hv
    · rename_i b o hx
      cases hl : H.ld b o n with
      | none => rw [hl] at hv; cases hv
      | some l => rw [hl] at hv; rw [h.ld hl]; exact hv
    · cases hv
  case eqc neg x y =>
    unfold rEqc at hv ⊢
    split at hv
    · split at hv
      · unfold eqPlace at hv ⊢
        rename_i b o _ _ b' o' _
        cases hc : (isVar o (H.get b) && isVar o' (H.get b')) with
        | false => rw [hc] at hv; cases hv
        | true =>
          rw [hc] at hv
          rw [Bool.and_eq_true] at hc
          rw [isVar_mono h hc.1, isVar_mono h hc.2]
          exact hv
      · exact hv
      · exact hv
    · exact hv
    · exact hv
  case b2s x =>
    unfold rB2s at hv ⊢
    split at hv
    · exact hv
    · rename_i b o len sz _
      cases hz : Nat.beq sz 1 with
      | false => rw [hz] at hv; cases hv
      | true =>
        rw [hz] at hv
        simp only [cond_true] at hv ⊢
        cases hl : H.ld b o len with
        | none => rw [hl] at hv; cases hv
        | some l => rw [hl] at hv; rw [h.ld hl]; exact hv
    · cases hv
  case slsl sz x lo hi mx =>
    unfold rSlsl at hv ⊢
    split at hv
    · exact hv
    · rename_i b o len sz' _
      cases hb : H.get b with
      | none => rw [hb] at hv; cases hv
      | some y => rw [hb] at hv; rw [h b y hb]; exact hv
    · cases hv
  case slarr n sz x lo hi =>
    unfold rSlarr at hv ⊢
    split at hv
    · rename_i b o _
      cases hb : H.get b with
      | none => rw [hb] at hv; cases hv
      | some y => rw [hb] at hv; rw [h b y hb]; exact hv
    · cases hv
  case look s z ok m k =>
    unfold rLook entries at hv ⊢
    cases hm : m.ev fr <;> rw [hm] at hv <;> simp only [] at hv ⊢ <;> try exact hv
    rename_i b
    cases hb : H.get b with
    | none => rw [hb] at hv; cases hv
    | some y => rw [hb] at hv; rw [h b y hb]; exact hv
  case lenm x =>
    unfold rLenm entries at hv ⊢
    cases hm : x.ev fr <;> rw [hm] at hv <;> simp only [] at hv ⊢ <;> try exact hv
    rename_i b
    cases hb : H.get b with
    | none => rw [hb] at hv; cases hv
    | some y => rw [hb] at hv; rw [h b y hb]; exact hv
  case p2u x =>
    unfold rP2u at hv ⊢
    split at hv
    · exact hv
    · rename_i b o _
      cases hb : H.get b with
      | none => rw [hb] at hv; cases hv
      | some y => rw [hb] at hv; rw [h b y hb]; exact hv
    · cases hv
  case u2b n x =>
    unfold rU2b at hv ⊢
    split at hv
    · exact hv
    · rename_i b o _
      cases hb : H.get b with
      | none => rw [hb] at hv; cases hv
      | some y => rw [hb] at hv; rw [h b y hb]; exact hv
    · cases hv
  case sdata x =>
    unfold rSdata at hv ⊢
    split at hv
    · exact hv
    · rename_i b o _ _ _
      cases hb : H.get b with
      | none => rw [hb] at hv; cases hv
      | some y => rw [hb] at hv; rw [h b y hb]; exact hv
    · cases hv

theorem evalR_still {fr : List AV} {p : PR} (h : (Pk.r p).reads = false) : evalR fr H p = evalR fr H' p := by
  cases p <;> first | rfl | (simp only [Pk.reads] at h; cases h)
end

section
theorem sameAV_eq {x y : AV} (h : sameAV x y = true) : x = y := by
  cases x <;> cases y <;> simp only [sameAV, Bool.and_eq_true, nbeq, decide_eq_true_eq, kbeq_eq, ibeq_eq, beqB_eq, beq_iff_eq] at h <;> first
    | rfl
    | (cases h; done)
    | (subst h; rfl)
    | (obtain ⟨h1, h2⟩ := h; subst h1; subst h2; rfl)
    | (obtain ⟨⟨h1, h2⟩, h3, h4⟩ := h; subst h1; subst h2; subst h3; subst h4; rfl)
theorem sameCells_eq : ∀ {x y : List AV}, sameCells x y = true → x = y
  | [], [], _ => rfl
  | [], _ :: _, h => by simp [sameCells] at h
  | _ :: _, [], h => by simp [sameCells] at h
  | a :: x, b :: y, h => by
    simp only [sameCells, Bool.and_eq_true] at h
    rw [sameAV_eq h.1, sameCells_eq h.2]
theorem sameV_eq {x y : AV} (h : sameV x y = true) : x = y := by
  unfold sameV at h
  split at h
  · split at h
    · rw [sameCells_eq h]
    · cases h
  · exact sameAV_eq h
end

end Go.Dp
namespace Go.Dp
open Go.RowKit

theorem has_iff {l : List Nat} {x : Nat} : has l x = true ↔ x ∈ l := by
  induction l with
  | nil => simp [has]
  | cons y l ih => simp [has, nbeq, ih]

theorem dstIs_iff {os : List PO} {i t : Nat} : dstIs os i t = true ↔ (opAt os i).dst = some t := by
  unfold dstIs
  split
  · rename_i d h; rw [h, nbeq]; simp
  · rename_i h; rw [h]; simp

theorem getD_set (l : List AV) (d : Nat) (v : AV) (t : Nat) : (l.set d v).getD t .undef = if d = t ∧ t < l.length then v else l.getD t .undef := by
  rw [List.getD_eq_getElem?_getD, List.getD_eq_getElem?_getD, List.getElem?_set]
  by_cases h : d = t
  · subst h
    by_cases h2 : d < l.length
    · simp [h2]
    · simp [h2]
  · simp [h]

theorem setD_len (fr : List AV) (d : Option Nat) (v : AV) : (setD fr d v).length = fr.length := by cases d <;> simp [setD]
theorem setD_get (fr : List AV) (d : Option Nat) (v : AV) (t : Nat) : (setD fr d v).getD t .undef = if d = some t ∧ t < fr.length then v else fr.getD t .undef := by
  cases d with
  | none => simp [setD]
  | some d => simp only [setD, getD_set, Option.some.injEq]

theorem step_inv {cal : Cal} {o : PO} {fr fr' : List AV} {H H' : Heap} (h : step cal o fr H = some (fr', H')) :
    (wanted fr o.guard = some false ∧ fr' = setD fr o.dst (.tup []) ∧ H' = H) ∨ (∃ v, wanted fr o.guard = some true ∧ evalO cal fr H o.op = some (v, H') ∧ fr' = setD fr o.dst v) := by
  unfold step at h
  split at h
  · rename_i w hw
    cases w with
    | false => simp only [cond_false] at h; cases h; exact .inl ⟨hw, rfl, rfl⟩
    | true =>
      simp only [cond_true] at h
      unfold putR at h
      split at h
      · rename_i v H'' he; cases h; exact .inr ⟨v, hw, he, rfl⟩
      · cases h
  · cases h

theorem again_inv {o : PO} {fr fr' : List AV} {H H' : Heap} (h : again o fr H = some (fr', H')) : fr' = fr ∧ H' = H ∧ ∃ p d w, o.op = .r p ∧ o.dst = some d ∧ wanted fr o.guard = some w ∧ (w = true → evalR fr H p = some (fr.getD d .undef)) := by
  unfold again at h
  split at h
  · rename_i p hp
    split at h
    · rename_i d hd
      split at h
      · rename_i w hw
        cases w with
        | false => simp only [cond_false] at h; cases h; exact ⟨rfl, rfl, p, d, false, hp, hd, hw, fun h => by cases h⟩
        | true =>
          simp only [cond_true] at h
          unfold againR at h
          split at h
          · rename_i v hv
            cases hs : sameV v (fr.getD d .undef) with
            | false => rw [hs] at h; cases h
            | true =>
              rw [hs] at h
              cases h
              exact ⟨rfl, rfl, p, d, true, hp, hd, hw, fun _ => by rw [hv, sameV_eq hs]⟩
          · cases h
      · cases h
    · cases h
  · cases h

section
variable {os : List PO} {cal : Cal}

theorem steps_op {x : Nat} {r : List PIt} {fr frF : List AV} {H HF : Heap} (h : steps cal ((PIt.op x :: r).map (toIt os)) fr H = some (frF, HF)) : ∃ fr1 H1, step cal (opAt os x) fr H = some (fr1, H1) ∧ steps cal (r.map (toIt os)) fr1 H1 = some (frF, HF) := by
  rw [List.map_cons, steps_cons] at h
  unfold thenDo at h
  split at h
  · rename_i fr1 H1 h1; exact ⟨fr1, H1, h1, h⟩
  · cases h

theorem steps_again {x : Nat} {r : List PIt} {fr frF : List AV} {H HF : Heap} (h : steps cal ((PIt.again x :: r).map (toIt os)) fr H = some (frF, HF)) : again (opAt os x) fr H = some (fr, H) ∧ steps cal (r.map (toIt os)) fr H = some (frF, HF) := by
  rw [List.map_cons, steps_cons] at h
  unfold thenDo at h
  split at h
  · rename_i fr1 H1 h1
    have h1' : again (opAt os x) fr H = some (fr1, H1) := h1
    obtain ⟨rfl, rfl, _⟩ := again_inv h1'
    exact ⟨h1', h⟩
  · cases h

theorem step_keeps {o : PO} {fr fr' : List AV} {H H' : Heap} (h : step cal o fr H = some (fr', H')) : fr'.length = fr.length ∧ ∀ t, o.dst ≠ some t → fr'.getD t .undef = fr.getD t .undef := by
  rcases step_inv h with ⟨_, rfl, _⟩ | ⟨v, _, _, rfl⟩
  · exact ⟨setD_len _ _ _, fun t ht => by rw [setD_get, if_neg (fun h => ht h.1)]⟩
  · exact ⟨setD_len _ _ _, fun t ht => by rw [setD_get, if_neg (fun h => ht h.1)]⟩

theorem steps_keeps : ∀ {r : List PIt} {fr frF : List AV} {H HF : Heap}, steps cal (r.map (toIt os)) fr H = some (frF, HF) → frF.length = fr.length ∧ ∀ t, (∀ x ∈ PIt.ops r, (opAt os x).dst ≠ some t) → frF.getD t .undef = fr.getD t .undef
  | [], fr, frF, H, HF, h => by rw [List.map_nil, steps_nil] at h; cases h; exact ⟨rfl, fun _ _ => rfl⟩
  | .op x :: r, fr, frF, H, HF, h => by
    obtain ⟨fr1, H1, h1, h2⟩ := steps_op h
    obtain ⟨k1, k2⟩ := step_keeps h1
    obtain ⟨k3, k4⟩ := steps_keeps h2
    refine ⟨k3.trans k1, fun t ht => ?_⟩
    rw [k4 t fun y hy => ht y (by simp [PIt.ops, hy]), k2 t (ht x (by simp [PIt.ops]))]
  | .again x :: r, fr, frF, H, HF, h => by
    obtain ⟨_, h2⟩ := steps_again h
    have k := steps_keeps (r := r) h2
    exact ⟨k.1, fun t ht => k.2 t ht⟩

theorem agains_run : ∀ {r : List PIt} {fr frF : List AV} {H HF : Heap}, steps cal (r.map (toIt os)) fr H = some (frF, HF) → ∀ y ∈ PIt.agains r, again (opAt os y) fr H = some (fr, H)
  | [], _, _, _, _, _, y, hy => by simp [PIt.agains] at hy
  | .op x :: r, _, _, _, _, _, y, hy => by simp [PIt.agains] at hy
  | .again x :: r, fr, frF, H, HF, h, y, hy => by
    obtain ⟨h1, h2⟩ := steps_again h
    simp only [PIt.agains, List.mem_cons] at hy
    rcases hy with rfl | hy
    · exact h1
    · exact agains_run h2 y hy
end

def ov (fr0 frF : List AV) (p : Nat → Bool) : List AV := (List.range fr0.length).map fun t => bif p t then frF.getD t .undef else fr0.getD t .undef

theorem ov_len (fr0 frF : List AV) (p : Nat → Bool) : (ov fr0 frF p).length = fr0.length := by simp [ov]
theorem ov_get {fr0 frF : List AV} (h : frF.length = fr0.length) (p : Nat → Bool) (t : Nat) : (ov fr0 frF p).getD t .undef = bif p t then frF.getD t .undef else fr0.getD t .undef := by
  unfold ov
  rw [List.getD_eq_getElem?_getD, List.getElem?_map]
  by_cases ht : t < fr0.length
  · rw [List.getElem?_range ht]; rfl
  · rw [List.getElem?_eq_none (by simpa using ht)]
    have e1 : frF.getD t .undef = .undef := by rw [List.getD_eq_getElem?_getD, List.getElem?_eq_none (by omega)]; rfl
    have e2 : fr0.getD t .undef = .undef := by rw [List.getD_eq_getElem?_getD, List.getElem?_eq_none (by omega)]; rfl
    rw [e1, e2]
    cases p t <;> rfl

section
variable (os : List PO) (ds : List (List Nat))

def POK : List Nat → Prop
  | [] => True
  | x :: P => (∀ d ∈ dirs ds x, d ∈ P) ∧ POK P

structure St (P : List Nat) : Prop where
  lt : ∀ x ∈ P, x < os.length
  pair : ∀ x ∈ P, ∀ y ∈ P, x ≠ y → ∀ t, (opAt os y).dst = some t → t ∈ (opAt os x).tm → y ∈ dirs ds x ∨ x ∈ cl os ds y
  uniq : ∀ x ∈ P, ∀ y ∈ P, x ≠ y → ∀ d, (opAt os x).dst = some d → (opAt os y).dst ≠ some d
  ord : POK ds P

theorem POK.waits {P : List Nat} (h : POK ds P) : ∀ x ∈ P, ∀ d ∈ dirs ds x, d ∈ P := by
  induction P with
  | nil => intro x hx; cases hx
  | cons y P ih =>
    intro x hx d hd
    rcases List.mem_cons.1 hx with rfl | hx
    · exact List.mem_cons_of_mem _ (h.1 d hd)
    · exact List.mem_cons_of_mem _ (ih h.2 x hx d hd)

structure ChkOp (P : List Nat) (x : Nat) (r : List PIt) : Prop where
  lt : x < os.length
  new : x ∉ P
  ahead : ∀ d ∈ dirs ds x, d ∈ P
  reads : ∀ y ∈ P, ∀ t, (opAt os y).dst = some t → t ∈ (opAt os x).tm → y ∈ dirs ds x
  read : ∀ y ∈ P, ∀ t, (opAt os x).dst = some t → t ∈ (opAt os y).tm → y ∈ cl os ds x
  uniq : ∀ y ∈ P, ∀ d, (opAt os y).dst = some d → (opAt os x).dst ≠ some d
  behind : (opAt os x).op.isE = true → ∀ z ∈ PIt.ops r, ∃ d ∈ dirs ds z, d = x ∨ d ∈ PIt.ops r
  again : (opAt os x).op.isE = true → ∀ y ∈ P, (opAt os y).op.reads = true → y ∈ cl os ds x ∨ y ∈ PIt.agains r
  rest : chk os ds (x :: P) r = true

theorem chk_op {P : List Nat} {x : Nat} {r : List PIt} (h : chk os ds P (.op x :: r) = true) : ChkOp os ds P x r := by
  simp only [chk, Bool.and_eq_true, nblt, decide_eq_true_eq, Bool.not_eq_true', List.all_eq_true, Bool.or_eq_true, has_iff] at h
  obtain ⟨⟨⟨⟨⟨⟨⟨h1, h2⟩, h3⟩, h4⟩, h5⟩, h6⟩, h7⟩, h8⟩ := h
  refine ⟨h1, fun hm => (by rw [has_iff.2 hm] at h2; cases h2), h3, fun y hy t ht hm => ?_, fun y hy t ht hm => ?_, fun y hy d hd hx => ?_, fun he z hz => ?_, fun he y hy hr => ?_, h8⟩
  · rcases h4 y hy with h | h
    · exfalso
      have := List.any_eq_false.1 h t hm
      exact this (dstIs_iff.2 ht)
    · exact h
  · rcases h5 y hy with h | h
    · exfalso
      have := List.any_eq_false.1 h t hm
      exact this (dstIs_iff.2 ht)
    · exact h
  · have := h6 y hy
    rw [hd] at this
    simp only [Bool.not_eq_true'] at this
    rw [dstIs_iff.2 hx] at this
    cases this
  · rw [he] at h7
    simp only [cond_true, Bool.and_eq_true, List.all_eq_true] at h7
    obtain ⟨d, hd, hh⟩ := List.any_eq_true.1 (h7.1 z hz)
    simp only [Bool.or_eq_true, nbeq, decide_eq_true_eq, has_iff] at hh
    exact ⟨d, hd, hh⟩
  · rw [he] at h7
    simp only [cond_true, Bool.and_eq_true, List.all_eq_true, Bool.or_eq_true, Bool.not_eq_true', has_iff] at h7
    rcases h7.2 y hy with h | h
    · rw [hr] at h; cases h
    · exact h

theorem chk_again {P : List Nat} {y : Nat} {r : List PIt} (h : chk os ds P (.again y :: r) = true) : y ∈ P ∧ (∀ z ∈ P, ∀ t, (opAt os z).dst = some t → t ∈ (opAt os y).tm → z ∈ dirs ds y) ∧ chk os ds P r = true := by
  simp only [chk, Bool.and_eq_true, List.all_eq_true, Bool.or_eq_true, Bool.not_eq_true', has_iff] at h
  refine ⟨h.1.1, fun z hz t ht hm => ?_, h.2⟩
  rcases h.1.2 z hz with h | h
  · exfalso
    have := List.any_eq_false.1 h t hm
    exact this (dstIs_iff.2 ht)
  · exact h

theorem chk_agains : ∀ {P : List Nat} {r : List PIt}, chk os ds P r = true → ∀ y ∈ PIt.agains r, y ∈ P ∧ ∀ z ∈ P, ∀ t, (opAt os z).dst = some t → t ∈ (opAt os y).tm → z ∈ dirs ds y
  | P, [], _, y, hy => by simp [PIt.agains] at hy
  | P, .op _ :: _, _, y, hy => by simp [PIt.agains] at hy
  | P, .again x :: r, h, y, hy => by
    obtain ⟨h1, h2, h3⟩ := chk_again os ds h
    simp only [PIt.agains, List.mem_cons] at hy
    rcases hy with rfl | hy
    · exact ⟨h1, h2⟩
    · exact chk_agains h3 y hy

theorem chk_future : ∀ {P : List Nat} {r : List PIt}, chk os ds P r = true → ∀ z ∈ PIt.ops r, ∀ y ∈ P, ∀ t, (opAt os y).dst = some t → (opAt os z).dst ≠ some t
  | P, [], _, z, hz => by simp [PIt.ops] at hz
  | P, .again x :: r, h, z, hz => chk_future (chk_again os ds h).2.2 z hz
  | P, .op x :: r, h, z, hz => by
    intro y hy t ht
    have K := chk_op os ds h
    simp only [PIt.ops, List.mem_cons] at hz
    rcases hz with rfl | hz
    · exact K.uniq y hy t ht
    · exact chk_future K.rest z hz y (List.mem_cons_of_mem _ hy) t ht

theorem chk_fresh : ∀ {P : List Nat} {r : List PIt}, chk os ds P r = true → ∀ z ∈ PIt.ops r, z ∉ P
  | P, [], _, z, hz => by simp [PIt.ops] at hz
  | P, .again x :: r, h, z, hz => chk_fresh (chk_again os ds h).2.2 z hz
  | P, .op x :: r, h, z, hz => by
    have K := chk_op os ds h
    simp only [PIt.ops, List.mem_cons] at hz
    rcases hz with rfl | hz
    · exact K.new
    · exact fun hm => chk_fresh K.rest z hz (List.mem_cons_of_mem _ hm)

theorem chk_all : ∀ {P : List Nat}, chk os ds P [] = true → ∀ i, i < os.length → i ∈ P := by
  intro P h i hi
  simp only [chk, List.all_eq_true, has_iff] at h
  exact h i (List.mem_range.2 hi)

theorem St.cons {P : List Nat} {x : Nat} {r : List PIt} (h : St os ds P) (K : ChkOp os ds P x r) : St os ds (x :: P) := by
  refine ⟨fun z hz => ?_, fun u hu v hv hne t ht hm => ?_, fun u hu v hv hne d hd => ?_, K.ahead, h.ord⟩
  · rcases List.mem_cons.1 hz with rfl | hz
    · exact K.lt
    · exact h.lt z hz
  · rcases List.mem_cons.1 hu with rfl | hu' <;> rcases List.mem_cons.1 hv with rfl | hv'
    · exact absurd rfl hne
    · exact .inl (K.reads v hv' t ht hm)
    · exact .inr (K.read u hu' t ht hm)
    · exact h.pair u hu' v hv' hne t ht hm
  · rcases List.mem_cons.1 hu with rfl | hu' <;> rcases List.mem_cons.1 hv with rfl | hv'
    · exact absurd rfl hne
    · exact fun he => K.uniq v hv' d he hd
    · exact K.uniq u hu' d hd
    · exact h.uniq u hu' v hv' hne d hd

theorem closeOver_on {S : Nat → Prop} (hd : ∀ x, S x → ∀ d ∈ dirs ds x, S d) : ∀ (r l : List Nat), (∀ x ∈ l, S x) → ∀ x ∈ closeOver ds l r, S x
  | [], l, h => h
  | z :: r, l, h => by
    refine closeOver_on hd r _ ?_
    cases hz : has l z with
    | false => exact h
    | true =>
      intro x hx
      rcases List.mem_append.1 hx with hx | hx
      · exact h x hx
      · exact hd z (h z (has_iff.1 hz)) x hx

theorem cl_on {S : Nat → Prop} (hd : ∀ x, S x → ∀ d ∈ dirs ds x, S d) {x : Nat} (hx : S x) : ∀ y ∈ cl os ds x, S y := closeOver_on ds hd _ _ (hd x hx)

theorem POK.next {S : Nat → Prop} : ∀ {P : List Nat}, POK ds P → (∃ x ∈ P, ¬ S x) → ∃ x ∈ P, ¬ S x ∧ ∀ d ∈ dirs ds x, S d
  | [], _, ⟨x, hx, _⟩ => by cases hx
  | x :: P, h, he => by
    by_cases hP : ∃ y ∈ P, ¬ S y
    · obtain ⟨y, hy, h1, h2⟩ := POK.next h.2 hP
      exact ⟨y, List.mem_cons_of_mem _ hy, h1, h2⟩
    · have hall : ∀ y ∈ P, S y := fun y hy => Classical.byContradiction fun hn => hP ⟨y, hy, hn⟩
      obtain ⟨y, hy, hn⟩ := he
      rcases List.mem_cons.1 hy with rfl | hy
      · exact ⟨y, List.mem_cons_self, hn, fun d hd => hall d (h.1 d hd)⟩
      · exact absurd (hall y hy) hn
end

end Go.Dp
namespace Go.Dp
open Go.RowKit

theorem cnt_lt {p q : Nat → Bool} (hqp : ∀ i, q i = true → p i = true) {x : Nat} (hp : p x = true) (hq : q x = false) : ∀ {l : List Nat}, x ∈ l → l.countP q < l.countP p
  | [], h => by cases h
  | y :: l, h => by
    have hle : l.countP q ≤ l.countP p := List.countP_mono_left fun i _ hi => hqp i hi
    rw [List.countP_cons, List.countP_cons]
    rcases List.mem_cons.1 h with rfl | h
    · rw [hp, hq]; simp; omega
    · have := cnt_lt hqp hp hq h
      cases hqy : q y with
      | false => cases p y <;> simp <;> omega
      | true => rw [hqp y hqy]; simp; omega

def On (listed : Array Bool) (x : Nat) : Prop := listed.getD x false = true

theorem on_set {listed : Array Bool} {x : Nat} (hx : x < listed.size) (y : Nat) : On (listed.setIfInBounds x true) y ↔ (y = x ∨ On listed y) := by
  unfold On
  by_cases h : x = y
  · subst h
    simp [hx]
  · rw [getD_set_ne false h]
    exact ⟨.inr, fun hh => hh.resolve_left (Ne.symm h)⟩

section
variable (c : Cx) (ops : Array Oper)
abbrev osOf : List PO := ops.toList.map (trO c ops)
abbrev dsOf : List (List Nat) := ops.toList.map directs
end

section
variable {c : Cx} {ops : Array Oper}

theorem os_at {x : Nat} {o : Oper} (h : ops[x]? = some o) : opAt (osOf c ops) x = trO c ops o := by
  unfold opAt osOf
  rw [List.getD_eq_getElem?_getD, List.getElem?_map, Array.getElem?_toList, h]
  rfl
theorem ds_at {x : Nat} {o : Oper} (h : ops[x]? = some o) : dirs (dsOf ops) x = directs o := by
  unfold dirs dsOf
  rw [List.getD_eq_getElem?_getD, List.getElem?_map, Array.getElem?_toList, h]
  rfl
theorem os_len : (osOf c ops).length = ops.size := by simp [osOf]

theorem trO_dst (o : Oper) : (trO c ops o).dst = o.dst := by
  unfold trO
  split <;> rfl

theorem trO_inv (o : Oper) : (trG ops o.guard = some (trO c ops o).guard ∧ trOp c o.op = some (trO c ops o).op) ∨ ((trO c ops o).guard = none ∧ (trO c ops o).op = .r .bad) := by
  unfold trO
  split
  · rename_i g p h1 h2; exact .inl ⟨h1, h2⟩
  · exact .inr ⟨rfl, rfl⟩

theorem wanted_rel {ρ : Rho} {fr : List AV} {tmps : Array Value} (F : FRel c ρ fr tmps) {o : Oper} {g : Option (Nat × Bool)} {w : Bool} (hg : trG ops o.guard = some g) (hw : wanted fr g = some w) : Region.wanted o (yielded ops tmps) = w := by
  unfold trG at hg
  unfold Region.wanted
  split at hg
  · rename_i h
    cases hg
    rw [h]
    simp only [wanted] at hw
    cases hw
    rfl
  · rename_i j w' h
    rw [h]
    split at hg
    · rename_i oj hoj
      split at hg
      · rename_i d hd
        cases hg
        simp only [wanted] at hw
        simp only [yielded, hoj, Option.bind_some, hd]
        have hr := F.at_ d
        rw [Array.getD_eq_getD_getElem?] at hr
        split at hw
        · rename_i b hb
          cases hw
          rw [hb, VRel_bool] at hr
          cases ht : tmps[d]? with
          | none => rw [ht] at hr; exact absurd hr (by simp [undef])
          | some v =>
            rw [ht] at hr
            simp only [Option.getD_some] at hr
            subst hr
            cases b <;> cases w' <;> rfl
        · cases hw
        · rename_i hnb hnu
          cases hw
          cases ht : tmps[d]? with
          | none => rfl
          | some v =>
            rw [ht] at hr
            simp only [Option.getD_some] at hr
            cases v with
            | bool b =>
              exfalso
              cases hx : fr.getD d .undef <;> rw [hx] at hr hnb hnu <;> first
                | exact hnb _ rfl
                | exact hnu rfl
                | (simp only [VRel, VRel1, SRel, BRel] at hr; cases hr; done)
                | (simp only [VRel, VRel1, SRel, BRel] at hr; obtain ⟨_, h, _⟩ := hr; cases h; done)
                | (simp only [VRel, VRel1, SRel, BRel] at hr; obtain ⟨_, _, h⟩ := hr; cases h; done)
                | (simp only [VRel, VRel1, SRel, BRel] at hr; obtain ⟨_, _, h, _⟩ := hr; cases h; done)
                | (simp only [VRel, VRel1, SRel, BRel] at hr; obtain ⟨_, _, _, h, _⟩ := hr; cases h; done)
                | (simp only [VRel, VRel1, SRel, BRel] at hr; obtain ⟨_, _, _, _, h, _⟩ := hr; cases h)
            | _ => rfl
      · cases hg
    · cases hg

theorem put_defers (a : Act) (d : Option Tmp) (v : Value) : (a.put d v).defers = a.defers := by cases d <;> rfl

theorem FRel.put {ρ : Rho} {fr : List AV} {a : Act} (F : FRel c ρ fr a.tmps) (d : Option Nat) {v : AV} {v' : Value} (r : VRel c ρ v v') : FRel c ρ (setD fr d v) (a.put d v').tmps := by
  cases d with
  | none => exact F
  | some d =>
    refine ⟨by simp [setD, Act.put, F.size], fun i => ?_⟩
    simp only [setD, Act.put, getD_set]
    rw [Array.getD_eq_getD_getElem?, Array.getElem?_setIfInBounds]
    have hF := F.at_ i
    rw [Array.getD_eq_getD_getElem?] at hF
    by_cases h : d = i
    · subst h
      by_cases h2 : d < fr.length
      · rw [if_pos ⟨rfl, h2⟩, if_pos rfl, if_pos (by have := F.size; omega)]; exact r
      · rw [if_neg (by rintro ⟨_, h⟩; exact h2 h), if_pos rfl, if_neg (by have := F.size; omega)]
        rw [List.getD_eq_getElem?_getD, List.getElem?_eq_none (by omega)]
        exact VRel.undef
    · rw [if_neg (fun h' => h h'.1), if_neg h]; exact hF

theorem FRel.of_get {ρ : Rho} {fr fr' : List AV} {tmps : Array Value} (F : FRel c ρ fr tmps) (hl : fr'.length = fr.length) (h : ∀ t, fr'.getD t .undef = fr.getD t .undef) : FRel c ρ fr' tmps :=
  ⟨hl.trans F.size, fun i => by rw [h]; exact F.at_ i⟩
end

end Go.Dp
namespace Go.Dp
open Go.RowKit

structure Env where
  c : Cx
  base : Nat
  ops : Array Oper
  cal : Cal
  ρ0 : Rho
  H0 : Heap
  W0 : World
  fr0 : List AV
  frF : List AV
  HF : Heap
  df : List Deferred

namespace Env
variable (e : Env)

def os : List PO := osOf e.c e.ops
def ds : List (List Nat) := dsOf e.ops
def cf (x : Nat) : List AV := ov e.fr0 e.frF fun t => (dirs e.ds x).any fun y => dstIs e.os y t
def gS (listed : Array Bool) : List AV := ov e.fr0 e.frF fun t => (List.range e.ops.size).any fun y => listed.getD y false && dstIs e.os y t

def isN (x : Nat) : Prop := (∃ p, (opAt e.os x).op = .n p) ∧ wanted (e.cf x) (opAt e.os x).guard = some true

def Pend (ρ : Rho) (H : Heap) (x b : Nat) : Prop :=
  ∃ w v, wanted (e.cf x) (opAt e.os x).guard = some w ∧ (∀ d, (opAt e.os x).dst = some d → d < e.fr0.length → e.frF.getD d .undef = v) ∧ (w = false → v = .tup []) ∧
    (w = true → match (opAt e.os x).op with
      | .r p => evalR (e.cf x) H p = some v
      | .n p => ∃ y f, evalN (e.cf x) p = some (y, f) ∧ v = f b ∧ H.get b = some y ∧ ρ b = none ∧ e.H0.next ≤ b ∧ b < H.next
      | .e _ => False)

structure Inv (listed : Array Bool) (a : Act) (W : World) (P : List Nat) (rest : List PIt) (fr : List AV) (H : Heap) (ρ : Rho) (bk : Nat → Nat) : Prop where
  flen : e.frF.length = e.fr0.length
  st : St e.os e.ds P
  ck : chk e.os e.ds P rest = true
  run : steps e.cal (rest.map (toIt e.os)) fr H = some (e.frF, e.HF)
  len : fr.length = e.fr0.length
  old : ∀ t, (∀ x ∈ P, (opAt e.os x).dst ≠ some t) → fr.getD t .undef = e.fr0.getD t .undef
  size : listed.size = e.ops.size
  sub : ∀ x, On listed x → x ∈ P
  dc : ∀ x, On listed x → ∀ d ∈ dirs e.ds x, On listed d
  eff : ∀ x ∈ P, (opAt e.os x).op.isE = true → On listed x
  goes : Goes e.c e.base e.ρ0 e.H0 e.W0 ρ H W
  frel : FRel e.c ρ (e.gS listed) a.tmps
  dfr : a.defers = e.df
  pend : ∀ x ∈ P, ¬ On listed x → e.Pend ρ H x (bk x)
  dist : ∀ x ∈ P, ∀ y ∈ P, ¬ On listed x → ¬ On listed y → e.isN x → e.isN y → x ≠ y → bk x ≠ bk y

variable {e}

theorem olen : e.os.length = e.ops.size := os_len

theorem agree_run (hl : e.frF.length = e.fr0.length) {listed : Array Bool} {x : Nat} (h1 : ∀ d ∈ dirs e.ds x, On listed d ∧ d < e.ops.size) (h2 : ∀ y, On listed y → ∀ t, (opAt e.os y).dst = some t → t ∈ (opAt e.os x).tm → y ∈ dirs e.ds x) :
    Ag (opAt e.os x).tm (e.gS listed) (e.cf x) := by
  intro t ht
  unfold gS cf
  rw [ov_get hl, ov_get hl]
  congr 1
  rw [Bool.eq_iff_iff, List.any_eq_true, List.any_eq_true]
  constructor
  · rintro ⟨y, hy, hh⟩
    rw [Bool.and_eq_true] at hh
    exact ⟨y, h2 y hh.1 t (dstIs_iff.1 hh.2) ht, hh.2⟩
  · rintro ⟨y, hy, hh⟩
    exact ⟨y, List.mem_range.2 (h1 y hy).2, by rw [Bool.and_eq_true]; exact ⟨(h1 y hy).1, hh⟩⟩

theorem agree_plan (hl : e.frF.length = e.fr0.length) {P : List Nat} {fr : List AV} {x : Nat} (h1 : ∀ d ∈ dirs e.ds x, d ∈ P) (h2 : ∀ y ∈ P, ∀ t, (opAt e.os y).dst = some t → t ∈ (opAt e.os x).tm → y ∈ dirs e.ds x)
    (old : ∀ t, (∀ x ∈ P, (opAt e.os x).dst ≠ some t) → fr.getD t .undef = e.fr0.getD t .undef) (fut : ∀ y ∈ P, ∀ t, (opAt e.os y).dst = some t → fr.getD t .undef = e.frF.getD t .undef) :
    Ag (opAt e.os x).tm fr (e.cf x) := by
  intro t ht
  unfold cf
  rw [ov_get hl]
  cases h : (dirs e.ds x).any fun y => dstIs e.os y t with
  | true =>
    obtain ⟨y, hy, hh⟩ := List.any_eq_true.1 h
    exact fut y (h1 y hy) t (dstIs_iff.1 hh)
  | false =>
    refine old t fun y hy hd => ?_
    have := List.any_eq_false.1 h y (h2 y hy t hd ht)
    exact this (dstIs_iff.2 hd)

theorem gS_set {ρ : Rho} {listed : Array Bool} {a : Act} (hl : e.frF.length = e.fr0.length) (hs : listed.size = e.ops.size) {x : Nat} (hx : x < e.ops.size) {o : Oper} (ho : e.ops[x]? = some o) {v : AV} {v' : Value} (F : FRel e.c ρ (e.gS listed) a.tmps) (r : VRel e.c ρ v v')
    (hv : ∀ d, (opAt e.os x).dst = some d → d < e.fr0.length → e.frF.getD d .undef = v) : FRel e.c ρ (e.gS (listed.setIfInBounds x true)) (a.put o.dst v').tmps := by
  have hd : (opAt e.os x).dst = o.dst := by show (opAt (osOf e.c e.ops) x).dst = o.dst; rw [os_at ho, trO_dst]
  refine (F.put o.dst r).of_get (by rw [setD_len]; simp [gS, ov_len]) fun t => ?_
  rw [setD_get]
  have hgl : (e.gS listed).length = e.fr0.length := ov_len _ _ _
  rw [hgl]
  by_cases h : o.dst = some t ∧ t < e.fr0.length
  · rw [if_pos h]
    unfold gS
    rw [ov_get hl]
    have : (List.range e.ops.size).any (fun y => (listed.setIfInBounds x true).getD y false && dstIs e.os y t) = true := by
      refine List.any_eq_true.2 ⟨x, List.mem_range.2 hx, ?_⟩
      rw [Bool.and_eq_true]
      exact ⟨(on_set (by omega) x).2 (.inl rfl), dstIs_iff.2 (by rw [hd]; exact h.1)⟩
    rw [this]
    exact hv t (by rw [hd]; exact h.1) h.2
  · rw [if_neg h]
    by_cases ht : t < e.fr0.length
    · have hne : o.dst ≠ some t := fun h' => h ⟨h', ht⟩
      unfold gS
      rw [ov_get hl, ov_get hl]
      congr 1
      rw [Bool.eq_iff_iff, List.any_eq_true, List.any_eq_true]
      constructor
      · rintro ⟨y, hy, hh⟩
        rw [Bool.and_eq_true] at hh
        refine ⟨y, hy, ?_⟩
        rw [Bool.and_eq_true]
        refine ⟨?_, hh.2⟩
        rcases (on_set (by omega) y).1 hh.1 with rfl | h'
        · exact absurd (hd.symm.trans (dstIs_iff.1 hh.2)) hne
        · exact h'
      · rintro ⟨y, hy, hh⟩
        rw [Bool.and_eq_true] at hh
        refine ⟨y, hy, ?_⟩
        rw [Bool.and_eq_true]
        exact ⟨(on_set (by omega) y).2 (.inr hh.1), hh.2⟩
    · unfold gS
      rw [ov_get hl, ov_get hl]
      have e1 : e.frF.getD t .undef = .undef := by rw [List.getD_eq_getElem?_getD, List.getElem?_eq_none (by omega)]; rfl
      have e2 : e.fr0.getD t .undef = .undef := by rw [List.getD_eq_getElem?_getD, List.getElem?_eq_none (by omega)]; rfl
      rw [e1, e2]
      cases (List.range e.ops.size).any fun y => (listed.setIfInBounds x true).getD y false && dstIs e.os y t <;> cases (List.range e.ops.size).any fun y => listed.getD y false && dstIs e.os y t <;> rfl

section
variable {listed : Array Bool} {a : Act} {W : World} {P : List Nat} {rest : List PIt} {fr : List AV} {H : Heap} {ρ : Rho} {bk : Nat → Nat}

theorem Inv.fut (I : e.Inv listed a W P rest fr H ρ bk) : ∀ y ∈ P, ∀ t, (opAt e.os y).dst = some t → fr.getD t .undef = e.frF.getD t .undef := fun y hy t ht =>
  ((steps_keeps I.run).2 t fun z hz => chk_future e.os e.ds I.ck z hz y hy t ht).symm

theorem Pend.mono {H1 : Heap} (h : HLe H H1) (hn : H.next ≤ H1.next) {x b : Nat} (p : e.Pend ρ H x b) : e.Pend ρ H1 x b := by
  obtain ⟨w, v, h1, h2, h3, h4⟩ := p
  refine ⟨w, v, h1, h2, h3, fun hw => ?_⟩
  have h5 := h4 hw
  split at h5
  · exact evalR_mono h h5
  · obtain ⟨y, f, g1, g2, g3, g4, g5, g6⟩ := h5
    exact ⟨y, f, g1, g2, h _ _ g3, g4, g5, by omega⟩
  · exact h5

theorem Pend.lt {x b : Nat} (p : e.Pend ρ H x b) (hx : e.isN x) : b < H.next := by
  obtain ⟨w, v, h1, h2, h3, h4⟩ := p
  obtain ⟨⟨p, hp⟩, hw⟩ := hx
  rw [hw] at h1
  cases h1
  have h5 := h4 rfl
  rw [hp] at h5
  obtain ⟨y, f, g1, g2, g3, g4, g5, g6⟩ := h5
  exact g6

theorem goes_more {c : Cx} {base : Nat} {ρ0 : Rho} {H0 : Heap} {W0 : World} (g : Goes c base ρ0 H0 W0 ρ H W) (b : Blk) : Goes c base ρ0 H0 W0 ρ (H.new b) W :=
  ⟨g.ext, g.rel.more (by show H.next ≤ H.next + 1; omega) (fun i hi => by rw [Heap.get_new, if_neg (by omega)]), g.below, by have := g.next; show H0.next ≤ H.next + 1; omega, g.new,
    fun i hi hn => by rw [Heap.get_new, if_neg (by have := g.next; omega)]; exact g.kept i hi hn⟩

theorem Inv.place_mk {x : Nat} (I : e.Inv listed a W P (.op x :: rest) fr H ρ bk) (hq : (opAt e.os x).op.isE = false) {fr1 : List AV} {H1 : Heap} (hstep : step e.cal (opAt e.os x) fr H = some (fr1, H1)) (hrun : steps e.cal (rest.map (toIt e.os)) fr1 H1 = some (e.frF, e.HF))
    (hle : HLe H H1) (hnx : H.next ≤ H1.next) (g : Goes e.c e.base e.ρ0 e.H0 e.W0 ρ H1 W) (px : e.Pend ρ H1 x H.next) : e.Inv listed a W (x :: P) rest fr1 H1 ρ (fun z => if z = x then H.next else bk z) := by
  have K := chk_op e.os e.ds I.ck
  have hno : ¬ On listed x := fun h => K.new (I.sub x h)
  have hk := step_keeps hstep
  refine ⟨I.flen, I.st.cons e.os e.ds K, K.rest, hrun, hk.1.trans I.len, fun t ht => ?_, I.size, fun y hy => List.mem_cons_of_mem _ (I.sub y hy), I.dc, fun y hy he => ?_, g, I.frel, I.dfr, fun y hy hn => ?_, fun y hy z hz hy' hz' ny nz hne => ?_⟩
  · rw [hk.2 t (ht x List.mem_cons_self)]
    exact I.old t fun y hy => ht y (List.mem_cons_of_mem _ hy)
  · rcases List.mem_cons.1 hy with rfl | hy
    · rw [hq] at he; cases he
    · exact I.eff y hy he
  · rcases List.mem_cons.1 hy with rfl | hyP
    · rw [if_pos rfl]; exact px
    · rw [if_neg (by intro h; subst h; exact K.new hyP)]
      exact (I.pend y hyP hn).mono hle hnx
  · rcases List.mem_cons.1 hy with rfl | hyP <;> rcases List.mem_cons.1 hz with rfl | hzP
    · exact absurd rfl hne
    · rw [if_pos rfl, if_neg (Ne.symm hne)]
      have := (I.pend z hzP hz').lt nz
      omega
    · rw [if_neg hne, if_pos rfl]
      have := (I.pend y hyP hy').lt ny
      omega
    · rw [if_neg (by intro h; subst h; exact K.new hyP), if_neg (by intro h; subst h; exact K.new hzP)]
      exact I.dist y hyP z hzP hy' hz' ny nz hne

theorem Inv.place {x : Nat} (I : e.Inv listed a W P (.op x :: rest) fr H ρ bk) (hq : (opAt e.os x).op.isE = false) : ∃ fr' H' bk', e.Inv listed a W (x :: P) rest fr' H' ρ bk' := by
  have K := chk_op e.os e.ds I.ck
  obtain ⟨fr1, H1, hstep, hrun⟩ := steps_op I.run
  have A := agree_plan I.flen K.ahead K.reads I.old I.fut
  have Ag1 : Ag (guardTm (opAt e.os x).guard) fr (e.cf x) := A.left
  have Ag2 : Ag (opAt e.os x).op.tm fr (e.cf x) := A.right
  have hval : ∀ v, fr1 = setD fr (opAt e.os x).dst v → ∀ d, (opAt e.os x).dst = some d → d < e.fr0.length → e.frF.getD d .undef = v := by
    intro v hv d hd hlt
    have h1 : e.frF.getD d .undef = fr1.getD d .undef := (steps_keeps hrun).2 d fun z hz => chk_future e.os e.ds K.rest z hz x List.mem_cons_self d hd
    rw [h1, hv, setD_get, if_pos ⟨hd, by rw [I.len]; exact hlt⟩]
  rcases step_inv hstep with ⟨hw, hf, hH⟩ | ⟨v, hw, he, hf⟩
  · subst hH
    exact ⟨_, _, _, I.place_mk hq hstep hrun (fun _ _ h => h) (Nat.le_refl _) I.goes ⟨false, .tup [], by rw [← wanted_congr Ag1]; exact hw, hval _ hf, fun _ => rfl, fun h => by cases h⟩⟩
  · cases hop : (opAt e.os x).op with
    | e p => rw [hop] at hq; cases hq
    | r p =>
      rw [hop] at he Ag2
      simp only [evalO] at he
      cases hv : evalR fr H p with
      | none => rw [hv] at he; cases he
      | some v' =>
        rw [hv] at he
        cases he
        refine ⟨_, _, _, I.place_mk hq hstep hrun (fun _ _ h => h) (Nat.le_refl _) I.goes ⟨true, v, by rw [← wanted_congr Ag1]; exact hw, hval _ hf, fun h => (by cases h), fun _ => ?_⟩⟩
        rw [hop]
        show evalR (e.cf x) H p = some v
        rw [← evalR_congr H Ag2]; exact hv
    | n p =>
      rw [hop] at he Ag2
      simp only [evalO] at he
      cases hv : evalN fr p with
      | none => rw [hv] at he; cases he
      | some bf =>
        obtain ⟨b, f⟩ := bf
        rw [hv] at he
        simp only [withN] at he
        split at he
        · rename_i hnone
          cases he
          refine ⟨_, _, _, I.place_mk hq hstep hrun (HLe.new hnone b) (by show H.next ≤ H.next + 1; omega) (goes_more I.goes b) ⟨true, f H.next, by rw [← wanted_congr Ag1]; exact hw, hval _ hf, fun h => (by cases h), fun _ => ?_⟩⟩
          rw [hop]
          refine ⟨b, f, by rw [← evalN_congr Ag2]; exact hv, rfl, by rw [Heap.get_new, if_pos rfl], I.goes.rel.fresh, I.goes.next, by show H.next < H.next + 1; omega⟩
        · cases he

theorem Inv.skip {x : Nat} (I : e.Inv listed a W P (.again x :: rest) fr H ρ bk) : e.Inv listed a W P rest fr H ρ bk :=
  { I with ck := (chk_again e.os e.ds I.ck).2.2, run := (steps_again I.run).2 }

theorem Inv.advance : ∀ {rest : List PIt} {P : List Nat} {fr : List AV} {H : Heap} {bk : Nat → Nat}, e.Inv listed a W P rest fr H ρ bk →
    ∃ P' rest' fr' H' bk', e.Inv listed a W P' rest' fr' H' ρ bk' ∧ (rest' = [] ∨ ∃ x r, rest' = .op x :: r ∧ (opAt e.os x).op.isE = true)
  | [], P, fr, H, bk, I => ⟨P, [], fr, H, bk, I, .inl rfl⟩
  | .again x :: r, P, fr, H, bk, I => I.skip.advance
  | .op x :: r, P, fr, H, bk, I => by
    cases hq : (opAt e.os x).op.isE with
    | true => exact ⟨P, _, fr, H, bk, I, .inr ⟨x, r, rfl, hq⟩⟩
    | false =>
      obtain ⟨fr', H', bk', I'⟩ := I.place hq
      exact I'.advance
end
end Env
end Go.Dp
namespace Go.Dp
open Go.RowKit
namespace Env
variable {e : Env}

section
variable {listed : Array Bool} {a : Act} {W : World} {P : List Nat} {rest : List PIt} {fr : List AV} {H : Heap} {ρ : Rho} {bk : Nat → Nat}

theorem Inv.did {x : Nat} (I : e.Inv listed a W P rest fr H ρ bk) (hx : x ∈ P) (hr : ∀ d ∈ dirs e.ds x, On listed d) {a' : Act} {W' : World} {ρ' : Rho} (g : Goes e.c e.base e.ρ0 e.H0 e.W0 ρ' H W') (F : FRel e.c ρ' (e.gS (listed.setIfInBounds x true)) a'.tmps)
    (hd : a'.defers = e.df) (hp : ∀ y ∈ P, y ≠ x → ¬ On listed y → e.Pend ρ' H y (bk y)) : e.Inv (listed.setIfInBounds x true) a' W' P rest fr H ρ' bk := by
  have hxn : x < listed.size := by have := I.st.lt x hx; rw [olen] at this; rw [I.size]; exact this
  have hon := on_set hxn
  refine ⟨I.flen, I.st, I.ck, I.run, I.len, I.old, by simp [I.size], fun y hy => ?_, fun y hy d hdd => ?_, fun y hy he => (hon y).2 (.inr (I.eff y hy he)), g, F, hd, fun y hy hn => ?_, fun y hy z hz hy' hz' => ?_⟩
  · rcases (hon y).1 hy with rfl | h
    · exact hx
    · exact I.sub y h
  · rcases (hon y).1 hy with rfl | h
    · exact (hon d).2 (.inr (hr d hdd))
    · exact (hon d).2 (.inr (I.dc y h d hdd))
  · have h1 : y ≠ x := fun h => hn ((hon y).2 (.inl h))
    have h2 : ¬ On listed y := fun h => hn ((hon y).2 (.inr h))
    exact hp y hy h1 h2
  · exact I.dist y hy z hz (fun h => hy' ((hon y).2 (.inr h))) (fun h => hz' ((hon z).2 (.inr h)))

theorem Inv.lag (E : ExtOk e.c) {x : Nat} (I : e.Inv listed a W P rest fr H ρ bk) (hx : x ∈ P) (hn : ¬ On listed x) (hr : ∀ d ∈ dirs e.ds x, On listed d) {K : Act → World → Prop} {Q : Exit → Act → World → Prop}
    (hK : ∀ a' W' ρ', e.Inv (listed.setIfInBounds x true) a' W' P rest fr H ρ' bk → K a' W') : wpOp e.c.P e.ops Q x K a W := by
  have hlt : x < e.ops.size := by have := I.st.lt x hx; rwa [olen] at this
  obtain ⟨o, ho⟩ : ∃ o, e.ops[x]? = some o := ⟨_, Array.getElem?_eq_getElem hlt⟩
  have hoe : opAt e.os x = trO e.c e.ops o := os_at ho
  have A : Ag (opAt e.os x).tm (e.gS listed) (e.cf x) := by
    refine agree_run I.flen (fun d hd => ⟨hr d hd, ?_⟩) (fun y hy t ht hm => ?_)
    · have := I.st.lt d (I.sub d (hr d hd)); rwa [olen] at this
    · rcases I.st.pair x hx y (I.sub y hy) (fun h => hn (h ▸ hy)) t ht hm with h | h
      · exact h
      · exact absurd (cl_on e.os e.ds I.dc hy x h) hn
  have Ag1 : Ag (guardTm (opAt e.os x).guard) (e.gS listed) (e.cf x) := A.left
  have Ag2 : Ag (opAt e.os x).op.tm (e.gS listed) (e.cf x) := A.right
  obtain ⟨w, v, hw, hv, hf, ht⟩ := I.pend x hx hn
  rw [← wanted_congr Ag1] at hw
  rcases trO_inv (c := e.c) (ops := e.ops) o with ⟨hg, hop⟩ | ⟨hg, hop⟩
  · rw [← hoe] at hg hop
    have hwant := wanted_rel I.frel hg hw
    unfold wpOp
    rw [ho]
    simp only []
    cases w with
    | false =>
      rw [hwant]
      simp only [Bool.false_eq_true, if_false]
      refine hK _ _ ρ (I.did hx hr I.goes (gS_set I.flen I.size hlt ho I.frel (v := .tup []) VRel_unit ?_) (by rw [put_defers]; exact I.dfr) fun y hy _ hn => I.pend y hy hn)
      rw [← hf rfl]; exact hv
    | true =>
      rw [hwant, if_pos rfl]
      refine .inl ?_
      have h5 := ht rfl
      cases hopx : (opAt e.os x).op with
      | e p => rw [hopx] at h5; exact h5.elim
      | r p =>
        rw [hopx] at h5 hop Ag2
        have hev : evalR (e.gS listed) H p = some v := by rw [evalR_congr H Ag2]; exact h5
        refine wp_val (op_r E I.goes.rel I.frel hop hev) fun v' hv' => ?_
        exact hK _ _ ρ (I.did hx hr I.goes (gS_set I.flen I.size hlt ho I.frel hv' hv) (by rw [put_defers]; exact I.dfr) fun y hy _ hn => I.pend y hy hn)
      | n p =>
        rw [hopx] at h5 hop Ag2
        obtain ⟨y, f, g1, g2, g3, g4, g5, g6⟩ := h5
        have hev : evalN (e.gS listed) p = some (y, f) := by rw [evalN_congr Ag2]; exact g1
        obtain ⟨v', W', obj, pl, m1, m2, m3, m4, m5, m6, m7⟩ := op_n E I.goes.rel I.frel hop hev
        obtain ⟨m8, m9⟩ := m7 (bk x) g4
        have hext := Rho.ext_at (p := pl) g4
        unfold Oper.wp
        rw [m1, Oper.upon_value]
        have G := I.goes
        have hnx : e.isN x := ⟨⟨p, hopx⟩, by rw [← wanted_congr Ag1]; exact hw⟩
        refine hK _ _ (ρ.at_ (bk x) pl) (I.did hx hr ⟨G.ext.trans hext, G.rel.adopt g6 g4 g3 m2 m6 m8, G.below.trans ⟨m3, m4, m5, by rw [m2]; simp, fun k hk => ?_⟩, G.next, fun b q hq => ?_, G.kept⟩ (gS_set I.flen I.size hlt ho (I.frel.ext hext) (g2 ▸ m9) hv) (by rw [put_defers]; exact I.dfr) fun z hz hzx hzn => ?_)
        · rw [m2, Array.getElem?_push, if_neg (by have := G.rel.size; omega)]
        · unfold Rho.at_ at hq
          by_cases hb : b = bk x
          · subst hb; exact .inr g5
          · rw [if_neg hb] at hq; exact G.new b q hq
        · obtain ⟨w2, v2, p1, p2, p3, p4⟩ := I.pend z hz hzn
          refine ⟨w2, v2, p1, p2, p3, fun hw2 => ?_⟩
          have p5 := p4 hw2
          cases hoz : (opAt e.os z).op with
          | e p => rw [hoz] at p5; exact p5
          | r p => rw [hoz] at p5; exact p5
          | n p2 =>
            rw [hoz] at p5
            obtain ⟨y2, f2, q1, q2, q3, q4, q5, q6⟩ := p5
            refine ⟨y2, f2, q1, q2, q3, ?_, q5, q6⟩
            unfold Rho.at_
            rw [if_neg (I.dist z hz x hx hzn hn ⟨⟨p2, hoz⟩, by rw [p1, hw2]⟩ hnx hzx)]
            exact q4
  · rw [hoe] at hw ht
    rw [hg] at hw
    simp only [wanted] at hw
    cases hw
    have := ht rfl
    rw [hop] at this
    cases this

theorem Inv.effect (M : FmOk e.c) (C : CalOk e.c e.cal) {x : Nat} (I : e.Inv listed a W P (.op x :: rest) fr H ρ bk) (hE : (opAt e.os x).op.isE = true) (hr : ∀ d ∈ dirs e.ds x, On listed d) {K : Act → World → Prop} {Q : Exit → Act → World → Prop}
    (hK : ∀ a' W' fr' H' ρ', e.Inv (listed.setIfInBounds x true) a' W' (x :: P) rest fr' H' ρ' bk → K a' W') : wpOp e.c.P e.ops Q x K a W := by
  have Kc := chk_op e.os e.ds I.ck
  have hlt : x < e.ops.size := by have := Kc.lt; rwa [olen] at this
  obtain ⟨o, ho⟩ : ∃ o, e.ops[x]? = some o := ⟨_, Array.getElem?_eq_getElem hlt⟩
  have hoe : opAt e.os x = trO e.c e.ops o := os_at ho
  obtain ⟨fr1, H1, hstep, hrun⟩ := steps_op I.run
  have A : Ag (opAt e.os x).tm (e.gS listed) (e.cf x) := by
    refine agree_run I.flen (fun d hd => ⟨hr d hd, ?_⟩) (fun y hy t ht hm => Kc.reads y (I.sub y hy) t ht hm)
    have := I.st.lt d (I.sub d (hr d hd)); rwa [olen] at this
  have A2 := agree_plan I.flen Kc.ahead Kc.reads I.old I.fut
  have Ag0 : Ag (opAt e.os x).tm fr (e.gS listed) := fun t ht => (A2 t ht).trans (A t ht).symm
  have Ag1 : Ag (guardTm (opAt e.os x).guard) fr (e.gS listed) := Ag0.left
  have Ag2 : Ag (opAt e.os x).op.tm fr (e.gS listed) := Ag0.right
  have hxs : x < listed.size := by rw [I.size]; exact hlt
  have hon := on_set hxs
  have hst := I.st.cons e.os e.ds Kc
  have hk := step_keeps hstep
  have hdc : ∀ y, On (listed.setIfInBounds x true) y → ∀ d ∈ dirs e.ds y, On (listed.setIfInBounds x true) d := fun y hy d hdd => by
    rcases (hon y).1 hy with rfl | h
    · exact (hon d).2 (.inr (hr d hdd))
    · exact (hon d).2 (.inr (I.dc y h d hdd))
  have hfut1 : ∀ y ∈ x :: P, ∀ t, (opAt e.os y).dst = some t → fr1.getD t .undef = e.frF.getD t .undef := fun y hy t ht =>
    ((steps_keeps hrun).2 t fun z hz => chk_future e.os e.ds Kc.rest z hz y hy t ht).symm
  have hold1 : ∀ t, (∀ y ∈ x :: P, (opAt e.os y).dst ≠ some t) → fr1.getD t .undef = e.fr0.getD t .undef := fun t ht => by
    rw [hk.2 t (ht x List.mem_cons_self)]
    exact I.old t fun y hy => ht y (List.mem_cons_of_mem _ hy)
  have hlen1 : fr1.length = e.fr0.length := hk.1.trans I.len
  -- what comes of it
  have fin : ∀ (v : AV) (v' : Value) (W' : World) (ρ' : Rho), Goes e.c e.base ρ H W ρ' H1 W' → VRel e.c ρ' v v' → fr1 = setD fr (opAt e.os x).dst v → K (a.put o.dst v') W' := by
    intro v v' W' ρ' G r hf
    have hv : ∀ d, (opAt e.os x).dst = some d → d < e.fr0.length → e.frF.getD d .undef = v := fun d hd hl => by
      rw [← hfut1 x List.mem_cons_self d hd, hf, setD_get, if_pos ⟨hd, by rw [I.len]; exact hl⟩]
    refine hK _ _ fr1 H1 ρ' ⟨I.flen, hst, Kc.rest, hrun, hlen1, hold1, by simp [I.size], fun y hy => ?_, hdc, fun y hy he => ?_, I.goes.trans G, gS_set I.flen I.size hlt ho (I.frel.ext G.ext) r hv, by rw [put_defers]; exact I.dfr, fun y hy hn => ?_, fun y hy z hz hy' hz' ny nz hne => ?_⟩
    · rcases (hon y).1 hy with rfl | h
      · exact List.mem_cons_self
      · exact List.mem_cons_of_mem _ (I.sub y h)
    · rcases List.mem_cons.1 hy with rfl | hyP
      · exact (hon y).2 (.inl rfl)
      · exact (hon y).2 (.inr (I.eff y hyP he))
    · have hyx : y ≠ x := fun h => hn ((hon y).2 (.inl h))
      have hyn : ¬ On listed y := fun h => hn ((hon y).2 (.inr h))
      have hyP : y ∈ P := (List.mem_cons.1 hy).resolve_left hyx
      have hcl : y ∉ cl e.os e.ds x := fun h => hn (cl_on e.os e.ds hdc ((hon x).2 (.inl rfl)) y h)
      obtain ⟨w2, v2, p1, p2, p3, p4⟩ := I.pend y hyP hyn
      cases hoy : (opAt e.os y).op with
      | e p =>
        exfalso
        exact hyn (I.eff y hyP (by rw [hoy]; rfl))
      | n p =>
        refine ⟨w2, v2, p1, p2, p3, fun hw2 => ?_⟩
        have p5 := p4 hw2
        rw [hoy] at p5 ⊢
        obtain ⟨y2, f2, q1, q2, q3, q4, q5, q6⟩ := p5
        refine ⟨y2, f2, q1, q2, by rw [G.kept _ q6 q4]; exact q3, ?_, q5, by have := G.next; omega⟩
        cases hb : ρ' (bk y) with
        | none => rfl
        | some q => rcases G.new _ q hb with h | h
                    · rw [q4] at h; cases h
                    · omega
      | r p =>
        cases hrd : (Pk.r p).reads with
        | false =>
          refine ⟨w2, v2, p1, p2, p3, fun hw2 => ?_⟩
          have p5 := p4 hw2
          rw [hoy] at p5 ⊢
          show evalR (e.cf y) H1 p = some v2
          rw [← evalR_still (H := H) hrd]; exact p5
        | true =>
          have hag : y ∈ PIt.agains rest := (Kc.again hE y hyP (by rw [hoy]; exact hrd)).resolve_left hcl
          have hfact := agains_run hrun y hag
          obtain ⟨_, _, p', d, w', r1, r2, r3, r4⟩ := again_inv hfact
          rw [hoy] at r1
          cases r1
          have Ay : Ag (opAt e.os y).tm fr1 (e.cf y) := agree_plan I.flen (fun d hd => POK.waits e.ds hst.ord y hy d hd) (chk_agains e.os e.ds Kc.rest y hag).2 hold1 hfut1
          have Ay1 : Ag (guardTm (opAt e.os y).guard) fr1 (e.cf y) := Ay.left
          have Ay2 : Ag (opAt e.os y).op.tm fr1 (e.cf y) := Ay.right
          rw [wanted_congr Ay1] at r3
          rw [p1] at r3
          cases r3
          cases w2 with
          | false => exact ⟨false, v2, p1, p2, p3, fun h => by cases h⟩
          | true =>
            refine ⟨true, fr1.getD d .undef, p1, fun d' hd' _ => ?_, fun h => (by cases h), fun _ => ?_⟩
            · rw [r2] at hd'; cases hd'
              exact (hfut1 y hy d r2).symm
            · rw [hoy] at Ay2 ⊢
              show evalR (e.cf y) H1 p = some _
              rw [← evalR_congr H1 Ay2]; exact r4 rfl
    · have hy2 : y ∈ P := (List.mem_cons.1 hy).resolve_left fun h => hy' ((hon y).2 (.inl h))
      have hz2 : z ∈ P := (List.mem_cons.1 hz).resolve_left fun h => hz' ((hon z).2 (.inl h))
      exact I.dist y hy2 z hz2 (fun h => hy' ((hon y).2 (.inr h))) (fun h => hz' ((hon z).2 (.inr h))) ny nz hne
  unfold wpOp
  rw [ho]
  simp only []
  rcases trO_inv (c := e.c) (ops := e.ops) o with ⟨hg, hop⟩ | ⟨hg, hop⟩
  · rw [← hoe] at hg hop
    rcases step_inv hstep with ⟨hw, hf, hH⟩ | ⟨v, hw, he, hf⟩
    · rw [wanted_congr Ag1] at hw
      rw [wanted_rel I.frel hg hw]
      simp only [Bool.false_eq_true, if_false]
      subst hH
      exact fin _ undef W ρ (.refl I.goes.rel) VRel_unit hf
    · rw [wanted_congr Ag1] at hw
      rw [wanted_rel I.frel hg hw, if_pos rfl]
      refine .inl ?_
      cases hopx : (opAt e.os x).op with
      | r p => rw [hopx] at hE; cases hE
      | n p => rw [hopx] at hE; cases hE
      | e p =>
        rw [hopx] at he hop Ag2
        simp only [evalO] at he
        rw [evalE_congr H Ag2] at he
        exact op_e C M I.goes.rel I.frel hop he fun v' W' ρ' G r => fin v v' W' ρ' G r hf
  · exfalso
    rw [hoe, hop] at hE
    cases hE

theorem ready_iff (hs : listed.size = e.ops.size) {x : Nat} : x ∈ Region.ready .any e.ops listed ↔ x < e.ops.size ∧ ¬ On listed x ∧ ∀ d ∈ dirs e.ds x, On listed d := by
  rw [mem_ready]
  have hget : x < e.ops.size → (listed.getD x true = false ↔ ¬ On listed x) := by
    intro hx
    unfold On
    simp [hs, hx]
  constructor
  · rintro ⟨h1, o, ho, h2⟩
    have hx : x < e.ops.size := (Array.getElem?_eq_some_iff.1 ho).1
    refine ⟨hx, (hget hx).1 h1, fun d hd => ?_⟩
    have hds : dirs e.ds x = directs o := ds_at ho
    rw [hds] at hd
    unfold directs at hd
    obtain ⟨ed, he1, rfl⟩ := List.mem_map.1 hd
    rw [List.mem_filter] at he1
    exact h2 ed (by simpa using he1.1) he1.2
  · rintro ⟨hx, h1, h2⟩
    obtain ⟨o, ho⟩ : ∃ o, e.ops[x]? = some o := ⟨_, Array.getElem?_eq_getElem hx⟩
    refine ⟨(hget hx).2 h1, o, ho, fun ed he hb => ?_⟩
    have hds : dirs e.ds x = directs o := ds_at ho
    refine h2 ed.on ?_
    rw [hds]
    exact List.mem_map.2 ⟨ed, List.mem_filter.2 ⟨by simpa using he, hb⟩, rfl⟩

theorem chk_total {os : List PO} {ds : List (List Nat)} : ∀ {P : List Nat} {r : List PIt}, chk os ds P r = true → ∀ i, i < os.length → i ∈ P ∨ i ∈ PIt.ops r
  | P, [], h, i, hi => .inl (chk_all os ds h i hi)
  | P, .again _ :: r, h, i, hi => chk_total (chk_again os ds h).2.2 i hi
  | P, .op x :: r, h, i, hi => by
    rcases chk_total (chk_op os ds h).rest i hi with h' | h'
    · rcases List.mem_cons.1 h' with rfl | h'
      · exact .inr (by simp [PIt.ops])
      · exact .inl h'
    · exact .inr (by simp [PIt.ops, h'])

theorem Inv.over (I : e.Inv listed a W P rest fr H ρ bk) (hd : rest = [] ∨ ∃ x r, rest = .op x :: r ∧ (opAt e.os x).op.isE = true) (h0 : Region.ready .any e.ops listed = []) : Goes e.c e.base e.ρ0 e.H0 e.W0 ρ e.HF W ∧ FRel e.c ρ e.frF a.tmps := by
  have hall : ∀ x ∈ P, On listed x := fun x hx => Classical.byContradiction fun hn => by
    obtain ⟨y, hy, h1, h2⟩ := POK.next e.ds (S := On listed) I.st.ord ⟨x, hx, hn⟩
    have : y ∈ Region.ready .any e.ops listed := (ready_iff I.size).2 ⟨by have := I.st.lt y hy; rwa [olen] at this, h1, h2⟩
    rw [h0] at this
    cases this
  rcases hd with rfl | ⟨x, r, rfl, hE⟩
  · have hrun := I.run
    rw [List.map_nil, steps_nil] at hrun
    cases hrun
    refine ⟨I.goes, I.frel.of_get (by simp [gS, ov_len, I.flen]) fun t => ?_⟩
    unfold gS
    rw [ov_get I.flen]
    cases h : (List.range e.ops.size).any fun y => listed.getD y false && dstIs e.os y t with
    | true => rfl
    | false =>
      refine I.old t fun y hy hd => ?_
      have := List.any_eq_false.1 h y (List.mem_range.2 (by have := I.st.lt y hy; rwa [olen] at this))
      apply this
      rw [Bool.and_eq_true]
      exact ⟨hall y hy, dstIs_iff.2 hd⟩
  · exfalso
    have K := chk_op e.os e.ds I.ck
    have : x ∈ Region.ready .any e.ops listed := (ready_iff I.size).2 ⟨by have := K.lt; rwa [olen] at this, fun h => K.new (I.sub x h), fun d hd => hall d (K.ahead d hd)⟩
    rw [h0] at this
    cases this

def open_ (listed : Array Bool) (n : Nat) : Nat := (List.range n).countP fun i => !listed.getD i false

theorem Inv.any (E : ExtOk e.c) (M : FmOk e.c) (C : CalOk e.c e.cal) {Q : Exit → Act → World → Prop} (hQ : ∀ a' W' ρ', Goes e.c e.base e.ρ0 e.H0 e.W0 ρ' e.HF W' → FRel e.c ρ' e.frF a'.tmps → a'.defers = e.df → Q .normal a' W') :
    ∀ (fuel : Nat) {listed : Array Bool} {a : Act} {W : World} {P : List Nat} {rest : List PIt} {fr : List AV} {H : Heap} {ρ : Rho} {bk : Nat → Nat}, e.Inv listed a W P rest fr H ρ bk → open_ listed e.ops.size ≤ fuel → wpAny e.c.P .any e.ops Q fuel listed a W := by
  intro fuel
  induction fuel with
  | zero =>
    intro listed a W P rest fr H ρ bk I hc
    have h0 : Region.ready .any e.ops listed = [] := by
      apply List.eq_nil_iff_forall_not_mem.2
      intro x hx
      obtain ⟨h1, h2, _⟩ := (ready_iff I.size).1 hx
      have hz : open_ listed e.ops.size = 0 := by omega
      unfold open_ at hz
      have := List.countP_eq_zero.1 hz x (List.mem_range.2 h1)
      unfold On at h2
      simp only [Bool.not_eq_true, Bool.not_eq_false'] at this
      exact h2 this
    obtain ⟨P', rest', fr', H', bk', I', hd⟩ := I.advance
    obtain ⟨g, f⟩ := I'.over hd h0
    exact ⟨h0, hQ a W ρ g f I.dfr⟩
  | succ fuel ih =>
    intro listed a W P rest fr H ρ bk I hc
    obtain ⟨P', rest', fr', H', bk', I', hd⟩ := I.advance
    refine ⟨fun h0 => ?_, fun x hx => ?_⟩
    · obtain ⟨g, f⟩ := I'.over hd h0
      exact hQ a W ρ g f I.dfr
    · obtain ⟨h1, h2, h3⟩ := (ready_iff I.size).1 hx
      have hcnt : open_ (listed.setIfInBounds x true) e.ops.size ≤ fuel := by
        have hxs : x < listed.size := by rw [I.size]; exact h1
        have : open_ (listed.setIfInBounds x true) e.ops.size < open_ listed e.ops.size := by
          refine cnt_lt (x := x) (fun i hi => ?_) ?_ ?_ (List.mem_range.2 h1)
          · simp only [Bool.not_eq_true'] at hi ⊢
            cases hl : listed.getD i false with
            | false => rfl
            | true => have := (on_set hxs i).2 (.inr hl); unfold On at this; rw [hi] at this; cases this
          · unfold On at h2
            simpa using h2
          · have := (on_set hxs x).2 (.inl rfl)
            unfold On at this
            rw [this]; rfl
        omega
      by_cases hxP : x ∈ P'
      · exact I'.lag E hxP h2 h3 fun a' W' ρ' I2 => ih I2 hcnt
      · rcases hd with rfl | ⟨y, r, rfl, hE⟩
        · exact absurd (chk_all e.os e.ds I'.ck x (by rw [olen]; exact h1)) hxP
        · have K := chk_op e.os e.ds I'.ck
          rcases chk_total I'.ck x (by rw [olen]; exact h1) with h | h
          · exact absurd h hxP
          · simp only [PIt.ops, List.mem_cons] at h
            rcases h with rfl | h
            · exact I'.effect M C hE h3 fun a' W' fr2 H2 ρ' I2 => ih I2 hcnt
            · exfalso
              obtain ⟨d, hd1, hd2⟩ := K.behind hE x h
              have hdP := I'.sub d (h3 d hd1)
              rcases hd2 with rfl | hd2
              · exact K.new hdP
              · exact chk_fresh e.os e.ds K.rest d hd2 (List.mem_cons_of_mem _ hdP)
end
end Env

theorem region_drawn {c : Cx} {base : Nat} {ρ : Rho} {H : Heap} {W : World} {fr : List AV} {a : Act} {cal : Cal} (hm : c.P.follows .mixedOrders = true) (E : ExtOk c) (M : FmOk c) (C : CalOk c cal) (R : Rel c base ρ H W) (F : FRel c ρ fr a.tmps) {id : Nat} {ops : Array Oper} {fr' : List AV} {H' : Heap} {Q : Exit → Act → World → Prop}
    (h : steps cal (trRegion c ops true) fr H = some (fr', H')) (hQ : ∀ a' W' ρ', Goes c base ρ H W ρ' H' W' → FRel c ρ' fr' a'.tmps → a'.defers = a.defers → Q .normal a' W') : (Code.region id ops true).wp c.P Q a W := by
  unfold trRegion at h
  simp only [cond_true] at h
  cases hc : chk (ops.toList.map (trO c ops)) (ops.toList.map directs) [] (plan (ops.toList.map (trO c ops)) (ops.toList.map directs) (List.range (ops.toList.map (trO c ops)).length) (ops.toList.map (trO c ops)).length []) with
  | false =>
    rw [hc] at h
    simp only [cond_false, steps_cons] at h
    unfold thenDo at h
    simp only [doIt, step, wanted, cond_true, evalO, evalR, withH, putR] at h
    cases h
  | true =>
    rw [hc] at h
    simp only [cond_true] at h
    have G0 : Goes c base ρ H W ρ H { W with drawn := W.drawn + 1 } := ⟨.refl _, Rel.heap (W := W) rfl R, ⟨rfl, rfl, rfl, Nat.le_refl _, fun _ _ => rfl⟩, Nat.le_refl _, fun _ _ h => .inl h, fun _ _ _ => rfl⟩
    let e : Env := { c, base, ops, cal, ρ0 := ρ, H0 := H, W0 := W, fr0 := fr, frF := fr', HF := H', df := a.defers }
    refine wp_region_any hm (Env.Inv.any (e := e) E M C hQ ops.size (P := []) (rest := plan (ops.toList.map (trO c ops)) (ops.toList.map directs) (List.range (ops.toList.map (trO c ops)).length) (ops.toList.map (trO c ops)).length []) (fr := fr) (H := H) (ρ := ρ) (bk := fun _ => 0) ?_ ?_)
    · have hoff : ∀ x, ¬ On (Array.replicate ops.size false) x := by
        intro x hx
        unfold On at hx
        rw [Array.getD_eq_getD_getElem?] at hx
        by_cases hl : x < ops.size
        · simp [hl] at hx
        · simp [hl] at hx
      refine ⟨(steps_keeps h).1, ⟨fun x hx => (by cases hx), fun x hx => (by cases hx), fun x hx => (by cases hx), trivial⟩, hc, h, rfl, fun _ _ => rfl, by simp [e], fun x hx => absurd hx (hoff x), fun x hx => absurd hx (hoff x), fun x hx => (by cases hx), G0, ?_, rfl, fun x hx => (by cases hx), fun x hx => by cases hx⟩
      refine F.of_get (by simp [Env.gS, ov_len, e]) fun t => ?_
      unfold Env.gS
      rw [ov_get (steps_keeps h).1]
      have : (List.range e.ops.size).any (fun y => (Array.replicate ops.size false).getD y false && dstIs e.os y t) = false := by
        rw [List.any_eq_false]
        intro y _ hy
        rw [Bool.and_eq_true] at hy
        exact hoff y hy.1
      rw [this]
      rfl
    · unfold Env.open_
      have := List.countP_le_length (p := fun i => !(Array.replicate ops.size false).getD i false) (l := List.range e.ops.size)
      simp at this
      simpa [e] using this

end Go.Dp
namespace Go.Dp
open Go.RowKit

structure ProgOk (c : Cx) : Prop where
  mixed : c.P.follows .mixedOrders = true
  ext : ExtOk c
  fm : FmOk c

def exOf : Ex → Exit
  | .normal => .normal
  | .exit id => .exit id
  | .ret => .ret

section
variable {c : Cx} {base : Nat} {ρ : Rho} {H : Heap} {W : World} {fr : List AV} {a : Act} {cal : Cal}

theorem op_run (O : ProgOk c) (C : CalOk c cal) (R : Rel c base ρ H W) (F : FRel c ρ fr a.tmps) {ops : Array Oper} {i : Nat} {o : Oper} (ho : ops[i]? = some o) {fr1 : List AV} {H1 : Heap} {K : Act → World → Prop} {Q : Exit → Act → World → Prop} (h : step cal (trO c ops o) fr H = some (fr1, H1))
    (hK : ∀ a' W' ρ', Goes c base ρ H W ρ' H1 W' → FRel c ρ' fr1 a'.tmps → a'.defers = a.defers → K a' W') : wpOp c.P ops Q i K a W := by
  unfold wpOp
  rw [ho]
  simp only []
  have hdst : (trO c ops o).dst = o.dst := trO_dst o
  rcases trO_inv (c := c) (ops := ops) o with ⟨hg, hop⟩ | ⟨hg, hop⟩
  · rcases step_inv h with ⟨hw, hf, hH⟩ | ⟨v, hw, he, hf⟩
    · rw [wanted_rel F hg hw]
      simp only [Bool.false_eq_true, if_false]
      subst hH
      refine hK _ _ ρ (.refl R) ?_ (put_defers _ _ _)
      rw [hf, hdst]
      exact F.put o.dst VRel_unit
    · rw [wanted_rel F hg hw, if_pos rfl]
      refine .inl ?_
      cases hopx : (trO c ops o).op with
      | r p =>
        rw [hopx] at he hop
        simp only [evalO] at he
        cases hv : evalR fr H p with
        | none => rw [hv] at he; cases he
        | some v' =>
          rw [hv] at he
          cases he
          refine wp_val (op_r O.ext R F hop hv) fun v' hv' => hK _ _ ρ (.refl R) ?_ (put_defers _ _ _)
          rw [hf, hdst]
          exact F.put o.dst hv'
      | n p =>
        rw [hopx] at he hop
        simp only [evalO] at he
        cases hv : evalN fr p with
        | none => rw [hv] at he; cases he
        | some bf =>
          obtain ⟨b, f⟩ := bf
          rw [hv] at he
          simp only [withN] at he
          split at he
          · cases he
            obtain ⟨v', W', obj, pl, m1, m2, m3, m4, m5, m6, m7⟩ := op_n O.ext R F hop hv
            obtain ⟨m8, m9⟩ := m7 H.next R.fresh
            unfold Oper.wp
            rw [m1, Oper.upon_value]
            refine hK _ _ (ρ.at_ H.next pl) (goes_new' R m6 m2 m3 m4 m5 m8) ?_ (put_defers _ _ _)
            rw [hf, hdst]
            exact (F.ext (Rho.ext_at R.fresh)).put o.dst m9
          · cases he
      | e p =>
        rw [hopx] at he hop
        simp only [evalO] at he
        refine op_e C O.fm R F hop he fun v' W' ρ' G r => hK _ _ ρ' G ?_ (put_defers _ _ _)
        rw [hf, hdst]
        exact (F.ext G.ext).put o.dst r
  · exfalso
    unfold step at h
    rw [hg, hop] at h
    simp only [wanted, cond_true, evalO, evalR, withH, putR] at h
    cases h

theorem ops_run (O : ProgOk c) (C : CalOk c cal) {ops : Array Oper} {Q : Exit → Act → World → Prop} : ∀ (l : List Nat) {ρ : Rho} {H : Heap} {W : World} {fr : List AV} {a : Act} {fr' : List AV} {H' : Heap}, (∀ i ∈ l, i < ops.size) → Rel c base ρ H W → FRel c ρ fr a.tmps →
    steps cal (l.map fun i => It.op (opAt (osOf c ops) i)) fr H = some (fr', H') → (∀ a' W' ρ', Goes c base ρ H W ρ' H' W' → FRel c ρ' fr' a'.tmps → a'.defers = a.defers → Q .normal a' W') → wpOps c.P ops Q l a W
  | [], ρ, H, W, fr, a, fr', H', _, R, F, h, hQ => by
    rw [List.map_nil, steps_nil] at h
    cases h
    exact hQ a W ρ (.refl R) F rfl
  | i :: l, ρ, H, W, fr, a, fr', H', hl, R, F, h, hQ => by
    rw [List.map_cons, steps_cons] at h
    unfold thenDo at h
    split at h
    · rename_i fr1 H1 h1
      rw [wpOps_cons]
      have hi := hl i List.mem_cons_self
      obtain ⟨o, ho⟩ : ∃ o, ops[i]? = some o := ⟨_, Array.getElem?_eq_getElem hi⟩
      have h1' : step cal (trO c ops o) fr H = some (fr1, H1) := by rw [← os_at ho]; exact h1
      refine op_run O C R F ho h1' fun a' W' ρ' G F' hd => ?_
      exact ops_run O C l (fun j hj => hl j (List.mem_cons_of_mem _ hj)) G.rel F' h fun a2 W2 ρ2 G2 F2 hd2 => hQ a2 W2 ρ2 (G.trans G2) F2 (hd2.trans hd)
    · cases h

theorem region_plain (O : ProgOk c) (C : CalOk c cal) (R : Rel c base ρ H W) (F : FRel c ρ fr a.tmps) {id : Nat} {ops : Array Oper} {fr' : List AV} {H' : Heap} {Q : Exit → Act → World → Prop} (h : steps cal (trRegion c ops false) fr H = some (fr', H'))
    (hQ : ∀ a' W' ρ', Goes c base ρ H W ρ' H' W' → FRel c ρ' fr' a'.tmps → a'.defers = a.defers → Q .normal a' W') : (Code.region id ops false).wp c.P Q a W := by
  refine wp_region (ops_run O C (List.range ops.size) (fun i hi => List.mem_range.1 hi) R F ?_ hQ)
  unfold trRegion at h
  simp only [cond_false] at h
  have : (ops.toList.map (trO c ops)).map It.op = (List.range ops.size).map fun i => It.op (opAt (osOf c ops) i) := by
    apply List.ext_getElem?
    intro i
    rw [List.map_map, List.getElem?_map, List.getElem?_map]
    by_cases hi : i < ops.size
    · rw [List.getElem?_range hi, Array.getElem?_toList, Array.getElem?_eq_getElem hi]
      simp only [Option.map_some, Function.comp]
      rw [os_at (Array.getElem?_eq_getElem hi)]
    · rw [List.getElem?_eq_none (by simpa using hi), List.getElem?_eq_none (by simpa using hi)]
      rfl
  rw [← this]; exact h

theorem region_run (O : ProgOk c) (C : CalOk c cal) (R : Rel c base ρ H W) (F : FRel c ρ fr a.tmps) {id : Nat} {ops : Array Oper} {d : Bool} {fr' : List AV} {H' : Heap} {Q : Exit → Act → World → Prop} (h : steps cal (trRegion c ops d) fr H = some (fr', H'))
    (hQ : ∀ a' W' ρ', Goes c base ρ H W ρ' H' W' → FRel c ρ' fr' a'.tmps → a'.defers = a.defers → Q .normal a' W') : (Code.region id ops d).wp c.P Q a W := by
  cases d with
  | false => exact region_plain O C R F h hQ
  | true => exact region_drawn O.mixed O.ext O.fm C R F h hQ

def LoopWp (P : Program) (b : Code) (Q : Exit → Act → World → Prop) (a : Act) (w : World) : Prop :=
  ∀ (f : Frame) (k : List Item) (cs : List Frame), ∃ e a' w', Q e a' w' ∧ Arrives P (lone (f.at a (.code b :: .inLoop b :: k)) cs w) f k cs e a' w'

theorem LoopWp.round {P : Program} {b : Code} {Q : Exit → Act → World → Prop} {a : Act} {w : World} (h : b.wp P (Exit.then (LoopWp P b Q) Q) a w) : LoopWp P b Q a w := by
  intro f k cs
  obtain ⟨e, a₁, w₁, hq, harr⟩ := h f (.inLoop b :: k) cs
  cases e with
  | normal =>
    obtain ⟨e₂, a₂, w₂, hq₂, harr₂⟩ := hq f k cs
    exact ⟨e₂, a₂, w₂, hq₂, .of_steps (Steps.trans harr (.one step_inLoop)) harr₂⟩
  | exit id => exact ⟨_, a₁, w₁, hq, .pass (x := .inLoop b) rfl (fun _ _ => .inl (by simp)) harr⟩
  | goto l => exact ⟨_, a₁, w₁, hq, .pass (x := .inLoop b) rfl (fun _ _ => .inl (by simp)) harr⟩
  | ret => exact ⟨_, a₁, w₁, hq, .pass (x := .inLoop b) rfl (fun _ _ => .inl (by simp)) harr⟩
  | panic ch => exact ⟨_, a₁, w₁, hq, .pass (x := .inLoop b) rfl (fun _ _ => .inl (by simp)) harr⟩
  | outgrown => exact ⟨_, a₁, w₁, hq, .pass (x := .inLoop b) rfl (fun _ _ => .inl (by simp)) harr⟩

theorem LoopWp.loop {P : Program} {b : Code} {Q : Exit → Act → World → Prop} {a : Act} {w : World} (h : LoopWp P b Q a w) : (Code.loop b).wp P Q a w := by
  intro f k cs
  obtain ⟨e, a', w', hq, harr⟩ := h f k cs
  exact ⟨e, a', w', hq, .of_steps (.one step_loop) harr⟩

def Sim (c : Cx) (code : Code) (f : Dn) : Prop := ∀ (base : Nat) (ρ : Rho) (H : Heap) (W : World) (fr : List AV) (a : Act) (ex : Ex) (fr' : List AV) (H' : Heap) (Q : Exit → Act → World → Prop), Rel c base ρ H W → FRel c ρ fr a.tmps → f fr H = some (ex, fr', H') →
  (∀ a' W' ρ', Goes c base ρ H W ρ' H' W' → FRel c ρ' fr' a'.tmps → a'.defers = a.defers → Q (exOf ex) a' W') → code.wp c.P Q a W

theorem sim_seq {x y : Code} {f g : Dn} (hx : Sim c x f) (hy : Sim c y g) : Sim c (.seq x y) (dSeq f g) := by
  intro base ρ H W fr a ex fr' H' Q R F h hQ
  unfold dSeq at h
  refine wp_seq ?_
  cases hf : f fr H with
  | none => rw [hf] at h; cases h
  | some r =>
    obtain ⟨e1, fr1, H1⟩ := r
    rw [hf] at h
    refine hx base ρ H W fr a e1 fr1 H1 _ R F hf fun a1 W1 ρ1 G F1 hd => ?_
    cases e1 with
    | normal => exact hy base ρ1 H1 W1 fr1 a1 ex fr' H' Q G.rel F1 h fun a2 W2 ρ2 G2 F2 hd2 => hQ a2 W2 ρ2 (G.trans G2) F2 (hd2.trans hd)
    | exit id => cases h; exact hQ a1 W1 ρ1 G F1 hd
    | ret => cases h; exact hQ a1 W1 ρ1 G F1 hd

theorem sim_loop {b : Code} {f : Dn} (hb : Sim c b f) : ∀ n (base : Nat) (ρ : Rho) (H : Heap) (W : World) (fr : List AV) (a : Act) (ex : Ex) (fr' : List AV) (H' : Heap) (Q : Exit → Act → World → Prop), Rel c base ρ H W → FRel c ρ fr a.tmps → iter f n fr H = some (ex, fr', H') →
    (∀ a' W' ρ', Goes c base ρ H W ρ' H' W' → FRel c ρ' fr' a'.tmps → a'.defers = a.defers → Q (exOf ex) a' W') → LoopWp c.P b Q a W
  | 0, base, ρ, H, W, fr, a, ex, fr', H', Q, R, F, h, hQ => by rw [iter_zero] at h; cases h
  | n + 1, base, ρ, H, W, fr, a, ex, fr', H', Q, R, F, h, hQ => by
    rw [iter_succ] at h
    unfold dSeq at h
    refine LoopWp.round ?_
    cases hf : f fr H with
    | none => rw [hf] at h; cases h
    | some r =>
      obtain ⟨e1, fr1, H1⟩ := r
      rw [hf] at h
      refine hb base ρ H W fr a e1 fr1 H1 _ R F hf fun a1 W1 ρ1 G F1 hd => ?_
      cases e1 with
      | normal => exact sim_loop hb n base ρ1 H1 W1 fr1 a1 ex fr' H' Q G.rel F1 h fun a2 W2 ρ2 G2 F2 hd2 => hQ a2 W2 ρ2 (G.trans G2) F2 (hd2.trans hd)
      | exit id => cases h; exact hQ a1 W1 ρ1 G F1 hd
      | ret => cases h; exact hQ a1 W1 ρ1 G F1 hd

theorem exec_run (O : ProgOk c) (C : CalOk c cal) (n : Nat) : ∀ code : Code, Sim c code (exec cal n (trC c code)) := by
  intro code
  induction code with
  | skip => intro base ρ H W fr a ex fr' H' Q R F h hQ; cases h; exact wp_skip (hQ a W ρ (.refl R) F rfl)
  | label l => intro base ρ H W fr a ex fr' H' Q R F h hQ; cases h; exact wp_label (hQ a W ρ (.refl R) F rfl)
  | exit id => intro base ρ H W fr a ex fr' H' Q R F h hQ; cases h; exact wp_exit (hQ a W ρ (.refl R) F rfl)
  | ret => intro base ρ H W fr a ex fr' H' Q R F h hQ; cases h; exact wp_ret (hQ a W ρ (.refl R) F rfl)
  | region id ops d =>
    intro base ρ H W fr a ex fr' H' Q R F h hQ
    have h' : dReg (steps cal (trRegion c ops d)) fr H = some (ex, fr', H') := h
    unfold dReg at h'
    split at h'
    · rename_i f1 H1 h1
      cases h'
      exact region_run O C R F h1 hQ
    · cases h'
  | seq x y ihx ihy => exact sim_seq ihx ihy
  | cond x y z ihy ihz =>
    intro base ρ H W fr a ex fr' H' Q R F h hQ
    simp only [trC] at h
    split at h
    · rename_i x' hx
      rw [exec_cond] at h
      unfold dCond at h
      have r := trX_rel R F hx
      split at h
      · rename_i hb
        rw [hb, VRel_bool] at r
        exact wp_cond_true r (ihy base ρ H W fr a ex fr' H' Q R F h hQ)
      · rename_i hb
        rw [hb, VRel_bool] at r
        exact wp_cond_false r (ihz base ρ H W fr a ex fr' H' Q R F h hQ)
      · cases h
    · cases h
  | block id b ih =>
    intro base ρ H W fr a ex fr' H' Q R F h hQ
    have h' : dBlock id (exec cal n (trC c b)) fr H = some (ex, fr', H') := h
    unfold dBlock at h'
    refine wp_block ?_
    cases hf : exec cal n (trC c b) fr H with
    | none => rw [hf] at h'; cases h'
    | some r =>
      obtain ⟨e1, fr1, H1⟩ := r
      rw [hf] at h'
      refine ih base ρ H W fr a e1 fr1 H1 _ R F hf fun a1 W1 ρ1 G F1 hd => ?_
      cases e1 with
      | normal => cases h'; exact hQ a1 W1 ρ1 G F1 hd
      | ret => cases h'; exact hQ a1 W1 ρ1 G F1 hd
      | exit j =>
        simp only [nbeq] at h'
        show (if j = id then Q .normal a1 W1 else Q (.exit j) a1 W1)
        by_cases hj : j = id
        · rw [decide_eq_true hj] at h'
          cases h'
          rw [if_pos hj]
          exact hQ a1 W1 ρ1 G F1 hd
        · rw [decide_eq_false hj] at h'
          cases h'
          rw [if_neg hj]
          exact hQ a1 W1 ρ1 G F1 hd
  | loop b ih =>
    intro base ρ H W fr a ex fr' H' Q R F h hQ
    exact (sim_loop ih n base ρ H W fr a ex fr' H' Q R F h hQ).loop
  | scope b ih =>
    intro base ρ H W fr a ex fr' H' Q R F h hQ
    refine wp_scope_straight (ih base ρ H W fr a ex fr' H' _ R F h fun a' W' ρ' G F' hd => ?_)
    have := hQ a' W' ρ' G F' hd
    cases ex <;> exact this
  | _ => intro base ρ H W fr a ex fr' H' Q R F h hQ; cases h

theorem results_eq (fn : Func) (tmps : Array Value) : ∃ f : ResultVar → Sem Value, (∀ t, f (.tmp t) = pure (tmps.getD t undef)) ∧ (∀ b t, f (.cell b t) = (do loadVar t (← asAddr (tmps.getD b undef)))) ∧
    results fn tmps = (do let vs ← fn.results.mapM f; pure (if h : vs.size = 1 then vs[0] else .tuple vs)) := by
  refine ⟨?f, ?a, ?b, ?h⟩
  case h => unfold results; exact rfl
  case a => intro t; rfl
  case b => intro b t; rfl

theorem res_run (R : Rel c base ρ H W) (F : FRel c ρ fr a.tmps) {f : ResultVar → Sem Value} (f1 : ∀ t, f (.tmp t) = pure (a.tmps.getD t undef)) (f2 : ∀ b t, f (.cell b t) = (do loadVar t (← asAddr (a.tmps.getD b undef)))) :
    ∀ {rs : List ResultVar} {vs : List AV}, resList fr H (rs.map (trRes c)) = some vs → ∃ ws : List Value, (rs.mapM f).run c.P W = .ok ws W ∧ All2 (VRel c ρ) vs ws
  | [], vs, h => by
    simp only [List.map_nil, resList] at h
    cases h
    exact ⟨[], rfl, trivial⟩
  | r :: rs, vs, h => by
    simp only [List.map_cons, resList] at h
    split at h
    · rename_i v vs' h1 h2
      cases h
      obtain ⟨ws, w1, w2⟩ := res_run R F f1 f2 h2
      cases r with
      | tmp t =>
        simp only [trRes, resOf] at h1
        cases h1
        exact ⟨a.tmps.getD t undef :: ws, by simp only [List.mapM_cons, f1, Sem.run_bind, Sem.run_pure, Result.andThen_ok, w1], F.at_ t, w2⟩
      | cell b t =>
        simp only [trRes] at h1
        split at h1
        · rename_i g n hg hn
          simp only [resOf] at h1
          obtain ⟨v', g1, g2⟩ := run_loadVar R hg hn rfl (F.at_ b) h1
          refine ⟨v' :: ws, ?_, g2, w2⟩
          have hb := F.at_ b
          unfold rLoad at h1
          split at h1
          · rename_i q o hq
            rw [hq, VRel_ptr] at hb
            obtain ⟨p, hp, hb⟩ := hb
            rw [hb] at g1
            have g1' : (loadVar t ⟨p.c, p.s + o, none⟩).run c.P W = .ok v' W := g1
            have ha : (asAddr (a.tmps.getD b undef)).run c.P W = .ok ⟨p.c, p.s + o, none⟩ W := by rw [hb]; rfl
            simp only [List.mapM_cons, f2, Sem.run_bind, ha, Sem.run_pure, Result.andThen_ok, g1', w1]
          · cases h1
        · simp only [resOf, rLoad] at h1
          split at h1
          · unfold oneOf Heap.ld at h1
            split at h1
            · rename_i l hl
              split at hl
              · simp only [Nat.add_zero] at hl
                cases hle : Nat.ble _ _ <;> rw [hle] at hl <;> cases hl
                simp at h1
              · cases hl
            · cases h1
          · cases h1
    · cases h

theorem resV_rel {vs : List AV} {ws : List Value} {v : AV} (h : resV vs = some v) (r : All2 (VRel c ρ) vs ws) : VRel c ρ v (if h : ws.toArray.size = 1 then ws.toArray[0] else .tuple ws.toArray) := by
  match vs, ws, r with
  | [], [], _ =>
    simp only [resV] at h
    cases h
    exact VRel_tup.2 ⟨#[], rfl, trivial⟩
  | v0 :: vs, w0 :: ws, ⟨r1, r2⟩ =>
    simp only [resV] at h
    cases vs with
    | nil =>
      match ws, r2 with
      | [], _ =>
        simp only [List.isEmpty_nil, cond_true] at h
        cases h
        exact r1
    | cons v1 vs =>
      match ws, r2 with
      | w1 :: ws, r2 =>
        simp only [List.isEmpty_cons, cond_false] at h
        cases hc : (v0 :: v1 :: vs).all AV.noT with
        | false => rw [hc] at h; cases h
        | true =>
          rw [hc] at h
          cases h
          rw [dif_neg (by simp)]
          have hall : ∀ {xs : List AV} {ys : List Value}, xs.all AV.noT = true → All2 (VRel c ρ) xs ys → All2 (VRel1 c ρ) xs ys := by
            intro xs
            induction xs with
            | nil => intro ys _ r; match ys, r with | [], _ => trivial
            | cons x xs ih =>
              intro ys hx r
              match ys, r with
              | y :: ys, ⟨q1, q2⟩ =>
                rw [List.all_cons, Bool.and_eq_true] at hx
                refine ⟨?_, ih hx.2 q2⟩
                cases x <;> first | (simp only [VRel] at q1; exact q1) | (exfalso; simp [AV.noT] at hx)
          exact VRel_tup.2 ⟨_, rfl, hall hc ⟨r1, r2⟩⟩
end

def LibOk (c : Cx) (L : Lib) : Prop := ∀ g f, c.fm g = some f → (∃ fn, c.P.funcs[g]? = some fn ∧ L f = some (.code (trF c fn))) ∨
  (∃ pr, L f = some (.prim pr) ∧ ∀ (base : Nat) (ρ : Rho) (H : Heap) (W : World) (args : List AV) (vs : Array Value) (v : AV) (H' : Heap), Rel c base ρ H W → All2 (VRel c ρ) args vs.toList → pr args H = some (v, H') →
    Calls c.P g vs W fun e W' => ∃ v' ρ', e = .returned v' ∧ Goes c base ρ H W ρ' H' W' ∧ VRel c ρ' v v')

theorem call_ok {c : Cx} {L : Lib} (O : ProgOk c) (hL : LibOk c L) : ∀ n, CalOk c (call L n)
  | 0 => by
    intro base ρ H W g f args vs v H' hg R hx h
    rw [call_zero] at h
    cases h
  | n + 1 => by
    intro base ρ H W g f args vs v H' hg R hx h
    rw [call_succ] at h
    unfold callBy at h
    rcases hL g f hg with ⟨fn, hfn, hLf⟩ | ⟨pr, hLf, hpr⟩
    · rw [hLf] at h
      simp only [] at h
      obtain ⟨fn', code, h1, h2, h3⟩ := O.fm.body g f hg
      rw [hfn] at h1
      cases h1
      have hbody : (trF c fn).body = trC c code := by unfold trF; rw [h2]
      rw [hbody] at h
      unfold leave at h
      have hlen := hx.length
      have hF : FRel c ρ (enter (trF c fn) args) (vs ++ Array.replicate (fn.ntmps - vs.size) undef) := by
        have hnt : (trF c fn).ntmps = fn.ntmps := rfl
        refine ⟨by simp [enter, hnt, hlen], fun i => ?_⟩
        unfold enter
        rw [hnt, List.getD_eq_getElem?_getD, Array.getD_eq_getD_getElem?, List.getElem?_append, Array.getElem?_append]
        have hlen' : args.length = vs.size := by simpa using hlen
        rw [hlen']
        by_cases hi : i < vs.size
        · rw [if_pos hi, if_pos hi]
          obtain ⟨w, hw, hr⟩ := hx.get (List.getElem?_eq_getElem (by omega : i < args.length))
          rw [Array.getElem?_toList] at hw
          rw [List.getElem?_eq_getElem (by omega : i < args.length), hw]
          exact hr
        · rw [if_neg hi, if_neg hi]
          by_cases hi2 : i - vs.size < fn.ntmps - vs.size
          · simp only [List.getElem?_replicate, if_pos hi2, Array.getElem?_replicate, Option.getD_some]
            exact VRel_unit
          · simp only [List.getElem?_replicate, if_neg hi2, Option.getD_none]
            exact VRel.undef
      split at h
      · cases h
      · rename_i ex fr' H1 hne he
        split at h
        · rename_i ws hws
          split at h
          · rename_i v1 hv1
            cases h
            refine calls_of_wp hfn h2 (exec_run O (call_ok O hL n) n code base ρ H W _ { tmps := vs ++ Array.replicate (fn.ntmps - vs.size) undef, defers := [] } ex fr' H' _ R hF he fun a' W' ρ' G F' hd => ?_)
            have hres : (trF c fn).results = fn.results.toList.map (trRes c) := rfl
            rw [hres] at hws
            have hrun0 : ∀ f : ResultVar → Sem Value, (∀ t, f (.tmp t) = pure (a'.tmps.getD t undef)) → (∀ b t, f (.cell b t) = (do loadVar t (← asAddr (a'.tmps.getD b undef)))) → ∃ us : List Value, (fn.results.toList.mapM f).run c.P W' = .ok us W' ∧ All2 (VRel c ρ') ws us := fun f f1 f2 => res_run G.rel F' f1 f2 hws
            have hrun : ∃ us : List Value, (results fn a'.tmps).run c.P W' = .ok (if h : us.toArray.size = 1 then us.toArray[0] else .tuple us.toArray) W' ∧ All2 (VRel c ρ') ws us := by
              obtain ⟨f, f1, f2, f3⟩ := results_eq fn a'.tmps
              obtain ⟨us, u1, u2⟩ := hrun0 f f1 f2
              rw [f3, Array.mapM_eq_mapM_toList, map_eq_pure_bind]
              refine ⟨us, ?_, u2⟩
              simp only [Sem.run_bind, u1, Result.andThen_ok, Sem.run_pure]
            obtain ⟨us, hrun, u2⟩ := hrun
            have hval := resV_rel hv1 u2
            have hfin : a'.defers = [] ∧ ∃ r, (results fn a'.tmps).run c.P W' = .ok r W' ∧ ∃ v' ρ', Ending.returned r = .returned v' ∧ Goes c base ρ H W ρ' H' W' ∧ VRel c ρ' v v' := ⟨hd, _, hrun, _, ρ', rfl, G, hval⟩
            cases ex with
            | normal => exact hfin
            | ret => exact hfin
            | exit id => exact (hne _ rfl).elim
          · cases h
        · cases h
      · cases h
    · rw [hLf] at h
      exact hpr base ρ H W args vs v H' R hx h

end Go.Dp
namespace Go.Dp
open Go.RowKit

def AllOf (p : Nat → Prop) : List Nat → Prop
  | [] => True
  | x :: l => p x ∧ AllOf p l

theorem AllOf.at_ {p : Nat → Prop} : ∀ {l : List Nat}, AllOf p l → ∀ x ∈ l, p x
  | [], _, x, hx => by cases hx
  | y :: l, h, x, hx => by
    rcases List.mem_cons.1 hx with rfl | hx
    · exact h.1
    · exact AllOf.at_ h.2 x hx

def FnOk (c : Cx) (L : Lib) (g : Nat) : Prop := ∃ fn, c.P.funcs[g]? = some fn ∧ fn.body.isSome = true ∧ (fn.name == "runtime.NumGoroutine") = false ∧ L g = some (.code (trF c fn))

def fmOf (l : List Nat) (g : Nat) : Option Nat := bif has l g then some g else none

theorem fmOf_inv {l : List Nat} {g f : Nat} (h : fmOf l g = some f) : g ∈ l ∧ g = f := by
  unfold fmOf at h
  cases hh : has l g with
  | false => rw [hh] at h; cases h
  | true => rw [hh] at h; cases h; exact ⟨has_iff.1 hh, rfl⟩

theorem lib_ok {c : Cx} {L : Lib} {l : List Nat} (hf : c.fm = fmOf l) (h : AllOf (FnOk c L) l) : LibOk c L := by
  intro g f hg
  rw [hf] at hg
  obtain ⟨hm, rfl⟩ := fmOf_inv hg
  obtain ⟨fn, h1, h2, h3, h4⟩ := h.at_ g hm
  exact .inl ⟨fn, h1, h4⟩

def isTrue : Option (AV × Heap) → Bool
  | some (.bool true, _) => true
  | _ => false

theorem isTrue_inv {r : Option (AV × Heap)} (h : isTrue r = true) : ∃ H, r = some (.bool true, H) := by
  unfold isTrue at h
  split at h
  · exact ⟨_, rfl⟩
  · cases h

def noHeap : Heap := { t := .leaf, next := 0 }

theorem rel_none (c : Cx) (hg : ∀ g, c.gm g = none) (W : World) : Rel c W.heap.size (fun _ => none) noHeap W :=
  ⟨Nat.le_refl _, fun _ _ h => (by cases h), fun _ _ h => (by cases h), fun _ _ h => (by cases h), fun _ _ _ h => (by cases h), fun _ _ _ _ _ _ _ h => (by cases h), fun g b h => by rw [hg] at h; cases h⟩

theorem run_closed {c : Cx} {L : Lib} (O : ProgOk c) (hL : LibOk c L) (hgm : ∀ g, c.gm g = none) {g f n : Nat} (hg : c.fm g = some f) (h : isTrue (call L n f [] noHeap) = true) (w : World) :
    Calls c.P g #[] w fun e w' => e = .returned (.bool true) ∧ Below w.heap.size w w' := by
  obtain ⟨H', h'⟩ := isTrue_inv h
  refine (call_ok O hL n w.heap.size (fun _ => none) noHeap w g f [] #[] (.bool true) H' hg (rel_none c hgm w) trivial h').mono fun e w' ⟨v', ρ', h1, h2, h3⟩ => ?_
  rw [VRel_bool] at h3
  subst h3
  exact ⟨h1, h2.below⟩

def extOf : List (Nat × Nat) → Nat → Nat
  | [], _ => 0
  | (g, k) :: l, x => bif Nat.beq x g then k else extOf l x

def ItemOk (c : Cx) (p : Nat × Nat) : Prop :=
  (p.2 = 1 → ∀ (s : ByteArray) (ch : Int) (W : World), 0 ≤ ch → ch ≤ 255 → (callFunc p.1 #[.string s, .int .u8 ch]).run c.P W = .ok (.value (.int .i64 (indexB ch s.data.toList 0))) W) ∧
  (p.2 = 2 → ∀ (v : Value) (W : World), (callFunc p.1 #[v]).run c.P W = .ok (.value v) W) ∧
  (p.2 = 3 → ∀ (n : Nat) (W : World), n ≤ 35184372088832 → ∃ e i cs, c.P.info? e = some i ∧ i.desc = .int .u8 ∧ i.size = 1 ∧ n ≤ cs.size ∧
    (callFunc p.1 #[.int .i64 n]).run c.P W = .ok (.value (.slice (some ⟨W.heap.size, 0, none⟩) n cs.size)) ({ W with heap := W.heap.push (.cells cs e), drawn := W.drawn + 2 })) ∧
  (p.2 = 4 → ∀ (s : ByteArray) (ch : Int) (W : World), 0 ≤ ch → ch ≤ 255 → (callFunc p.1 #[.string s, .int .u8 ch]).run c.P W = .ok (.value (.int .i64 (Int.ofNat (countN ch.toNat s.data.toList)))) W)

theorem extOf_mem : ∀ {l : List (Nat × Nat)} {g k : Nat}, extOf l g = k → k ≠ 0 → (g, k) ∈ l
  | [], g, k, h, hk => absurd h.symm hk
  | (a, b) :: l, g, k, h, hk => by
    simp only [extOf, nbeq] at h
    by_cases e : g = a
    · rw [decide_eq_true e] at h
      simp only [cond_true] at h
      subst h
      subst e
      exact List.mem_cons_self
    · rw [decide_eq_false e] at h
      exact List.mem_cons_of_mem _ (extOf_mem h hk)

theorem ext_table {c : Cx} {l : List (Nat × Nat)} (h : c.ext = extOf l) (hl : ∀ p ∈ l, ItemOk c p) : ExtOk c := by
  refine ⟨fun g hg => ?_, fun g hg => ?_, fun g hg => ?_, fun g hg => ?_⟩
  · rw [h] at hg; exact (hl _ (extOf_mem hg (by omega))).1 rfl
  · rw [h] at hg; exact (hl _ (extOf_mem hg (by omega))).2.1 rfl
  · rw [h] at hg; exact (hl _ (extOf_mem hg (by omega))).2.2.2 rfl
  · rw [h] at hg; exact (hl _ (extOf_mem hg (by omega))).2.2.1 rfl

end Go.Dp
