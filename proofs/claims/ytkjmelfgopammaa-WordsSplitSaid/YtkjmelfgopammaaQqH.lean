/- Operations that leave the heap alone: building, looking up, comparing. Conditions: none. -/
import Derived.Test.YtkjmelfgopammaaQqG
import Derived.Laws.CopyRow
import Derived.Laws.Pointers
namespace Go.Dp
open Go.RowKit

theorem over_length {α : Type} (l : List α) (o : Nat) (vs : List α) (h : o + vs.length ≤ l.length) : (over l o vs).length = l.length := by
  simp [over]; omega

theorem over_cons {α : Type} (l : List α) (o : Nat) (v : α) (vs : List α) (h : o + (vs.length + 1) ≤ l.length) : over (l.set o v) (o + 1) vs = over l o (v :: vs) := by
  unfold over
  have h1 : (l.set o v).take (o + 1) = l.take o ++ [v] := by
    apply List.ext_getElem?
    intro j
    simp only [List.getElem?_take, List.getElem?_set, List.getElem?_append, List.length_take]
    by_cases hj : j < o
    · have : min o l.length = o := by omega
      simp [hj, this, Nat.ne_of_gt hj]; omega
    · by_cases hj2 : j = o
      · subst hj2
        have : min j l.length = j := by omega
        have hjl : j < l.length := by omega
        simp [this, hjl]
      · have : min o l.length = o := by omega
        have h3 : ¬ j < o + 1 := by omega
        simp [hj, this, h3]
        omega
  have h2 : (l.set o v).drop (o + 1 + vs.length) = l.drop (o + (vs.length + 1)) := by
    apply List.ext_getElem?
    intro j
    simp only [List.getElem?_drop, List.getElem?_set]
    have : ¬ o = o + 1 + vs.length + j := by omega
    simp [this]
    congr 1
    omega
  rw [h1, h2]
  simp

theorem over_nil {α : Type} (l : List α) (o : Nat) : over l o [] = l := by simp [over]

theorem All2.over {α β : Type} {R : α → β → Prop} {x : List α} {y : List β} {u : List α} {w : List β} (o : Nat) (h : All2 R x y) (k : All2 R u w) : All2 R (Dp.over x o u) (Dp.over y o w) := by
  unfold Dp.over
  rw [k.length]
  exact (h.take o).append (k.append (h.drop _))

theorem fold_over (o : Nat) : ∀ (vs : List Value) (k : Nat) (l : Array Value), o + k + vs.length ≤ l.size →
    ((vs.zipIdx k).foldl (fun (cs : Array Value) (p : Value × Nat) => cs.setIfInBounds (o + p.2) p.1) l).toList = over l.toList (o + k) vs
  | [], k, l, _ => by simp [over_nil]
  | v :: vs, k, l, h => by
    simp only [List.length_cons] at h
    rw [List.zipIdx_cons, List.foldl_cons, fold_over o vs (k + 1) _ (by simp; omega)]
    rw [Array.toList_setIfInBounds, ← over_cons _ _ _ _ (by simp; omega)]
    rfl

section
variable {c : Cx} {base : Nat} {ρ : Rho} {H : Heap} {W : World} {fr : List AV} {a : Act}

theorem fill_rel (R : Rel c base ρ H W) (F : FRel c ρ fr a.tmps) {place place' : Nat → Option (Nat × Nat)} (hp : ∀ i q, place i = some q → place' i = some q) : ∀ {ps : List (Nat × Operand)} {ps' : List (Nat × Nat × X)} {l : List AV} {ws : Array Value} {r : List AV},
    trParts c place ps = some ps' → All2 (SRel c ρ) l ws.toList → lay fr l ps' = some r → ∃ rs, Instr.fill place' ws (ps.map fun (i, x) => (i, a.eval x)) = some rs ∧ All2 (SRel c ρ) r rs.toList
  | [], ps', l, ws, r, h, hl, hr => by
    simp only [trParts] at h
    cases h
    simp only [lay] at hr
    cases hr
    exact ⟨ws, rfl, hl⟩
  | (i, x) :: ps, ps', l, ws, r, h, hl, hr => by
    simp only [trParts] at h
    split at h
    · rename_i o n x' rest h1 h2 h3
      cases h
      simp only [lay] at hr
      cases hc : (Nat.beq (x'.ev fr).cells.length n && (Nat.ble (o + n) l.length && (x'.ev fr).cells.all AV.isSc)) with
      | false => rw [hc] at hr; cases hr
      | true =>
        rw [hc] at hr
        simp only [cond_true] at hr
        simp only [nbeq, nble, Bool.and_eq_true, decide_eq_true_eq] at hc
        obtain ⟨hc1, hc2, hc3⟩ := hc
        have hx := VRel.cells hc3 (trX_rel R F h2)
        have hlen := hx.length
        have hsz : l.length = ws.size := by rw [hl.length]; simp
        have hcs : (a.eval x).cells.size = n := by rw [← hc1, hlen]; simp
        have hfold : ((a.eval x).cells.zipIdx.foldl (fun (cs : Array Value) (p : Value × Nat) => cs.setIfInBounds (o + p.2) p.1) ws).toList = over ws.toList o (a.eval x).cells.toList := by
          rw [← Array.foldl_toList, Array.toList_zipIdx]
          have := fold_over o (a.eval x).cells.toList 0 ws (by simp; omega)
          simpa using this
        have ih := fill_rel (place := place) (place' := place') R F hp h3 (l := over l o (x'.ev fr).cells) (ws := (a.eval x).cells.zipIdx.foldl (fun (cs : Array Value) (p : Value × Nat) => cs.setIfInBounds (o + p.2) p.1) ws) (by rw [hfold]; exact hl.over o hx) hr
        obtain ⟨rs, e1, e2⟩ := ih
        refine ⟨rs, ?_, e2⟩
        simp only [List.map_cons, Instr.fill, hp _ _ h1]
        have hno : ¬ ((a.eval x).cells.size ≠ n || decide (o + (a.eval x).cells.size > ws.size)) = true := by simp; omega
        rw [if_neg hno]
        exact e1
    · cases h

theorem zero_run {t : TypeId} {z : List AV} (h : c.zero t = some z) (w : World) : ∃ v n, (zeroValue t).run c.P w = .ok v w ∧ c.size t = some n ∧ z.length = n ∧ z.all AV.isSc = true ∧ (∀ ρ, All2 (SRel c ρ) z v.cells.toList) := by
  unfold Cx.zero at h
  split at h
  · rename_i i hi
    split at h
    · rename_i v hv
      split at h
      · rename_i l hl
        cases hb : Nat.beq l.length i.size with
        | false => rw [hb] at h; cases h
        | true =>
          rw [hb] at h
          cases h
          rw [nbeq] at hb
          exact ⟨v, i.size, by simp [zeroValue, run_info hi, hv], by simp [Cx.size, hi], by simpa using hb, trScs_isSc hl, fun ρ => trScs_rel hl⟩
      · cases h
    · cases h
  · cases h

theorem mapM_places : ∀ (fs : List Field) (w : World), (fs.all fun f : Field => (c.size f.type).isSome) = true →
    ∃ ps : List (Nat × Nat), (fs.mapM (m := Sem) fun f : Field => do pure (f.offset, ← sizeOf f.type)).run c.P w = .ok ps w ∧ ∀ i : Nat, ps[i]? = (fs[i]?).bind fun f : Field => (c.size f.type).map fun n => (f.offset, n)
  | [], w, _ => ⟨[], by simp, by simp⟩
  | f :: fs, w, h => by
    simp only [List.all_cons, Bool.and_eq_true] at h
    obtain ⟨ps, h1, h2⟩ := mapM_places fs w h.2
    obtain ⟨n, hn⟩ := Option.isSome_iff_exists.1 h.1
    refine ⟨(f.offset, n) :: ps, ?_, ?_⟩
    · simp only [List.mapM_cons, Sem.run_bind, run_size hn, Result.andThen_ok, Sem.run_pure, h1]
    · intro i
      cases i with
      | zero => simp [hn]
      | succ i => simpa using h2 i

theorem v_build_struct (R : Rel c base ρ H W) (F : FRel c ρ fr a.tmps) {t : TypeId} {fs : Array Field} {z : List AV} {ps : Array (Nat × Operand)} {ps' : List (Nat × Nat × X)} {v : AV} (ht : c.P.underlying t = some (.struct fs))
    (hz : c.zero t = some z) (hall : (fs.toList.all fun f => (c.size f.type).isSome) = true) (hps : trParts c (fieldOf c fs) ps.toList = some ps') (h : rBuild (lay fr z ps') = some v) :
    ∃ v', (Instr.build t (ps.map fun (i, x) => (i, a.eval x))).run c.P W = .ok v' W ∧ VRel c ρ v v' := by
  unfold rBuild at h
  split at h
  · rename_i r hr
    cases h
    obtain ⟨v, n, q1, q2, q3, q4, q5⟩ := zero_run hz W
    obtain ⟨places, p1, p2⟩ := mapM_places (c := c) fs.toList W hall
    have hpl : ∀ i q, fieldOf c fs i = some q → places[i]? = some q := by
      intro i q hq
      rw [p2 i]
      unfold fieldOf at hq
      split at hq
      · rename_i f hf
        split at hq
        · rename_i m hm
          cases hq
          rw [Array.getElem?_toList, hf]
          simp [hm]
        · cases hq
      · cases hq
    obtain ⟨rs, e1, e2⟩ := fill_rel R F hpl hps (q5 ρ) hr
    refine ⟨.agg rs, ?_, VRel_agg.2 ⟨_, rfl, e2⟩⟩
    have hmap : (fs.mapM (m := Sem) fun f : Field => do pure (f.offset, ← sizeOf f.type)).run c.P W = .ok places.toArray W := by
      rw [Array.mapM_eq_mapM_toList]
      simp only [Sem.run_map, p1, Result.andThen_ok]
    have hfill : Instr.fill (fun x => places.toArray[x]?) v.cells (ps.map fun (i, x) => (i, a.eval x)).toList = some rs := by
      rw [Array.toList_map]
      simpa using e1
    simp only [Instr.build, Sem.run_bind, q1, Result.andThen_ok, run_underlying ht, hmap, hfill, Sem.run_pure]
  · cases h

theorem v_build_array (R : Rel c base ρ H W) (F : FRel c ρ fr a.tmps) {t e : TypeId} {len n : Nat} {z : List AV} {ps : Array (Nat × Operand)} {ps' : List (Nat × Nat × X)} {v : AV} (ht : c.P.underlying t = some (.array len e))
    (hz : c.zero t = some z) (hn : c.size e = some n) (hps : trParts c (fun i => some (i * n, n)) ps.toList = some ps') (h : rBuild (lay fr z ps') = some v) :
    ∃ v', (Instr.build t (ps.map fun (i, x) => (i, a.eval x))).run c.P W = .ok v' W ∧ VRel c ρ v v' := by
  unfold rBuild at h
  split at h
  · rename_i r hr
    cases h
    obtain ⟨v, n, q1, q2, q3, q4, q5⟩ := zero_run hz W
    obtain ⟨rs, e1, e2⟩ := fill_rel R F (fun _ _ h => h) hps (q5 ρ) hr
    refine ⟨.agg rs, ?_, VRel_agg.2 ⟨_, rfl, e2⟩⟩
    rw [← Array.toList_map] at e1
    simp only [Instr.build, Sem.run_bind, q1, Result.andThen_ok, run_underlying ht, run_size hn, e1, Sem.run_pure]
  · cases h

theorem zeroV_run {t : TypeId} {z : AV} (h : c.zeroV t = some z) (w : World) : ∃ v, (zeroValue t).run c.P w = .ok v w ∧ z.isV = true ∧ ∀ ρ, VRel c ρ z v := by
  unfold Cx.zeroV at h
  split at h
  · rename_i i hi
    split at h
    · rename_i v hv
      split at h
      · rename_i a ha
        cases hb : a.isV with
        | false => rw [hb] at h; cases h
        | true =>
          rw [hb] at h
          cases h
          exact ⟨v, by simp [zeroValue, run_info hi, hv], hb, fun ρ => trV_rel ha⟩
      · cases h
    · cases h
  · cases h

theorem checkKey_succ {kt : TypeId} {str : Bool} (hk : keyStr c.P kt = some str) (e : Bool) (n : Nat) (k : Value) (w : World) : (Instr.checkKey e (n + 1) kt k).run c.P w = .ok () w := by
  unfold keyStr at hk
  split at hk
  · rename_i hu
    simp only [Instr.checkKey, Sem.run_bind, run_underlying hu, Result.andThen_ok]
    cases k <;> rfl
  · rename_i j hu
    simp only [Instr.checkKey, Sem.run_bind, run_underlying hu, Result.andThen_ok]
    cases k <;> rfl
  · cases hk
theorem checkKey_run {kt : TypeId} {str : Bool} (hk : keyStr c.P kt = some str) (e : Bool) (k : Value) (w : World) : (Instr.checkKey e 10000 kt k).run c.P w = .ok () w := checkKey_succ hk e 9999 k w

theorem getMap (R : Rel c base ρ H W) {b : Nat} {p : Pl} {es : List (AV × AV × Nat)} {cl : Nat} (hp : ρ b = some p) (hb : H.get b = some (.mp es cl)) :
    ∃ ms, W.heap[p.c]? = some (.map ms cl) ∧ All2 (EntRel c ρ) es ms.toList ∧ (getObj p.c).run c.P W = .ok (.map ms cl) W := by
  obtain ⟨xb, hxb, hr⟩ := R.blk b p hp
  rw [hb] at hxb
  cases hxb
  obtain ⟨_, _, ms, h3, h4⟩ := hr
  exact ⟨ms, h3, h4, by simp only [getObj, Sem.run, h3]⟩

theorem look_main {t kt e : TypeId} {str : Bool} {z : AV} {ok : Bool} {k v : AV} {w u : Value} (ht : c.P.underlying t = some (.map kt e)) (hk : keyStr c.P kt = some str) (hz : c.zeroV e = some z)
    (hkv : VRel c ρ k u) {es : List (AV × AV × Nat)} {ms : Array MapEntry} (hr : All2 (EntRel c ρ) es ms.toList) (hget : (w = .map none ∧ ms = #[]) ∨ ∃ r cl, w = .map (some r) ∧ (getObj r).run c.P W = .ok (.map ms cl) W)
    (hv : (match findE str k es 0 with
        | some (some (_, v, _)) => some (bif ok then .tup [v, .bool true] else v)
        | some none => some (bif ok then .tup [z, .bool false] else z)
        | none => none) = some v) : ∃ v', (Instr.lookup t w u ok).run c.P W = .ok v' W ∧ VRel c ρ v v' := by
  obtain ⟨zv, z1, z0, z2⟩ := zeroV_run hz W
  cases hf : findE str k es 0 with
  | none => rw [hf] at hv; cases hv
  | some r =>
    rw [hf] at hv
    obtain ⟨d, r', f1, f2, f3⟩ := find_rel hk hkv hr hf
    have hfk : (Instr.findKey kt u ms.toList).run c.P W = .ok r' W := by
      simp only [Instr.findKey, Sem.run_bind, run_underlying f1, Result.andThen_ok, f2, Sem.run_pure]
    have hhead : (Instr.lookup t w u ok).run c.P W = (do
        let (v, ok') ← match r' with
          | some (_, v) => pure (v, true)
          | none => do pure (← zeroValue e, false)
        pure (if ok then .tuple #[v, .bool ok'] else v) : Sem Value).run c.P W := by
      rcases hget with ⟨rfl, rfl⟩ | ⟨r, cl, rfl, hget⟩
      · simp only [] at hfk
        simp only [Instr.lookup, Sem.run_bind, run_underlying ht, Result.andThen_ok, Sem.run_pure, checkKey_run hk, hfk]
        cases r' <;> simp
      · simp only [Instr.lookup, Sem.run_bind, run_underlying ht, Result.andThen_ok, hget, Sem.run_pure, checkKey_run hk, hfk]
        cases r' <;> simp
    rw [hhead]
    cases r with
    | none =>
      simp only [] at f3
      subst f3
      cases hv
      cases ok with
      | true => exact ⟨.tuple #[zv, .bool false], by simp [z1], VRel_tup.2 ⟨_, rfl, VRel.v1 z0 (z2 ρ), by simp only [VRel1, SRel, BRel], trivial⟩⟩
      | false => exact ⟨zv, by simp [z1], z2 ρ⟩
    | some q =>
      obtain ⟨j, v1, b1⟩ := q
      obtain ⟨v', rfl, g2, g3, _⟩ := f3
      cases hv
      cases ok with
      | true => exact ⟨.tuple #[v', .bool true], by simp, VRel_tup.2 ⟨_, rfl, g2, by simp only [VRel1, SRel, BRel], trivial⟩⟩
      | false => exact ⟨v', by simp, g2.val⟩

theorem v_look (R : Rel c base ρ H W) {t kt e : TypeId} {str : Bool} {z : AV} {ok : Bool} {m k v : AV} {w u : Value} (ht : c.P.underlying t = some (.map kt e)) (hk : keyStr c.P kt = some str) (hz : c.zeroV e = some z)
    (hm : VRel c ρ m w) (hkv : VRel c ρ k u) (h : rLook H str z ok m k = some v) : ∃ v', (Instr.lookup t w u ok).run c.P W = .ok v' W ∧ VRel c ρ v v' := by
  unfold rLook at h
  split at h
  · rename_i es hes
    unfold entries at hes
    split at hes
    · rw [VRel_nilm] at hm
      subst hm
      cases hes
      exact look_main ht hk hz hkv (es := []) (ms := #[]) trivial (.inl ⟨rfl, rfl⟩) h
    · rename_i b
      rw [VRel_map] at hm
      obtain ⟨p, hp, rfl⟩ := hm
      split at hes
      · rename_i es' cl hb
        cases hes
        obtain ⟨ms, m1, m2, m3⟩ := getMap R hp hb
        exact look_main ht hk hz hkv m2 (.inr ⟨_, _, rfl, m3⟩) h
      · cases hes
    · cases hes
  · cases h

end
end Go.Dp
