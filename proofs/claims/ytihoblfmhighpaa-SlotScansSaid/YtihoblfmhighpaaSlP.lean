/- The slot's store, plainly: what stands under a key; there is room. Conditions: none. -/
import Derived.Test.YtihoblfmhighpaaItS
namespace Go.Proofs.Ytihoblfmhighpaa
open Go.Dp
set_option linter.unusedSimpArgs false
set_option linter.unusedVariables false

def lookL (l : List It) (key : List UInt8) : Option (List UInt8) := (l.find? fun x => x.key == key).map (·.data)
def St.look (st : St) (key : List UInt8) : Option (List UInt8) := lookL st.l key
theorem lookL_cons (x : It) (l : List It) (key : List UInt8) : lookL (x :: l) key = if x.key = key then some x.data else lookL l key := by
  unfold lookL
  by_cases h : x.key = key
  · rw [List.find?_cons_of_pos (by simpa using h), if_pos h]; rfl
  · rw [List.find?_cons_of_neg (by simpa using h), if_neg h]
theorem lookL_no {l : List It} {key : List UInt8} (h : ∀ x ∈ l, x.key ≠ key) : lookL l key = none := by
  induction l with
  | nil => rfl
  | cons x l ih => rw [lookL_cons, if_neg (h x (List.mem_cons_self ..)), ih fun y hy => h y (List.mem_cons_of_mem _ hy)]
theorem lookL_mid {pre post : List It} {x : It} (hn : ((pre ++ x :: post).map (·.key)).Nodup) (key : List UInt8) : lookL (pre ++ x :: post) key = if x.key = key then some x.data else lookL (pre ++ post) key := by
  induction pre with
  | nil => exact lookL_cons ..
  | cons y pre ih =>
    have hn : (y.key :: (pre ++ x :: post).map (·.key)).Nodup := hn
    rw [List.nodup_cons] at hn
    rw [List.cons_append, lookL_cons, List.cons_append, lookL_cons, ih hn.2]
    by_cases h : y.key = key
    · rw [if_pos h, if_pos h]
      have hx : x.key ≠ key := fun e => hn.1 (by rw [h, ← e]; exact List.mem_map_of_mem (List.mem_append_right _ (List.mem_cons_self ..)))
      rw [if_neg hx]
    · rw [if_neg h, if_neg h]
theorem look_touch {st : St} (ok : st.Ok) {pre post : List It} {x : It} (e : st.l = pre ++ x :: post) (key : List UInt8) : (st.touch pre post x).look key = st.look key := by
  have hn := ok.ky
  rw [e] at hn
  show lookL (x :: (pre ++ post)) key = lookL st.l key
  rw [e, lookL_mid hn, lookL_cons]
theorem look_at {st : St} (ok : st.Ok) {pre post : List It} {x : It} (e : st.l = pre ++ x :: post) : st.look x.key = some x.data := by
  have hn := ok.ky
  rw [e] at hn
  show lookL st.l x.key = _
  rw [e, lookL_mid hn, if_pos rfl]
theorem look_gone {st : St} (ok : st.Ok) {pre post : List It} {x : It} (e : st.l = pre ++ x :: post) (key : List UInt8) : (st.gone pre post x).look key = if x.key = key then none else st.look key := by
  have hn := ok.ky
  rw [e] at hn
  show lookL (pre ++ post) key = if x.key = key then none else lookL st.l key
  rw [e, lookL_mid hn]
  split
  · rename_i h
    have hp : (pre ++ x :: post).Perm (x :: (pre ++ post)) := perm_mid ..
    have hk2 := (hp.map (·.key)).nodup_iff.1 hn
    rw [List.map_cons, List.nodup_cons] at hk2
    refine lookL_no fun y hy hq => hk2.1 ?_
    rw [h, ← hq]
    exact List.mem_map_of_mem hy
  · rfl
theorem look_put (st : St) (key data : List UInt8) (i : Nat) (k : List UInt8) : (st.put key data i).look k = if key = k then some data else st.look k := lookL_cons ..
theorem look_drp {st st1 : St} (ok : st.Ok) {key : List UInt8} (h : Drp st key st1) (k : List UInt8) : st1.look k = if key = k then none else st.look k := by
  rcases h with ⟨hn, rfl⟩ | ⟨pre, x, post, e, rfl, rfl⟩
  · split
    · rename_i e; subst e; exact lookL_no hn
    · rfl
  · exact look_gone ok e k

structure Rm (P m : Nat) (szl : List Nat) (st : St) : Prop where
  sz : st.s.cs.map (·.size) = szl
  pg : st.s.left + st.s.used = P
  lv : ∀ i, i < st.s.cs.length → (st.s.cl i).live.length = (st.l.filter fun x => x.cls == i).length
  ct : ∀ i, i < st.s.cs.length → (st.s.cl i).free.length + (st.s.cl i).live.length = (st.s.cl i).count
  one : ∀ i, i < st.s.cs.length → (st.s.cl i).count = 0 ∨ i < m
  us : st.s.used = (st.s.cs.filter fun c => c.count != 0).length
  big : ∀ i, i < st.s.cs.length → (st.s.cl i).count = 0 ∨ st.s.page / (st.s.cl i).size ≤ (st.s.cl i).count

theorem filter_lt {L : List Cl} {m i : Nat} (hm : i < m) (hi : i < L.length) (h0 : (L.getD i noCl).count = 0) (hz : ∀ j, j < L.length → (L.getD j noCl).count = 0 ∨ j < m) : (L.filter fun c => c.count != 0).length + 1 ≤ m := by
  have e : L = L.take m ++ L.drop m := (List.take_append_drop m L).symm
  have hd : (L.drop m).filter (fun c => c.count != 0) = [] := by
    rw [List.filter_eq_nil_iff]
    intro c hc
    obtain ⟨j, hj, rfl⟩ := List.mem_iff_getElem.1 hc
    rw [List.length_drop] at hj
    rw [List.getElem_drop]
    rcases hz (m + j) (by omega) with h | h
    · rw [List.getD_eq_getElem?_getD, List.getElem?_eq_getElem (by omega)] at h
      have h : L[m + j].count = 0 := h
      simp [h]
    · omega
  have ht : ((L.take m).filter fun c => c.count != 0).length < (L.take m).length := by
    rw [List.length_filter_lt_length_iff_exists]
    refine ⟨L.getD i noCl, ?_, by show ¬ ((L.getD i noCl).count != 0) = true; rw [h0]; decide⟩
    rw [List.getD_eq_getElem?_getD, List.getElem?_eq_getElem hi]
    show L[i] ∈ L.take m
    rw [List.mem_take_iff_getElem]
    exact ⟨i, by omega, rfl⟩
  have hl : (L.take m).length ≤ m := by rw [List.length_take]; omega
  rw [e, List.filter_append, hd, List.append_nil]
  omega
theorem Rm.room {P m B : Nat} {szl : List Nat} {st : St} (h : Rm P m szl st) (hP : m ≤ P) {i : Nat} (hi : i < st.s.cs.length) (him : i < m) (hB : st.l.length ≤ B) (hb : B < st.s.page / (st.s.cl i).size) : ¬ st.s.full i := by
  rintro ⟨h1, h2⟩
  have a := h.ct i hi
  rw [h1, List.length_nil, Nat.zero_add, h.lv i hi] at a
  have b : (st.l.filter fun x => x.cls == i).length ≤ st.l.length := List.length_filter_le ..
  have h0 : (st.s.cl i).count = 0 := by
    rcases h.big i hi with q | q
    · exact q
    · omega
  have c := filter_lt him hi h0 h.one
  have d := h.us
  have e := h.pg
  omega

theorem set_filter {L : List Cl} {i : Nat} {c : Cl} : i < L.length → ((L.set i c).filter fun c => c.count != 0).length + (if (L.getD i noCl).count = 0 then 0 else 1) = (L.filter fun c => c.count != 0).length + (if c.count = 0 then 0 else 1) := by
  induction L generalizing i with
  | nil => intro h; cases h
  | cons a L ih =>
    intro h
    cases i with
    | zero =>
      have e : (a :: L).getD 0 noCl = a := rfl
      rw [List.set_cons_zero, e]
      by_cases h1 : a.count = 0 <;> by_cases h2 : c.count = 0 <;> simp [h1, h2, List.filter_cons]
    | succ i =>
      have ih := ih (i := i) (Nat.lt_of_succ_lt_succ h)
      have e : (a :: L).getD (i + 1) noCl = L.getD i noCl := rfl
      rw [List.set_cons_succ, e]
      by_cases h1 : a.count = 0
      · rw [List.filter_cons_of_neg (by simp [h1]), List.filter_cons_of_neg (by simp [h1])]
        exact ih
      · rw [List.filter_cons_of_pos (by simp [h1]), List.filter_cons_of_pos (by simp [h1]), List.length_cons, List.length_cons]
        omega
theorem cl_setD {cs : List Cl} {i : Nat} (hi : i < cs.length) (c : Cl) (j : Nat) : (cs.set i c).getD j noCl = if j = i then c else cs.getD j noCl := by
  rw [List.getD_eq_getElem?_getD]
  split
  · rename_i e; subst e
    rw [List.getElem?_set_self hi]; rfl
  · rename_i e
    rw [List.getElem?_set_ne (fun q => e q.symm), ← List.getD_eq_getElem?_getD]
theorem map_set_size {cs : List Cl} {i : Nat} {c : Cl} (h : i < cs.length) (hs : c.size = (cs.getD i noCl).size) : (cs.set i c).map (·.size) = cs.map (·.size) := by
  rw [List.map_set, hs, List.getD_eq_getElem?_getD, List.getElem?_eq_getElem h]
  show (cs.map (·.size)).set i (cs[i].size) = _
  have : cs[i].size = (cs.map (·.size))[i]'(by rw [List.length_map]; exact h) := by rw [List.getElem_map]
  rw [this]
  exact List.set_getElem_self _

theorem Rm.gone {P m : Nat} {szl : List Nat} {st : St} (h : Rm P m szl st) (ok : st.Ok) {pre post : List It} {x : It} (e : st.l = pre ++ x :: post) : Rm P m szl (st.gone pre post x) := by
  have hx : x ∈ st.l := by rw [e]; exact List.mem_append_right _ (List.mem_cons_self ..)
  have hh := ok.has x hx
  have hi := hh.1
  have hcl : ∀ j, (st.gone pre post x).s.cl j = if j = x.cls then (st.s.cl x.cls).give x.chunk else st.s.cl j := fun j => cl_setD hi _ j
  have hln : (st.gone pre post x).s.cs.length = st.s.cs.length := List.length_set
  have hnd := (List.nodup_append.1 (ok.s.cl _ (Sb.cl_mem hi)).nd).2.1
  have hfk := (filter_keys hnd hh.2).length_eq
  rw [List.length_map, List.length_cons, List.length_map] at hfk
  refine ⟨?_, h.pg, fun j hj => ?_, fun j hj => ?_, fun j hj => ?_, ?_, fun j hj => ?_⟩
  · exact (map_set_size (c := (st.s.cl x.cls).give x.chunk) hi rfl).trans h.sz
  · rw [hln] at hj
    have hl := h.lv j hj
    rw [e, List.filter_append, List.filter_cons] at hl
    rw [hcl]
    show _ = ((pre ++ post).filter _).length
    rw [List.filter_append]
    split
    · rename_i q
      subst q
      rw [if_pos (by simp), List.length_append, List.length_cons] at hl
      show ((st.s.cl x.cls).live.filter fun y => y.1 != x.chunk).length = _
      rw [List.length_append]
      omega
    · rename_i q
      rw [if_neg (by simpa using fun w => q w.symm)] at hl
      exact hl
  · rw [hln] at hj
    rw [hcl]
    split
    · rename_i q
      subst q
      show ((st.s.cl x.cls).free ++ [x.chunk]).length + ((st.s.cl x.cls).live.filter fun y => y.1 != x.chunk).length = (st.s.cl x.cls).count
      have := h.ct x.cls hj
      rw [List.length_append, List.length_singleton]
      omega
    · exact h.ct j hj
  · rw [hln] at hj
    rw [hcl]
    split
    · rename_i q; subst q; exact h.one _ hj
    · exact h.one j hj
  · show st.s.used = ((st.s.cs.set x.cls _).filter _).length
    have := set_filter (c := (st.s.cl x.cls).give x.chunk) hi
    have q : ((st.s.cl x.cls).give x.chunk).count = (st.s.cs.getD x.cls noCl).count := rfl
    rw [q] at this
    have hu := h.us
    omega
  · rw [hln] at hj
    rw [hcl]
    split
    · rename_i q; subst q; exact h.big _ hj
    · exact h.big j hj
theorem Rm.touch {P m : Nat} {szl : List Nat} {st : St} (h : Rm P m szl st) {pre post : List It} {x : It} (e : st.l = pre ++ x :: post) : Rm P m szl (st.touch pre post x) := by
  have hp : st.l.Perm (x :: (pre ++ post)) := by rw [e]; exact perm_mid ..
  exact ⟨h.sz, h.pg, fun j hj => (h.lv j hj).trans (hp.filter _).length_eq, h.ct, h.one, h.us, h.big⟩
theorem Rm.put {P m : Nat} {szl : List Nat} {st : St} (h : Rm P m szl st) (ok : st.Ok) {i : Nat} (hi : i < st.s.cs.length) (him : i < m) (hf : ¬ st.s.full i) (hz : (st.s.cl i).free = [] → (st.s.cl i).count = 0) (key data : List UInt8) : Rm P m szl (st.put key data i) := by
  have hcl0 := ok.s.cl _ (Sb.cl_mem hi)
  have hdp := div_pos' hcl0.hi hcl0.lo
  have hc := h.ct i hi
  by_cases he : (st.s.cl i).free = []
  · have hal : st.s.alloc i (key ++ data) = (⟨st.s.page, st.s.left - 1, st.s.used + 1, st.s.cs.set i (((st.s.cl i).grow st.s.page).take (key ++ data))⟩, ((st.s.cl i).grow st.s.page).free.getLastD 0) := by
      unfold Sb.alloc; rw [if_pos he]
    have h0 := hz he
    have hl : 0 < st.s.left := Nat.pos_of_ne_zero fun q => hf ⟨he, q⟩
    have hs : (st.put key data i).s = ⟨st.s.page, st.s.left - 1, st.s.used + 1, st.s.cs.set i (((st.s.cl i).grow st.s.page).take (key ++ data))⟩ := by
      show (st.s.alloc i (key ++ data)).1 = _
      rw [hal]
    have hcl : ∀ j, (st.put key data i).s.cl j = if j = i then ((st.s.cl i).grow st.s.page).take (key ++ data) else st.s.cl j := fun j => by rw [hs]; exact cl_setD hi _ j
    have hln : (st.put key data i).s.cs.length = st.s.cs.length := by rw [hs]; exact List.length_set
    have hfl : (((st.s.cl i).grow st.s.page).take (key ++ data)).free.length + 1 = (st.s.cl i).free.length + st.s.page / (st.s.cl i).size := by
      show ((st.s.cl i).free ++ chunks _ _).dropLast.length + 1 = _
      rw [List.length_dropLast, List.length_append, chunks_len]
      omega
    have hll : (((st.s.cl i).grow st.s.page).take (key ++ data)).live.length = (st.s.cl i).live.length + 1 := by
      show ((st.s.cl i).live ++ [_]).length = _
      rw [List.length_append]; rfl
    have hcc : (((st.s.cl i).grow st.s.page).take (key ++ data)).count = (st.s.cl i).count + st.s.page / (st.s.cl i).size := rfl
    refine ⟨?_, ?_, fun j hj => ?_, fun j hj => ?_, fun j hj => ?_, ?_, fun j hj => ?_⟩
    · rw [hs]; exact (map_set_size (c := ((st.s.cl i).grow st.s.page).take (key ++ data)) hi rfl).trans h.sz
    · rw [hs]
      have := h.pg
      show st.s.left - 1 + (st.s.used + 1) = P
      omega
    · rw [hln] at hj
      rw [hcl]
      show _ = ((_ :: st.l).filter _).length
      rw [List.filter_cons]
      split
      · rename_i q; subst q
        rw [if_pos (by simp), List.length_cons, hll, h.lv _ hj]
      · rename_i q
        rw [if_neg (by simpa using fun w => q w.symm)]
        exact h.lv j hj
    · rw [hln] at hj
      rw [hcl]
      split
      · rw [hll, hcc]; omega
      · exact h.ct j hj
    · rw [hln] at hj
      rw [hcl]
      split
      · rename_i q; subst q; exact .inr him
      · exact h.one j hj
    · rw [hs]
      show st.s.used + 1 = ((st.s.cs.set i _).filter _).length
      have := set_filter (c := ((st.s.cl i).grow st.s.page).take (key ++ data)) hi
      have q0 : (st.s.cs.getD i noCl).count = 0 := h0
      rw [if_pos q0, if_neg (by rw [hcc]; omega)] at this
      have hu := h.us
      omega
    · rw [hln] at hj
      rw [hcl]
      have hpg : (st.put key data i).s.page = st.s.page := by rw [hs]
      rw [hpg]
      split
      · exact .inr (by rw [hcc]; exact Nat.le_add_left _ _)
      · exact h.big j hj
  · have hal : st.s.alloc i (key ++ data) = (⟨st.s.page, st.s.left, st.s.used, st.s.cs.set i ((st.s.cl i).take (key ++ data))⟩, (st.s.cl i).free.getLastD 0) := by
      unfold Sb.alloc; rw [if_neg he]
    have hs : (st.put key data i).s = ⟨st.s.page, st.s.left, st.s.used, st.s.cs.set i ((st.s.cl i).take (key ++ data))⟩ := by
      show (st.s.alloc i (key ++ data)).1 = _
      rw [hal]
    have hcl : ∀ j, (st.put key data i).s.cl j = if j = i then (st.s.cl i).take (key ++ data) else st.s.cl j := fun j => by rw [hs]; exact cl_setD hi _ j
    have hln : (st.put key data i).s.cs.length = st.s.cs.length := by rw [hs]; exact List.length_set
    have hpos := List.length_pos_iff.2 he
    have hfl : ((st.s.cl i).take (key ++ data)).free.length + 1 = (st.s.cl i).free.length := by
      show (st.s.cl i).free.dropLast.length + 1 = _
      rw [List.length_dropLast]
      omega
    have hll : ((st.s.cl i).take (key ++ data)).live.length = (st.s.cl i).live.length + 1 := by
      show ((st.s.cl i).live ++ [_]).length = _
      rw [List.length_append]; rfl
    have hcc : ((st.s.cl i).take (key ++ data)).count = (st.s.cl i).count := rfl
    refine ⟨?_, by rw [hs]; exact h.pg, fun j hj => ?_, fun j hj => ?_, fun j hj => ?_, ?_, fun j hj => ?_⟩
    · rw [hs]; exact (map_set_size (c := (st.s.cl i).take (key ++ data)) hi rfl).trans h.sz
    · rw [hln] at hj
      rw [hcl]
      show _ = ((_ :: st.l).filter _).length
      rw [List.filter_cons]
      split
      · rename_i q; subst q
        rw [if_pos (by simp), List.length_cons, hll, h.lv _ hj]
      · rename_i q
        rw [if_neg (by simpa using fun w => q w.symm)]
        exact h.lv j hj
    · rw [hln] at hj
      rw [hcl]
      split
      · rw [hll, hcc]; omega
      · exact h.ct j hj
    · rw [hln] at hj
      rw [hcl]
      split
      · rename_i q; subst q; exact h.one _ hj
      · exact h.one j hj
    · rw [hs]
      show st.s.used = ((st.s.cs.set i _).filter _).length
      have := set_filter (c := (st.s.cl i).take (key ++ data)) hi
      have q0 : ((st.s.cl i).take (key ++ data)).count = (st.s.cs.getD i noCl).count := rfl
      rw [q0] at this
      have hu := h.us
      omega
    · rw [hln] at hj
      rw [hcl]
      have hpg : (st.put key data i).s.page = st.s.page := by rw [hs]
      rw [hpg]
      split
      · rename_i q; subst q; exact h.big _ hj
      · exact h.big j hj
end Go.Proofs.Ytihoblfmhighpaa
