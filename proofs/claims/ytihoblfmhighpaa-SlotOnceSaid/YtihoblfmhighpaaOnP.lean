/- Layer 17: SlotOnce, plainly: a map of texts to numbers; the requests; what stands and what the law counts. Conditions: none. -/
import Derived.Test.YtihoblfmhighpaaVrP
namespace Go.Proofs.Ytihoblfmhighpaa
open Go.Dp
set_option linter.unusedSimpArgs false
set_option linter.unusedVariables false
set_option maxRecDepth 8000

def updT (f : List UInt8 → Nat) (k : List UInt8) (x : Nat) : List UInt8 → Nat := fun j => if k = j then x else f j
/-- a map of texts to numbers, its entries -/
def VMl : List (AV × AV × Nat) → (List UInt8 → Nat) → Prop
  | [], f => ∀ k, f k = 0
  | (a, v, _) :: es, f => ∃ k0 x g, a = .str k0 ∧ v = .int .i64 (.ofNat x) ∧ VMl es g ∧ ∀ k, f k = if k0 = k then x else g k
theorem key_str (a b : List UInt8) : keyEq true (.str a) (.str b) = some (decide (a = b)) := by
  show some (beqB a b) = _
  rw [beqB_eq]
  by_cases e : a = b
  · rw [decide_eq_true e, beq_iff_eq.2 e]
  · rw [decide_eq_false e, beq_eq_false_iff_ne.2 e]
theorem vm_find (k : List UInt8) : ∀ (es : List (AV × AV × Nat)) (f : List UInt8 → Nat) (i : Nat), VMl es f →
    (findE true (.str k) es i = some none ∧ f k = 0 ∧ ∀ x cl, VMl (es ++ [(.str k, .int .i64 (.ofNat x), cl)]) (updT f k x)) ∨
    ∃ j b, findE true (.str k) es i = some (some (i + j, .int .i64 (.ofNat (f k)), b)) ∧ ∀ x, VMl (setE es j (.str k) (.int .i64 (.ofNat x))) (updT f k x)
  | [], f, i, h => .inl ⟨rfl, h k, fun x cl => ⟨k, x, f, rfl, rfl, h, fun _ => rfl⟩⟩
  | (a, v, b) :: es, f, i, h => by
    obtain ⟨k0, x0, g, rfl, rfl, hg, hf⟩ := h
    by_cases e : k = k0
    · subst e
      refine .inr ⟨0, b, ?_, fun x => ⟨k, x, g, rfl, rfl, hg, fun j => ?_⟩⟩
      · have hk : f k = x0 := by rw [hf, if_pos rfl]
        unfold findE
        rw [key_str, decide_eq_true rfl, hk]
        rfl
      · unfold updT
        rw [hf]
        split
        · rfl
        · rfl
    · have hgk : f k = g k := by rw [hf, if_neg fun q => e q.symm]
      have hd : findE true (.str k) ((.str k0, .int .i64 (.ofNat x0), b) :: es) i = findE true (.str k) es (i + 1) := by
        rw [findE]
        rw [key_str, decide_eq_false e]
      have hu : ∀ x j, updT f k x j = if k0 = j then x0 else updT g k x j := by
        intro x j
        unfold updT
        rw [hf]
        by_cases q : k = j
        · subst q
          rw [if_pos rfl, if_neg fun q => e q.symm, if_pos rfl]
        · rw [if_neg q, if_neg q]
      rcases vm_find k es g (i + 1) hg with ⟨h1, h2, h3⟩ | ⟨j, b', h1, h2⟩
      · exact .inl ⟨hd.trans h1, hgk.trans h2, fun x cl => ⟨k0, x0, _, rfl, rfl, h3 x cl, hu x⟩⟩
      · refine .inr ⟨j + 1, b', ?_, fun x => ?_⟩
        · rw [hd, h1, hgk, show i + 1 + j = i + (j + 1) by omega]
        · have hs : setE ((.str k0, .int .i64 (.ofNat x0), b) :: es) (j + 1) (.str k) (.int .i64 (.ofNat x)) = (.str k0, .int .i64 (.ofNat x0), b) :: setE es j (.str k) (.int .i64 (.ofNat x)) := by
            unfold setE
            rw [List.getElem?_cons_succ]
            split <;> rfl
          rw [hs]
          exact ⟨k0, x0, _, rfl, rfl, h2 x, hu x⟩
theorem vm_look {H : Heap} {b cl : Nat} {es : List (AV × AV × Nat)} {f : List UInt8 → Nat} (h : H.get b = some (.mp es cl)) (hv : VMl es f) (k : List UInt8) : rLook H true (.int .i64 (.ofNat 0)) false (.map b) (.str k) = some (.int .i64 (.ofNat (f k))) := by
  have he : entries H (.map b) = some es := by
    unfold entries
    simp only [h]
  unfold rLook
  rw [he]
  rcases vm_find k es f 0 hv with ⟨h1, h2, _⟩ | ⟨j, b', h1, _⟩
  · simp only [h1]
    rw [h2]
    rfl
  · simp only [h1]
    rfl
theorem vm_upd {H : Heap} {b cl : Nat} {es : List (AV × AV × Nat)} {f : List UInt8 → Nat} (h : H.get b = some (.mp es cl)) (hv : VMl es f) (k : List UInt8) (x : Nat) : ∃ es' cl', eMupd H true (.map b) (.str k) (.int .i64 (.ofNat x)) = some (.tup [], H.put b (.mp es' cl')) ∧ VMl es' (updT f k x) := by
  rcases vm_find k es f 0 hv with ⟨h1, _, h3⟩ | ⟨j, b', h1, h3⟩
  · refine ⟨_, cl + 1, ?_, h3 x cl⟩
    simp only [eMupd, h, h1]
    rfl
  · refine ⟨_, cl, ?_, h3 x⟩
    simp only [eMupd, h, h1]
    rw [Nat.zero_add]
    rfl

/-- the requests -/
def kyF (ks : List (List UInt8)) (j : Nat) : List UInt8 := (ks.getD j []).take 60
theorem kyF_len (ks : List (List UInt8)) (j : Nat) : (kyF ks j).length ≤ 60 := by
  unfold kyF
  rw [List.length_take]
  exact Nat.min_le_left _ _
def rqF (ks : List (List UInt8)) (j : Nat) : Fr := reqF (if j % 4 = 3 then 3 else 1) (.ofNat (10 + j)) 1 (kyF ks j) (.ofNat (j + 1)) (118 :: kyF ks j)
def rqL (ks : List (List UInt8)) (n : Nat) : List Fr := (List.range n).map (rqF ks)
theorem rqL_len (ks : List (List UInt8)) (n : Nat) : (rqL ks n).length = n := by unfold rqL; rw [List.length_map, List.length_range]
theorem rqL_succ (ks : List (List UInt8)) (n : Nat) : rqL ks (n + 1) = rqL ks n ++ [rqF ks n] := by unfold rqL; rw [List.range_succ, List.map_append]; rfl
theorem rqL_at (ks : List (List UInt8)) {n j : Nat} (h : j < n) : (rqL ks n).getD j noFr = rqF ks j := by
  unfold rqL
  rw [List.getD_eq_getElem?_getD, List.getElem?_map, List.getElem?_range h]
  rfl
theorem rqF_lr (ks : List (List UInt8)) {j : Nat} (h : j < 12) : LR (rqF ks j) := by
  have := kyF_len ks j
  unfold rqF
  have e : Int.ofNat (10 + j) = ((10 + j : Nat) : Int) := rfl
  have e2 : Int.ofNat (j + 1) = ((j + 1 : Nat) : Int) := rfl
  by_cases c : j % 4 = 3
  · rw [if_pos c]
    exact reqF_lr (.inr (.inr rfl)) (.inl rfl) (by omega) (by omega) (by omega) (by omega) (by omega) (by rw [List.length_cons]; omega)
  · rw [if_neg c]
    exact reqF_lr (.inl rfl) (.inl rfl) (by omega) (by omega) (by omega) (by omega) (by omega) (by rw [List.length_cons]; omega)
theorem name_m (kind : Nat) (rid : Int) (key : List UInt8) (ver : Int) (data : List UInt8) : nameB (reqF kind rid 1 key ver data) = 109 :: key := if_pos rfl
theorem fit2 {c n : Nat} (hc : c < 16) (hn : n ≤ 256) : Fit 4096 3 c (szs 4096 64) n := by
  have e : szs 4096 64 = 64 :: 128 :: 256 :: szs 4096 512 := by
    rw [szs, dif_pos (by decide), szs, dif_pos (by decide), szs, dif_pos (by decide)]
  rw [Fit, e]
  by_cases c1 : n ≤ 64
  · refine ⟨0, by decide, ?_, by show c < 4096 / 64; omega⟩
    show (if n ≤ 64 then some 0 else _) = _
    rw [if_pos c1]
  by_cases c2 : n ≤ 128
  · refine ⟨1, by decide, ?_, by show c < 4096 / 128; omega⟩
    show (if n ≤ 64 then some 0 else (if n ≤ 128 then some 0 else _).map (· + 1)) = _
    rw [if_neg c1, if_pos c2]
    rfl
  · refine ⟨2, by decide, ?_, by show c < 4096 / 256; omega⟩
    show (if n ≤ 64 then some 0 else (if n ≤ 128 then some 0 else (if n ≤ 256 then some 0 else _).map (· + 1)).map (· + 1)) = _
    rw [if_neg c1, if_neg c2, if_pos hn]
    rfl

/-- what stands is what the law counts -/
structure MV (M : Mp) (V : List UInt8 → Nat) : Prop where
  m : ∀ k, M (109 :: k) = if V k = 0 then none else some (.ofNat (V k), 118 :: k)
  v : ∀ k, V k ≤ 12
theorem MV.start : MV (fun _ => none) (fun _ => 0) := ⟨fun _ => rfl, fun _ => Nat.zero_le _⟩
theorem MV.put {M : Mp} {V : List UInt8 → Nat} (h : MV M V) {rid : Int} {k : List UInt8} {v : Nat} (h1 : 1 ≤ v) (h2 : v ≤ 12) : MV (putR M (reqF 1 rid 1 k (.ofNat v) (118 :: k))).1 (updT V k (max (V k) v)) := by
  have hs : ∀ j, (M.set (109 :: k) (some (.ofNat v, 118 :: k))) (109 :: j) = if k = j then some (.ofNat v, 118 :: k) else M (109 :: j) := fun j => by
    unfold Mp.set
    by_cases e : k = j
    · subst e; rw [if_pos rfl, if_pos rfl]
    · rw [if_neg (fun q => e (List.cons.inj q).2), if_neg e]
  have hb := h.v k
  refine ⟨fun j => ?_, fun j => ?_⟩
  · unfold putR
    rw [name_m, h.m k]
    by_cases c0 : V k = 0
    · rw [if_pos c0]
      show (M.set (109 :: k) (some (.ofNat v, 118 :: k))) (109 :: j) = _
      rw [hs, h.m j]
      unfold updT
      by_cases e : k = j
      · subst e
        rw [if_pos rfl, if_pos rfl, if_neg (by omega), show max (V k) v = v by omega]
      · rw [if_neg e, if_neg e]
    · rw [if_neg c0]
      show (if Int.ofNat v < Int.ofNat (V k) then (M, _) else (M.set (109 :: k) (some (.ofNat v, 118 :: k)), _)).1 (109 :: j) = _
      by_cases c1 : v < V k
      · have q : Int.ofNat v < Int.ofNat (V k) := Int.ofNat_lt.2 c1
        rw [if_pos q]
        show M (109 :: j) = _
        rw [h.m j]
        unfold updT
        by_cases e : k = j
        · subst e
          rw [if_pos rfl, show max (V k) v = V k by omega]
        · rw [if_neg e]
      · have q : ¬ Int.ofNat v < Int.ofNat (V k) := fun q => c1 (Int.ofNat_lt.1 q)
        rw [if_neg q]
        show (M.set (109 :: k) (some (.ofNat v, 118 :: k))) (109 :: j) = _
        rw [hs, h.m j]
        unfold updT
        by_cases e : k = j
        · subst e
          rw [if_pos rfl, if_pos rfl, if_neg (by omega), show max (V k) v = v by omega]
        · rw [if_neg e, if_neg e]
  · unfold updT
    split
    · omega
    · exact h.v j
theorem MV.drop {M : Mp} {V : List UInt8 → Nat} (h : MV M V) {rid : Int} {k d : List UInt8} {v : Nat} : MV (dropR M (reqF 3 rid 1 k (.ofNat v) d)).1 (if V k ≤ v then updT V k 0 else V) := by
  have hs : ∀ j, (M.set (109 :: k) none) (109 :: j) = if k = j then none else M (109 :: j) := fun j => by
    unfold Mp.set
    by_cases e : k = j
    · subst e; rw [if_pos rfl, if_pos rfl]
    · rw [if_neg (fun q => e (List.cons.inj q).2), if_neg e]
  refine ⟨fun j => ?_, fun j => ?_⟩
  · unfold dropR
    show (match M (nameB (reqF 3 rid 1 k (.ofNat v) d)) with
      | some (v', _) => if v' ≤ Int.ofNat v then M.set (nameB (reqF 3 rid 1 k (.ofNat v) d)) none else M
      | none => M) (109 :: j) = _
    rw [name_m, h.m k]
    by_cases c0 : V k = 0
    · have c1 : V k ≤ v := by omega
      rw [if_pos c0, if_pos c1]
      show M (109 :: j) = _
      rw [h.m j]
      unfold updT
      by_cases e : k = j
      · subst e
        rw [if_pos rfl, if_pos c0, if_pos rfl]
      · rw [if_neg e]
    · rw [if_neg c0]
      show (if Int.ofNat (V k) ≤ Int.ofNat v then M.set (109 :: k) none else M) (109 :: j) = _
      by_cases c1 : V k ≤ v
      · have q : Int.ofNat (V k) ≤ Int.ofNat v := Int.ofNat_le.2 c1
        rw [if_pos q, if_pos c1, hs, h.m j]
        unfold updT
        by_cases e : k = j
        · subst e
          rw [if_pos rfl, if_pos rfl, if_pos rfl]
        · rw [if_neg e, if_neg e]
      · have q : ¬ Int.ofNat (V k) ≤ Int.ofNat v := fun q => c1 (Int.ofNat_le.1 q)
        rw [if_neg q, if_neg c1]
        exact h.m j
  · split
    · unfold updT
      split
      · exact Nat.zero_le _
      · exact h.v j
    · exact h.v j
theorem MV.get {M : Mp} {V : List UInt8 → Nat} (h : MV M V) {rid : Int} {k : List UInt8} : (getR M (reqF 2 rid 1 k (.ofNat 0) [])).2 = ansL (reqF 2 rid 1 k (.ofNat 0) []) (.ofNat (V k)) (if V k = 0 then [] else 118 :: k) := by
  unfold getR
  rw [name_m, h.m k]
  by_cases c : V k = 0
  · rw [if_pos c, if_pos c, c]
  · rw [if_neg c, if_neg c]

/-- what was done, as the law's rows tell it -/
structure Dn (done : List Dd) (n : Nat) (W : List Bool) (A : List Fr) : Prop where
  w : W.length = n
  a : A.length = n
  ea : ∀ d ∈ done, ∃ k, k < n ∧ d.rid = .ofNat (10 + k) ∧ W.getD k false = true ∧ A.getD k noFr = d.f
  ys : ∀ k, k < n → W.getD k false = true → ∃ d ∈ done, d.rid = .ofNat (10 + k)
  cn : done.length = W.count true
theorem Dn.len {done : List Dd} {n : Nat} {W : List Bool} {A : List Fr} (h : Dn done n W A) : done.length ≤ n := by
  rw [h.cn, ← h.w]
  exact List.count_le_length
theorem Dn.start (n : Nat) : Dn [] n (List.replicate n false) (List.replicate n noFr) := by
  refine ⟨List.length_replicate, List.length_replicate, fun d hd => (by cases hd), fun k hk h => ?_, ?_⟩
  · rw [List.getD_eq_getElem?_getD, List.getElem?_replicate] at h
    split at h <;> cases h
  · rw [List.count_replicate]
    rfl
theorem getD_setL {α : Type} (l : List α) (i j : Nat) (x d : α) (h : i < l.length) : (l.set i x).getD j d = if i = j then x else l.getD j d := by
  rw [List.getD_eq_getElem?_getD, List.getElem?_set]
  by_cases e : i = j
  · subst e
    rw [if_pos rfl, if_pos rfl, if_pos h]
    rfl
  · rw [if_neg e, if_neg e, List.getD_eq_getElem?_getD]
theorem set_same {α : Type} (l : List α) (i : Nat) (d : α) : l.set i (l.getD i d) = l := by
  apply List.ext_getElem?
  intro j
  rw [List.getElem?_set]
  split
  · rename_i e
    subst e
    split
    · rename_i h
      rw [List.getD_eq_getElem?_getD, List.getElem?_eq_getElem h]
      rfl
    · rename_i h
      rw [List.getElem?_eq_none (by omega)]
  · rfl
theorem Dn.old {done : List Dd} {n : Nat} {W : List Bool} {A : List Fr} (h : Dn done n W A) {k : Nat} {d : Dd} (hk : k < n) (hd : d ∈ done) (hr : d.rid = .ofNat (10 + k)) : W.getD k false = true ∧ A.getD k noFr = d.f ∧ Dn done n (W.set k true) (A.set k d.f) := by
  obtain ⟨j, h1, h2, h3, h4⟩ := h.ea d hd
  have e : j = k := by
    rw [hr] at h2
    have := Int.ofNat.inj h2
    omega
  subst e
  refine ⟨h3, h4, ?_⟩
  have e1 : W.set j true = W := by
    have := set_same W j false
    rw [h3] at this
    exact this
  have e2 : A.set j d.f = A := by
    have := set_same A j noFr
    rw [h4] at this
    exact this
  rw [e1, e2]
  exact h
theorem Dn.new {done : List Dd} {n : Nat} {W : List Bool} {A : List Fr} (h : Dn done n W A) {k : Nat} (hk : k < n) (hr : ∀ d ∈ done, d.rid ≠ .ofNat (10 + k)) (a : Fr) : W.getD k false = false ∧ Dn (done ++ [⟨.ofNat (10 + k), a⟩]) n (W.set k true) (A.set k a) := by
  have hf : W.getD k false = false := by
    cases c : W.getD k false with
    | false => rfl
    | true =>
      obtain ⟨d, hd, e⟩ := h.ys k hk c
      exact absurd e (hr d hd)
  have hw := h.w
  have ha := h.a
  refine ⟨hf, by rw [List.length_set]; exact hw, by rw [List.length_set]; exact ha, fun d hd => ?_, fun j hj hq => ?_, ?_⟩
  · rcases List.mem_append.1 hd with hd | hd
    · obtain ⟨j, h1, h2, h3, h4⟩ := h.ea d hd
      have e : k ≠ j := fun e => hr d hd (by rw [h2, e])
      exact ⟨j, h1, h2, by rw [getD_setL _ _ _ _ _ (by omega), if_neg e]; exact h3, by rw [getD_setL _ _ _ _ _ (by omega), if_neg e]; exact h4⟩
    · rw [List.mem_singleton] at hd
      subst hd
      exact ⟨k, hk, rfl, by rw [getD_setL _ _ _ _ _ (by omega), if_pos rfl], by rw [getD_setL _ _ _ _ _ (by omega), if_pos rfl]⟩
  · rw [getD_setL _ _ _ _ _ (by omega)] at hq
    by_cases e : k = j
    · subst e
      exact ⟨_, List.mem_append_right _ (List.mem_cons_self ..), rfl⟩
    · rw [if_neg e] at hq
      obtain ⟨d, hd, e⟩ := h.ys j hj hq
      exact ⟨d, List.mem_append_left _ hd, e⟩
  · have hk' : k < W.length := by omega
    have hg : W[k] = false := by
      have := hf
      rw [List.getD_eq_getElem?_getD, List.getElem?_eq_getElem hk'] at this
      exact this
    rw [List.length_append, List.length_singleton, h.cn, List.count_set hk', hg]
    rfl
theorem agg_self (f : Fr) : aggEq [.i .i64, .i .i64, .i .i64, .i .i64, .i .i64, .i .i64, .s, .i .i64, .s] (.agg f.cells) (.agg f.cells) = some true := by
  have hi : ∀ n : Int, scEq (.i .i64) (.int .i64 n) (.int .i64 n) = some true := fun n => by
    simp [scEq, kbeq_eq, ibeq_eq]
  have hs : ∀ s : List UInt8, scEq .s (.str s) (.str s) = some true := fun s => by
    simp [scEq, beqB_eq]
  unfold aggEq Fr.cells
  simp only [cellsEq, hi, hs, both]
  rfl
theorem str_at {H : Heap} {v : AV} {l : List (List UInt8)} (h : Sl H 1 v (l.map .str)) {i : Nat} (hi : i < l.length) :
    ∃ b o cl k, v = .sl b o l.length 1 ∧ H.get b = some (.cells cl k) ∧ o + i + 1 ≤ cl.length ∧ (cl.drop (o + i)).take 1 = [.str (l.getD i [])] := by
  rcases h with ⟨_, h2⟩ | ⟨b, o, len, cl, k, rest, rfl, h2, h3, h4, h5⟩
  · have : (l.map AV.str).length = 0 := by rw [h2]; rfl
    rw [List.length_map] at this
    omega
  · rw [List.length_map, Nat.mul_one] at h2
    subst h2
    have hl : cl.length - o = l.length + rest.length := by rw [← List.length_drop, h5, List.length_append, List.length_map]
    refine ⟨b, o, cl, k, rfl, h3, by omega, ?_⟩
    rw [← List.drop_drop, h5, List.drop_append_of_le_length (by rw [List.length_map]; omega), ← List.map_drop, List.drop_eq_getElem_cons hi, List.getD_eq_getElem?_getD, List.getElem?_eq_getElem hi]
    rfl
theorem str_len {H : Heap} {v : AV} {l : List (List UInt8)} (h : Sl H 1 v (l.map .str)) : rLensl v = some (.int .i64 (.ofNat l.length)) ∧ v.isSc = true ∧ v.cells = [v] := by
  rcases h with ⟨rfl, h2⟩ | ⟨b, o, len, cl, w, rest, rfl, h2, _⟩
  · have : l = [] := by cases l with
      | nil => rfl
      | cons c r => cases h2
    subst this
    exact ⟨rfl, rfl, rfl⟩
  · rw [List.length_map, Nat.mul_one] at h2
    rw [h2]
    exact ⟨rfl, rfl, rfl⟩
theorem min_mx (a b : Nat) : mm true (.int .i64 (.ofNat a)) (.int .i64 (.ofNat b)) = some (.int .i64 (.ofNat (max a b))) := by
  have e : mm true (.int .i64 (.ofNat a)) (.int .i64 (.ofNat b)) = some (.int .i64 (bif Nat.ble b a then .ofNat a else .ofNat b)) := rfl
  rw [e, nble]
  by_cases h : b ≤ a
  · rw [decide_eq_true h, Nat.max_eq_left h]; rfl
  · rw [decide_eq_false h, Nat.max_eq_right (by omega)]; rfl
/-- behind a loop, whichever way it was left: what holds there; l: the slots that are known -/
theorem loop_cut {L : Lib} {n : Nat} {k : Kn} {H : Heap} {Q : Ex → Kn → Heap → Prop} {b c : PC} {id : Nat} (l : List Nat) (I : Kn → Heap → Prop)
    (h1 : Xk L n (.loop b) k H (fun e k' H' => match e with
      | .exit j => j = id ∧ l.all (has k'.keys) = true ∧ I (k'.only l) H'
      | .ret => Q .ret k' H'
      | .normal => False))
    (h2 : ∀ k' H', I k' H' → Xk L n c k' H' Q) : Xk L n (.loop b) k H (Ex.inK id (Ex.thnK (fun k' H' => Xk L n c k' H' Q) Q)) :=
  h1.mono fun e k' H' _ _ h => by
    cases e with
    | normal => exact h.elim
    | ret => exact Ex.in_r (Ex.thn_r h)
    | exit j =>
      obtain ⟨rfl, hl, hI⟩ := h
      exact Ex.in_hit (Ex.thn_n (Xk.only l hl (h2 _ _ hI)))
theorem mksl_fr (N : Nat) (h : N ≤ 100000) : nMksl 0 9 88 [.int .i64 (.ofNat 0), .int .i64 (.ofNat 0), .int .i64 (.ofNat 0), .int .i64 (.ofNat 0), .int .i64 (.ofNat 0), .int .i64 (.ofNat 0), .str [], .int .i64 (.ofNat 0), .str []] (.int .i64 (.ofNat N)) (.int .i64 (.ofNat N)) = some (.cells (rep N noFr.cells) 1, slTo N 9) := by
  unfold nMksl
  simp only [natOf, nble, nbeq]
  rw [decide_eq_true (show N ≤ N from Nat.le_refl _), decide_eq_true (show 88 * N ≤ 140737488355328 by omega), decide_eq_true (show N ≤ 140737488355328 by omega)]
  rfl
theorem mksl_bool (N : Nat) (h : N ≤ 100000) : nMksl 0 1 1 [.bool false] (.int .i64 (.ofNat N)) (.int .i64 (.ofNat N)) = some (.cells (rep N [.bool false]) 1, slTo N 1) := by
  unfold nMksl
  simp only [natOf, nble, nbeq]
  rw [decide_eq_true (show N ≤ N from Nat.le_refl _), decide_eq_true (show 1 * N ≤ 140737488355328 by omega), decide_eq_true (show N ≤ 140737488355328 by omega)]
  rfl
theorem rep_fm {α : Type} (g : α → List AV) (x : α) (n : Nat) : rep n (g x) = (List.replicate n x).flatMap g := by
  induction n with
  | zero => rfl
  | succ n ih =>
    rw [List.replicate_succ, List.flatMap_cons, ← ih]
    rfl
def bcell (b : Bool) : List AV := [.bool b]
theorem rt_made {α : Type} {g : α → List AV} {w : Nat} (hg : ∀ a, (g a).length = w) {T : Tags} {H : Heap} {t : Tg} {c : Nat} {n : Nat} {x : α} (h : At T H t c (.cells (rep n (g x)) 1)) : RT T H t 0 w (.sl c 0 n w) ((List.replicate n x).flatMap g) := by
  have hl := fm_len hg (List.replicate n x)
  rw [List.length_replicate] at hl
  refine .inr ⟨c, n, _, rfl, hl, h.1, ?_, ?_, h.2⟩
  · rw [rep_fm]
    exact Nat.le_refl _
  · rw [rep_fm]
    exact List.take_length
end Go.Proofs.Ytihoblfmhighpaa
