/- Layer 17: the slot of the laws, as a map of names. Conditions: none. -/
import Derived.Test.YtihoblfmhighpaaSlF
namespace Go.Proofs.Ytihoblfmhighpaa
open Go.Dp
set_option linter.unusedSimpArgs false
set_option linter.unusedVariables false
set_option maxHeartbeats 400000
set_option maxRecDepth 8000
attribute [local irreducible] Ex.thnK Ex.inK Ret

def askF (kind : Nat) (rid : Int) (key data : List UInt8) (ver : Int) : Fr := ⟨.ofNat kind, .ofNat 1, .ofNat 3, rid, .ofNat 0, if kind = 5 then .ofNat 0 else .ofNat 1, key, ver, data⟩
theorem ask_ev (kind : Nat) (rid : Int) (key data : List UInt8) (ver : Int) (H : Heap) (Q : AV → Heap → Prop) (hQ : ∀ H', H'.Ok → HLe H H' → Q (.agg (askF kind rid key data ver).cells) H') :
    Eo lib n_depotlaw17_ask [.int .i64 (.ofNat kind), .int .i64 rid, .str key, .str data, .int .i64 ver] H Q := by
  refine Eo.ok fun hOk => ?_
  refine Eo.code at_depotlaw17_ask rfl ?_
  have Zc : noFr.cells = [.int .i64 (.ofNat 0), .int .i64 (.ofNat 0), .int .i64 (.ofNat 0), .int .i64 (.ofNat 0), .int .i64 (.ofNat 0), .int .i64 (.ofNat 0), .str [], .int .i64 (.ofNat 0), .str []] := rfl
  obtain ⟨T2, s2, b2, a2⟩ := new2 (T := fun _ => (0, 0, 0)) hOk (1, 0, 0) (1, 1, 0) (.cells [.int .i64 (.ofNat 0), .int .i64 (.ofNat 0), .int .i64 (.ofNat 0), .int .i64 (.ofNat 0), .int .i64 (.ofNat 0), .int .i64 (.ofNat 0), .str [], .int .i64 (.ofNat 0), .str []] 1) (.cells [.int .i64 (.ofNat kind), .int .i64 (.ofNat 1), .int .i64 (.ofNat 3), .int .i64 rid, .int .i64 (.ofNat 0), .int .i64 (.ofNat 0), .str key, .int .i64 ver, .str data] 1)
  have hkeep : ∀ (H3 : Heap) (O : Tg → Prop), Stp O T2 ((H.new (.cells [.int .i64 (.ofNat 0), .int .i64 (.ofNat 0), .int .i64 (.ofNat 0), .int .i64 (.ofNat 0), .int .i64 (.ofNat 0), .int .i64 (.ofNat 0), .str [], .int .i64 (.ofNat 0), .str []] 1)).new (.cells [.int .i64 (.ofNat kind), .int .i64 (.ofNat 1), .int .i64 (.ofNat 3), .int .i64 rid, .int .i64 (.ofNat 0), .int .i64 (.ofNat 0), .str key, .int .i64 ver, .str data] 1)) T2 H3 → ¬ O (0, 0, 0) → HLe H H3 := fun H3 O s3 ho b y hb => by
    have k1 := s2.kp b y hb (fun h => h)
    exact s3.kp b y k1 (by rw [(s2.al b y hb).1]; exact ho)
  have hga := a2.1
  have hgb := b2.1
  by_cases c : kind = 5
  · have c' := eq_true c
    have e : (askF kind rid key data ver).cells = [.int .i64 (.ofNat kind), .int .i64 (.ofNat 1), .int .i64 (.ofNat 3), .int .i64 rid, .int .i64 (.ofNat 0), .int .i64 (.ofNat 0), .str key, .int .i64 ver, .str data] := by
      unfold askF
      rw [if_pos c]
      rfl
    rw [e] at hQ
    iterate 2 repeat (first | ((first | apply Xk.sAny | apply Xk.tAny); (case hok => rfl); (case h => intro C hC; simp (disch := omega) only [w1, ↓reduceIte, Nat.reduceEqDiff, Nat.reduceLeDiff, Nat.reduceAdd, Nat.reduceSub, c', hga, hgb]; with_reducible exact hC); refine gc ?_) | refine gm ?_)
    refine ret_cell1 (p := H.next) (t := 10) rfl (load_agg (Heap.get_put_self _ _ _) rfl) rfl ?_
    have s3 := b2.stp1 s2.ok (.cells [.int .i64 (.ofNat kind), .int .i64 (.ofNat 1), .int .i64 (.ofNat 3), .int .i64 rid, .int .i64 (.ofNat 0), .int .i64 (.ofNat 0), .str key, .int .i64 ver, .str data] 1)
    exact hQ _ s3.ok (hkeep _ _ s3 (by decide))
  · have c' := eq_false c
    have e : (askF kind rid key data ver).cells = [.int .i64 (.ofNat kind), .int .i64 (.ofNat 1), .int .i64 (.ofNat 3), .int .i64 rid, .int .i64 (.ofNat 0), .int .i64 (.ofNat 1), .str key, .int .i64 ver, .str data] := by
      unfold askF
      rw [if_neg c]
      rfl
    rw [e] at hQ
    obtain ⟨T3, s3, b3, a3⟩ := new2 (T := fun _ => (0, 0, 0)) hOk (1, 0, 0) (1, 1, 0) (.cells [.int .i64 (.ofNat 0), .int .i64 (.ofNat 0), .int .i64 (.ofNat 0), .int .i64 (.ofNat 0), .int .i64 (.ofNat 0), .int .i64 (.ofNat 0), .str [], .int .i64 (.ofNat 0), .str []] 1) (.cells [.int .i64 (.ofNat kind), .int .i64 (.ofNat 1), .int .i64 (.ofNat 3), .int .i64 rid, .int .i64 (.ofNat 0), .int .i64 (.ofNat 1), .str key, .int .i64 ver, .str data] 1)
    have hgb3 := b3.1
    have s4 := b3.stp1 s3.ok (.cells [.int .i64 (.ofNat kind), .int .i64 (.ofNat 1), .int .i64 (.ofNat 3), .int .i64 rid, .int .i64 (.ofNat 0), .int .i64 (.ofNat 1), .str key, .int .i64 ver, .str data] 1)
    iterate 2 repeat (first | ((first | apply Xk.sAny | apply Xk.tAny); (case hok => rfl); (case h => intro C hC; simp (disch := omega) only [w1, ↓reduceIte, Nat.reduceEqDiff, Nat.reduceLeDiff, Nat.reduceAdd, Nat.reduceSub, c', hga, hgb, hgb3]; with_reducible exact hC); refine gc ?_) | refine gm ?_)
    refine ret_cell1 (p := H.next) (t := 10) rfl (load_agg (Heap.get_put_self _ _ _) rfl) rfl ?_
    refine hQ _ s4.ok fun b y hb => ?_
    have k1 := s3.kp b y hb (fun h => h)
    exact s4.kp b y k1 (by rw [(s3.al b y hb).1]; decide)

abbrev Mp := List UInt8 → Option (Int × List UInt8)
def Mp.set (M : Mp) (k : List UInt8) (x : Option (Int × List UInt8)) : Mp := fun j => if k = j then x else M j
def Mp.Ok (M : Mp) : Prop := ∀ k v d, M k = some (v, d) → 0 ≤ v ∧ v ≤ 9223372036854775807
theorem verB_inj {v v' : Int} {d d' : List UInt8} (h : verB v d = verB v' d') (h1 : -9223372036854775808 ≤ v) (h2 : v ≤ 9223372036854775807) (h3 : -9223372036854775808 ≤ v') (h4 : v' ≤ 9223372036854775807) : v = v' ∧ d = d' := by
  have a := rn_vi [] d h1 h2
  have b := rn_vi [] d' h3 h4
  have e1 : rn (verB v d) (0, 0) = ((0 + (vi (zig v)).length, 0), v) := a
  have e2 : rn (verB v' d') (0, 0) = ((0 + (vi (zig v')).length, 0), v') := b
  rw [h, e2] at e1
  have hv : v = v' := (Prod.mk.inj e1).2.symm
  subst hv
  exact ⟨rfl, List.append_cancel_left h⟩
structure LSo (κ : Nat) (T : Tags) (H : Heap) (p : Nat) (pg P m c : Nat) (szl : List Nat) (M : Mp) (done : List Dd) (s : Sw) : Prop where
  sw : SW κ T H p s
  id : s.id = .ofNat 1
  on : s.on = true
  inc : s.inc = .ofNat 3
  fl : s.floor = .ofNat 0
  dn : s.done = done
  kp : KP pg P m c szl s.st
  mp : ∀ k, s.st.look k = (M k).map fun x => verB x.1 x.2
  mo : M.Ok
def LS (κ : Nat) (T : Tags) (H : Heap) (p : Nat) (pg P m c : Nat) (szl : List Nat) (M : Mp) (done : List Dd) : Prop := ∃ s, LSo κ T H p pg P m c szl M done s
theorem LS.step {κ : Nat} {O : Tg → Prop} {T T' : Tags} {H H' : Heap} {p pg P m c : Nat} {szl : List Nat} {M : Mp} {done : List Dd} (h : LS κ T H p pg P m c szl M done) (st : Stp O T H T' H') (ho : ∀ t, Ok4 κ t → ¬ O t) : LS κ T' H' p pg P m c szl M done := by
  obtain ⟨s, S⟩ := h
  exact ⟨s, S.sw.step st ho, S.id, S.on, S.inc, S.fl, S.dn, S.kp, S.mp, S.mo⟩
structure LR (f : Fr) : Prop where
  r : rightB f = true
  s : f.slot = .ofNat 1
  i : f.inc = .ofNat 3
  fl : f.floor = .ofNat 0
  rid : 0 ≤ f.rid
  v1 : 0 ≤ f.ver
  v2 : f.ver ≤ 1000000
  ky : f.key.length ≤ 250
  dt : f.data.length ≤ 3000
theorem LR.ok {f : Fr} (h : LR f) : f.Ok := ⟨by have := h.v1; omega, by have := h.v2; omega, by have := h.ky; omega, by have := h.dt; omega⟩
theorem noFloor {f : Fr} {s : Sw} (h : LR f) (hs : s.floor = .ofNat 0) : ¬ f.rid < s.floor ∧ ¬ s.floor < f.floor := by
  rw [hs, h.fl]
  have := h.rid
  have e : Int.ofNat 0 = (0 : Int) := rfl
  rw [e]
  omega

def ansL (f : Fr) (v : Int) (d : List UInt8) : Fr := ⟨.ofNat 6, .ofNat 1, .ofNat 3, f.rid, .ofNat 0, f.role, f.key, v, d⟩
theorem ansF_L {s : Sw} {f : Fr} (h1 : s.id = .ofNat 1) (h2 : s.inc = .ofNat 3) (v : Int) (d : List UInt8) : ansF s f v d = ansL f v d := by
  unfold ansF ansL
  rw [h1, h2]
def putR (M : Mp) (f : Fr) : Mp × Fr := match M (nameB f) with
  | some (v, _) => if f.ver < v then (M, ansL f v []) else (M.set (nameB f) (some (f.ver, f.data)), ansL f f.ver [])
  | none => (M.set (nameB f) (some (f.ver, f.data)), ansL f f.ver [])
def DoIs (κ p pg P m c : Nat) (szl : List Nat) (f : Fr) (s : Sw) (r : Mp × Fr) : Prop := ∀ T' H' (Q' : AV → Heap → Prop), SW κ T' H' p s →
  (∀ a st' T'' H'', (a = r.2 ∧ KP pg P m (c + 1) szl st' ∧ ∀ k, st'.look k = (r.1 k).map fun x => verB x.1 x.2) → Stp (O6 κ) T' H' T'' H'' → SW κ T'' H'' p { s with st := st' } → Q' (.agg a.cells) H'') → Eo lib n_slot_Slot_do [.ptr p 0, .agg f.cells] H' Q'
theorem map_no {M : Mp} {k : List UInt8} (h : (M k).map (fun x => verB x.1 x.2) = none) : M k = none := by
  cases e : M k with
  | none => rfl
  | some x => rw [e] at h; cases h
theorem map_yes {M : Mp} (ho : M.Ok) {k : List UInt8} {v : Int} {d : List UInt8} (h : (M k).map (fun x => verB x.1 x.2) = some (verB v d)) (h1 : -9223372036854775808 ≤ v) (h2 : v ≤ 9223372036854775807) : M k = some (v, d) := by
  cases e : M k with
  | none => rw [e] at h; cases h
  | some x =>
    obtain ⟨v', d'⟩ := x
    rw [e] at h
    have h : some (verB v' d') = some (verB v d) := h
    obtain ⟨b1, b2⟩ := ho _ _ _ e
    obtain ⟨e1, e2⟩ := verB_inj (Option.some.inj h) (by omega) b2 h1 h2
    rw [e1, e2]
theorem set_map {M : Mp} {k : List UInt8} {x : Option (Int × List UInt8)} (j : List UInt8) : ((M.set k x) j).map (fun x => verB x.1 x.2) = if k = j then x.map (fun x => verB x.1 x.2) else (M j).map fun x => verB x.1 x.2 := by
  unfold Mp.set
  split <;> rfl

section
variable {κ p pg P m c : Nat} {szl : List Nat} {M : Mp} {done : List Dd} {s : Sw} {T : Tags} {H : Heap} {f : Fr}
theorem putIs (S : LSo κ T H p pg P m c szl M done s) (hc : c ≤ 30000) (hf : LR f) (hk : f.kind = .ofNat 1) (hP : m ≤ P) (hfit : Fit pg m c szl ((nameB f).length + (verB f.ver f.data).length)) : DoIs κ p pg P m c szl f s (putR M f) := by
  intro T' H' Q' W hQ
  refine doPut_ev κ T' H' p s W S.kp hc f hf.ok hk hP hfit Q' (fun v d st' T2 H2 h1 h2 h3 h4 h5 st W2 => ?_) (fun st' T2 H2 h1 h4 h5 st W2 => ?_)
  · rw [S.mp] at h1
    have hM := map_yes S.mo h1 (by have := hf.v1; omega) h3
    have e : putR M f = (M, ansL f v []) := by
      unfold putR
      rw [hM]
      show (if f.ver < v then _ else _) = _
      rw [if_pos h2]
    rw [e] at hQ
    rw [ansF_L S.id S.inc]
    exact hQ _ st' T2 H2 ⟨rfl, h4.mono (Nat.le_succ _), fun k => by rw [h5, S.mp]⟩ st W2
  · have e : putR M f = (M.set (nameB f) (some (f.ver, f.data)), ansL f f.ver []) := by
      unfold putR
      rcases h1 with h1 | ⟨v, d, h1, h2, h3⟩
      · rw [S.mp] at h1
        rw [map_no h1]
      · rw [S.mp] at h1
        have hM := map_yes S.mo h1 h3 (by have := hf.v2; omega)
        rw [hM]
        show (if f.ver < v then _ else _) = _
        rw [if_neg (by omega)]
    rw [e] at hQ
    rw [ansF_L S.id S.inc]
    refine hQ _ st' T2 H2 ⟨rfl, h4, fun k => ?_⟩ st W2
    show _ = ((M.set (nameB f) (some (f.ver, f.data))) k).map _
    rw [h5, set_map, S.mp]
    rfl
end
theorem Mp.Ok.set {M : Mp} (h : M.Ok) {k : List UInt8} {v : Int} {d : List UInt8} (h1 : 0 ≤ v) (h2 : v ≤ 9223372036854775807) : (M.set k (some (v, d))).Ok := fun j v' d' e => by
  unfold Mp.set at e
  split at e
  · cases e; exact ⟨h1, h2⟩
  · exact h _ _ _ e
theorem putR_ok {M : Mp} (h : M.Ok) {f : Fr} (hf : LR f) : (putR M f).1.Ok := by
  have a := hf.v1
  have b := hf.v2
  unfold putR
  split
  · split
    · exact h
    · exact h.set a (by omega)
  · exact h.set a (by omega)
theorem tReq_ev (κ : Nat) (T : Tags) (H : Heap) (p : Nat) {pg P m c : Nat} {szl : List Nat} {M : Mp} {done : List Dd} (h : LS κ T H p pg P m c szl M done) (hdl : done.length ≤ 100000) (f : Fr) (hf : LR f) (h6 : f.kind < .ofNat 6) (h5 : f.kind ≠ .ofNat 5)
    (r : Mp × Fr) (hr : r.1.Ok) (hdo : ∀ s, LSo κ T H p pg P m c szl M done s → DoIs κ p pg P m c szl f s r) (Q : AV → Heap → Prop)
    (hold : ∀ d pre post, done = pre ++ d :: post → (∀ x ∈ pre, x.rid ≠ f.rid) → d.rid = f.rid → ∀ T' H', Stp (O7 κ) T H T' H' → LS κ T' H' p pg P m c szl M done → Q (.tup [.agg d.f.cells, .bool true]) H')
    (hnew : (∀ d ∈ done, d.rid ≠ f.rid) → ∀ T' H', Stp (O7 κ) T H T' H' → LS κ T' H' p pg P m (c + 1) szl r.1 (done ++ [⟨f.rid, r.2⟩]) → Q (.tup [.agg r.2.cells, .bool true]) H') : Eo lib n_slot_Slot_Take [.ptr p 0, .agg f.cells] H Q := by
  obtain ⟨s, S⟩ := h
  obtain ⟨n1, n2⟩ := noFloor hf S.fl
  refine Take_req_ev κ T H p s S.sw f hf.r h6 h5 (by rw [S.id]; exact hf.s) S.on (by rw [S.inc]; exact hf.i) n1 n2 (by rw [S.dn]; exact hdl) _ (hdo s S) Q (fun d pre post e h1 h2 T' H' st W => ?_) (fun h1 a st' T' H' hR st W => ?_)
  · rw [S.dn] at e
    exact hold d pre post e h1 h2 T' H' st ⟨s, W, S.id, S.on, S.inc, S.fl, S.dn, S.kp, S.mp, S.mo⟩
  · obtain ⟨rfl, hk, hm⟩ := hR
    rw [S.dn] at h1 W
    exact hnew h1 T' H' st ⟨_, W, S.id, S.on, S.inc, S.fl, rfl, hk, hm, hr⟩
end Go.Proofs.Ytihoblfmhighpaa
