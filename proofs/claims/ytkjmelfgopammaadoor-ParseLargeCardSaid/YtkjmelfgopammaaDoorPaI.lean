/- Layer 13: a parser at rest; events in memory. Conditions: none. -/
import Derived.Test.YtkjmelfgopammaaDoorPaF
namespace Go.Proofs.YtkjmelfgopammaaDoor
open Go.Dp Go.Wd
set_option linter.unusedSimpArgs false
set_option linter.unusedVariables false
set_option maxHeartbeats 2000000
set_option maxRecDepth 4000
attribute [local irreducible] Ex.thnK Ex.inK Ret

def noEv : Ev := ⟨noReq, 0, []⟩
theorem own_keepb {H0 H H' : Heap} {b k sz : Nat} {v : AV} {cs : List AV} {z : Blk} (h : Own H0 H k sz v cs) (hb : H0.get b = some z) (hk : ∀ c y, c ≠ b → H.get c = some y → H'.get c = some y) : Own H0 H' k sz v cs := by
  rcases h with h | ⟨c, len, a1, a2, a3, a4⟩
  · exact .inl h
  · exact .inr ⟨c, len, a1, a2, hk _ _ (by intro e; subst e; rw [hb] at a4; cases a4) a3, a4⟩
theorem key_keepb {H H' : Heap} {b w : Nat} {l : List AV} {kv : AV} {ks : List (List UInt8)} (h : Own noHeap H 0 1 kv (strs ks)) (hb : H.get b = some (.cells l w)) (hl : ∀ ks, strs ks ≠ l) (hk : ∀ c y, c ≠ b → H.get c = some y → H'.get c = some y) : Own noHeap H' 0 1 kv (strs ks) := by
  rcases h with h | ⟨c, len, a1, a2, a3, a4⟩
  · exact .inl h
  · exact .inr ⟨c, len, a1, a2, hk _ _ (by intro e; subst e; rw [hb] at a3; cases a3; exact hl ks rfl) a3, a4⟩
theorem EvRows.keepb {H H' : Heap} {b w : Nat} {l : List AV} (hb : H.get b = some (.cells l w)) (hl : ∀ ks, strs ks ≠ l) (hk : ∀ c y, c ≠ b → H.get c = some y → H'.get c = some y) : ∀ {es : List Ev} {cs : List AV}, EvRows H es cs → EvRows H' es cs
  | [], cs, h => h
  | e :: es, cs, ⟨kv, rest, h1, h2, h3⟩ => ⟨kv, rest, h1, key_keepb h2 hb hl hk, EvRows.keepb hb hl hk h3⟩
def ansC (kind : Nat) (text : List UInt8) : List AV := [.int .i64 (.ofNat kind), .nils, .bool false, .int .u64 (.ofNat 0), .str text, .int .i64 (.ofNat 0), .int .i64 (.ofNat 0), .int .i64 (.ofNat 0), .int .i64 (.ofNat 0)]
theorem EvRows.at_ {H : Heap} : ∀ {es : List Ev} {cs : List AV} (i : Nat), EvRows H es cs → i < es.length → ∃ kv rest, cs.drop (i * 18) = evC kv (es.getD i noEv) ++ rest ∧ Own noHeap H 0 1 kv (strs (es.getD i noEv).r.keys)
  | [], cs, i, h, hi => by cases hi
  | e :: es, cs, 0, ⟨kv, rest, h1, h2, h3⟩, hi => ⟨kv, rest, by rw [h1]; rfl, h2⟩
  | e :: es, cs, i + 1, ⟨kv, rest, h1, h2, h3⟩, hi => by
    obtain ⟨kx, rx, a1, a2⟩ := EvRows.at_ i h3 (by simpa using hi)
    refine ⟨kx, rx, ?_, a2⟩
    have e1 : (evC kv e ++ rest).drop 18 = rest := rfl
    rw [h1, Nat.succ_mul, Nat.add_comm, ← List.drop_drop, e1]
    exact a1
/-- rows of events as they may be read -/
def Evs (H : Heap) (v : AV) (es : List Ev) : Prop := ∃ cs, Own noHeap H 0 18 v cs ∧ EvRows H es cs
theorem Evs.mono {H H' : Heap} {v : AV} {es : List Ev} (h : Evs H v es) (hle : HLe H H') : Evs H' v es :=
  let ⟨cs, a, b⟩ := h; ⟨cs, a.mono hle, b.mono hle⟩
theorem Evs.lens {H : Heap} {v : AV} {es : List Ev} (h : Evs H v es) : rLensl v = some (.int .i64 (.ofNat es.length)) := by
  obtain ⟨cs, h1, h2⟩ := h
  have hl := h2.len
  rcases h1 with ⟨rfl, rfl⟩ | ⟨c, len, rfl, a2, a3, a4⟩
  · have : es.length = 0 := by rw [List.length_nil] at hl; omega
    rw [this]; rfl
  · have : len = es.length := by omega
    rw [this]; rfl
theorem Evs.row {H : Heap} {v : AV} {es : List Ev} (h : Evs H v es) {i : Nat} (hi : i < es.length) : ∃ b cs kv, v = .sl b 0 es.length 18 ∧ H.get b = some (.cells cs 1) ∧ i * 18 + 9 + 9 ≤ cs.length ∧
    (cs.drop (i * 18)).take 9 = reqC (es.getD i noEv).r.verb kv (es.getD i noEv).r.flags (es.getD i noEv).r.exp (es.getD i noEv).r.bytes (es.getD i noEv).r.cas (es.getD i noEv).r.delta (es.getD i noEv).r.noReply (es.getD i noEv).r.data ∧
    (cs.drop (i * 18 + 9)).take 9 = ansC (es.getD i noEv).kind (es.getD i noEv).text ∧ Own noHeap H 0 1 kv (strs (es.getD i noEv).r.keys) := by
  obtain ⟨cs, h1, h2⟩ := h
  have hl := h2.len
  obtain ⟨kv, rest, a1, a2⟩ := EvRows.at_ i h2 hi
  rcases h1 with ⟨rfl, rfl⟩ | ⟨c, len, rfl, b2, b3, b4⟩
  · simp at hl; omega
  · have : len = es.length := by omega
    subst this
    refine ⟨c, cs, kv, rfl, b3, by omega, by rw [a1]; rfl, ?_, a2⟩
    rw [← List.drop_drop, a1]
    rfl
def p0 : PS := ⟨0, [], 0, noReq, false⟩
theorem p0_ok : p0.Ok := okM (by decide) (fun h => nomatch h) (fun _ => rfl) (by decide) (fun h => nomatch h) (fun _ => rfl)
theorem New_ev (H : Heap) (Q : AV → Heap → Prop) (hQ : ∀ H', H'.Ok → HLe H H' → H'.next = H.next + 1 → H'.get H.next = some (.cells (psC p0 .nils .nils) 1) → Q (.ptr H.next 0) H') : Eo lib n_parse_New [] H Q := by
  refine Eo.ok fun hOk => ?_
  refine Eo.code at_parse_New rfl ?_
  repeat (first | ((first | apply Xk.sAny | apply Xk.tAny); (case hok => rfl); (case h => intro C hC; simp (disch := omega) only [w1, ↓reduceIte, Nat.reduceEqDiff, Nat.reduceLeDiff, Nat.reduceAdd, Nat.reduceSub, nBox]; with_reducible exact hC); refine gc ?_) | refine gm ?_)
  exact hQ _ (hOk.new _) (HLe.new (hOk _ (Nat.le_refl _)) _) rfl (Heap.get_new_self _ _)
theorem Shut_ev (H : Heap) (b : Nat) (p : PS) (hA : AtP H b p) (Q : AV → Heap → Prop) (hQ : Q (.bool p.shut) H) : Eo lib n_parse_Parser_Shut [.ptr b 0] H Q := by
  obtain ⟨kv, hb, _⟩ := hA
  unfold psC at hb
  refine Eo.code at_parse_Parser_Shut rfl ?_
  repeat (first | ((first | apply Xk.sAny | apply Xk.tAny); (case hok => rfl); (case h => intro C hC; simp (disch := omega) only [w1, ↓reduceIte, Nat.reduceEqDiff, Nat.reduceLeDiff, Nat.reduceAdd, Nat.reduceSub, hb]; with_reducible exact hC); refine gc ?_) | refine gm ?_)
  exact hQ
theorem Left_ev (H : Heap) (b : Nat) (p : PS) (hA : AtP H b p) (Q : AV → Heap → Prop) (hQ : Q (.int .i64 (.ofNat p.left.length)) H) : Eo lib n_parse_Parser_Left [.ptr b 0] H Q := by
  obtain ⟨kv, hb, _⟩ := hA
  unfold psC at hb
  refine Eo.code at_parse_Parser_Left rfl ?_
  repeat (first | ((first | apply Xk.sAny | apply Xk.tAny); (case hok => rfl); (case h => intro C hC; simp (disch := omega) only [w1, ↓reduceIte, Nat.reduceEqDiff, Nat.reduceLeDiff, Nat.reduceAdd, Nat.reduceSub, hb]; with_reducible exact hC); refine gc ?_) | refine gm ?_)
  exact hQ
theorem AtP.mono {H H' : Heap} {b : Nat} {p : PS} (h : AtP H b p) (hle : HLe H H') : AtP H' b p :=
  let ⟨kv, a, c, d⟩ := h; ⟨kv, hle _ _ a, c.mono hle, d⟩
/-- all blocks but b stay -/
def KeepB (b : Nat) (H H' : Heap) : Prop := ∀ c y, c ≠ b → H.get c = some y → H'.get c = some y
theorem AtP.keepP {H H' : Heap} {b r : Nat} {p q : PS} (h : AtP H r q) (hr : AtP H b p) (hne : r ≠ b) (hk : KeepB b H H') : AtP H' r q := by
  obtain ⟨kv, a, c, d⟩ := h
  obtain ⟨kr, ar, _⟩ := hr
  exact ⟨kv, hk _ _ hne a, key_keepb c ar (psC_keys _ _ _) hk, d⟩
theorem hle_keepB {H0 H H' : Heap} {b : Nat} (h : HLe H0 H) (hb : H0.get b = none) (hk : KeepB b H H') : HLe H0 H' :=
  fun c y hc => hk c y (by intro e; subst e; rw [hb] at hc; cases hc) (h c y hc)
theorem Evs.keepP {H0 H H' : Heap} {b : Nat} {p : PS} {v : AV} {es : List Ev} {cs : List AV} (h1 : Own H0 H 0 18 v cs) (h2 : EvRows H es cs) (hb0 : ∃ y, H0.get b = some y) (hb : AtP H b p) (hk : KeepB b H H') : Evs H' v es := by
  obtain ⟨kv, a, _⟩ := hb
  obtain ⟨y, hy⟩ := hb0
  exact ⟨cs, own_any (own_keepb h1 hy hk), h2.keepb a (psC_keys _ _ _) hk⟩
theorem eqc_nilp (H : Heap) (b o : Nat) : negIf false (rEqc H (.ptr b o) .nilp) = some (.bool false) := rfl
theorem neqb (q : Bool) : negIf true (eqv .b (.bool q) (.bool q)) = some (.bool false) := by cases q <;> rfl
theorem apart_old {H0 H : Heap} {kv w : AV} {ks : List (List UInt8)} {cs : List AV} (h1 : Own noHeap H0 0 1 kv (strs ks)) (h2 : Own H0 H 0 18 w cs) : Apart kv w := by
  intro c o l z o' l' z' e1 e2
  subst e1; subst e2
  rcases h1 with ⟨h, _⟩ | ⟨c1, len, a1, a2, a3, a4⟩
  · cases h
  rcases h2 with ⟨h, _⟩ | ⟨c2, len2, b1, b2, b3, b4⟩
  · cases h
  cases a1; cases b1
  rw [a3] at b4; cases b4
theorem take_snoc {es : List Ev} {j : Nat} (h : j < es.length) : es.take (j + 1) = es.take j ++ [es.getD j noEv] := by
  rw [List.take_add_one, List.getD_eq_getElem?_getD, List.getElem?_eq_getElem h]
  rfl
theorem run_p0 : runP p0 = ([], p0) := rfl
end Go.Proofs.YtkjmelfgopammaaDoor
