/- Layer 13: the reference's parser: what a call of each comes to. Conditions: none. -/
import Derived.Test.YtkjmelfgopammaaPaF
import Derived.Test.YtkjmelfgopammaaWdL
namespace Go.Proofs.Ytkjmelfgopammaa
open Go.Dp Go.Wd
set_option linter.unusedSimpArgs false
set_option linter.unusedVariables false
set_option maxHeartbeats 2000000
set_option maxRecDepth 4000
attribute [local irreducible] Ex.thnK Ex.inK Ret

theorem rStoring_ev (v : Nat) (H : Heap) (Q : AV → Heap → Prop) (hQ : Q (.bool (decide (3 ≤ v ∧ v ≤ 8))) H) : Eo lib n_depotref9_Storing [.int .i64 (.ofNat v)] H Q := by
  refine Eo.code at_depotref9_Storing rfl ?_
  by_cases h : 3 ≤ v
  · repeat (first | ((first | apply Xk.sAny | apply Xk.tAny); (case hok => rfl); (case h => intro C hC; simp (disch := omega) only [w0, ↓reduceIte, Nat.reduceEqDiff, Nat.reduceLeDiff, Nat.reduceAdd, Nat.reduceSub, h]; with_reducible exact hC); refine gm ?_) | refine gm ?_)
    rw [show decide (3 ≤ v ∧ v ≤ 8) = decide (v ≤ 8) by simp [h]] at hQ
    exact hQ
  · repeat (first | ((first | apply Xk.sAny | apply Xk.tAny); (case hok => rfl); (case h => intro C hC; simp (disch := omega) only [w0, ↓reduceIte, Nat.reduceEqDiff, Nat.reduceLeDiff, Nat.reduceAdd, Nat.reduceSub, h]; with_reducible exact hC); refine gm ?_) | refine gm ?_)
    rw [show decide (3 ≤ v ∧ v ≤ 8) = false by simp [h]] at hQ
    exact hQ
theorem client_ev (s : List UInt8) (H : Heap) (Q : AV → Heap → Prop) (hQ : ∀ H', H'.Ok → HLe H H' → Q (.agg (evC .nils (evAns 13 s))) H') : Eo lib n_depotref9_client [.str s] H Q := by
  refine Eo.ok fun hOk => ?_
  refine Eo.code at_depotref9_client rfl ?_
  repeat (first | ((first | apply Xk.sAny | apply Xk.tAny); (case hok => rfl); (case h => intro C hC; simp (disch := omega) only [w1, ↓reduceIte, Nat.reduceEqDiff, Nat.reduceLeDiff, Nat.reduceAdd, Nat.reduceSub]; with_reducible exact hC); refine gm ?_) | refine gm ?_)
  refine Ret.ret rfl (by simp only [resKs, resK, cond_true, w1, ↓reduceIte, Nat.reduceEqDiff, Nat.reduceLeDiff, Nat.reduceAdd, Nat.reduceSub, pf_depotref9_client]; rfl) rfl ?_
  exact hQ _ (hOk.new _) (HLe.new (hOk _ (Nat.le_refl _)) _)

theorem upTo_lt (c : UInt8) : ∀ (s : List UInt8) (i : Nat), i < upTo c s → s.getD i 0 ≠ c
  | [], i, h => by cases h
  | a :: r, i, h => by
    unfold upTo at h
    by_cases e : a = c
    · rw [if_pos e] at h; cases h
    · rw [if_neg e] at h
      cases i with
      | zero => exact e
      | succ i => exact upTo_lt c r i (by omega)
theorem upTo_at (c : UInt8) : ∀ (s : List UInt8), upTo c s < s.length → s.getD (upTo c s) 0 = c
  | [], h => by cases h
  | a :: r, h => by
    unfold upTo at h ⊢
    by_cases e : a = c
    · rw [if_pos e]; exact e
    · rw [if_neg e] at h ⊢
      exact upTo_at c r (by simpa using h)

/-- the reference's parser in its block -/
def rsC (p : PS) (kv : AV) : List AV := [.str p.left, .int .i64 (.ofNat p.asked.verb), kv, .int .i64 (.ofNat p.asked.flags), .int .i64 p.asked.exp, .int .i64 (.ofNat p.asked.bytes), .int .i64 (.ofNat p.asked.cas), .int .u64 (.ofNat p.asked.delta), .bool p.asked.noReply, .str p.asked.data, .int .i64 (.ofNat p.count), .bool (decide (p.at_ = 3)), .bool p.shut]
theorem rsC_keys (p : PS) (kv : AV) (ks : List (List UInt8)) : strs ks ≠ rsC p kv := by
  intro h
  cases ks with
  | nil => cases h
  | cons a r =>
    cases r with
    | nil => cases h
    | cons b r => cases h
def noEv : Ev := ⟨noReq, 0, []⟩
/-- the reference's parser in memory; H0: the memory before -/
structure Ra (H0 H : Heap) (b : Nat) (p : PS) : Prop where
  ok : H.Ok
  old : ∃ y, H0.get b = some y
  keep : ∀ c y, c ≠ b → H0.get c = some y → H.get c = some y
  body : ∃ kv, H.get b = some (.cells (rsC p kv) 1) ∧ Own noHeap H 0 1 kv (strs p.asked.keys) ∧ (kv = .nils ∨ p.asked.keys ≠ [])
theorem Ra.mono {H0 H H' : Heap} {b : Nat} {p : PS} (P : Ra H0 H b p) (hO : H'.Ok) (hle : HLe H H') : Ra H0 H' b p := by
  obtain ⟨kv, hb, hkv, hnn⟩ := P.body
  exact ⟨hO, P.old, fun c y hc h => hle _ _ (P.keep c y hc h), kv, hle _ _ hb, hkv.mono hle, hnn⟩
theorem Ra.set {H0 H : Heap} {b : Nat} {p : PS} (P : Ra H0 H b p) {p' : PS} {kv : AV} (h1 : Own noHeap H 0 1 kv (strs p'.asked.keys)) (h4 : kv = .nils ∨ p'.asked.keys ≠ []) {q : PS} {kq : AV} (hb : H.get b = some (.cells (rsC q kq) 1)) : Ra H0 (H.put b (.cells (rsC p' kv) 1)) b p' :=
  ⟨P.ok.put hb _, P.old, fun c x hc h => by rw [Heap.get_put_ne _ _ _ hc]; exact P.keep c x hc h, kv, Heap.get_put_self _ _ _, key_put hb (rsC_keys _ _) _ h1, h4⟩
/-- a block made since H0 is turned -/
theorem Ra.new {H0 H : Heap} {b : Nat} {p : PS} (P : Ra H0 H b p) {c : Nat} {x : Blk} {l : List AV} {w : Nat} (hc : H.get c = some (.cells l w)) (hl : ∀ ks, strs ks ≠ l) (h0 : H0.get c = none) (hcb : c ≠ b) : Ra H0 (H.put c x) b p := by
  obtain ⟨kv, hb, hkv, hnn⟩ := P.body
  exact ⟨P.ok.put hc _, P.old, fun d y hd h => by rw [Heap.get_put_ne _ _ _ (by intro e; subst e; rw [h0] at h; cases h)]; exact P.keep d y hd h, kv, by rw [Heap.get_put_ne _ _ _ hcb.symm]; exact hb, key_put hc hl _ hkv, hnn⟩

theorem Ra.self {H0 H : Heap} {b : Nat} {p : PS} (P : Ra H0 H b p) : Ra H H b p := by
  obtain ⟨kv, hb, hkv, hnn⟩ := P.body
  exact ⟨P.ok, ⟨_, hb⟩, fun _ _ _ h => h, kv, hb, hkv, hnn⟩
theorem Ra.trans {H0 H H' : Heap} {b : Nat} {p q : PS} (P : Ra H0 H b p) (R : Ra H H' b q) : Ra H0 H' b q := ⟨R.ok, P.old, fun c y hc h => R.keep c y hc (P.keep c y hc h), R.body⟩
/-- an event that the reference tells: its keys -/
def EvOk (H0 H : Heap) (kv : AV) (e : Ev) : Prop := Own noHeap H 0 1 kv (strs e.r.keys) ∧ (kv = .nils ∨ e.r.keys ≠ [] ∨ ∀ c o l z, kv = .sl c o l z → H0.get c = none)
theorem EvOk.old {H0 H H' : Heap} {b : Nat} {p : PS} {kv : AV} {e : Ev} (P : Ra H0 H b p) (h : EvOk H H' kv e) : EvOk H0 H' kv e := by
  refine ⟨h.1, h.2.imp id (Or.imp id fun hf c o l z hc => ?_)⟩
  have h1 := hf c o l z hc
  cases e : H0.get c with
  | none => rfl
  | some y =>
    obtain ⟨kv, hb, hkv, hnn⟩ := P.body
    by_cases hcb : c = b
    · subst hcb; rw [hb] at h1; cases h1
    · rw [P.keep c y hcb e] at h1; cases h1
def evOf (es : List Ev) : Ev := es.headD noEv

theorem zero_keys (e : Ev) (kv : AV) (ks : List (List UInt8)) : strs ks ≠ evC kv e := no_keys_int _ _ _ _
theorem EvOk.nils {H0 H : Heap} {e : Ev} (h : e.r.keys = []) : EvOk H0 H .nils e := ⟨.inl ⟨rfl, by rw [h]; rfl⟩, .inl rfl⟩
theorem Ra.none {H0 H : Heap} {b : Nat} {p : PS} (P : Ra H0 H b p) {c : Nat} (h : H.next ≤ c) : H0.get c = none := by
  obtain ⟨kv, hb, hkv, hnn⟩ := P.body
  have := P.ok.lt hb
  cases e : H0.get c with
  | none => rfl
  | some y => have := P.keep c y (by omega) e; rw [P.ok c h] at this; cases this
/-- the last store: the event into the block of the results -/
theorem Ra.out {H0 H : Heap} {b : Nat} {p : PS} (P : Ra H0 H b p) {c : Nat} {kq : AV} {e : Ev} (hc : H.get c = some (.cells (evC .nils noEv) 1)) (h0 : H0.get c = .none) (hcb : c ≠ b) (h : EvOk H0 H kq e) (x : Blk) : Ra H0 (H.put c x) b p ∧ EvOk H0 (H.put c x) kq e :=
  ⟨P.new hc (fun ks => zero_keys _ _ ks) h0 hcb, key_put hc (fun ks => zero_keys _ _ ks) _ h.1, h.2⟩

theorem rPline_ev (H0 H : Heap) (b : Nat) (p : PS) (s : List UInt8) (hs : s.length < 1000000) (P : Ra H0 H b p) (hp : p.Ok) (hat : p.at_ = 0) (Q : AV → Heap → Prop)
    (hQ : ∀ H' kv, Ra H0 H' b (doLine p s).1 → EvOk H0 H' kv (evOf (doLine p s).2) → Q (.agg (evC kv (evOf (doLine p s).2))) H') : Eo lib n_depotref9_Parser_line [.ptr b 0, .str s] H Q := by
  obtain ⟨a, l, c, asked, sh⟩ := p
  simp only at hat
  subst hat
  obtain ⟨kv, hb, hkv, hnn⟩ := P.body
  have hb0 := hb
  have hltb := P.ok.lt hb
  have hnone := P.none (Nat.le_refl _)
  have hne : H.next ≠ b := by omega
  have hne' : b ≠ H.next := by omega
  refine Eo.code at_depotref9_Parser_line rfl ?_
  repeat (first | ((first | apply Xk.sAny | apply Xk.tAny); (case hok => rfl); (case h => intro C hC; simp (disch := omega) only [w1, ↓reduceIte, Nat.reduceEqDiff, Nat.reduceLeDiff, Nat.reduceAdd, Nat.reduceSub]; with_reducible exact hC); refine gc ?_) | refine gm ?_)
  have hl1 : HLe H (H.new (.cells (evC .nils noEv) 1)) := HLe.new (P.ok _ (Nat.le_refl _)) _
  refine rLine_evO s hs _ _ fun H2 cells hO2 hle2 hrep => ?_
  obtain ⟨kq, rfl, hkq⟩ := hrep
  have hz2 := hle2 _ _ (Heap.get_new_self H (.cells (evC .nils noEv) 1))
  have hlt2 := hO2.lt hz2
  have hb2 := hle2 _ _ (hl1 _ _ hb)
  have hltb2 := hO2.lt hb2
  have hl2 := HLe.new (hO2 _ (Nat.le_refl _)) (.cells (reqC (lineOf s).1.verb kq (lineOf s).1.flags (lineOf s).1.exp (lineOf s).1.bytes (lineOf s).1.cas (lineOf s).1.delta (lineOf s).1.noReply (lineOf s).1.data) 1)
  have P3 := ((P.mono (P.ok.new (.cells (evC .nils noEv) 1)) hl1).mono hO2 hle2).mono (hO2.new _) hl2
  have hz3 := hl2 _ _ hz2
  have hb3 := hl2 _ _ hb2
  have hkv3 := ((hkv.mono hl1).mono hle2).mono hl2
  have hby := lineOf_bytes s
  obtain ⟨q1, q2⟩ := hkq.sc
  have hgn := Heap.get_new_self H2 (.cells (reqC (lineOf s).1.verb kq (lineOf s).1.flags (lineOf s).1.exp (lineOf s).1.bytes (lineOf s).1.cas (lineOf s).1.delta (lineOf s).1.noReply (lineOf s).1.data) 1)
  have hkq3 := own_any (hkq.mono hl2)
  have hfr : ∀ c o l z, kq = .sl c o l z → H0.get c = .none := by
    intro c o l z e
    subst e
    rcases hkq with ⟨h, _⟩ | ⟨c1, len, a1, a2, a3, a4⟩
    · cases h
    cases a1
    cases e : H0.get c with
    | none => rfl
    | some y =>
      by_cases hcb : c = b
      · subst hcb; exact nomatch (hl1 _ _ hb).symm.trans a4
      · exact nomatch (hl1 _ _ (P.keep c y hcb e)).symm.trans a4
  have hkey := fun h0 hs => one_ne (storing_keys (s := s) h0 hs)
  rw [doLine_eq] at hQ
  have hne2 : H.next ≠ H2.next := by omega
  have hne3 : H2.next ≠ H.next := by omega
  have hne4 : b ≠ H2.next := by omega
  have hne5 : H2.next ≠ b := by omega
  have hz3' := hz3
  have hb3' := hb3
  unfold reqC at hb3 hgn hz3 hkq3 P3 hkv3 hz3' hb3'
  unfold evC noEv noReq reqC at hz3
  unfold rsC at hb3
  simp only [List.cons_append, List.nil_append] at hz3
  unfold reqC
  generalize hr : (lineOf s).1 = r at *
  by_cases c4 : (lineOf s).2 = 4
  · rw [if_pos c4] at hQ
    repeat (first | ((first | apply Xk.sAny | apply Xk.tAny); (case hok => rfl); (case h => intro C hC; simp (disch := omega) only [w1, ↓reduceIte, Nat.reduceEqDiff, Nat.reduceLeDiff, Nat.reduceAdd, Nat.reduceSub, q1, q2, c4, hz3]; with_reducible exact hC); refine gc ?_) | refine gm ?_)
    refine Ret.ret rfl (by simp only [resKs, resK, cond_true, w1, ↓reduceIte, Nat.reduceEqDiff, Nat.reduceLeDiff, Nat.reduceAdd, Nat.reduceSub, pf_depotref9_Parser_line, hz3]; rfl) rfl ?_
    obtain ⟨u1, u2⟩ := P3.out hz3' hnone hne (kq := .nils) (e := evAns 12 []) (EvOk.nils rfl) (.cells (evC .nils (evAns 12 [])) 1)
    exact hQ _ .nils u1 u2
  rw [if_neg c4] at hQ
  by_cases c0 : (lineOf s).2 = 0
  case neg =>
    rw [if_pos c0] at hQ
    repeat (first | ((first | apply Xk.sAny | apply Xk.tAny); (case hok => rfl); (case h => intro C hC; simp (disch := omega) only [w1, ↓reduceIte, Nat.reduceEqDiff, Nat.reduceLeDiff, Nat.reduceAdd, Nat.reduceSub, q1, q2, c4, c0]; with_reducible exact hC); refine gc ?_) | refine gm ?_)
    refine client_ev _ _ _ fun H4 hO4 hle4 => ?_
    have hz4 := hle4 _ _ hz3
    have hz4' := hle4 _ _ hz3'
    obtain ⟨u1, u2⟩ := (P3.mono hO4 hle4).out hz4' hnone hne (kq := .nils) (e := evAns 13 badLine) (EvOk.nils rfl) (.cells (evC .nils (evAns 13 badLine)) 1)
    repeat (first | ((first | apply Xk.sAny | apply Xk.tAny); (case hok => rfl); (case h => intro C hC; simp (disch := omega) only [w1, ↓reduceIte, Nat.reduceEqDiff, Nat.reduceLeDiff, Nat.reduceAdd, Nat.reduceSub, hz4, evC, evAns, noReq, reqC]; with_reducible exact hC); refine gc ?_) | refine gm ?_)
    refine Ret.ret rfl (by simp only [resKs, resK, cond_true, w1, ↓reduceIte, Nat.reduceEqDiff, Nat.reduceLeDiff, Nat.reduceAdd, Nat.reduceSub, pf_depotref9_Parser_line, hz4]; rfl) rfl ?_
    exact hQ _ .nils u1 u2
  rw [if_neg (by omega)] at hQ
  by_cases c17 : r.verb = 17
  · rw [if_pos c17] at hQ
    have c17' := eq_true c17
    repeat (first | ((first | apply Xk.sAny | apply Xk.tAny); (case hok => rfl); (case h => intro C hC; simp (disch := omega) only [w1, ↓reduceIte, Nat.reduceEqDiff, Nat.reduceLeDiff, Nat.reduceAdd, Nat.reduceSub, q1, q2, c4, c0, c17', hb3, hz3, hne, hne']; with_reducible exact hC); refine gc ?_) | refine gm ?_)
    refine Ret.ret rfl (by simp only [resKs, resK, cond_true, w1, ↓reduceIte, Nat.reduceEqDiff, Nat.reduceLeDiff, Nat.reduceAdd, Nat.reduceSub, pf_depotref9_Parser_line, hz3]; rfl) rfl ?_
    have P4 := P3.set (p' := ⟨0, [], c, asked, true⟩) hkv3 hnn hb3'
    obtain ⟨u1, u2⟩ := P4.out ((Heap.get_put_ne _ _ _ hne).trans hz3') hnone hne (kq := .nils) (e := evAns 15 []) (EvOk.nils rfl) (.cells (evC .nils (evAns 15 [])) 1)
    exact hQ _ .nils u1 u2
  rw [if_neg c17] at hQ
  repeat (first | ((first | apply Xk.sAny | apply Xk.tAny); (case hok => rfl); (case h => intro C hC; simp (disch := omega) only [w1, ↓reduceIte, Nat.reduceEqDiff, Nat.reduceLeDiff, Nat.reduceAdd, Nat.reduceSub, q1, q2, c4, c0, c17]; with_reducible exact hC); refine gc ?_) | refine gm ?_)
  refine rStoring_ev _ _ _ ?_
  by_cases hst : 3 ≤ r.verb ∧ r.verb ≤ 8
  case neg =>
    have hst' : storing r.verb = false := decide_eq_false hst
    rw [if_neg (by rw [hst']; simp), if_neg (by rw [hst']; simp)] at hQ
    rw [decide_eq_false hst]
    repeat (first | ((first | apply Xk.sAny | apply Xk.tAny); (case hok => rfl); (case h => intro C hC; simp (disch := omega) only [w1, ↓reduceIte, Nat.reduceEqDiff, Nat.reduceLeDiff, Nat.reduceAdd, Nat.reduceSub, q1, q2, hgn]; with_reducible exact hC); refine gc ?_) | refine gm ?_)
    refine rStoring_ev _ _ _ ?_
    rw [decide_eq_false hst]
    repeat (first | ((first | apply Xk.sAny | apply Xk.tAny); (case hok => rfl); (case h => intro C hC; simp (disch := omega) only [w1, ↓reduceIte, Nat.reduceEqDiff, Nat.reduceLeDiff, Nat.reduceAdd, Nat.reduceSub, q1, q2, hgn, hz3, hne, hne', hne2]; with_reducible exact hC); refine gc ?_) | refine gm ?_)
    refine Ret.ret rfl (by simp only [resKs, resK, cond_true, w1, ↓reduceIte, Nat.reduceEqDiff, Nat.reduceLeDiff, Nat.reduceAdd, Nat.reduceSub, pf_depotref9_Parser_line, hz3]; rfl) rfl ?_
    obtain ⟨u1, u2⟩ := P3.out hz3' hnone hne (kq := kq) (e := evReq r) ⟨hkq3, .inr (.inr hfr)⟩ (.cells (evC kq (evReq r)) 1)
    exact hQ _ kq u1 u2
  have hst' : storing r.verb = true := decide_eq_true hst
  rw [decide_eq_true hst]
  by_cases hbig : 1048576 < r.bytes
  · rw [if_pos ⟨hst', hbig⟩] at hQ
    have hbig' := eq_true hbig
    have P4 := P3.set (p' := ⟨2, l, r.bytes + 2, asked, sh⟩) hkv3 hnn hb3'
    cases hnr : r.noReply with
    | true =>
      rw [hnr] at hb3 hgn hb3' hz3 hz3' P4 hQ
      obtain ⟨u1, u2⟩ := P4.out ((Heap.get_put_ne _ _ _ hne).trans hz3') hnone hne (kq := .nils) (e := noEv) (EvOk.nils rfl) (.cells (evC .nils noEv) 1)
      repeat (first | ((first | apply Xk.sAny | apply Xk.tAny); (case hok => rfl); (case h => intro C hC; simp (disch := omega) only [w1, ↓reduceIte, Nat.reduceEqDiff, Nat.reduceLeDiff, Nat.reduceAdd, Nat.reduceSub, q1, q2, hgn, hbig', hb3, hne, hne', hz3]; with_reducible exact hC); refine gc ?_) | refine gm ?_)
      refine Ret.ret rfl (by simp only [resKs, resK, cond_true, w1, ↓reduceIte, Nat.reduceEqDiff, Nat.reduceLeDiff, Nat.reduceAdd, Nat.reduceSub, pf_depotref9_Parser_line, hz3]; rfl) rfl ?_
      exact hQ _ .nils u1 u2
    | false =>
      rw [hnr] at hb3 hgn hb3' hz3 hz3' P4 hQ
      obtain ⟨u1, u2⟩ := P4.out ((Heap.get_put_ne _ _ _ hne).trans hz3') hnone hne (kq := .nils) (e := evAns 14 tooLarge) (EvOk.nils rfl) (.cells (evC .nils (evAns 14 tooLarge)) 1)
      repeat (first | ((first | apply Xk.sAny | apply Xk.tAny); (case hok => rfl); (case h => intro C hC; simp (disch := omega) only [w1, ↓reduceIte, Nat.reduceEqDiff, Nat.reduceLeDiff, Nat.reduceAdd, Nat.reduceSub, q1, q2, hgn, hbig', hb3, hne, hne', hz3]; with_reducible exact hC); refine gc ?_) | refine gm ?_)
      refine Ret.ret rfl (by simp only [resKs, resK, cond_true, w1, ↓reduceIte, Nat.reduceEqDiff, Nat.reduceLeDiff, Nat.reduceAdd, Nat.reduceSub, pf_depotref9_Parser_line, hz3]; rfl) rfl ?_
      exact hQ _ .nils u1 u2
  · rw [if_neg (fun h => hbig h.2), if_pos hst'] at hQ
    have hbig' := eq_false hbig
    repeat (first | ((first | apply Xk.sAny | apply Xk.tAny); (case hok => rfl); (case h => intro C hC; simp (disch := omega) only [w1, ↓reduceIte, Nat.reduceEqDiff, Nat.reduceLeDiff, Nat.reduceAdd, Nat.reduceSub, q1, q2, hgn, hbig']; with_reducible exact hC); refine gc ?_) | refine gm ?_)
    refine rStoring_ev _ _ _ ?_
    rw [decide_eq_true hst]
    have P4 := P3.set (p' := ⟨1, l, c, r, sh⟩) hkq3 (.inr (hkey c0 hst')) hb3'
    obtain ⟨u1, u2⟩ := P4.out ((Heap.get_put_ne _ _ _ hne).trans hz3') hnone hne (kq := .nils) (e := noEv) (EvOk.nils rfl) (.cells (evC .nils noEv) 1)
    repeat (first | ((first | apply Xk.sAny | apply Xk.tAny); (case hok => rfl); (case h => intro C hC; simp (disch := omega) only [w1, ↓reduceIte, Nat.reduceEqDiff, Nat.reduceLeDiff, Nat.reduceAdd, Nat.reduceSub, q1, q2, hgn, hbig', hb3, hne, hne', hz3]; with_reducible exact hC); refine gc ?_) | refine gm ?_)
    refine Ret.ret rfl (by simp only [resKs, resK, cond_true, w1, ↓reduceIte, Nat.reduceEqDiff, Nat.reduceLeDiff, Nat.reduceAdd, Nat.reduceSub, pf_depotref9_Parser_line, hz3]; rfl) rfl ?_
    exact hQ _ .nils u1 u2
end Go.Proofs.Ytkjmelfgopammaa
