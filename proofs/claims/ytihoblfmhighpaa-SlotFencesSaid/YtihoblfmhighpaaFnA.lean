/- Layer 17: the law SlotFences, over the clean machine. Conditions: none. -/
import Derived.Test.YtihoblfmhighpaaVrP
import Derived.Test.YtihoblfmhighpaaSlX
import Derived.Test.YtihoblfmhighpaaWdU
namespace Go.Proofs.Ytihoblfmhighpaa
open Go.Dp
set_option linter.unusedSimpArgs false
set_option linter.unusedVariables false
set_option maxHeartbeats 400000
set_option maxRecDepth 8000
attribute [local irreducible] Ex.thnK Ex.inK Ret

/-- a call asked for -/
structure Ak where
  w : Bool
  f : Fr
def Ak.cells (x : Ak) : List AV := .bool x.w :: x.f.cells
def aks (l : List Ak) : List AV := l.flatMap Ak.cells
def noAk : Ak := ⟨false, noFr⟩
theorem aks_len (l : List Ak) : (aks l).length = l.length * 10 := fm_len (g := Ak.cells) (fun _ => rfl) l
theorem aks_drop : ∀ (l : List Ak) (i : Nat), (aks l).drop (i * 10) = aks (l.drop i)
  | l, 0 => by rw [Nat.zero_mul]; rfl
  | [], i + 1 => by simp [aks]
  | a :: l, i + 1 => by
    show (a.cells ++ aks l).drop ((i + 1) * 10) = aks (l.drop i)
    have e : a.cells.length = 10 := rfl
    rw [List.drop_append, List.drop_eq_nil_of_le (by omega), e, show (i + 1) * 10 - 10 = i * 10 by omega, aks_drop l i]
    rfl
theorem ask_at {H : Heap} {v : AV} {l : List Ak} (h : Sl H 10 v (aks l)) {i : Nat} (hi : i < l.length) :
    ∃ b o cl k, v = .sl b o l.length 10 ∧ H.get b = some (.cells cl k) ∧ o + i * 10 + 10 ≤ cl.length ∧ o + i * 10 + 1 + 9 ≤ cl.length ∧ (cl.drop (o + i * 10 + 1)).take 9 = (l.getD i noAk).f.cells := by
  rcases h with ⟨_, h2⟩ | ⟨b, o, len, cl, k, rest, rfl, h2, h3, h4, h5⟩
  · have := aks_len l
    rw [h2] at this
    have : (0 : Nat) = l.length * 10 := this
    omega
  · rw [aks_len] at h2
    have h2 : l.length = len := by omega
    subst h2
    have hl : cl.length - o = l.length * 10 + rest.length := by rw [← List.length_drop, h5, List.length_append, aks_len]
    refine ⟨b, o, cl, k, rfl, h3, by omega, by omega, ?_⟩
    rw [show o + i * 10 + 1 = o + (i * 10 + 1) by omega, ← List.drop_drop, h5, List.drop_append_of_le_length (by rw [aks_len]; omega), ← List.drop_drop, aks_drop, List.drop_eq_getElem_cons hi, List.getD_eq_getElem?_getD, List.getElem?_eq_getElem hi]
    show ((((l[i]).cells ++ aks (l.drop (i + 1))).drop 1) ++ rest).take 9 = l[i].f.cells
    show ((l[i].f.cells ++ aks (l.drop (i + 1))) ++ rest).take 9 = l[i].f.cells
    rw [List.append_assoc]
    exact List.take_left' rfl
theorem aks_lens {H : Heap} {v : AV} {l : List Ak} (h : Sl H 10 v (aks l)) : rLensl v = some (.int .i64 (.ofNat l.length)) ∧ v.isSc = true ∧ v.cells = [v] := by
  have hl := aks_len l
  rcases h with ⟨rfl, h2⟩ | ⟨b, o, len, cl, w, rest, rfl, h2, _⟩
  · rw [h2] at hl
    have hl : (0 : Nat) = l.length * 10 := hl
    have : l.length = 0 := by omega
    rw [this]
    exact ⟨rfl, rfl, rfl⟩
  · have : l.length = len := by omega
    rw [this]
    exact ⟨rfl, rfl, rfl⟩
/-- one thing is kept -/
theorem one_len {st : St} (ok : st.Ok) {n t : List UInt8} (h : ∀ k, st.look k = if n = k then some t else none) : st.l.length = 1 := by
  have hk := ok.ky
  have each : ∀ x ∈ st.l, x.key = n := fun x hx => by
    obtain ⟨pre, post, e⟩ := List.append_of_mem hx
    have h1 := look_at ok e
    rw [h] at h1
    split at h1
    · rename_i q; exact q.symm
    · cases h1
  have hn := h n
  rw [if_pos rfl] at hn
  match hl : st.l with
  | [] => unfold St.look at hn; rw [hl] at hn; cases hn
  | [_] => rfl
  | x :: y :: r =>
    rw [hl] at hk each
    have e1 := each x (List.mem_cons_self ..)
    have e2 := each y (List.mem_cons_of_mem _ (List.mem_cons_self ..))
    rw [List.map_cons, List.map_cons, List.nodup_cons] at hk
    exact absurd (by rw [e1, e2]; exact List.mem_cons_self ..) hk.1

theorem light_ev (f : Fr) (h1 : f.key.length ≤ 281474976710656) (h2 : f.data.length ≤ 281474976710656) (H : Heap) (Q : AV → Heap → Prop) (hQ : ∀ H', H'.Ok → HLe H H' → Q (.bool (decide (f.key.length + f.data.length < 2000))) H') : Eo lib n_depotlaw17_light [.agg f.cells] H Q := by
  refine Eo.ok fun hOk => ?_
  refine Eo.code at_depotlaw17_light rfl ?_
  have hbx := box_fr f
  have hfc : f.cells = [.int .i64 f.kind, .int .i64 f.slot, .int .i64 f.inc, .int .i64 f.rid, .int .i64 f.floor, .int .i64 f.role, .str f.key, .int .i64 f.ver, .str f.data] := rfl
  have hO := hOk.new (.cells f.cells 1)
  have hle := HLe.new (hOk _ (Nat.le_refl _)) (.cells f.cells 1)
  rw [hfc] at hbx hO hle
  rw [hfc]
  repeat (first | ((first | apply Xk.sAny | apply Xk.tAny); (case hok => rfl); (case h => intro C hC; simp (disch := omega) only [w1, ↓reduceIte, Nat.reduceEqDiff, Nat.reduceLeDiff, Nat.reduceAdd, Nat.reduceSub, hbx]; with_reducible exact hC); refine gc ?_) | refine gm ?_)
  repeat (first | ((first | apply Xk.sAny | apply Xk.tAny); (case hok => rfl); (case h => intro C hC; simp (disch := omega) only [w1, ↓reduceIte, Nat.reduceEqDiff, Nat.reduceLeDiff, Nat.reduceAdd, Nat.reduceSub, hbx]; with_reducible exact hC); refine gc ?_) | refine gm ?_)
  exact hQ _ hO hle
theorem SRuns_ev (H : Heap) (Q : AV → Heap → Prop) (hQ : Q (.bool true) H) : Eo lib n_depotlaw17_SlotRuns [] H Q := Eo.runs rfl hQ
/-- the law's own steps: the arguments stay -/
abbrev OL : Tg → Prop := fun u => u.1 ≠ 1
theorem ol7 {u : Tg} (h : O7 10 u) : OL u := by have := h.1; show u.1 ≠ 1; omega
theorem ol0 {u : Tg} (h : u.1 = 0) : OL u := by show u.1 ≠ 1; omega
theorem n70 {a b : Nat} : ¬ O7 10 ((0 : Nat), a, b) := by rintro ⟨h, _⟩; dsimp only at h; omega
theorem nK0 {a b : Nat} {t : Tg} (h : Ok4 10 t) : ¬ t = ((0 : Nat), a, b) := by rintro rfl; have := h.1; dsimp only at this; omega
theorem hle_stp {H H' : Heap} {T' : Tags} (s : Stp OL (fun _ => ((1, 0, 0) : Tg)) H T' H') : HLe H H' := fun b y hb => s.kp b y hb (fun h => h rfl)
/-- the slot of this law -/
abbrev sf (fl : Int) (st : St) (dn : List Dd) : Sw := ⟨.ofNat 1, 4, 1024, true, .ofNat 3, fl, st, dn⟩
theorem sf_rt (fl : Int) (st : St) (dn : List Dd) : (sf fl st dn).Rt := ⟨by show 1 ≤ 4; decide, by show 4 ≤ 64; decide, by show 64 ≤ 1024; decide, by show 1024 ≤ 65536; decide⟩
theorem fit1 {n : Nat} (hn : n ≤ 64) : Fit 1024 1 0 (szs 1024 64) n := by
  have e : szs 1024 64 = 64 :: szs 1024 128 := by rw [szs, dif_pos (by decide)]
  refine ⟨0, by decide, ?_, ?_⟩
  · rw [e]
    show (if n ≤ 64 then some 0 else _) = _
    rw [if_pos hn]
  · rw [e]; decide
def pF : Fr := reqF 1 (.ofNat 50) 1 [107] (.ofNat 1) [118]
def hF : Fr := ⟨.ofNat 2, .ofNat 1, .ofNat 3, .ofNat 60, .ofNat 60, .ofNat 1, [107], .ofNat 0, []⟩
def gF (r : Nat) : Fr := reqF 2 (.ofNat r) 1 [107] (.ofNat 0) []
def kn : List UInt8 := [109, 107]
theorem kept {st st' : St} (h : ∀ k, st.look k = if kn = k then some (verB (.ofNat 1) [118]) else none) (h2 : ∀ k, st'.look k = st.look k) : ∀ k, st'.look k = if kn = k then some (verB (.ofNat 1) [118]) else none := fun k => (h2 k).trans (h k)

theorem Fences_law (vl : AV) (l : List Ak) (vi : AV) (is : List Int) (H : Heap) (hvl : Sl H 10 vl (aks l)) (hll : l.length < 9223372036854775808) (hf : ∀ x ∈ l, x.f.key.length ≤ 281474976710656 ∧ x.f.data.length ≤ 281474976710656)
    (hvi : Sl H 1 vi (is.map (.int .i64))) (hil : is.length < 9223372036854775808) : Eo lib n_depotlaw17_SlotFences [vl, vi] H fun v _ => v = .bool true := by
  refine Eo.ok fun hOk => ?_
  refine Eo.code at_depotlaw17_SlotFences rfl ?_
  repeat (first | ((first | apply Xk.sAny | apply Xk.tAny); (case hok => rfl); (case h => intro C hC; simp (disch := omega) only [w1, ↓reduceIte, Nat.reduceEqDiff, Nat.reduceLeDiff, Nat.reduceAdd, Nat.reduceSub]; with_reducible exact hC); refine gc ?_) | refine gm ?_)
  repeat (first | ((first | apply Xk.sAny | apply Xk.tAny); (case hok => rfl); (case h => intro C hC; simp (disch := omega) only [w1, ↓reduceIte, Nat.reduceEqDiff, Nat.reduceLeDiff, Nat.reduceAdd, Nat.reduceSub]; with_reducible exact hC); refine gc ?_) | refine gm ?_)
  refine slNew_ev 10 (fun _ => (1, 0, 0)) H 1 4 1024 (by decide) (by decide) (by decide) (by decide) (by decide) _ fun p T1 H1 s1 W1 => ?_
  have epn : negIf false (rEqc H1 (.ptr p 0) .nilp) = some (.bool false) := rfl
  repeat (first | ((first | apply Xk.sAny | apply Xk.tAny); (case hok => rfl); (case h => intro C hC; simp (disch := omega) only [w1, ↓reduceIte, Nat.reduceEqDiff, Nat.reduceLeDiff, Nat.reduceAdd, Nat.reduceSub, epn, eq_self]; with_reducible exact hC); refine gc ?_) | refine gm ?_)
  repeat (first | ((first | apply Xk.sAny | apply Xk.tAny); (case hok => rfl); (case h => intro C hC; simp (disch := omega) only [w1, ↓reduceIte, Nat.reduceEqDiff, Nat.reduceLeDiff, Nat.reduceAdd, Nat.reduceSub, epn, eq_self]; with_reducible exact hC); refine gc ?_) | refine gm ?_)
  refine ask_ev 5 (.ofNat 1) [] [] (.ofNat 0) H1 _ fun H2 hO2 hle2 => ?_
  have s2 : Stp (fun _ => False) T1 H1 T1 H2 := Stp.le hO2 hle2
  have W2 := W1.step s2 (fun _ _ h => h)
  repeat (first | ((first | apply Xk.sAny | apply Xk.tAny); (case hok => rfl); (case h => intro C hC; simp (disch := omega) only [w1, ↓reduceIte, Nat.reduceEqDiff, Nat.reduceLeDiff, Nat.reduceAdd, Nat.reduceSub]; with_reducible exact hC); refine gc ?_) | refine gm ?_)
  refine Take_reset_ev 10 T1 H2 p _ W2 (askF 5 (.ofNat 1) [] [] (.ofNat 0)) ⟨by decide, by decide, by decide, by decide⟩ (by decide) rfl rfl (by decide) _ fun T3 H3 s3 W3 => ?_
  have W3 : SW 10 T3 H3 p (sf (.ofNat 0) (newSt 4 1024) []) := W3
  have st3 : Stp OL (fun _ => (1, 0, 0)) H T3 H3 := ((s1.mono fun u h => ol7 h).trans (s2.mono fun _ h => h.elim)).trans (s3.mono fun u h => ol7 h)
  clear s1 W1 s2 W2 s3 hle2 hO2 epn
  repeat (first | ((first | apply Xk.sAny | apply Xk.tAny); (case hok => rfl); (case h => intro C hC; simp (disch := omega) only [w1, ↓reduceIte, Nat.reduceEqDiff, Nat.reduceLeDiff, Nat.reduceAdd, Nat.reduceSub]; with_reducible exact hC); refine gc ?_) | refine gm ?_)
  repeat (first | ((first | apply Xk.sAny | apply Xk.tAny); (case hok => rfl); (case h => intro C hC; simp (disch := omega) only [w1, ↓reduceIte, Nat.reduceEqDiff, Nat.reduceLeDiff, Nat.reduceAdd, Nat.reduceSub]; with_reducible exact hC); refine gc ?_) | refine gm ?_)
  refine ask_ev 1 (.ofNat 50) [107] [118] (.ofNat 1) H3 _ fun H4 hO4 hle4 => ?_
  have s4 : Stp (fun _ => False) T3 H3 T3 H4 := Stp.le hO4 hle4
  have W4 := W3.step s4 (fun _ _ h => h)
  have hpF : LR pF := reqF_lr (.inl rfl) (.inl rfl) (by decide) (by decide) (by decide) (by decide) (by decide) (by decide)
  have hn1 := nameB_len pF hpF.ok.v1 hpF.ok.v2
  have hn2 := verB_len pF.ver pF.data hpF.ok.v1 hpF.ok.v2
  have hn3 : pF.key.length = 1 := rfl
  have hn4 : pF.data.length = 1 := rfl
  repeat (first | ((first | apply Xk.sAny | apply Xk.tAny); (case hok => rfl); (case h => intro C hC; simp (disch := omega) only [w1, ↓reduceIte, Nat.reduceEqDiff, Nat.reduceLeDiff, Nat.reduceAdd, Nat.reduceSub]; with_reducible exact hC); refine gc ?_) | refine gm ?_)
  rw [askF_req _ _ _ _ (by decide)]
  refine Take_req_ev 10 T3 H4 p _ W4 pF (by decide) (by decide) (by decide) rfl rfl rfl (by decide) (by decide) (Nat.zero_le _) (fun a st' => KP 1024 4 1 1 (szs 1024 64) st' ∧ ∀ k, st'.look k = if kn = k then some (verB (.ofNat 1) [118]) else none)
    (fun T' H' Q' W hQ => doPut_ev 10 T' H' p _ W (KP.new (m := 1)) (by decide) pF hpF.ok rfl (by decide) (fit1 (by omega)) Q' (fun v d st' T2 H2 h1 => by cases h1) (fun st' T2 H2 _ h4 h5 st W2 => hQ _ st' T2 H2 ⟨h4, h5⟩ st W2)) _
    (fun d pre post e => by cases pre <;> cases e) (fun _ a5 st5 T5 H5 hR5 s5 W5 => ?_)
  obtain ⟨hK5, hL5⟩ := hR5
  have W5 : SW 10 T5 H5 p (sf (.ofNat 0) st5 [⟨.ofNat 50, a5⟩]) := W5
  have t5 : Stp OL (fun _ => (1, 0, 0)) H T5 H5 := (st3.trans (s4.mono fun _ h => h.elim)).trans (s5.mono fun u h => ol7 h)
  clear st3 s4 W4 W3 s5 hle4 hO4
  repeat (first | ((first | apply Xk.sAny | apply Xk.tAny); (case hok => rfl); (case h => intro C hC; simp (disch := omega) only [w1, ↓reduceIte, Nat.reduceEqDiff, Nat.reduceLeDiff, Nat.reduceAdd, Nat.reduceSub]; with_reducible exact hC); refine gc ?_) | refine gm ?_)
  repeat (first | ((first | apply Xk.sAny | apply Xk.tAny); (case hok => rfl); (case h => intro C hC; simp (disch := omega) only [w1, ↓reduceIte, Nat.reduceEqDiff, Nat.reduceLeDiff, Nat.reduceAdd, Nat.reduceSub]; with_reducible exact hC); refine gc ?_) | refine gm ?_)
  refine ask_ev 2 (.ofNat 60) [107] [] (.ofNat 0) H5 _ fun H6 hO6 hle6 => ?_
  have s6 : Stp (fun _ => False) T5 H5 T5 H6 := Stp.le hO6 hle6
  have W6 := W5.step s6 (fun _ _ h => h)
  show Xk lib _ _ (kput _ _ (.agg [.int .i64 (.ofNat 2), .int .i64 (.ofNat 1), .int .i64 (.ofNat 3), .int .i64 (.ofNat 60), .int .i64 (.ofNat 0), .int .i64 (.ofNat 1), .str [107], .int .i64 (.ofNat 0), .str []])) H6 _
  obtain ⟨T7, s7, a7⟩ := new1 (T := T5) hO6 (0, 1, 0) (.cells hF.cells 1)
  have hF7 : hF.cells = [.int .i64 (.ofNat 2), .int .i64 (.ofNat 1), .int .i64 (.ofNat 3), .int .i64 (.ofNat 60), .int .i64 (.ofNat 60), .int .i64 (.ofNat 1), .str [107], .int .i64 (.ofNat 0), .str []] := rfl
  rw [hF7] at a7 s7
  have hg7 := a7.1
  repeat (first | ((first | apply Xk.sAny | apply Xk.tAny); (case hok => rfl); (case h => intro C hC; simp (disch := omega) only [w1, ↓reduceIte, Nat.reduceEqDiff, Nat.reduceLeDiff, Nat.reduceAdd, Nat.reduceSub]; with_reducible exact hC); refine gc ?_) | refine gm ?_)
  repeat (first | ((first | apply Xk.sAny | apply Xk.tAny); (case hok => rfl); (case h => intro C hC; simp (disch := omega) only [w1, ↓reduceIte, Nat.reduceEqDiff, Nat.reduceLeDiff, Nat.reduceAdd, Nat.reduceSub, hg7]; with_reducible exact hC); refine gc ?_) | refine gm ?_)
  repeat (first | ((first | apply Xk.sAny | apply Xk.tAny); (case hok => rfl); (case h => intro C hC; simp (disch := omega) only [w1, ↓reduceIte, Nat.reduceEqDiff, Nat.reduceLeDiff, Nat.reduceAdd, Nat.reduceSub, hg7]; with_reducible exact hC); refine gc ?_) | refine gm ?_)
  have W7 := W6.step s7 (fun _ _ h => h)
  have t7 := (t5.trans (s6.mono fun _ h => h.elim)).trans (s7.mono fun _ h => h.elim)
  generalize H6.new (.cells [.int .i64 (.ofNat 2), .int .i64 (.ofNat 1), .int .i64 (.ofNat 3), .int .i64 (.ofNat 60), .int .i64 (.ofNat 60), .int .i64 (.ofNat 1), .str [107], .int .i64 (.ofNat 0), .str []] 1) = H7 at s7 a7 hg7 W7 t7 ⊢
  refine Take_rise_ev 10 T7 H7 p _ W7 hF (by decide) (by decide) (by decide) rfl rfl rfl (by show ¬ (Int.ofNat 60 < Int.ofNat 0); decide) (by show Int.ofNat 0 < Int.ofNat 60; decide) (by decide) ⟨.ofNat 50, a5⟩ rfl (by show Int.ofNat 50 < Int.ofNat 60; decide) (sf (.ofNat 60) st5 []) rfl (fun a st' => KP 1024 4 1 1 (szs 1024 64) st' ∧ ∀ k, st'.look k = st5.look k)
    (fun T' H' Q' W hQ => doGet_ev 10 T' H' p _ W hK5 (by decide) hF ⟨by decide, by decide, by decide, by decide⟩ rfl Q' fun v d st' T2 H2 _ h4 h5 st W2 => hQ _ st' T2 H2 ⟨h4, h5⟩ st W2) _ (fun a8 st8 T8 H8 hR8 s8 W8 => ?_)
  obtain ⟨hK8, hL8⟩ := hR8
  have hL8 := kept hL5 hL8
  have W8 : SW 10 T8 H8 p (sf (.ofNat 60) st8 [⟨.ofNat 60, a8⟩]) := W8
  have t8 := t7.trans (s8.mono fun u h => ol7 h)
  clear t5 s6 W6 W5 s7 a7 hg7 t7 W7 s8 hle6 hO6 hL5 hK5
  obtain ⟨k1, k2, k3⟩ := aks_lens hvl
  obtain ⟨j1, j2, j3⟩ := int_len hvi
  repeat (first | ((first | apply Xk.sAny | apply Xk.tAny); (case hok => rfl); (case h => intro C hC; simp (disch := omega) only [w1, ↓reduceIte, Nat.reduceEqDiff, Nat.reduceLeDiff, Nat.reduceAdd, Nat.reduceSub]; with_reducible exact hC); refine gc ?_) | refine gm ?_)
  repeat (first | ((first | apply Xk.sAny | apply Xk.tAny); (case hok => rfl); (case h => intro C hC; simp (disch := omega) only [w1, ↓reduceIte, Nat.reduceEqDiff, Nat.reduceLeDiff, Nat.reduceAdd, Nat.reduceSub]; with_reducible exact hC); refine gc ?_) | refine gm ?_)
  refine Xk.iter [0, 1, 5, 8] (fun m k H' => ∃ i T', m = 40 - i ∧ i ≤ 40 ∧ k = [(0, vl), (1, vi), (5, .ptr p 0), (8, .int .i64 (.ofNat i))] ∧ SW 10 T' H' p (sf (.ofNat 60) st8 [⟨.ofNat 60, a8⟩]) ∧ Stp OL (fun _ => (1, 0, 0)) H T' H') rfl
    ⟨_, 0, T8, rfl, by omega, rfl, W8, t8⟩ ?_
  clear W8 t8
  rintro m k H1 ⟨i, T1, rfl, hi, rfl, W1, t1⟩
  unfold l0_depotlaw17_SlotFences
  have hvl1 := hvl.mono (hle_stp t1)
  have hvi1 := hvi.mono (hle_stp t1)
  by_cases c : i < l.length ∧ i < 40
  · obtain ⟨c1, c2⟩ := c
    obtain ⟨b, o, cl, kk, rfl, hgb, e1, e2, e3⟩ := ask_at hvl1 c1
    have hfx := hf (l.getD i noAk) (by rw [List.getD_eq_getElem?_getD, List.getElem?_eq_getElem c1]; exact List.getElem_mem _)
    generalize l.getD i noAk = x at e3 hfx
    have e3 : (cl.drop (o + i * 10 + 1)).take 9 = [.int .i64 x.f.kind, .int .i64 x.f.slot, .int .i64 x.f.inc, .int .i64 x.f.rid, .int .i64 x.f.floor, .int .i64 x.f.role, .str x.f.key, .int .i64 x.f.ver, .str x.f.data] := e3
    repeat (first | ((first | apply Xk.sAny | apply Xk.tAny); (case hok => rfl); (case h => intro C hC; simp (disch := omega) only [w1, ↓reduceIte, Nat.reduceEqDiff, Nat.reduceLeDiff, Nat.reduceAdd, Nat.reduceSub, k1, c1, c2, hgb, e1, e2, e3]; with_reducible exact hC); refine gc ?_) | refine gm ?_)
    repeat (first | ((first | apply Xk.sAny | apply Xk.tAny); (case hok => rfl); (case h => intro C hC; simp (disch := omega) only [w1, ↓reduceIte, Nat.reduceEqDiff, Nat.reduceLeDiff, Nat.reduceAdd, Nat.reduceSub, k1, c1, c2, hgb, e1, e2, e3]; with_reducible exact hC); refine gc ?_) | refine gm ?_)
    repeat (first | ((first | apply Xk.sAny | apply Xk.tAny); (case hok => rfl); (case h => intro C hC; simp (disch := omega) only [w1, ↓reduceIte, Nat.reduceEqDiff, Nat.reduceLeDiff, Nat.reduceAdd, Nat.reduceSub, k1, c1, c2, hgb, e1, e2, e3]; with_reducible exact hC); refine gc ?_) | refine gm ?_)
    obtain ⟨T2, s2, a2⟩ := new1 (T := T1) t1.ok (0, 2, 0) (.cells [.int .i64 x.f.kind, .int .i64 x.f.slot, .int .i64 x.f.inc, .int .i64 x.f.rid, .int .i64 x.f.floor, .int .i64 x.f.role, .str x.f.key, .int .i64 x.f.ver, .str x.f.data] 1)
    have W2 := W1.step s2 (fun _ _ h => h)
    have t2 := t1.trans (s2.mono (P := OL) fun _ h => h.elim)
    generalize H1.new (.cells [.int .i64 x.f.kind, .int .i64 x.f.slot, .int .i64 x.f.inc, .int .i64 x.f.rid, .int .i64 x.f.floor, .int .i64 x.f.role, .str x.f.key, .int .i64 x.f.ver, .str x.f.data] 1) = H2 at s2 a2 W2 t2 ⊢
    generalize H1.next = q at a2 ⊢
    refine light_ev x.f hfx.1 hfx.2 H2 _ fun H3 hO3 hle3 => ?_
    have s3 : Stp (fun _ => False) T2 H2 T2 H3 := Stp.le hO3 hle3
    have W3 := W2.step s3 (fun _ _ h => h)
    have t3 := t2.trans (s3.mono (P := OL) fun _ h => h.elim)
    have a3 := a2.step s3 (fun h => h)
    clear s2 a2 W2 t2 s3 W1 t1 hgb e1 e2 e3 k2 k3
    have hgq := a3.1
    have hvi3 := hvi.mono (hle_stp t3)
    have hmod : bin .rem (.int .i64 (.ofNat i)) (.int .i64 (.ofNat 3)) = some (.int .i64 (.ofNat (i % 3))) := mod_i64 i 3 (by decide)
    by_cases cl3 : x.f.key.length + x.f.data.length < 2000
    case neg =>
      rw [decide_eq_false cl3]
      repeat (first | ((first | apply Xk.sAny | apply Xk.tAny); (case hok => rfl); (case h => intro C hC; simp (disch := omega) only [w1, ↓reduceIte, Nat.reduceEqDiff, Nat.reduceLeDiff, Nat.reduceAdd, Nat.reduceSub]; with_reducible exact hC); refine gc ?_) | refine gm ?_)
      repeat (first | ((first | apply Xk.sAny | apply Xk.tAny); (case hok => rfl); (case h => intro C hC; simp (disch := omega) only [w1, ↓reduceIte, Nat.reduceEqDiff, Nat.reduceLeDiff, Nat.reduceAdd, Nat.reduceSub]; with_reducible exact hC); refine gc ?_) | refine gm ?_)
      exact ⟨rfl, _, by omega, i + 1, T2, rfl, by omega, rfl, W3, t3⟩
    rw [decide_eq_true cl3]
    have h3 : i % 3 = 0 ∨ i % 3 = 1 ∨ i % 3 = 2 := by omega
    have hE : negIf true (aggEq [(.i .i64), (.i .i64), (.i .i64), (.i .i64), (.i .i64), (.i .i64), .s, (.i .i64), .s] (.agg [.int .i64 (.ofNat 0), .int .i64 (.ofNat 0), .int .i64 (.ofNat 0), .int .i64 (.ofNat 0), .int .i64 (.ofNat 0), .int .i64 (.ofNat 0), .str [], .int .i64 (.ofNat 0), .str []]) (.agg [.int .i64 (.ofNat 0), .int .i64 (.ofNat 0), .int .i64 (.ofNat 0), .int .i64 (.ofNat 0), .int .i64 (.ofNat 0), .int .i64 (.ofNat 0), .str [], .int .i64 (.ofNat 0), .str []])) = some (.bool false) := rfl
    rcases h3 with m3 | m3 | m3
    · rw [m3] at hmod
      repeat (first | ((first | apply Xk.sAny | apply Xk.tAny); (case hok => rfl); (case h => intro C hC; simp (disch := omega) only [w1, ↓reduceIte, Nat.reduceEqDiff, Nat.reduceLeDiff, Nat.reduceAdd, Nat.reduceSub, hmod, hgq]; with_reducible exact hC); refine gc ?_) | refine gm ?_)
      repeat (first | ((first | apply Xk.sAny | apply Xk.tAny); (case hok => rfl); (case h => intro C hC; simp (disch := omega) only [w1, ↓reduceIte, Nat.reduceEqDiff, Nat.reduceLeDiff, Nat.reduceAdd, Nat.reduceSub, hmod, hgq]; with_reducible exact hC); refine gc ?_) | refine gm ?_)
      repeat (first | ((first | apply Xk.sAny | apply Xk.tAny); (case hok => rfl); (case h => intro C hC; simp (disch := omega) only [w1, ↓reduceIte, Nat.reduceEqDiff, Nat.reduceLeDiff, Nat.reduceAdd, Nat.reduceSub, hmod, hgq]; with_reducible exact hC); refine gc ?_) | refine gm ?_)
      repeat (first | ((first | apply Xk.sAny | apply Xk.tAny); (case hok => rfl); (case h => intro C hC; simp (disch := omega) only [w1, ↓reduceIte, Nat.reduceEqDiff, Nat.reduceLeDiff, Nat.reduceAdd, Nat.reduceSub, hmod, hgq]; with_reducible exact hC); refine gc ?_) | refine gm ?_)
      repeat (first | ((first | apply Xk.sAny | apply Xk.tAny); (case hok => rfl); (case h => intro C hC; simp (disch := omega) only [w1, ↓reduceIte, Nat.reduceEqDiff, Nat.reduceLeDiff, Nat.reduceAdd, Nat.reduceSub, hmod, hgq]; with_reducible exact hC); refine gc ?_) | refine gm ?_)
      have s5 := a3.stp1 hO3 (.cells [.int .i64 x.f.kind, .int .i64 (.ofNat 2), .int .i64 x.f.inc, .int .i64 x.f.rid, .int .i64 x.f.floor, .int .i64 x.f.role, .str x.f.key, .int .i64 x.f.ver, .str x.f.data] 1)
      have W5 := W3.step s5 (fun t ht => nK0 ht)
      have t5 := t3.trans (s5.mono (P := OL) fun u h => by rw [h]; exact ol0 rfl)
      generalize H3.put q (.cells [.int .i64 x.f.kind, .int .i64 (.ofNat 2), .int .i64 x.f.inc, .int .i64 x.f.rid, .int .i64 x.f.floor, .int .i64 x.f.role, .str x.f.key, .int .i64 x.f.ver, .str x.f.data] 1) = H5 at s5 W5 t5 ⊢
      refine Take_not_ev 10 T2 H5 p _ W5 ⟨x.f.kind, .ofNat 2, x.f.inc, x.f.rid, x.f.floor, x.f.role, x.f.key, x.f.ver, x.f.data⟩ (.inr (.inr (.inl (by show ¬ (Int.ofNat 2 = Int.ofNat 1); decide)))) _ fun T6 H6 s6 W6 => ?_
      have t6 := t5.trans (s6.mono (P := OL) fun u h => ol7 h)
      rw [noFr_cells]
      obtain ⟨T7, s7, a7⟩ := new1 (T := T6) t6.ok (0, 3, 0) (.cells [.int .i64 (.ofNat 0), .int .i64 (.ofNat 0), .int .i64 (.ofNat 0), .int .i64 (.ofNat 0), .int .i64 (.ofNat 0), .int .i64 (.ofNat 0), .str [], .int .i64 (.ofNat 0), .str []] 1)
      have hg7 := a7.1
      repeat (first | ((first | apply Xk.sAny | apply Xk.tAny); (case hok => rfl); (case h => intro C hC; simp (disch := omega) only [w1, ↓reduceIte, Nat.reduceEqDiff, Nat.reduceLeDiff, Nat.reduceAdd, Nat.reduceSub, hE, hg7]; with_reducible exact hC); refine gc ?_) | refine gm ?_)
      repeat (first | ((first | apply Xk.sAny | apply Xk.tAny); (case hok => rfl); (case h => intro C hC; simp (disch := omega) only [w1, ↓reduceIte, Nat.reduceEqDiff, Nat.reduceLeDiff, Nat.reduceAdd, Nat.reduceSub, hE, hg7]; with_reducible exact hC); refine gc ?_) | refine gm ?_)
      repeat (first | ((first | apply Xk.sAny | apply Xk.tAny); (case hok => rfl); (case h => intro C hC; simp (disch := omega) only [w1, ↓reduceIte, Nat.reduceEqDiff, Nat.reduceLeDiff, Nat.reduceAdd, Nat.reduceSub, hE, hg7]; with_reducible exact hC); refine gc ?_) | refine gm ?_)
      exact ⟨rfl, _, by omega, i + 1, T7, rfl, by omega, rfl, W6.step s7 (fun _ _ h => h), t6.trans (s7.mono (P := OL) fun _ h => h.elim)⟩
    · rw [m3] at hmod
      by_cases k5 : x.f.kind = .ofNat 5
      · have k5q := eq_true k5
        have hno : TNo (sf (.ofNat 60) st8 [⟨.ofNat 60, a8⟩]) ⟨x.f.kind, .ofNat 1, .ofNat 2, x.f.rid, x.f.floor, x.f.role, x.f.key, x.f.ver, x.f.data⟩ := .inr (.inr (.inr (.inr ⟨k5, by show ¬ (Int.ofNat 3 < Int.ofNat 2); decide, .inr (by show ¬ (Int.ofNat 2 = Int.ofNat 3); decide)⟩)))
        by_cases ci : i < is.length
        · have ci' := eq_true ci
          repeat (first | ((first | apply Xk.sAny | apply Xk.tAny); (case hok => rfl); (case h => intro C hC; simp (disch := omega) only [w1, ↓reduceIte, Nat.reduceEqDiff, Nat.reduceLeDiff, Nat.reduceAdd, Nat.reduceSub, hmod, hgq, j1, ci, k5q]; with_reducible exact hC); refine gc ?_) | refine gm ?_)
          repeat (first | ((first | apply Xk.sAny | apply Xk.tAny); (case hok => rfl); (case h => intro C hC; simp (disch := omega) only [w1, ↓reduceIte, Nat.reduceEqDiff, Nat.reduceLeDiff, Nat.reduceAdd, Nat.reduceSub, hmod, hgq, j1, ci, k5q]; with_reducible exact hC); refine gc ?_) | refine gm ?_)
          repeat (first | ((first | apply Xk.sAny | apply Xk.tAny); (case hok => rfl); (case h => intro C hC; simp (disch := omega) only [w1, ↓reduceIte, Nat.reduceEqDiff, Nat.reduceLeDiff, Nat.reduceAdd, Nat.reduceSub, hmod, hgq, j1, ci, k5q]; with_reducible exact hC); refine gc ?_) | refine gm ?_)
          repeat (first | ((first | apply Xk.sAny | apply Xk.tAny); (case hok => rfl); (case h => intro C hC; simp (disch := omega) only [w1, ↓reduceIte, Nat.reduceEqDiff, Nat.reduceLeDiff, Nat.reduceAdd, Nat.reduceSub, hmod, hgq, j1, ci, k5q]; with_reducible exact hC); refine gc ?_) | refine gm ?_)
          repeat (first | ((first | apply Xk.sAny | apply Xk.tAny); (case hok => rfl); (case h => intro C hC; simp (disch := omega) only [w1, ↓reduceIte, Nat.reduceEqDiff, Nat.reduceLeDiff, Nat.reduceAdd, Nat.reduceSub, hmod, hgq, j1, ci, k5q]; with_reducible exact hC); refine gc ?_) | refine gm ?_)
          repeat (first | ((first | apply Xk.sAny | apply Xk.tAny); (case hok => rfl); (case h => intro C hC; simp (disch := omega) only [w1, ↓reduceIte, Nat.reduceEqDiff, Nat.reduceLeDiff, Nat.reduceAdd, Nat.reduceSub, hmod, hgq, j1, ci, k5q]; with_reducible exact hC); refine gc ?_) | refine gm ?_)
          have s5 := a3.stp1 hO3 (.cells [.int .i64 x.f.kind, .int .i64 (.ofNat 1), .int .i64 (.ofNat 2), .int .i64 x.f.rid, .int .i64 x.f.floor, .int .i64 x.f.role, .str x.f.key, .int .i64 x.f.ver, .str x.f.data] 1)
          have W5 := W3.step s5 (fun t ht => nK0 ht)
          have t5 := t3.trans (s5.mono (P := OL) fun u h => by rw [h]; exact ol0 rfl)
          generalize H3.put q (.cells [.int .i64 x.f.kind, .int .i64 (.ofNat 1), .int .i64 (.ofNat 2), .int .i64 x.f.rid, .int .i64 x.f.floor, .int .i64 x.f.role, .str x.f.key, .int .i64 x.f.ver, .str x.f.data] 1) = H5 at s5 W5 t5 ⊢
          refine Take_not_ev 10 T2 H5 p _ W5 ⟨x.f.kind, .ofNat 1, .ofNat 2, x.f.rid, x.f.floor, x.f.role, x.f.key, x.f.ver, x.f.data⟩ (hno) _ fun T6 H6 s6 W6 => ?_
          have t6 := t5.trans (s6.mono (P := OL) fun u h => ol7 h)
          rw [noFr_cells]
          obtain ⟨T7, s7, a7⟩ := new1 (T := T6) t6.ok (0, 3, 0) (.cells [.int .i64 (.ofNat 0), .int .i64 (.ofNat 0), .int .i64 (.ofNat 0), .int .i64 (.ofNat 0), .int .i64 (.ofNat 0), .int .i64 (.ofNat 0), .str [], .int .i64 (.ofNat 0), .str []] 1)
          have hg7 := a7.1
          repeat (first | ((first | apply Xk.sAny | apply Xk.tAny); (case hok => rfl); (case h => intro C hC; simp (disch := omega) only [w1, ↓reduceIte, Nat.reduceEqDiff, Nat.reduceLeDiff, Nat.reduceAdd, Nat.reduceSub, hE, hg7]; with_reducible exact hC); refine gc ?_) | refine gm ?_)
          repeat (first | ((first | apply Xk.sAny | apply Xk.tAny); (case hok => rfl); (case h => intro C hC; simp (disch := omega) only [w1, ↓reduceIte, Nat.reduceEqDiff, Nat.reduceLeDiff, Nat.reduceAdd, Nat.reduceSub, hE, hg7]; with_reducible exact hC); refine gc ?_) | refine gm ?_)
          repeat (first | ((first | apply Xk.sAny | apply Xk.tAny); (case hok => rfl); (case h => intro C hC; simp (disch := omega) only [w1, ↓reduceIte, Nat.reduceEqDiff, Nat.reduceLeDiff, Nat.reduceAdd, Nat.reduceSub, hE, hg7]; with_reducible exact hC); refine gc ?_) | refine gm ?_)
          exact ⟨rfl, _, by omega, i + 1, T7, rfl, by omega, rfl, W6.step s7 (fun _ _ h => h), t6.trans (s7.mono (P := OL) fun _ h => h.elim)⟩
        · have ci' := eq_false ci
          repeat (first | ((first | apply Xk.sAny | apply Xk.tAny); (case hok => rfl); (case h => intro C hC; simp (disch := omega) only [w1, ↓reduceIte, Nat.reduceEqDiff, Nat.reduceLeDiff, Nat.reduceAdd, Nat.reduceSub, hmod, hgq, j1, ci, k5q]; with_reducible exact hC); refine gc ?_) | refine gm ?_)
          repeat (first | ((first | apply Xk.sAny | apply Xk.tAny); (case hok => rfl); (case h => intro C hC; simp (disch := omega) only [w1, ↓reduceIte, Nat.reduceEqDiff, Nat.reduceLeDiff, Nat.reduceAdd, Nat.reduceSub, hmod, hgq, j1, ci, k5q]; with_reducible exact hC); refine gc ?_) | refine gm ?_)
          repeat (first | ((first | apply Xk.sAny | apply Xk.tAny); (case hok => rfl); (case h => intro C hC; simp (disch := omega) only [w1, ↓reduceIte, Nat.reduceEqDiff, Nat.reduceLeDiff, Nat.reduceAdd, Nat.reduceSub, hmod, hgq, j1, ci, k5q]; with_reducible exact hC); refine gc ?_) | refine gm ?_)
          repeat (first | ((first | apply Xk.sAny | apply Xk.tAny); (case hok => rfl); (case h => intro C hC; simp (disch := omega) only [w1, ↓reduceIte, Nat.reduceEqDiff, Nat.reduceLeDiff, Nat.reduceAdd, Nat.reduceSub, hmod, hgq, j1, ci, k5q]; with_reducible exact hC); refine gc ?_) | refine gm ?_)
          repeat (first | ((first | apply Xk.sAny | apply Xk.tAny); (case hok => rfl); (case h => intro C hC; simp (disch := omega) only [w1, ↓reduceIte, Nat.reduceEqDiff, Nat.reduceLeDiff, Nat.reduceAdd, Nat.reduceSub, hmod, hgq, j1, ci, k5q]; with_reducible exact hC); refine gc ?_) | refine gm ?_)
          repeat (first | ((first | apply Xk.sAny | apply Xk.tAny); (case hok => rfl); (case h => intro C hC; simp (disch := omega) only [w1, ↓reduceIte, Nat.reduceEqDiff, Nat.reduceLeDiff, Nat.reduceAdd, Nat.reduceSub, hmod, hgq, j1, ci, k5q]; with_reducible exact hC); refine gc ?_) | refine gm ?_)
          have s5 := a3.stp1 hO3 (.cells [.int .i64 x.f.kind, .int .i64 (.ofNat 1), .int .i64 (.ofNat 2), .int .i64 x.f.rid, .int .i64 x.f.floor, .int .i64 x.f.role, .str x.f.key, .int .i64 x.f.ver, .str x.f.data] 1)
          have W5 := W3.step s5 (fun t ht => nK0 ht)
          have t5 := t3.trans (s5.mono (P := OL) fun u h => by rw [h]; exact ol0 rfl)
          generalize H3.put q (.cells [.int .i64 x.f.kind, .int .i64 (.ofNat 1), .int .i64 (.ofNat 2), .int .i64 x.f.rid, .int .i64 x.f.floor, .int .i64 x.f.role, .str x.f.key, .int .i64 x.f.ver, .str x.f.data] 1) = H5 at s5 W5 t5 ⊢
          refine Take_not_ev 10 T2 H5 p _ W5 ⟨x.f.kind, .ofNat 1, .ofNat 2, x.f.rid, x.f.floor, x.f.role, x.f.key, x.f.ver, x.f.data⟩ (hno) _ fun T6 H6 s6 W6 => ?_
          have t6 := t5.trans (s6.mono (P := OL) fun u h => ol7 h)
          rw [noFr_cells]
          obtain ⟨T7, s7, a7⟩ := new1 (T := T6) t6.ok (0, 3, 0) (.cells [.int .i64 (.ofNat 0), .int .i64 (.ofNat 0), .int .i64 (.ofNat 0), .int .i64 (.ofNat 0), .int .i64 (.ofNat 0), .int .i64 (.ofNat 0), .str [], .int .i64 (.ofNat 0), .str []] 1)
          have hg7 := a7.1
          repeat (first | ((first | apply Xk.sAny | apply Xk.tAny); (case hok => rfl); (case h => intro C hC; simp (disch := omega) only [w1, ↓reduceIte, Nat.reduceEqDiff, Nat.reduceLeDiff, Nat.reduceAdd, Nat.reduceSub, hE, hg7]; with_reducible exact hC); refine gc ?_) | refine gm ?_)
          repeat (first | ((first | apply Xk.sAny | apply Xk.tAny); (case hok => rfl); (case h => intro C hC; simp (disch := omega) only [w1, ↓reduceIte, Nat.reduceEqDiff, Nat.reduceLeDiff, Nat.reduceAdd, Nat.reduceSub, hE, hg7]; with_reducible exact hC); refine gc ?_) | refine gm ?_)
          repeat (first | ((first | apply Xk.sAny | apply Xk.tAny); (case hok => rfl); (case h => intro C hC; simp (disch := omega) only [w1, ↓reduceIte, Nat.reduceEqDiff, Nat.reduceLeDiff, Nat.reduceAdd, Nat.reduceSub, hE, hg7]; with_reducible exact hC); refine gc ?_) | refine gm ?_)
          exact ⟨rfl, _, by omega, i + 1, T7, rfl, by omega, rfl, W6.step s7 (fun _ _ h => h), t6.trans (s7.mono (P := OL) fun _ h => h.elim)⟩
      · have k5q := eq_false k5
        by_cases ci : i < is.length
        · have ci' := eq_true ci
          obtain ⟨bi, oi, cli, ki, rfl, hgi, u1, u2⟩ := int_at hvi3 ci
          have hgi2 : ∀ w, (H3.put q w).get bi = some (.cells cli ki) := fun w => by
            have : bi ≠ q := fun e => by
              subst e
              have g1 := hgq
              rw [hgi] at g1
              have tq := a3.2
              obtain ⟨_, _, _, _, hh, hh2, _⟩ := int_at hvi ci
              injection hh with hh
              subst hh
              exact absurd (((t3.al _ _ hh2).1).symm.trans tq) (by decide)
            rw [Heap.get_put_ne _ _ _ this]
            exact hgi
          repeat (first | ((first | apply Xk.sAny | apply Xk.tAny); (case hok => rfl); (case h => intro C hC; simp (disch := omega) only [w1, ↓reduceIte, Nat.reduceEqDiff, Nat.reduceLeDiff, Nat.reduceAdd, Nat.reduceSub, hmod, hgq, j1, ci, k5q, hgi2, u1, u2]; with_reducible exact hC); refine gc ?_) | refine gm ?_)
          repeat (first | ((first | apply Xk.sAny | apply Xk.tAny); (case hok => rfl); (case h => intro C hC; simp (disch := omega) only [w1, ↓reduceIte, Nat.reduceEqDiff, Nat.reduceLeDiff, Nat.reduceAdd, Nat.reduceSub, hmod, hgq, j1, ci, k5q, hgi2, u1, u2]; with_reducible exact hC); refine gc ?_) | refine gm ?_)
          repeat (first | ((first | apply Xk.sAny | apply Xk.tAny); (case hok => rfl); (case h => intro C hC; simp (disch := omega) only [w1, ↓reduceIte, Nat.reduceEqDiff, Nat.reduceLeDiff, Nat.reduceAdd, Nat.reduceSub, hmod, hgq, j1, ci, k5q, hgi2, u1, u2]; with_reducible exact hC); refine gc ?_) | refine gm ?_)
          repeat (first | ((first | apply Xk.sAny | apply Xk.tAny); (case hok => rfl); (case h => intro C hC; simp (disch := omega) only [w1, ↓reduceIte, Nat.reduceEqDiff, Nat.reduceLeDiff, Nat.reduceAdd, Nat.reduceSub, hmod, hgq, j1, ci, k5q, hgi2, u1, u2]; with_reducible exact hC); refine gc ?_) | refine gm ?_)
          repeat (first | ((first | apply Xk.sAny | apply Xk.tAny); (case hok => rfl); (case h => intro C hC; simp (disch := omega) only [w1, ↓reduceIte, Nat.reduceEqDiff, Nat.reduceLeDiff, Nat.reduceAdd, Nat.reduceSub, hmod, hgq, j1, ci, k5q, hgi2, u1, u2]; with_reducible exact hC); refine gc ?_) | refine gm ?_)
          repeat (first | ((first | apply Xk.sAny | apply Xk.tAny); (case hok => rfl); (case h => intro C hC; simp (disch := omega) only [w1, ↓reduceIte, Nat.reduceEqDiff, Nat.reduceLeDiff, Nat.reduceAdd, Nat.reduceSub, hmod, hgq, j1, ci, k5q, hgi2, u1, u2]; with_reducible exact hC); refine gc ?_) | refine gm ?_)
          refine Within_ev (is.getD i 0) 0 9 (by decide) (by decide) _ _ fun r hr0 hr9 => ?_
          repeat (first | ((first | apply Xk.sAny | apply Xk.tAny); (case hok => rfl); (case h => intro C hC; simp (disch := omega) only [w1, ↓reduceIte, Nat.reduceEqDiff, Nat.reduceLeDiff, Nat.reduceAdd, Nat.reduceSub, hgq]; with_reducible exact hC); refine gc ?_) | refine gm ?_)
          repeat (first | ((first | apply Xk.sAny | apply Xk.tAny); (case hok => rfl); (case h => intro C hC; simp (disch := omega) only [w1, ↓reduceIte, Nat.reduceEqDiff, Nat.reduceLeDiff, Nat.reduceAdd, Nat.reduceSub, hgq]; with_reducible exact hC); refine gc ?_) | refine gm ?_)
          repeat (first | ((first | apply Xk.sAny | apply Xk.tAny); (case hok => rfl); (case h => intro C hC; simp (disch := omega) only [w1, ↓reduceIte, Nat.reduceEqDiff, Nat.reduceLeDiff, Nat.reduceAdd, Nat.reduceSub, hgq]; with_reducible exact hC); refine gc ?_) | refine gm ?_)
          have s5 := a3.stp1 hO3 (.cells [.int .i64 x.f.kind, .int .i64 (.ofNat 1), .int .i64 (.ofNat (4 + r)), .int .i64 x.f.rid, .int .i64 x.f.floor, .int .i64 x.f.role, .str x.f.key, .int .i64 x.f.ver, .str x.f.data] 1)
          have W5 := W3.step s5 (fun t ht => nK0 ht)
          have t5 := t3.trans (s5.mono (P := OL) fun u h => by rw [h]; exact ol0 rfl)
          generalize H3.put q (.cells [.int .i64 x.f.kind, .int .i64 (.ofNat 1), .int .i64 (.ofNat (4 + r)), .int .i64 x.f.rid, .int .i64 x.f.floor, .int .i64 x.f.role, .str x.f.key, .int .i64 x.f.ver, .str x.f.data] 1) = H5 at s5 W5 t5 ⊢
          refine Take_not_ev 10 T2 H5 p _ W5 ⟨x.f.kind, .ofNat 1, .ofNat (4 + r), x.f.rid, x.f.floor, x.f.role, x.f.key, x.f.ver, x.f.data⟩ (.inr (.inr (.inr (.inl ⟨k5, .inr (.inl (by show ¬ (((4 + r : Nat) : Int) = 3); omega))⟩)))) _ fun T6 H6 s6 W6 => ?_
          have t6 := t5.trans (s6.mono (P := OL) fun u h => ol7 h)
          rw [noFr_cells]
          obtain ⟨T7, s7, a7⟩ := new1 (T := T6) t6.ok (0, 3, 0) (.cells [.int .i64 (.ofNat 0), .int .i64 (.ofNat 0), .int .i64 (.ofNat 0), .int .i64 (.ofNat 0), .int .i64 (.ofNat 0), .int .i64 (.ofNat 0), .str [], .int .i64 (.ofNat 0), .str []] 1)
          have hg7 := a7.1
          repeat (first | ((first | apply Xk.sAny | apply Xk.tAny); (case hok => rfl); (case h => intro C hC; simp (disch := omega) only [w1, ↓reduceIte, Nat.reduceEqDiff, Nat.reduceLeDiff, Nat.reduceAdd, Nat.reduceSub, hE, hg7]; with_reducible exact hC); refine gc ?_) | refine gm ?_)
          repeat (first | ((first | apply Xk.sAny | apply Xk.tAny); (case hok => rfl); (case h => intro C hC; simp (disch := omega) only [w1, ↓reduceIte, Nat.reduceEqDiff, Nat.reduceLeDiff, Nat.reduceAdd, Nat.reduceSub, hE, hg7]; with_reducible exact hC); refine gc ?_) | refine gm ?_)
          repeat (first | ((first | apply Xk.sAny | apply Xk.tAny); (case hok => rfl); (case h => intro C hC; simp (disch := omega) only [w1, ↓reduceIte, Nat.reduceEqDiff, Nat.reduceLeDiff, Nat.reduceAdd, Nat.reduceSub, hE, hg7]; with_reducible exact hC); refine gc ?_) | refine gm ?_)
          exact ⟨rfl, _, by omega, i + 1, T7, rfl, by omega, rfl, W6.step s7 (fun _ _ h => h), t6.trans (s7.mono (P := OL) fun _ h => h.elim)⟩
        · have ci' := eq_false ci
          repeat (first | ((first | apply Xk.sAny | apply Xk.tAny); (case hok => rfl); (case h => intro C hC; simp (disch := omega) only [w1, ↓reduceIte, Nat.reduceEqDiff, Nat.reduceLeDiff, Nat.reduceAdd, Nat.reduceSub, hmod, hgq, j1, ci, k5q]; with_reducible exact hC); refine gc ?_) | refine gm ?_)
          repeat (first | ((first | apply Xk.sAny | apply Xk.tAny); (case hok => rfl); (case h => intro C hC; simp (disch := omega) only [w1, ↓reduceIte, Nat.reduceEqDiff, Nat.reduceLeDiff, Nat.reduceAdd, Nat.reduceSub, hmod, hgq, j1, ci, k5q]; with_reducible exact hC); refine gc ?_) | refine gm ?_)
          repeat (first | ((first | apply Xk.sAny | apply Xk.tAny); (case hok => rfl); (case h => intro C hC; simp (disch := omega) only [w1, ↓reduceIte, Nat.reduceEqDiff, Nat.reduceLeDiff, Nat.reduceAdd, Nat.reduceSub, hmod, hgq, j1, ci, k5q]; with_reducible exact hC); refine gc ?_) | refine gm ?_)
          repeat (first | ((first | apply Xk.sAny | apply Xk.tAny); (case hok => rfl); (case h => intro C hC; simp (disch := omega) only [w1, ↓reduceIte, Nat.reduceEqDiff, Nat.reduceLeDiff, Nat.reduceAdd, Nat.reduceSub, hmod, hgq, j1, ci, k5q]; with_reducible exact hC); refine gc ?_) | refine gm ?_)
          repeat (first | ((first | apply Xk.sAny | apply Xk.tAny); (case hok => rfl); (case h => intro C hC; simp (disch := omega) only [w1, ↓reduceIte, Nat.reduceEqDiff, Nat.reduceLeDiff, Nat.reduceAdd, Nat.reduceSub, hmod, hgq, j1, ci, k5q]; with_reducible exact hC); refine gc ?_) | refine gm ?_)
          repeat (first | ((first | apply Xk.sAny | apply Xk.tAny); (case hok => rfl); (case h => intro C hC; simp (disch := omega) only [w1, ↓reduceIte, Nat.reduceEqDiff, Nat.reduceLeDiff, Nat.reduceAdd, Nat.reduceSub, hmod, hgq, j1, ci, k5q]; with_reducible exact hC); refine gc ?_) | refine gm ?_)
          have s5 := a3.stp1 hO3 (.cells [.int .i64 x.f.kind, .int .i64 (.ofNat 1), .int .i64 (.ofNat 2), .int .i64 x.f.rid, .int .i64 x.f.floor, .int .i64 x.f.role, .str x.f.key, .int .i64 x.f.ver, .str x.f.data] 1)
          have W5 := W3.step s5 (fun t ht => nK0 ht)
          have t5 := t3.trans (s5.mono (P := OL) fun u h => by rw [h]; exact ol0 rfl)
          generalize H3.put q (.cells [.int .i64 x.f.kind, .int .i64 (.ofNat 1), .int .i64 (.ofNat 2), .int .i64 x.f.rid, .int .i64 x.f.floor, .int .i64 x.f.role, .str x.f.key, .int .i64 x.f.ver, .str x.f.data] 1) = H5 at s5 W5 t5 ⊢
          refine Take_not_ev 10 T2 H5 p _ W5 ⟨x.f.kind, .ofNat 1, .ofNat 2, x.f.rid, x.f.floor, x.f.role, x.f.key, x.f.ver, x.f.data⟩ (.inr (.inr (.inr (.inl ⟨k5, .inr (.inl (by show ¬ (Int.ofNat 2 = Int.ofNat 3); decide))⟩)))) _ fun T6 H6 s6 W6 => ?_
          have t6 := t5.trans (s6.mono (P := OL) fun u h => ol7 h)
          rw [noFr_cells]
          obtain ⟨T7, s7, a7⟩ := new1 (T := T6) t6.ok (0, 3, 0) (.cells [.int .i64 (.ofNat 0), .int .i64 (.ofNat 0), .int .i64 (.ofNat 0), .int .i64 (.ofNat 0), .int .i64 (.ofNat 0), .int .i64 (.ofNat 0), .str [], .int .i64 (.ofNat 0), .str []] 1)
          have hg7 := a7.1
          repeat (first | ((first | apply Xk.sAny | apply Xk.tAny); (case hok => rfl); (case h => intro C hC; simp (disch := omega) only [w1, ↓reduceIte, Nat.reduceEqDiff, Nat.reduceLeDiff, Nat.reduceAdd, Nat.reduceSub, hE, hg7]; with_reducible exact hC); refine gc ?_) | refine gm ?_)
          repeat (first | ((first | apply Xk.sAny | apply Xk.tAny); (case hok => rfl); (case h => intro C hC; simp (disch := omega) only [w1, ↓reduceIte, Nat.reduceEqDiff, Nat.reduceLeDiff, Nat.reduceAdd, Nat.reduceSub, hE, hg7]; with_reducible exact hC); refine gc ?_) | refine gm ?_)
          repeat (first | ((first | apply Xk.sAny | apply Xk.tAny); (case hok => rfl); (case h => intro C hC; simp (disch := omega) only [w1, ↓reduceIte, Nat.reduceEqDiff, Nat.reduceLeDiff, Nat.reduceAdd, Nat.reduceSub, hE, hg7]; with_reducible exact hC); refine gc ?_) | refine gm ?_)
          exact ⟨rfl, _, by omega, i + 1, T7, rfl, by omega, rfl, W6.step s7 (fun _ _ h => h), t6.trans (s7.mono (P := OL) fun _ h => h.elim)⟩
    · rw [m3] at hmod
      repeat (first | ((first | apply Xk.sAny | apply Xk.tAny); (case hok => rfl); (case h => intro C hC; simp (disch := omega) only [w1, ↓reduceIte, Nat.reduceEqDiff, Nat.reduceLeDiff, Nat.reduceAdd, Nat.reduceSub, hmod, hgq]; with_reducible exact hC); refine gc ?_) | refine gm ?_)
      repeat (first | ((first | apply Xk.sAny | apply Xk.tAny); (case hok => rfl); (case h => intro C hC; simp (disch := omega) only [w1, ↓reduceIte, Nat.reduceEqDiff, Nat.reduceLeDiff, Nat.reduceAdd, Nat.reduceSub, hmod, hgq]; with_reducible exact hC); refine gc ?_) | refine gm ?_)
      repeat (first | ((first | apply Xk.sAny | apply Xk.tAny); (case hok => rfl); (case h => intro C hC; simp (disch := omega) only [w1, ↓reduceIte, Nat.reduceEqDiff, Nat.reduceLeDiff, Nat.reduceAdd, Nat.reduceSub, hmod, hgq]; with_reducible exact hC); refine gc ?_) | refine gm ?_)
      repeat (first | ((first | apply Xk.sAny | apply Xk.tAny); (case hok => rfl); (case h => intro C hC; simp (disch := omega) only [w1, ↓reduceIte, Nat.reduceEqDiff, Nat.reduceLeDiff, Nat.reduceAdd, Nat.reduceSub, hmod, hgq]; with_reducible exact hC); refine gc ?_) | refine gm ?_)
      repeat (first | ((first | apply Xk.sAny | apply Xk.tAny); (case hok => rfl); (case h => intro C hC; simp (disch := omega) only [w1, ↓reduceIte, Nat.reduceEqDiff, Nat.reduceLeDiff, Nat.reduceAdd, Nat.reduceSub, hmod, hgq]; with_reducible exact hC); refine gc ?_) | refine gm ?_)
      refine Within_ev x.f.rid 0 59 (by decide) (by decide) _ _ fun r hr0 hr9 => ?_
      by_cases k5 : x.f.kind = .ofNat 5
      · have k5q := eq_true k5
        repeat (first | ((first | apply Xk.sAny | apply Xk.tAny); (case hok => rfl); (case h => intro C hC; simp (disch := omega) only [w1, ↓reduceIte, Nat.reduceEqDiff, Nat.reduceLeDiff, Nat.reduceAdd, Nat.reduceSub, hgq, k5q]; with_reducible exact hC); refine gc ?_) | refine gm ?_)
        repeat (first | ((first | apply Xk.sAny | apply Xk.tAny); (case hok => rfl); (case h => intro C hC; simp (disch := omega) only [w1, ↓reduceIte, Nat.reduceEqDiff, Nat.reduceLeDiff, Nat.reduceAdd, Nat.reduceSub, hgq, k5q]; with_reducible exact hC); refine gc ?_) | refine gm ?_)
        repeat (first | ((first | apply Xk.sAny | apply Xk.tAny); (case hok => rfl); (case h => intro C hC; simp (disch := omega) only [w1, ↓reduceIte, Nat.reduceEqDiff, Nat.reduceLeDiff, Nat.reduceAdd, Nat.reduceSub, hgq, k5q]; with_reducible exact hC); refine gc ?_) | refine gm ?_)
        repeat (first | ((first | apply Xk.sAny | apply Xk.tAny); (case hok => rfl); (case h => intro C hC; simp (disch := omega) only [w1, ↓reduceIte, Nat.reduceEqDiff, Nat.reduceLeDiff, Nat.reduceAdd, Nat.reduceSub, hgq, k5q]; with_reducible exact hC); refine gc ?_) | refine gm ?_)
        repeat (first | ((first | apply Xk.sAny | apply Xk.tAny); (case hok => rfl); (case h => intro C hC; simp (disch := omega) only [w1, ↓reduceIte, Nat.reduceEqDiff, Nat.reduceLeDiff, Nat.reduceAdd, Nat.reduceSub, hgq, k5q]; with_reducible exact hC); refine gc ?_) | refine gm ?_)
        have s5 := a3.stp1 hO3 (.cells [.int .i64 x.f.kind, .int .i64 (.ofNat 1), .int .i64 (.ofNat 1), .int .i64 (.ofNat r), .int .i64 x.f.floor, .int .i64 x.f.role, .str x.f.key, .int .i64 x.f.ver, .str x.f.data] 1)
        have W5 := W3.step s5 (fun t ht => nK0 ht)
        have t5 := t3.trans (s5.mono (P := OL) fun u h => by rw [h]; exact ol0 rfl)
        generalize H3.put q (.cells [.int .i64 x.f.kind, .int .i64 (.ofNat 1), .int .i64 (.ofNat 1), .int .i64 (.ofNat r), .int .i64 x.f.floor, .int .i64 x.f.role, .str x.f.key, .int .i64 x.f.ver, .str x.f.data] 1) = H5 at s5 W5 t5 ⊢
        refine Take_not_ev 10 T2 H5 p _ W5 ⟨x.f.kind, .ofNat 1, .ofNat 1, .ofNat r, x.f.floor, x.f.role, x.f.key, x.f.ver, x.f.data⟩ (.inr (.inr (.inr (.inr ⟨k5, by show ¬ (Int.ofNat 3 < Int.ofNat 1); decide, .inr (by show ¬ (Int.ofNat 1 = Int.ofNat 3); decide)⟩)))) _ fun T6 H6 s6 W6 => ?_
        have t6 := t5.trans (s6.mono (P := OL) fun u h => ol7 h)
        rw [noFr_cells]
        obtain ⟨T7, s7, a7⟩ := new1 (T := T6) t6.ok (0, 3, 0) (.cells [.int .i64 (.ofNat 0), .int .i64 (.ofNat 0), .int .i64 (.ofNat 0), .int .i64 (.ofNat 0), .int .i64 (.ofNat 0), .int .i64 (.ofNat 0), .str [], .int .i64 (.ofNat 0), .str []] 1)
        have hg7 := a7.1
        repeat (first | ((first | apply Xk.sAny | apply Xk.tAny); (case hok => rfl); (case h => intro C hC; simp (disch := omega) only [w1, ↓reduceIte, Nat.reduceEqDiff, Nat.reduceLeDiff, Nat.reduceAdd, Nat.reduceSub, hE, hg7]; with_reducible exact hC); refine gc ?_) | refine gm ?_)
        repeat (first | ((first | apply Xk.sAny | apply Xk.tAny); (case hok => rfl); (case h => intro C hC; simp (disch := omega) only [w1, ↓reduceIte, Nat.reduceEqDiff, Nat.reduceLeDiff, Nat.reduceAdd, Nat.reduceSub, hE, hg7]; with_reducible exact hC); refine gc ?_) | refine gm ?_)
        repeat (first | ((first | apply Xk.sAny | apply Xk.tAny); (case hok => rfl); (case h => intro C hC; simp (disch := omega) only [w1, ↓reduceIte, Nat.reduceEqDiff, Nat.reduceLeDiff, Nat.reduceAdd, Nat.reduceSub, hE, hg7]; with_reducible exact hC); refine gc ?_) | refine gm ?_)
        exact ⟨rfl, _, by omega, i + 1, T7, rfl, by omega, rfl, W6.step s7 (fun _ _ h => h), t6.trans (s7.mono (P := OL) fun _ h => h.elim)⟩
      · have k5q := eq_false k5
        repeat (first | ((first | apply Xk.sAny | apply Xk.tAny); (case hok => rfl); (case h => intro C hC; simp (disch := omega) only [w1, ↓reduceIte, Nat.reduceEqDiff, Nat.reduceLeDiff, Nat.reduceAdd, Nat.reduceSub, hgq, k5q]; with_reducible exact hC); refine gc ?_) | refine gm ?_)
        repeat (first | ((first | apply Xk.sAny | apply Xk.tAny); (case hok => rfl); (case h => intro C hC; simp (disch := omega) only [w1, ↓reduceIte, Nat.reduceEqDiff, Nat.reduceLeDiff, Nat.reduceAdd, Nat.reduceSub, hgq, k5q]; with_reducible exact hC); refine gc ?_) | refine gm ?_)
        repeat (first | ((first | apply Xk.sAny | apply Xk.tAny); (case hok => rfl); (case h => intro C hC; simp (disch := omega) only [w1, ↓reduceIte, Nat.reduceEqDiff, Nat.reduceLeDiff, Nat.reduceAdd, Nat.reduceSub, hgq, k5q]; with_reducible exact hC); refine gc ?_) | refine gm ?_)
        repeat (first | ((first | apply Xk.sAny | apply Xk.tAny); (case hok => rfl); (case h => intro C hC; simp (disch := omega) only [w1, ↓reduceIte, Nat.reduceEqDiff, Nat.reduceLeDiff, Nat.reduceAdd, Nat.reduceSub, hgq, k5q]; with_reducible exact hC); refine gc ?_) | refine gm ?_)
        repeat (first | ((first | apply Xk.sAny | apply Xk.tAny); (case hok => rfl); (case h => intro C hC; simp (disch := omega) only [w1, ↓reduceIte, Nat.reduceEqDiff, Nat.reduceLeDiff, Nat.reduceAdd, Nat.reduceSub, hgq, k5q]; with_reducible exact hC); refine gc ?_) | refine gm ?_)
        have s5 := a3.stp1 hO3 (.cells [.int .i64 x.f.kind, .int .i64 (.ofNat 1), .int .i64 (.ofNat 3), .int .i64 (.ofNat r), .int .i64 x.f.floor, .int .i64 x.f.role, .str x.f.key, .int .i64 x.f.ver, .str x.f.data] 1)
        have W5 := W3.step s5 (fun t ht => nK0 ht)
        have t5 := t3.trans (s5.mono (P := OL) fun u h => by rw [h]; exact ol0 rfl)
        generalize H3.put q (.cells [.int .i64 x.f.kind, .int .i64 (.ofNat 1), .int .i64 (.ofNat 3), .int .i64 (.ofNat r), .int .i64 x.f.floor, .int .i64 x.f.role, .str x.f.key, .int .i64 x.f.ver, .str x.f.data] 1) = H5 at s5 W5 t5 ⊢
        refine Take_not_ev 10 T2 H5 p _ W5 ⟨x.f.kind, .ofNat 1, .ofNat 3, .ofNat r, x.f.floor, x.f.role, x.f.key, x.f.ver, x.f.data⟩ (.inr (.inr (.inr (.inl ⟨k5, .inr (.inr (by show ((r : Nat) : Int) < 60; omega))⟩)))) _ fun T6 H6 s6 W6 => ?_
        have t6 := t5.trans (s6.mono (P := OL) fun u h => ol7 h)
        rw [noFr_cells]
        obtain ⟨T7, s7, a7⟩ := new1 (T := T6) t6.ok (0, 3, 0) (.cells [.int .i64 (.ofNat 0), .int .i64 (.ofNat 0), .int .i64 (.ofNat 0), .int .i64 (.ofNat 0), .int .i64 (.ofNat 0), .int .i64 (.ofNat 0), .str [], .int .i64 (.ofNat 0), .str []] 1)
        have hg7 := a7.1
        repeat (first | ((first | apply Xk.sAny | apply Xk.tAny); (case hok => rfl); (case h => intro C hC; simp (disch := omega) only [w1, ↓reduceIte, Nat.reduceEqDiff, Nat.reduceLeDiff, Nat.reduceAdd, Nat.reduceSub, hE, hg7]; with_reducible exact hC); refine gc ?_) | refine gm ?_)
        repeat (first | ((first | apply Xk.sAny | apply Xk.tAny); (case hok => rfl); (case h => intro C hC; simp (disch := omega) only [w1, ↓reduceIte, Nat.reduceEqDiff, Nat.reduceLeDiff, Nat.reduceAdd, Nat.reduceSub, hE, hg7]; with_reducible exact hC); refine gc ?_) | refine gm ?_)
        repeat (first | ((first | apply Xk.sAny | apply Xk.tAny); (case hok => rfl); (case h => intro C hC; simp (disch := omega) only [w1, ↓reduceIte, Nat.reduceEqDiff, Nat.reduceLeDiff, Nat.reduceAdd, Nat.reduceSub, hE, hg7]; with_reducible exact hC); refine gc ?_) | refine gm ?_)
        exact ⟨rfl, _, by omega, i + 1, T7, rfl, by omega, rfl, W6.step s7 (fun _ _ h => h), t6.trans (s7.mono (P := OL) fun _ h => h.elim)⟩
  · have hc2 : (¬ i < l.length ∧ True) ∨ (i < l.length ∧ ¬ i < 40) := by
      by_cases c1 : i < l.length
      · exact .inr ⟨c1, fun c2 => c ⟨c1, c2⟩⟩
      · exact .inl ⟨c1, trivial⟩
    have hmn : (nameB (gF 70)) = kn := rfl
    rcases hc2 with ⟨c1, c2⟩ | ⟨c1, c2⟩
    all_goals
      repeat (first | ((first | apply Xk.sAny | apply Xk.tAny); (case hok => rfl); (case h => intro C hC; simp (disch := omega) only [w1, ↓reduceIte, Nat.reduceEqDiff, Nat.reduceLeDiff, Nat.reduceAdd, Nat.reduceSub, k1, c1, c2]; with_reducible exact hC); refine gc ?_) | refine gm ?_)
      repeat (first | ((first | apply Xk.sAny | apply Xk.tAny); (case hok => rfl); (case h => intro C hC; simp (disch := omega) only [w1, ↓reduceIte, Nat.reduceEqDiff, Nat.reduceLeDiff, Nat.reduceAdd, Nat.reduceSub, k1, c1, c2]; with_reducible exact hC); refine gc ?_) | refine gm ?_)
      refine ask_ev 2 (.ofNat 70) [107] [] (.ofNat 0) H1 _ fun H2 hO2 hle2 => ?_
      have s2 : Stp (fun _ => False) T1 H1 T1 H2 := Stp.le hO2 hle2
      have W2 := W1.step s2 (fun _ _ h => h)
      have t2 := t1.trans (s2.mono (P := OL) fun _ h => h.elim)
      repeat (first | ((first | apply Xk.sAny | apply Xk.tAny); (case hok => rfl); (case h => intro C hC; simp (disch := omega) only [w1, ↓reduceIte, Nat.reduceEqDiff, Nat.reduceLeDiff, Nat.reduceAdd, Nat.reduceSub]; with_reducible exact hC); refine gc ?_) | refine gm ?_)
      rw [askF_req _ _ _ _ (by decide)]
      refine Take_req_ev 10 T1 H2 p _ W2 (gF 70) (by decide) (by decide) (by decide) rfl rfl rfl (by show ¬ (Int.ofNat 70 < Int.ofNat 60); decide) (by show ¬ (Int.ofNat 60 < Int.ofNat 0); decide) (by show 1 ≤ 100000; decide)
        (fun a st' => a = ansF (sf (.ofNat 60) st8 [⟨.ofNat 60, a8⟩]) (gF 70) (.ofNat 1) [118] ∧ st'.l.length = 1)
        (fun T' H' Q' W hQ => ?_) _ (fun d pre post e _ h2 => ?_) (fun _ a3 st3 T3 H3 hR3 s3 W3 => ?_)
      · refine doGet_ev 10 T' H' p _ W hK8 (by decide) (gF 70) ⟨by decide, by decide, by decide, by decide⟩ rfl Q' fun v d st' T2 H2 h1 h4 h5 st W2 => ?_
        have hok : st'.Ok := by
          obtain ⟨_, _, S⟩ := W2
          exact S.store.ok
        refine hQ _ st' T2 H2 ⟨?_, one_len hok (kept hL8 h5)⟩ st W2
        have h8 : st8.look (nameB (gF 70)) = some (verB (.ofNat 1) [118]) := by rw [hmn, hL8, if_pos rfl]
        have h1 : (st8.look (nameB (gF 70)) = none ∧ v = 0 ∧ d = []) ∨ (st8.look (nameB (gF 70)) = some (verB v d) ∧ -9223372036854775808 ≤ v ∧ v ≤ 9223372036854775807) := h1
        rw [h8] at h1
        rcases h1 with ⟨h1, _⟩ | ⟨h1, h2, h3⟩
        · cases h1
        · obtain ⟨e1, e2⟩ := verB_inj (Option.some.inj h1) (by decide) (by decide) h2 h3
          rw [← e1, ← e2]
      · have h6 : d.rid = .ofNat 60 := by
          match pre, e with
          | [], e => cases e; rfl
          | _ :: [], e => cases e
          | _ :: _ :: _, e => cases e
        rw [h6] at h2
        exact absurd h2 (by decide)
      obtain ⟨rfl, hn3⟩ := hR3
      have t3 := t2.trans (s3.mono (P := OL) fun u h => ol7 h)
      obtain ⟨T4, s4, a4⟩ := new1 (T := T3) t3.ok (0, 4, 0) (.cells [.int .i64 (.ofNat 6), .int .i64 (.ofNat 1), .int .i64 (.ofNat 3), .int .i64 (.ofNat 70), .int .i64 (.ofNat 0), .int .i64 (.ofNat 1), .str [107], .int .i64 (.ofNat 1), .str [118]] 1)
      have W4 := W3.step s4 (fun _ _ h => h)
      have t4 := t3.trans (s4.mono (P := OL) fun _ h => h.elim)
      have hg4 := a4.1
      show Xk lib _ _ (kput _ _ (.tup [.agg [.int .i64 (.ofNat 6), .int .i64 (.ofNat 1), .int .i64 (.ofNat 3), .int .i64 (.ofNat 70), .int .i64 (.ofNat 0), .int .i64 (.ofNat 1), .str [107], .int .i64 (.ofNat 1), .str [118]], .bool true])) H3 _
      repeat (first | ((first | apply Xk.sAny | apply Xk.tAny); (case hok => rfl); (case h => intro C hC; simp (disch := omega) only [w1, ↓reduceIte, Nat.reduceEqDiff, Nat.reduceLeDiff, Nat.reduceAdd, Nat.reduceSub, hg4, eq_self]; with_reducible exact hC); refine gc ?_) | refine gm ?_)
      repeat (first | ((first | apply Xk.sAny | apply Xk.tAny); (case hok => rfl); (case h => intro C hC; simp (disch := omega) only [w1, ↓reduceIte, Nat.reduceEqDiff, Nat.reduceLeDiff, Nat.reduceAdd, Nat.reduceSub, hg4, eq_self]; with_reducible exact hC); refine gc ?_) | refine gm ?_)
      generalize H3.new (.cells [.int .i64 (.ofNat 6), .int .i64 (.ofNat 1), .int .i64 (.ofNat 3), .int .i64 (.ofNat 70), .int .i64 (.ofNat 0), .int .i64 (.ofNat 1), .str [107], .int .i64 (.ofNat 1), .str [118]] 1) = H4 at s4 a4 hg4 W4 t4 ⊢
      refine sLen_ev 10 T4 H4 p _ W4 _ ?_
      rw [hn3]
      repeat (first | ((first | apply Xk.sAny | apply Xk.tAny); (case hok => rfl); (case h => intro C hC; simp (disch := omega) only [w1, ↓reduceIte, Nat.reduceEqDiff, Nat.reduceLeDiff, Nat.reduceAdd, Nat.reduceSub, eq_self]; with_reducible exact hC); refine gc ?_) | refine gm ?_)
      repeat (first | ((first | apply Xk.sAny | apply Xk.tAny); (case hok => rfl); (case h => intro C hC; simp (disch := omega) only [w1, ↓reduceIte, Nat.reduceEqDiff, Nat.reduceLeDiff, Nat.reduceAdd, Nat.reduceSub, eq_self]; with_reducible exact hC); refine gc ?_) | refine gm ?_)
      refine Wipe_ev 10 T4 H4 p _ W4 (sf_rt _ _ _) _ fun T5 H5 s5 W5 => ?_
      have t5 := t4.trans (s5.mono (P := OL) fun u h => ol7 h)
      repeat (first | ((first | apply Xk.sAny | apply Xk.tAny); (case hok => rfl); (case h => intro C hC; simp (disch := omega) only [w1, ↓reduceIte, Nat.reduceEqDiff, Nat.reduceLeDiff, Nat.reduceAdd, Nat.reduceSub]; with_reducible exact hC); refine gc ?_) | refine gm ?_)
      repeat (first | ((first | apply Xk.sAny | apply Xk.tAny); (case hok => rfl); (case h => intro C hC; simp (disch := omega) only [w1, ↓reduceIte, Nat.reduceEqDiff, Nat.reduceLeDiff, Nat.reduceAdd, Nat.reduceSub]; with_reducible exact hC); refine gc ?_) | refine gm ?_)
      refine ask_ev 2 (.ofNat 71) [107] [] (.ofNat 0) H5 _ fun H6 hO6 hle6 => ?_
      have s6 : Stp (fun _ => False) T5 H5 T5 H6 := Stp.le hO6 hle6
      have W6 := W5.step s6 (fun _ _ h => h)
      have t6 := t5.trans (s6.mono (P := OL) fun _ h => h.elim)
      repeat (first | ((first | apply Xk.sAny | apply Xk.tAny); (case hok => rfl); (case h => intro C hC; simp (disch := omega) only [w1, ↓reduceIte, Nat.reduceEqDiff, Nat.reduceLeDiff, Nat.reduceAdd, Nat.reduceSub]; with_reducible exact hC); refine gc ?_) | refine gm ?_)
      rw [askF_req _ _ _ _ (by decide)]
      refine Take_not_ev 10 T5 H6 p _ W6 (gF 71) (.inr (.inr (.inr (.inl ⟨by decide, .inl rfl⟩)))) _ fun T7 H7 s7 W7 => ?_
      have t7 := t6.trans (s7.mono (P := OL) fun u h => ol7 h)
      rw [noFr_cells]
      obtain ⟨T8, s8, a8⟩ := new1 (T := T7) t7.ok (0, 5, 0) (.cells [.int .i64 (.ofNat 0), .int .i64 (.ofNat 0), .int .i64 (.ofNat 0), .int .i64 (.ofNat 0), .int .i64 (.ofNat 0), .int .i64 (.ofNat 0), .str [], .int .i64 (.ofNat 0), .str []] 1)
      have W8 := W7.step s8 (fun _ _ h => h)
      have t8 := t7.trans (s8.mono (P := OL) fun _ h => h.elim)
      repeat (first | ((first | apply Xk.sAny | apply Xk.tAny); (case hok => rfl); (case h => intro C hC; simp (disch := omega) only [w1, ↓reduceIte, Nat.reduceEqDiff, Nat.reduceLeDiff, Nat.reduceAdd, Nat.reduceSub]; with_reducible exact hC); refine gc ?_) | refine gm ?_)
      repeat (first | ((first | apply Xk.sAny | apply Xk.tAny); (case hok => rfl); (case h => intro C hC; simp (disch := omega) only [w1, ↓reduceIte, Nat.reduceEqDiff, Nat.reduceLeDiff, Nat.reduceAdd, Nat.reduceSub]; with_reducible exact hC); refine gc ?_) | refine gm ?_)
      generalize H7.new (.cells [.int .i64 (.ofNat 0), .int .i64 (.ofNat 0), .int .i64 (.ofNat 0), .int .i64 (.ofNat 0), .int .i64 (.ofNat 0), .int .i64 (.ofNat 0), .str [], .int .i64 (.ofNat 0), .str []] 1) = H8 at s8 a8 W8 t8 ⊢
      refine ask_ev 5 (.ofNat 1) [] [] (.ofNat 0) H8 _ fun H9 hO9 hle9 => ?_
      have s9 : Stp (fun _ => False) T8 H8 T8 H9 := Stp.le hO9 hle9
      have W9 := W8.step s9 (fun _ _ h => h)
      have t9 := t8.trans (s9.mono (P := OL) fun _ h => h.elim)
      show Xk lib _ _ (kput _ _ (.agg [.int .i64 (.ofNat 5), .int .i64 (.ofNat 1), .int .i64 (.ofNat 3), .int .i64 (.ofNat 1), .int .i64 (.ofNat 0), .int .i64 (.ofNat 0), .str [], .int .i64 (.ofNat 0), .str []])) H9 _
      obtain ⟨TA, sA, aA⟩ := new1 (T := T8) t9.ok (0, 6, 0) (.cells [.int .i64 (.ofNat 5), .int .i64 (.ofNat 1), .int .i64 (.ofNat 4), .int .i64 (.ofNat 1), .int .i64 (.ofNat 0), .int .i64 (.ofNat 0), .str [], .int .i64 (.ofNat 0), .str []] 1)
      have WA := W9.step sA (fun _ _ h => h)
      have tA := t9.trans (sA.mono (P := OL) fun _ h => h.elim)
      have hgA := aA.1
      repeat (first | ((first | apply Xk.sAny | apply Xk.tAny); (case hok => rfl); (case h => intro C hC; simp (disch := omega) only [w1, ↓reduceIte, Nat.reduceEqDiff, Nat.reduceLeDiff, Nat.reduceAdd, Nat.reduceSub]; with_reducible exact hC); refine gc ?_) | refine gm ?_)
      repeat (first | ((first | apply Xk.sAny | apply Xk.tAny); (case hok => rfl); (case h => intro C hC; simp (disch := omega) only [w1, ↓reduceIte, Nat.reduceEqDiff, Nat.reduceLeDiff, Nat.reduceAdd, Nat.reduceSub, hgA]; with_reducible exact hC); refine gc ?_) | refine gm ?_)
      repeat (first | ((first | apply Xk.sAny | apply Xk.tAny); (case hok => rfl); (case h => intro C hC; simp (disch := omega) only [w1, ↓reduceIte, Nat.reduceEqDiff, Nat.reduceLeDiff, Nat.reduceAdd, Nat.reduceSub, hgA]; with_reducible exact hC); refine gc ?_) | refine gm ?_)
      generalize H9.new (.cells [.int .i64 (.ofNat 5), .int .i64 (.ofNat 1), .int .i64 (.ofNat 4), .int .i64 (.ofNat 1), .int .i64 (.ofNat 0), .int .i64 (.ofNat 0), .str [], .int .i64 (.ofNat 0), .str []] 1) = HA at sA aA hgA WA tA ⊢
      refine Take_reset_ev 10 TA HA p _ WA ⟨.ofNat 5, .ofNat 1, .ofNat 4, .ofNat 1, .ofNat 0, .ofNat 0, [], .ofNat 0, []⟩ ⟨by show 1 ≤ 4; decide, by show 4 ≤ 64; decide, by show 64 ≤ 1024; decide, by show 1024 ≤ 65536; decide⟩ (by decide) rfl rfl (by show Int.ofNat 3 < Int.ofNat 4; decide) _ fun TB HB sB WB => ?_
      have tB := tA.trans (sB.mono (P := OL) fun u h => ol7 h)
      show Xk lib _ _ (kput _ _ (.tup [.agg [.int .i64 (.ofNat 6), .int .i64 (.ofNat 1), .int .i64 (.ofNat 4), .int .i64 (.ofNat 1), .int .i64 (.ofNat 0), .int .i64 (.ofNat 0), .str [], .int .i64 (.ofNat 0), .str []], .bool true])) HB _
      obtain ⟨TC, sC, aC⟩ := new1 (T := TB) tB.ok (0, 7, 0) (.cells [.int .i64 (.ofNat 6), .int .i64 (.ofNat 1), .int .i64 (.ofNat 4), .int .i64 (.ofNat 1), .int .i64 (.ofNat 0), .int .i64 (.ofNat 0), .str [], .int .i64 (.ofNat 0), .str []] 1)
      have WC := WB.step sC (fun _ _ h => h)
      have tC := tB.trans (sC.mono (P := OL) fun _ h => h.elim)
      repeat (first | ((first | apply Xk.sAny | apply Xk.tAny); (case hok => rfl); (case h => intro C hC; simp (disch := omega) only [w1, ↓reduceIte, Nat.reduceEqDiff, Nat.reduceLeDiff, Nat.reduceAdd, Nat.reduceSub]; with_reducible exact hC); refine gc ?_) | refine gm ?_)
      repeat (first | ((first | apply Xk.sAny | apply Xk.tAny); (case hok => rfl); (case h => intro C hC; simp (disch := omega) only [w1, ↓reduceIte, Nat.reduceEqDiff, Nat.reduceLeDiff, Nat.reduceAdd, Nat.reduceSub]; with_reducible exact hC); refine gc ?_) | refine gm ?_)
      generalize HB.new (.cells [.int .i64 (.ofNat 6), .int .i64 (.ofNat 1), .int .i64 (.ofNat 4), .int .i64 (.ofNat 1), .int .i64 (.ofNat 0), .int .i64 (.ofNat 0), .str [], .int .i64 (.ofNat 0), .str []] 1) = HC at sC aC WC tC ⊢
      refine ask_ev 2 (.ofNat 72) [107] [] (.ofNat 0) HC _ fun HD hOD hleD => ?_
      have sD : Stp (fun _ => False) TC HC TC HD := Stp.le hOD hleD
      have WD := WC.step sD (fun _ _ h => h)
      have tD := tC.trans (sD.mono (P := OL) fun _ h => h.elim)
      repeat (first | ((first | apply Xk.sAny | apply Xk.tAny); (case hok => rfl); (case h => intro C hC; simp (disch := omega) only [w1, ↓reduceIte, Nat.reduceEqDiff, Nat.reduceLeDiff, Nat.reduceAdd, Nat.reduceSub]; with_reducible exact hC); refine gc ?_) | refine gm ?_)
      rw [askF_req _ _ _ _ (by decide)]
      refine Take_not_ev 10 TC HD p _ WD (gF 72) (.inr (.inr (.inr (.inl ⟨by decide, .inr (.inl (by show ¬ (Int.ofNat 3 = Int.ofNat 4); decide))⟩)))) _ fun TE HE sE WE => ?_
      have tE := tD.trans (sE.mono (P := OL) fun u h => ol7 h)
      rw [noFr_cells]
      obtain ⟨TF, sF, aF⟩ := new1 (T := TE) tE.ok (0, 8, 0) (.cells [.int .i64 (.ofNat 0), .int .i64 (.ofNat 0), .int .i64 (.ofNat 0), .int .i64 (.ofNat 0), .int .i64 (.ofNat 0), .int .i64 (.ofNat 0), .str [], .int .i64 (.ofNat 0), .str []] 1)
      have WF := WE.step sF (fun _ _ h => h)
      repeat (first | ((first | apply Xk.sAny | apply Xk.tAny); (case hok => rfl); (case h => intro C hC; simp (disch := omega) only [w1, ↓reduceIte, Nat.reduceEqDiff, Nat.reduceLeDiff, Nat.reduceAdd, Nat.reduceSub]; with_reducible exact hC); refine gc ?_) | refine gm ?_)
      repeat (first | ((first | apply Xk.sAny | apply Xk.tAny); (case hok => rfl); (case h => intro C hC; simp (disch := omega) only [w1, ↓reduceIte, Nat.reduceEqDiff, Nat.reduceLeDiff, Nat.reduceAdd, Nat.reduceSub]; with_reducible exact hC); refine gc ?_) | refine gm ?_)
      generalize HE.new (.cells [.int .i64 (.ofNat 0), .int .i64 (.ofNat 0), .int .i64 (.ofNat 0), .int .i64 (.ofNat 0), .int .i64 (.ofNat 0), .int .i64 (.ofNat 0), .str [], .int .i64 (.ofNat 0), .str []] 1) = HF at sF aF WF ⊢
      refine sInc_ev 10 TF HF p _ WF _ ?_
      show Xk lib _ _ (kput _ _ (.int .i64 (.ofNat 4))) HF _
      repeat (first | ((first | apply Xk.sAny | apply Xk.tAny); (case hok => rfl); (case h => intro C hC; simp (disch := omega) only [w1, ↓reduceIte, Nat.reduceEqDiff, Nat.reduceLeDiff, Nat.reduceAdd, Nat.reduceSub, eq_self]; with_reducible exact hC); refine gc ?_) | refine gm ?_)
      refine sLen_ev 10 TF HF p _ WF _ ?_
      show Xk lib _ _ (kput _ _ (.int .i64 (.ofNat 0))) HF _
      repeat (first | ((first | apply Xk.sAny | apply Xk.tAny); (case hok => rfl); (case h => intro C hC; simp (disch := omega) only [w1, ↓reduceIte, Nat.reduceEqDiff, Nat.reduceLeDiff, Nat.reduceAdd, Nat.reduceSub, eq_self]; with_reducible exact hC); refine gc ?_) | refine gm ?_)
      refine SRuns_ev _ _ ?_
      repeat (first | ((first | apply Xk.sAny | apply Xk.tAny); (case hok => rfl); (case h => intro C hC; simp (disch := omega) only [w1, ↓reduceIte, Nat.reduceEqDiff, Nat.reduceLeDiff, Nat.reduceAdd, Nat.reduceSub]; with_reducible exact hC); refine gc ?_) | refine gm ?_)
      rfl
end Go.Proofs.Ytihoblfmhighpaa
