/- Layer 19: AskPlays' law, its parts. Conditions: none. -/
import Derived.Test.YtcpcajfmkmgjeaaAkW
namespace Go.Proofs.Ytcpcajfmkmgjeaa
open Go.Dp
set_option linter.unusedSimpArgs false
set_option linter.unusedVariables false
set_option maxHeartbeats 400000
set_option maxRecDepth 8000
attribute [local irreducible] Ex.thnK Ex.inK Ret

/-- the program's requests and the reference's, in one heap -/
structure OT (H G : Heap) (p q : Nat) (L : List Rq) (last : Nat) (M : List Rq) (mast : Nat) : Prop where
  a : Ask H G p L last
  w : Ask H G q M mast
  ok : G.Ok
  le : HLe H G
  dis : ∀ b, InA G p b → ¬ InA G q b
/-- a block of the law's own -/
def OB (G : Heap) (p q b : Nat) (x : Blk) : Prop := G.get b = some x ∧ ¬ InA G p b ∧ ¬ InA G q b
theorem OT.swap {H G : Heap} {p q : Nat} {L M : List Rq} {last mast : Nat} (h : OT H G p q L last M mast) : OT H G q p M mast L last := ⟨h.w, h.a, h.ok, h.le, fun b h1 h2 => h.dis b h2 h1⟩
theorem OB.swap {G : Heap} {p q b : Nat} {x : Blk} (h : OB G p q b x) : OB G q p b x := ⟨h.1, h.2.2, h.2.1⟩
theorem OT.step {H G G' : Heap} {p q : Nat} {L L' M : List Rq} {last last' mast : Nat} (h : OT H G p q L last M mast) (hk : Keeps G G' p) (hO : G'.Ok) (hle : HLe H G') (hA : Ask H G' p L' last') :
    OT H G' p q L' last' M mast ∧ (∀ b x, OB G p q b x → OB G' p q b x) ∧ ∀ b, InA G' q b ↔ InA G q b := by
  obtain ⟨a1, a2⟩ := h.w.keep (H' := G') fun b y hb hi => (hk b y hb (fun h1 => h.dis b h1 hi)).1
  refine ⟨⟨hA, a1, hO, hle, fun b h1 h2 => ?_⟩, fun b x hb => ?_, a2⟩
  · have h3 := (a2 b).1 h2
    obtain ⟨y, hy⟩ := h.w.old h3
    exact (hk b y hy (fun h4 => h.dis b h4 h3)).2 h1
  · obtain ⟨q1, q2⟩ := hk b x hb.1 hb.2.1
    exact ⟨q1, q2, fun h1 => hb.2.2 ((a2 b).1 h1)⟩
theorem OT.mono {H G G' : Heap} {p q : Nat} {L M : List Rq} {last mast : Nat} (h : OT H G p q L last M mast) (hO : G'.Ok) (hle : HLe G G') : OT H G' p q L last M mast ∧ (∀ b x, OB G p q b x → OB G' p q b x) ∧ (∀ b, InA G' q b ↔ InA G q b) ∧ ∀ b, InA G' p b ↔ InA G p b := by
  obtain ⟨h1, h2, h3⟩ := h.step (h.a.keeps hle) hO (h.le.trans hle) (h.a.mono hle)
  exact ⟨h1, h2, h3, (h.a.keep (H' := G') fun b y hb _ => hle b y hb).2⟩
theorem OT.new {H G : Heap} {p q : Nat} {L M : List Rq} {last mast : Nat} (h : OT H G p q L last M mast) (x : Blk) : OT H (G.new x) p q L last M mast ∧ (∀ b y, OB G p q b y → OB (G.new x) p q b y) ∧ OB (G.new x) p q G.next x := by
  obtain ⟨h1, h2, h3, h4⟩ := h.mono (h.ok.new x) (HLe.new (h.ok _ (Nat.le_refl _)) x)
  refine ⟨h1, h2, Heap.get_new_self _ _, fun hi => ?_, fun hi => ?_⟩
  · obtain ⟨y, hy⟩ := h.a.old ((h4 _).1 hi)
    rw [h.ok _ (Nat.le_refl _)] at hy; cases hy
  · obtain ⟨y, hy⟩ := h.w.old ((h3 _).1 hi)
    rw [h.ok _ (Nat.le_refl _)] at hy; cases hy

theorem begB_slot {f : Fr} {last : Nat} (h : begB f last = true) : .ofNat 0 ≤ f.slot ∧ f.slot ≤ .ofNat 11 := by
  unfold begB rightB at h
  simp only [Bool.and_eq_true] at h
  have h1 := h.1.1.1.1.1.1.1.1.2
  unfold inB at h1
  simp only [Bool.and_eq_true, decide_eq_true_eq] at h1
  exact h1

theorem srt_ext : ∀ {a b : List Int}, a.Pairwise (· < ·) → b.Pairwise (· < ·) → (∀ x, x ∈ a ↔ x ∈ b) → a = b
  | [], [], _, _, _ => rfl
  | [], y :: b, _, _, h => by have := (h y).2 (List.mem_cons_self ..); cases this
  | x :: a, [], _, _, h => by have := (h x).1 (List.mem_cons_self ..); cases this
  | x :: a, y :: b, ha, hb, h => by
    obtain ⟨a1, a2⟩ := List.pairwise_cons.1 ha
    obtain ⟨b1, b2⟩ := List.pairwise_cons.1 hb
    have e : x = y := by
      rcases List.mem_cons.1 ((h x).1 (List.mem_cons_self ..)) with q | q
      · exact q
      · rcases List.mem_cons.1 ((h y).2 (List.mem_cons_self ..)) with r | r
        · exact r.symm
        · have := b1 x q
          have := a1 y r
          omega
    subst e
    refine congrArg (x :: ·) (srt_ext a2 b2 fun z => ⟨fun hz => ?_, fun hz => ?_⟩)
    · rcases List.mem_cons.1 ((h z).1 (List.mem_cons_of_mem _ hz)) with q | q
      · have := a1 z hz
        omega
      · exact q
    · rcases List.mem_cons.1 ((h z).2 (List.mem_cons_of_mem _ hz)) with q | q
      · have := b1 z hz
        omega
      · exact q
theorem late_eq {z : List Int} {L : List Rq} (hs : Srt z) (hp : z.Perm (lateP L)) (hb : ∀ o ∈ L, .ofNat 0 ≤ o.f.slot ∧ o.f.slot ≤ .ofNat 11) : z = lateR L 12 := by
  obtain ⟨h1, h2⟩ := lateP_ok L
  have hn : z.Nodup := hp.nodup_iff.2 h1
  refine srt_ext ?_ ?_ fun x => ?_
  · have := List.pairwise_and_iff.2 ⟨hs, hn⟩
    exact this.imp fun {a b} ⟨q1, q2⟩ => by omega
  · unfold lateR
    refine List.pairwise_map.2 ((List.pairwise_lt_range.filter _).imp fun {a b} h => ?_)
    exact Int.ofNat_lt.2 h
  · rw [hp.mem_iff, h2]
    unfold lateR
    rw [List.mem_map]
    constructor
    · rintro ⟨o, q1, q2, q3⟩
      obtain ⟨b1, b2⟩ := hb o q1
      have b1 : (0 : Int) ≤ o.f.slot := b1
      have b2 : o.f.slot ≤ (11 : Int) := b2
      have e : o.f.slot = .ofNat o.f.slot.toNat := by
        show o.f.slot = ((o.f.slot.toNat : Nat) : Int)
        omega
      refine ⟨o.f.slot.toNat, List.mem_filter.2 ⟨List.mem_range.2 (by omega), (lateB_iff L _).2 ⟨o, q1, e, q3⟩⟩, ?_⟩
      rw [← q2]
      exact e.symm
    · rintro ⟨k, q1, q2⟩
      obtain ⟨o, r1, r2, r3⟩ := (lateB_iff L k).1 (List.mem_filter.1 q1).2
      exact ⟨o, r1, by rw [r2]; exact q2, r3⟩
/-- the first hit is one -/
theorem first_hit {L : List Rq} {f : Fr} {i j : Nat} (hi : i < L.length) (hj : j < L.length) (bi : ∀ o ∈ L.take i, hitB f o = false) (bj : ∀ o ∈ L.take j, hitB f o = false) (ei : hitB f (L.getD i noRq) = true) (ej : hitB f (L.getD j noRq) = true) : i = j := by
  have mem : ∀ {a b : Nat}, a < b → a < L.length → L.getD a noRq ∈ L.take b := fun {a b} hab ha => by
    rw [List.getD_eq_getElem?_getD, List.getElem?_eq_getElem ha]
    exact List.mem_take_iff_getElem.2 ⟨a, by omega, rfl⟩
  rcases Nat.lt_trichotomy i j with h | h | h
  · rw [bj _ (mem h hi)] at ei; cases ei
  · exact h
  · rw [bi _ (mem h hj)] at ej; cases ej
/-- a call that is asked for -/
structure Aq where
  k : Int
  n : Int
  f : Fr
def Aq.cells (x : Aq) : List AV := [.int .i64 x.k, .int .i64 x.n, .int .i64 x.f.kind, .int .i64 x.f.slot, .int .i64 x.f.inc, .int .i64 x.f.rid, .int .i64 x.f.floor, .int .i64 x.f.role, .str x.f.key, .int .i64 x.f.ver, .str x.f.data]
def noAq : Aq := ⟨.ofNat 0, .ofNat 0, noFr⟩
def aqs (l : List Aq) : List AV := l.flatMap Aq.cells

/-- the first k floors set to nought -/
def zf (F : List Fr) (k : Nat) : List Fr := (F.take k).map (fun f => f.fl (.ofNat 0)) ++ F.drop k
theorem zf_len (F : List Fr) (k : Nat) : (zf F k).length = F.length := by
  unfold zf
  rw [List.length_append, List.length_map, ← List.length_append, List.take_append_drop]
theorem zf_at (F : List Fr) {k : Nat} (h : k < F.length) : zf F k = (F.take k).map (fun f => f.fl (.ofNat 0)) ++ F.getD k noFr :: F.drop (k + 1) ∧ zf F (k + 1) = (F.take k).map (fun f => f.fl (.ofNat 0)) ++ (F.getD k noFr).fl (.ofNat 0) :: F.drop (k + 1) := by
  have hd : F.drop k = F.getD k noFr :: F.drop (k + 1) := by
    rw [List.drop_eq_getElem_cons h, List.getD_eq_getElem?_getD, List.getElem?_eq_getElem h]
    rfl
  have ht : F.take (k + 1) = F.take k ++ [F.getD k noFr] := by
    rw [List.take_add_one, List.getD_eq_getElem?_getD, List.getElem?_eq_getElem h]
    rfl
  refine ⟨?_, ?_⟩
  · unfold zf; rw [hd]
  · unfold zf; rw [ht, List.map_append, List.append_assoc]; rfl
/-- the store that sets one floor to nought -/
theorem zf_store {H0 G : Heap} {v : AV} {F : List Fr} {k : Nat} (hO : G.Ok) (hle : HLe H0 G) (h : RV H0 G 0 9 v (frs (zf F k))) (hk : k < F.length) :
    ∃ c l l', v = .sl c 0 F.length 9 ∧ G.get c = some (.cells l 1) ∧ k * 9 + 4 + 1 ≤ l.length ∧ l.take (k * 9 + 4) ++ AV.int .i64 (.ofNat 0) :: l.drop (k * 9 + 4 + 1) = l' ∧ RV H0 (G.put c (.cells l' 1)) 0 9 v (frs (zf F (k + 1))) ∧ (G.put c (.cells l' 1)).Ok ∧ HLe H0 (G.put c (.cells l' 1)) ∧ H0.get c = none := by
  rcases h with ⟨_, hz⟩ | ⟨c, len, l, rfl, h2, h3, h4, h5, h6⟩
  · have := congrArg List.length hz
    rw [frs_len, zf_len, List.length_nil] at this
    omega
  · rw [frs_len, zf_len] at h2 h4
    have hlen : len = F.length := by omega
    subst hlen
    obtain ⟨z1, z2⟩ := zf_at F hk
    rw [frs_len, zf_len] at h5
    have hcl : l = frs (zf F k) ++ l.drop (F.length * 9) := by
      have := List.take_append_drop (F.length * 9) l
      rw [h5] at this
      exact this.symm
    have hAl : (frs ((F.take k).map (fun f => f.fl (.ofNat 0)))).length = k * 9 := by rw [frs_len, List.length_map, List.length_take, Nat.min_eq_left (by omega)]
    generalize l.drop (F.length * 9) = tl at hcl
    generalize F.getD k noFr = g at z1 z2
    generalize F.drop (k + 1) = R at z1 z2
    generalize hP : frs ((F.take k).map (fun f => f.fl (.ofNat 0))) = P at hAl
    have e1 : l = P ++ (g.cells ++ (frs R ++ tl)) := by
      rw [hcl, z1, ← hP]
      unfold frs
      rw [List.flatMap_append, List.flatMap_cons, List.append_assoc, List.append_assoc]
    have e2 : l.take (k * 9 + 4) ++ AV.int .i64 (.ofNat 0) :: l.drop (k * 9 + 4 + 1) = frs (zf F (k + 1)) ++ tl := by
      rw [e1, ← hAl, List.take_length_add_append, show P.length + 4 + 1 = P.length + 5 from rfl, ← List.drop_drop, List.drop_left, z2, List.append_assoc]
      unfold frs at hP ⊢
      rw [List.flatMap_append, List.flatMap_cons, hP, List.append_assoc, List.append_assoc]
      rfl
    have hl2 : (frs (zf F (k + 1)) ++ tl).length = l.length := by rw [hcl, List.length_append, List.length_append, frs_len, frs_len, zf_len, zf_len]
    refine ⟨c, l, _, rfl, h3, by omega, e2, .inr ⟨c, F.length, _, rfl, by rw [frs_len, zf_len], Heap.get_put_self _ _ _, by rw [List.length_append]; exact Nat.le_add_right _ _, List.take_left, h6⟩, hO.put h3 _, hle.put_ h6 _, h6⟩

theorem light_ev (f : Fr) (hk : f.key.length ≤ 281474976710656) (hd : f.data.length ≤ 281474976710656) (H : Heap) (Q : AV → Heap → Prop) (hQ : ∀ H' b, H'.Ok → HLe H H' → Q (.bool b) H') : Eo lib n_depotlaw19_light [.agg f.cells] H Q := by
  refine Eo.ok fun hOk => ?_
  refine Eo.code at_depotlaw19_light rfl ?_
  have hbx := box_fr f
  have hg := Heap.get_new_self H (.cells f.cells 1)
  have hO := hOk.new (.cells f.cells 1)
  have hle := HLe.new (hOk _ (Nat.le_refl _)) (.cells f.cells 1)
  simp only [Fr.cells] at hbx hg hO hle ⊢
  by_cases c : f.key.length + f.data.length < 1000
  · repeat (first | ((first | apply Xk.sAny | apply Xk.tAny); (case hok => rfl); (case h => intro C hC; simp (disch := omega) only [w1, ↓reduceIte, Nat.reduceEqDiff, Nat.reduceLeDiff, Nat.reduceAdd, Nat.reduceSub, hbx, hg, c]; with_reducible exact hC); refine gc ?_) | refine gm ?_)
    exact hQ _ _ hO hle
  · repeat (first | ((first | apply Xk.sAny | apply Xk.tAny); (case hok => rfl); (case h => intro C hC; simp (disch := omega) only [w1, ↓reduceIte, Nat.reduceEqDiff, Nat.reduceLeDiff, Nat.reduceAdd, Nat.reduceSub, hbx, hg, c]; with_reducible exact hC); refine gc ?_) | refine gm ?_)
    exact hQ _ _ hO hle
end Go.Proofs.Ytcpcajfmkmgjeaa
