/- The slab: a new one. Conditions: none. -/
import Derived.Test.YtihoblfmhighpaaSbE
namespace Go.Proofs.Ytihoblfmhighpaa
open Go.Dp
set_option linter.unusedSimpArgs false
set_option linter.unusedVariables false
set_option maxHeartbeats 400000
set_option maxRecDepth 8000
attribute [local irreducible] Ex.thnK Ex.inK Ret

def szs (page size : Nat) : List Nat := if h : 0 < size ∧ size ≤ page then size :: szs page (size * 2) else []
termination_by page + 1 - size
decreasing_by omega
def newSb (pages page : Nat) : Sb := ⟨page, pages, 0, (szs page 64).map fun z => ⟨z, [], [], 0⟩⟩
theorem szs_bd (page : Nat) : ∀ (m size : Nat), page + 1 - size ≤ m → ∀ z ∈ szs page size, size ≤ z ∧ z ≤ page := by
  intro m
  induction m with
  | zero => intro size h z hz; rw [szs, dif_neg (by omega)] at hz; cases hz
  | succ m ih =>
    intro size h z hz
    rw [szs] at hz
    split at hz
    · rename_i hh
      rcases List.mem_cons.1 hz with rfl | hz
      · exact ⟨Nat.le_refl _, hh.2⟩
      · have := ih (size * 2) (by omega) z hz
        omega
    · cases hz
theorem szs_len (page : Nat) : ∀ (k size : Nat), 0 < size → page < size * 2 ^ k → (szs page size).length ≤ k
  | 0, size, h0, h => by rw [szs, dif_neg (by omega)]; exact Nat.le_refl _
  | k + 1, size, h0, h => by
      rw [szs]
      split
      · rw [List.length_cons]
        have := szs_len page k (size * 2) (by omega) (by rw [Nat.mul_assoc, Nat.mul_comm 2 (2 ^ k), ← Nat.pow_succ]; exact h)
        omega
      · exact Nat.zero_le _
theorem newSb_ok {pages page : Nat} (h1 : pages ≤ 64) (h3 : page ≤ 65536) : (newSb pages page).Ok := by
  refine ⟨h3, by show pages + 0 ≤ 64; omega, fun c hc => ?_, ?_⟩
  · obtain ⟨z, hz, rfl⟩ := List.mem_map.1 hc
    have := szs_bd page _ 64 (Nat.le_refl _) z hz
    refine ⟨List.nodup_nil, ?_, Nat.le_refl _, Nat.zero_le _, this.1, this.2⟩
    intro k hk
    cases hk
  · show ((szs page 64).map _).length ≤ 20
    rw [List.length_map]
    exact szs_len page 20 64 (by decide) (by omega)

def SbV (σ : Nat) (T : Tags) (H : Heap) (p : Nat) (s : Sb) (v : AV) : Prop :=
  At T H (σ, 0, 0) p (.cells [.int .i64 (.ofNat s.page), .int .i64 (.ofNat s.left), .int .i64 (.ofNat s.used), v] 1) ∧
  ∃ rows : List CR, rows.length = s.cs.length ∧ RT T H (σ, 1, 0) 0 4 v (rows.flatMap CR.cells) ∧ ∀ i, i < s.cs.length → ClH σ T H i (rows.getD i noCR) (s.cl i)

theorem SbV.add {σ : Nat} {T : Tags} {H : Heap} {p : Nat} {s : Sb} {v : AV} (h : SbV σ T H p s v) (hO : H.Ok) (hl : s.cs.length ≤ 1000) (z : Nat) :
    ∃ v' H' T', evalApp 0 4 48 ((H.new (.mp [] 0)).new (.cells [.int .i64 (.ofNat z), .nils, .map H.next, .int .i64 (.ofNat 0)] 1)) v (.sl (H.next + 1) 0 1 4) = some (v', H') ∧ v'.isSc = true ∧ v'.cells = [v'] ∧
      H'.get p = some (.cells [.int .i64 (.ofNat s.page), .int .i64 (.ofNat s.left), .int .i64 (.ofNat s.used), v] 1) ∧
      Stp (fun u => u.1 = σ) T H T' (H'.put p (.cells [.int .i64 (.ofNat s.page), .int .i64 (.ofNat s.left), .int .i64 (.ofNat s.used), v'] 1)) ∧
      SbV σ T' (H'.put p (.cells [.int .i64 (.ofNat s.page), .int .i64 (.ofNat s.left), .int .i64 (.ofNat s.used), v'] 1)) p ⟨s.page, s.left, s.used, s.cs ++ [⟨z, [], [], 0⟩]⟩ v' := by
  obtain ⟨ha, rows, hl2, hr, hall⟩ := h
  obtain ⟨T1, s1, m1⟩ := new1 (T := T) hO (σ, 3, s.cs.length) (.mp [] 0)
  have hr1 := hr.step s1 (fun h => h)
  have hf : (rows.flatMap CR.cells).length = rows.length * 4 := fm_len (g := CR.cells) (fun _ => rfl) rows
  obtain ⟨v', H', T', e1, e2, e3⟩ := RT.push (bytes := 48) (w := 1) (row := [.int .i64 (.ofNat z), .nils, .map H.next, .int .i64 (.ofNat 0)]) s1.ok hr1 rfl rfl (by decide) (by rw [hf, Nat.mul_div_cancel _ (by decide)]; omega) (by rw [hf, Nat.mul_div_cancel _ (by decide)]; omega)
  have ha2 := (ha.step s1 (fun h => h)).step e2 (tg3 (by decide))
  have s3 := ha2.stp1 e2.ok (.cells [.int .i64 (.ofNat s.page), .int .i64 (.ofNat s.left), .int .i64 (.ofNat s.used), v'] 1)
  refine ⟨v', H', T', e1, e3.sc.2, e3.sc.1, ha2.1, ((s1.mono fun _ h => h.elim).trans (e2.mono fun u h => by rw [h])).trans (s3.mono fun u h => by rw [h]), ha2.put _, rows ++ [⟨z, .nils, .map H.next, 0⟩], ?_, ?_, fun i hi => ?_⟩
  · show _ = (s.cs ++ [_]).length
    rw [List.length_append, List.length_append, hl2]
    rfl
  · rw [List.flatMap_append]
    have : RT T' H' (σ, 1, 0) 0 4 v' (rows.flatMap CR.cells ++ [(⟨z, .nils, .map H.next, 0⟩ : CR)].flatMap CR.cells) := e3
    exact this.step s3 (tg3 (by decide))
  · have hi : i < (s.cs ++ [(⟨z, [], [], 0⟩ : Cl)]).length := hi
    rw [List.length_append, List.length_singleton] at hi
    show ClH σ T' _ i _ ((s.cs ++ [(⟨z, [], [], 0⟩ : Cl)]).getD i noCl)
    by_cases e : i < s.cs.length
    · have h1 := ((hall i e).step s1 (fun h => h) (fun h => h)).step e2 (tg3 (by decide)) (tg3 (by decide))
      have h2 := h1.step s3 (tg3 (by decide)) (tg3 (by decide))
      rw [List.getD_eq_getElem?_getD, List.getD_eq_getElem?_getD, List.getElem?_append_left (by omega), List.getElem?_append_left e, ← List.getD_eq_getElem?_getD, ← List.getD_eq_getElem?_getD]
      exact h2
    · obtain rfl : i = s.cs.length := by omega
      rw [List.getD_eq_getElem?_getD, List.getD_eq_getElem?_getD, List.getElem?_append_right (by omega), List.getElem?_append_right (by omega), hl2, Nat.sub_self]
      exact ⟨rfl, rfl, RT.nil, H.next, [], 0, rfl, (m1.step e2 (tg3 (by decide))).step s3 (tg3 (by decide)), rfl⟩

theorem sNew_ev (σ : Nat) (T : Tags) (H : Heap) (pages page : Int) (Q : AV → Heap → Prop)
    (hno : (pages < 1 ∨ 64 < pages ∨ page < 64 ∨ 65536 < page) → Q (.tup [.nilp, .int .i64 (.ofNat 1)]) H)
    (hyes : ∀ a b : Nat, pages = .ofNat a → page = .ofNat b → 1 ≤ a → a ≤ 64 → 64 ≤ b → b ≤ 65536 → ∀ p c T' H', Stp (fun u => u.1 = σ) T H T' H' → SbC σ T' H' p (newSb a b) c → Q (.tup [.ptr p 0, .int .i64 (.ofNat 0)]) H') :
    Eo lib n_slab_New [.int .i64 pages, .int .i64 page] H Q := by
  refine Eo.ok fun hOk => ?_
  refine Eo.code at_slab_New rfl ?_
  by_cases c1 : pages < Int.ofNat 1
  · have c1' := eq_true c1
    iterate 2 repeat (first | ((first | apply Xk.sAny | apply Xk.tAny); (case hok => rfl); (case h => intro C hC; simp (disch := omega) only [w1, ↓reduceIte, Nat.reduceEqDiff, Nat.reduceLeDiff, Nat.reduceAdd, Nat.reduceSub, c1']; with_reducible exact hC); refine gc ?_) | refine gm ?_)
    exact hno (.inl c1)
  have c1' := eq_false c1
  by_cases c2 : Int.ofNat 64 < pages
  · have c2' := eq_true c2
    iterate 2 repeat (first | ((first | apply Xk.sAny | apply Xk.tAny); (case hok => rfl); (case h => intro C hC; simp (disch := omega) only [w1, ↓reduceIte, Nat.reduceEqDiff, Nat.reduceLeDiff, Nat.reduceAdd, Nat.reduceSub, c1', c2']; with_reducible exact hC); refine gc ?_) | refine gm ?_)
    exact hno (.inr (.inl c2))
  have c2' := eq_false c2
  by_cases c3 : page < Int.ofNat 64
  · have c3' := eq_true c3
    iterate 2 repeat (first | ((first | apply Xk.sAny | apply Xk.tAny); (case hok => rfl); (case h => intro C hC; simp (disch := omega) only [w1, ↓reduceIte, Nat.reduceEqDiff, Nat.reduceLeDiff, Nat.reduceAdd, Nat.reduceSub, c1', c2', c3']; with_reducible exact hC); refine gc ?_) | refine gm ?_)
    exact hno (.inr (.inr (.inl c3)))
  have c3' := eq_false c3
  by_cases c4 : Int.ofNat 65536 < page
  · have c4' := eq_true c4
    iterate 2 repeat (first | ((first | apply Xk.sAny | apply Xk.tAny); (case hok => rfl); (case h => intro C hC; simp (disch := omega) only [w1, ↓reduceIte, Nat.reduceEqDiff, Nat.reduceLeDiff, Nat.reduceAdd, Nat.reduceSub, c1', c2', c3', c4']; with_reducible exact hC); refine gc ?_) | refine gm ?_)
    exact hno (.inr (.inr (.inr c4)))
  have c4' := eq_false c4
  have e1 : ¬ pages < 1 := c1
  have e2 : ¬ 64 < pages := c2
  have e3 : ¬ page < 64 := c3
  have e4 : ¬ 65536 < page := c4
  obtain ⟨a, rfl⟩ := Int.eq_ofNat_of_zero_le (show 0 ≤ pages by omega)
  obtain ⟨b, rfl⟩ := Int.eq_ofNat_of_zero_le (show 0 ≤ page by omega)
  have hy := hyes a b rfl rfl (by omega) (by omega) (by omega) (by omega)
  have hb64 : 64 ≤ b := by omega
  have hb : b ≤ 65536 := by omega
  clear hyes hno
  show Xk lib _ _ (argsK 0 [.int .i64 (.ofNat a), .int .i64 (.ofNat b)]) H _
  have c1'' : (Int.ofNat a < Int.ofNat 1) = False := c1'
  have c2'' : (Int.ofNat 64 < Int.ofNat a) = False := c2'
  have c3'' : (Int.ofNat b < Int.ofNat 64) = False := c3'
  have c4'' : (Int.ofNat 65536 < Int.ofNat b) = False := c4'
  have c5 : ¬ a < 1 := by omega
  have c6 : ¬ 64 < a := by omega
  have c7 : ¬ b < 64 := by omega
  have c8 : ¬ 65536 < b := by omega
  have hbx : nBox [.int .i64 (.ofNat b), .int .i64 (.ofNat a), .int .i64 (.ofNat 0), .nils] = some (.cells [.int .i64 (.ofNat b), .int .i64 (.ofNat a), .int .i64 (.ofNat 0), .nils] 1, ptrTo) := rfl
  iterate 2 repeat (first | ((first | apply Xk.sAny | apply Xk.tAny); (case hok => rfl); (case h => intro C hC; simp (disch := omega) only [w1, ↓reduceIte, Nat.reduceEqDiff, Nat.reduceLeDiff, Nat.reduceAdd, Nat.reduceSub, c5, c6, c7, c8, hbx]; with_reducible exact hC); refine gc ?_) | refine gm ?_)
  obtain ⟨T1, s1, a1⟩ := new1 (T := T) hOk (σ, 0, 0) (.cells [.int .i64 (.ofNat b), .int .i64 (.ofNat a), .int .i64 (.ofNat 0), .nils] 1)
  generalize H.new (.cells [.int .i64 (.ofNat b), .int .i64 (.ofNat a), .int .i64 (.ofNat 0), .nils] 1) = H1 at s1 a1 ⊢
  generalize H.next = p at a1 ⊢
  have hszl := szs_len b 20 64 (by decide) (by omega)
  refine Xk.iter [1, 6, 7] (fun m k H' => ∃ size done v T', m = b + 1 - size ∧ k = [(1, .int .i64 (.ofNat b)), (6, .ptr p 0), (7, .int .i64 (.ofNat size))] ∧ 64 ≤ size ∧ size ≤ 131072 ∧ szs b 64 = done ++ szs b size ∧
      SbV σ T' H' p ⟨b, a, 0, done.map fun z => ⟨z, [], [], 0⟩⟩ v ∧ Stp (fun u => u.1 = σ) T H T' H') rfl
    ⟨_, 64, [], .nils, T1, rfl, rfl, Nat.le_refl _, by decide, rfl, ⟨a1, [], rfl, RT.nil, fun i hi => by cases hi⟩, s1.mono fun _ h => h.elim⟩ ?_
  rintro m k H' ⟨size, done, v, T', rfl, rfl, hs1, hs2, hsz, hV, hst⟩
  unfold l0_slab_New
  by_cases c : size ≤ b
  · have hdl : done.length ≤ 20 := by
      have := congrArg List.length hsz
      rw [List.length_append] at this
      omega
    have hgp := hV.1.1
    have vsc : v.isSc = true ∧ v.cells = [v] := by
      obtain ⟨_, rows, _, hr, _⟩ := hV
      exact ⟨hr.sc.2, hr.sc.1⟩
    obtain ⟨vs1, vs2⟩ := vsc
    obtain ⟨v', H4, T4, f1, f2, f3, f4, f5, f6⟩ := hV.add hst.ok (by show (done.map _).length ≤ _; rw [List.length_map]; omega) size
    have hgp : H'.get p = some (.cells [.int .i64 (.ofNat b), .int .i64 (.ofNat a), .int .i64 (.ofNat 0), v] 1) := hgp
    have f4 : H4.get p = some (.cells [.int .i64 (.ofNat b), .int .i64 (.ofNat a), .int .i64 (.ofNat 0), v] 1) := f4
    have fm : size * 2 < 9223372036854775808 := by omega
    repeat (first | ((first | apply Xk.sAny | apply Xk.tAny); (case hok => rfl); (case h => intro C hC; simp (disch := omega) only [w1, ↓reduceIte, Nat.reduceEqDiff, Nat.reduceLeDiff, Nat.reduceAdd, Nat.reduceSub, c, hgp, vs1, vs2]; with_reducible exact hC); refine gc ?_) | refine gm ?_)
    iterate 2 repeat (first | ((first | apply Xk.sAny | apply Xk.tAny); (case hok => rfl); (case h => intro C hC; simp (disch := omega) only [w1, ↓reduceIte, Nat.reduceEqDiff, Nat.reduceLeDiff, Nat.reduceAdd, Nat.reduceSub, c, hgp, vs1, vs2, f1, f2, f3, f4]; with_reducible exact hC); refine gc ?_) | refine gm ?_)
    have hstep : szs b size = size :: szs b (size * 2) := by
      rw [szs, dif_pos ⟨by omega, c⟩]
    refine ⟨rfl, _, ?_, size * 2, done ++ [size], v', T4, rfl, rfl, by omega, by omega, ?_, ?_, hst.trans f5⟩
    · omega
    · rw [hsz, hstep, List.append_assoc]
      rfl
    · have e : (done ++ [size]).map (fun z => (⟨z, [], [], 0⟩ : Cl)) = done.map (fun z => (⟨z, [], [], 0⟩ : Cl)) ++ [⟨size, [], [], 0⟩] := by rw [List.map_append]; rfl
      rw [e]
      exact f6
  · have hnil : szs b size = [] := by rw [szs, dif_neg (fun h => c h.2)]
    rw [hnil, List.append_nil] at hsz
    iterate 2 repeat (first | ((first | apply Xk.sAny | apply Xk.tAny); (case hok => rfl); (case h => intro C hC; simp (disch := omega) only [w1, ↓reduceIte, Nat.reduceEqDiff, Nat.reduceLeDiff, Nat.reduceAdd, Nat.reduceSub, c]; with_reducible exact hC); refine gc ?_) | refine gm ?_)
    obtain ⟨ha, rows, hl, hr, hall⟩ := hV
    have hpos : 0 < rows.length := by
      rw [hl]
      show 0 < (done.map _).length
      rw [List.length_map, ← hsz, szs, dif_pos ⟨by decide, hb64⟩, List.length_cons]
      omega
    obtain ⟨c', cl, e1, e2, e3, e4, e5, e6⟩ := RT.rowG (g := CR.cells) (fun _ => rfl) noCR hr hpos (by decide)
    subst e1
    rw [hl] at ha hr
    refine hy p c' T' _ hst ?_
    have en : newSb a b = ⟨b, a, 0, done.map fun z => ⟨z, [], [], 0⟩⟩ := by unfold newSb; rw [hsz]
    rw [en]
    exact ⟨ha, rows, hl, hr, hall⟩
end Go.Proofs.Ytihoblfmhighpaa
