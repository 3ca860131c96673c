/- The slab: a chunk is given back. Conditions: none. -/
import Derived.Test.YtihoblfmhighpaaSbD
namespace Go.Proofs.Ytihoblfmhighpaa
open Go.Dp
set_option linter.unusedSimpArgs false
set_option linter.unusedVariables false
set_option maxHeartbeats 400000
set_option maxRecDepth 8000
attribute [local irreducible] Ex.thnK Ex.inK Ret

theorem Fo.del {σ : Nat} {T : Tags} {H : Heap} {p : Nat} {s : Sb} {c i : Nat} {rows : List CR} {cl : List AV} (h : Fo σ T H p s c i rows cl) (hO : H.Ok) {k : Nat} {d : List UInt8} (hn : ((s.cl i).live.map (·.1)).Nodup) (hm : (k, d) ∈ (s.cl i).live) :
    ∃ b es mc j born, (rows.getD i noCR).vm = .map b ∧ H.get b = some (.mp es mc) ∧ findE false (.int .i64 (.ofNat k)) es 0 = some (some (j, .str d, born)) ∧ b ≠ c ∧ Stp (fun u => u.1 = σ ∧ u.2.1 ≤ 3) T H T (H.put b (.mp (es.eraseIdx j) mc)) ∧
      SbC σ T (H.put b (.mp (es.eraseIdx j) mc)) p ⟨s.page, s.left, s.used, s.cs.set i { s.cl i with live := (s.cl i).live.filter fun x => x.1 != k }⟩ c := by
  have hi := h.hi
  rw [h.ln] at hi
  obtain ⟨g1, g2, g3, b, es, mc, g4, g5, g6⟩ := h.all i hi
  obtain ⟨j, born, e1, e2⟩ := mp_yes g6 hn hm 0
  rw [Nat.zero_add] at e1
  have st := g5.stp1 hO (.mp (es.eraseIdx j) mc)
  refine ⟨b, es, mc, j, born, g4, g5.1, e1, g5.ne h.row (tg3 (by decide)), st.mono fun u h => by rw [h]; exact ⟨rfl, by dsimp only; omega⟩, ?_⟩
  have hr : RT T (H.put b (.mp (es.eraseIdx j) mc)) (σ, 1, 0) 0 4 (.sl c 0 s.cs.length 4) ((rows.set i (rows.getD i noCR)).flatMap CR.cells) := by
    rw [set_getD]
    have : RT T H (σ, 1, 0) 0 4 (.sl c 0 s.cs.length 4) (rows.flatMap CR.cells) := by
      have e : (rows.flatMap CR.cells).length = rows.length * 4 := fm_len (g := CR.cells) (fun _ => rfl) rows
      exact .inr ⟨c, _, cl, by rw [h.ln], e, h.row.1, by rw [e]; exact h.le, by rw [e]; exact h.tk, h.row.2⟩
    exact this.step st (tg3 (by decide))
  exact h.re st (fun j hj => ⟨tg3 (by decide), tgn (.inr hj)⟩) (h.head.step st (tg3 (by decide))) hr ⟨g1, g2, g3.step st (tg3 (by decide)), b, _, _, g4, g5.put _, e2⟩

theorem Free_ev (σ : Nat) (T : Tags) (H : Heap) (p : Nat) (s : Sb) (c : Nat) (h : SbC σ T H p s c) (hs : s.Ok) (i k : Nat) (d : List UInt8) (hh : s.has i k d) (Q : AV → Heap → Prop)
    (hQ : ∀ T' H', Stp (fun u => u.1 = σ) T H T' H' → SbC σ T' H' p (s.give i k) c → Q (.bool true) H') : Eo lib n_slab_Slab_Free [.ptr p 0, .agg [.int .i64 (.ofNat i), .int .i64 (.ofNat k)]] H Q := by
  refine Eo.ok fun hOk => ?_
  refine Eo.code at_slab_Slab_Free rfl ?_
  have hil := hh.1
  have hln := hs.ln
  have hbx : nBox [.int .i64 (.ofNat i), .int .i64 (.ofNat k)] = some (.cells [.int .i64 (.ofNat i), .int .i64 (.ofNat k)] 1, ptrTo) := rfl
  obtain ⟨T1, s1, a1⟩ := new1 (T := T) hOk (σ, 9, 0) (.cells [.int .i64 (.ofNat i), .int .i64 (.ofNat k)] 1)
  have h1 := h.step s1 (fun _ _ h => h)
  iterate 2 repeat (first | ((first | apply Xk.sAny | apply Xk.tAny); (case hok => rfl); (case h => intro C hC; simp (disch := omega) only [w1, ↓reduceIte, Nat.reduceEqDiff, Nat.reduceLeDiff, Nat.reduceAdd, Nat.reduceSub, hbx]; with_reducible exact hC); refine gc ?_) | refine gm ?_)
  have st1 : Stp (fun u => u.1 = σ) T H T1 _ := s1.mono fun _ h => h.elim
  generalize H.new (.cells [.int .i64 (.ofNat i), .int .i64 (.ofNat k)] 1) = H1 at s1 a1 h1 st1 ⊢
  generalize H.next = pr at a1 ⊢
  have hg1 := a1.1
  repeat (first | ((first | apply Xk.sAny | apply Xk.tAny); (case hok => rfl); (case h => intro C hC; simp (disch := omega) only [w1, ↓reduceIte, Nat.reduceEqDiff, Nat.reduceLeDiff, Nat.reduceAdd, Nat.reduceSub, hg1]; with_reducible exact hC); refine gc ?_) | refine gm ?_)
  refine Read_ev2 σ T1 H1 p s c h1 hs i k d hh _ fun H2 hO2 hle2 => ?_
  have s2 : Stp (fun _ => False) T1 H1 T1 H2 := Stp.le hO2 hle2
  have a2 := a1.step s2 (fun h => h)
  have h2 := h1.step s2 (fun _ _ h => h)
  have st2 : Stp (fun u => u.1 = σ) T H T1 H2 := st1.trans (s2.mono fun _ h => h.elim)
  clear a1 h1 st1 s1 s2 hle2 hOk h hg1
  obtain ⟨rows, cl, F⟩ := h2.fo hil
  have hnd := (List.nodup_append.1 (hs.cl _ (Sb.cl_mem hil)).nd).2.1
  obtain ⟨b, es, mc, j, born, e1, e2, e3, e4, e5, e6⟩ := F.del hO2 hnd hh.2
  have hfl := (hs.fl hil).1
  have ecl := cl_set hil ({ s.cl i with live := (s.cl i).live.filter fun x => x.1 != k } : Cl) s.left s.used
  have hi3 : i < (s.cs.set i { s.cl i with live := (s.cl i).live.filter fun x => x.1 != k }).length := by rw [List.length_set]; exact hil
  obtain ⟨rows3, cl3, F3⟩ := e6.fo (i := i) hi3
  obtain ⟨v', H4, T4, f1, f2, f3, f4, f5, f6, f7⟩ := F3.push e5.ok (by rw [ecl]; show (s.cl i).free.length ≤ _; omega) k
  rw [ecl] at f7
  have f7 : SbC σ T4 _ p ⟨s.page, s.left, s.used, (s.cs.set i _).set i _⟩ c := f7
  rw [List.set_set] at f7
  have hg := F.head.1
  have hgc := F.row.1
  have hgp := a2.1
  have b4 := F.b4
  have d2 := F.d2
  rw [e1] at d2
  have b2 : i * 4 + 2 + 1 ≤ cl.length := by omega
  have hmd : eMdel H2 false (.map b) (.int .i64 (.ofNat k)) = some (.tup [], H2.put b (.mp (es.eraseIdx j) mc)) := by
    simp only [eMdel, e2, e3]
  have a3 := a2.step e5 (fun h => absurd h.2 (by dsimp only; omega))
  have hgp3 := a3.1
  have hgc3 := F3.row.1
  have d1 := F3.d1
  have b1 := F3.b4
  have b1' : i * 4 + 1 + 1 ≤ cl3.length := by omega
  obtain ⟨v1, v2, v3, v4⟩ := (F3.all i hi3).sc
  have hov : cl3.take (i * 4 + 1) ++ (v' :: cl3.drop (i * 4 + 1 + 1)) = over cl3 (i * 4 + 1) [v'] := rfl
  generalize over cl3 (i * 4 + 1) [v'] = cl4 at hov f5 f7
  generalize hH3 : H2.put b (.mp (es.eraseIdx j) mc) = H3 at hmd a3 hgp3 hgc3 e5 e6 f1 f5
  repeat (first | ((first | apply Xk.sAny | apply Xk.tAny); (case hok => rfl); (case h => intro C hC; simp (disch := omega) only [w1, ↓reduceIte, Nat.reduceEqDiff, Nat.reduceLeDiff, Nat.reduceAdd, Nat.reduceSub, hg, hgc, hgp, hil]; with_reducible exact hC); refine gc ?_) | refine gm ?_)
  repeat (first | ((first | apply Xk.sAny | apply Xk.tAny); (case hok => rfl); (case h => intro C hC; simp (disch := omega) only [w1, ↓reduceIte, Nat.reduceEqDiff, Nat.reduceLeDiff, Nat.reduceAdd, Nat.reduceSub, hg, hgc, hgp, hil, d2, b2, hmd, hgp3, hgc3, d1, b1', v1, v3]; with_reducible exact hC); refine gc ?_) | refine gm ?_)
  repeat (first | ((first | apply Xk.sAny | apply Xk.tAny); (case hok => rfl); (case h => intro C hC; simp (disch := omega) only [w1, ↓reduceIte, Nat.reduceEqDiff, Nat.reduceLeDiff, Nat.reduceAdd, Nat.reduceSub, hg, hgc, hgp, hil, d2, b2, hmd, hgp3, hgc3, d1, b1', v1, v3, f1, f2, f3, f4, hov]; with_reducible exact hC); refine gc ?_) | refine gm ?_)
  exact hQ _ _ ((st2.trans (e5.mono fun u h => h.1)).trans (f5.mono fun u h => h.1)) f7
end Go.Proofs.Ytihoblfmhighpaa
