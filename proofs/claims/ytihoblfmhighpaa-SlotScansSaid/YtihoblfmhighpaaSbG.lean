/- The slab: its heap, one thing turned at a time. Conditions: none. -/
import Derived.Test.YtihoblfmhighpaaSbB
namespace Go.Proofs.Ytihoblfmhighpaa
open Go.Dp
set_option linter.unusedSimpArgs false
set_option linter.unusedVariables false
set_option maxHeartbeats 400000
set_option maxRecDepth 8000

theorem tg3 {a b c e f : Nat} (h : b ≠ e) : ¬ ((a, b, c) : Tg) = (a, e, f) := tgn (.inl h)
theorem set_getD {α : Type} (l : List α) (i : Nat) (d : α) : l.set i (l.getD i d) = l := by
  by_cases h : i < l.length
  · rw [List.getD_eq_getElem?_getD, List.getElem?_eq_getElem h]
    exact List.set_getElem_self h
  · exact List.set_eq_of_length_le (Nat.le_of_not_lt h)

theorem SbC.head {σ : Nat} {T : Tags} {H : Heap} {p : Nat} {s : Sb} {c : Nat} (h : SbC σ T H p s c) (hO : H.Ok) (left used : Nat) :
    SbC σ T (H.put p (.cells [.int .i64 (.ofNat s.page), .int .i64 (.ofNat left), .int .i64 (.ofNat used), .sl c 0 s.cs.length 4] 1)) p ⟨s.page, left, used, s.cs⟩ c ∧
    Stp (fun u => u = (σ, 0, 0)) T H T (H.put p (.cells [.int .i64 (.ofNat s.page), .int .i64 (.ofNat left), .int .i64 (.ofNat used), .sl c 0 s.cs.length 4] 1)) := by
  have st := h.1.stp1 hO (.cells [.int .i64 (.ofNat s.page), .int .i64 (.ofNat left), .int .i64 (.ofNat used), .sl c 0 s.cs.length 4] 1)
  obtain ⟨a, rows, b, d, e⟩ := h
  exact ⟨⟨a.put _, rows, b, d.step st (tg3 (by decide)), fun i hi => (e i hi).step st (tg3 (by decide)) (tg3 (by decide))⟩, st⟩

theorem nats_app (l m : List Nat) : nats (l ++ m) = nats l ++ nats m := List.map_append
theorem nats_len (l : List Nat) : (nats l).length = l.length := List.length_map ..

theorem Fo.push {σ : Nat} {T : Tags} {H : Heap} {p : Nat} {s : Sb} {c i : Nat} {rows : List CR} {cl : List AV} (h : Fo σ T H p s c i rows cl) (hO : H.Ok) (hl : (s.cl i).free.length ≤ 1000000) (x : Nat) :
    ∃ v' H' T', evalApp 0 1 8 (H.new (.cells [.int .i64 (.ofNat x)] 1)) (rows.getD i noCR).vf (.sl H.next 0 1 1) = some (v', H') ∧ v'.isSc = true ∧ v'.cells = [v'] ∧ H'.get c = some (.cells cl 1) ∧
      Stp (fun u => u.1 = σ ∧ u.2.1 ≤ 3) T H T' (H'.put c (.cells (over cl (i * 4 + 1) [v']) 1)) ∧ i * 4 + 1 + 1 ≤ cl.length ∧
      SbC σ T' (H'.put c (.cells (over cl (i * 4 + 1) [v']) 1)) p ⟨s.page, s.left, s.used, s.cs.set i { s.cl i with free := (s.cl i).free ++ [x] }⟩ c := by
  have hi := h.hi
  rw [h.ln] at hi
  obtain ⟨g1, g2, g3, b, es, mc, g4, g5, g6⟩ := h.all i hi
  obtain ⟨v', H', T', e1, e2, e3⟩ := RT.push (bytes := 8) (w := 1) (row := [.int .i64 (.ofNat x)]) hO g3 rfl rfl (by decide) (by rw [nats_len]; omega) (by rw [nats_len]; omega)
  have hc := h.row.step e2 (tg3 (by decide))
  have hr := h.put e2.ok hc (j := 1) (by decide) v' (r := ⟨(rows.getD i noCR).size, v', (rows.getD i noCR).vm, (rows.getD i noCR).count⟩) rfl
  have st := (e2.mono (P := fun u => u.1 = σ ∧ u.2.1 ≤ 3) fun u h => by rw [h]; exact ⟨rfl, by dsimp only; omega⟩).trans (hr.2.1.mono (P := fun u => u.1 = σ ∧ u.2.1 ≤ 3) fun u h => by rw [h]; exact ⟨rfl, by dsimp only; omega⟩)
  have st2 := (e2.mono (P := fun u => u = (σ, 2, i) ∨ u = (σ, 1, 0)) fun u h => .inl h).trans (hr.2.1.mono (P := fun u => u = (σ, 2, i) ∨ u = (σ, 1, 0)) fun u h => .inr h)
  refine ⟨v', H', T', e1, e3.sc.2, e3.sc.1, hc.1, st, hr.2.2, ?_⟩
  refine h.re st2 (fun j hj => ⟨?_, ?_⟩) ((h.head.step e2 (tg3 (by decide))).step hr.2.1 (tg3 (by decide))) hr.1 ⟨g1, g2, ?_, b, es, mc, g4, (g5.step e2 (tg3 (by decide))).step hr.2.1 (tg3 (by decide)), g6⟩
  · rintro (h | h)
    · exact tgn (.inr hj) h
    · exact tg3 (by decide) h
  · rintro (h | h)
    · exact tg3 (by decide) h
    · exact tg3 (by decide) h
  · show RT _ _ _ 0 1 v' (nats ((s.cl i).free ++ [x]))
    rw [nats_app]
    exact e3.step hr.2.1 (tg3 (by decide))
theorem Fo.cnt {σ : Nat} {T : Tags} {H : Heap} {p : Nat} {s : Sb} {c i : Nat} {rows : List CR} {cl : List AV} (h : Fo σ T H p s c i rows cl) (hO : H.Ok) (x : Nat) :
    Stp (fun u => u.1 = σ ∧ u.2.1 ≤ 3) T H T (H.put c (.cells (over cl (i * 4 + 3) [.int .i64 (.ofNat x)]) 1)) ∧ i * 4 + 3 + 1 ≤ cl.length ∧
      SbC σ T (H.put c (.cells (over cl (i * 4 + 3) [.int .i64 (.ofNat x)]) 1)) p ⟨s.page, s.left, s.used, s.cs.set i { s.cl i with count := x }⟩ c := by
  have hi := h.hi
  rw [h.ln] at hi
  obtain ⟨g1, g2, g3, b, es, mc, g4, g5, g6⟩ := h.all i hi
  have hr := h.put hO h.row (j := 3) (by decide) (.int .i64 (.ofNat x)) (r := ⟨(rows.getD i noCR).size, (rows.getD i noCR).vf, (rows.getD i noCR).vm, x⟩) rfl
  refine ⟨hr.2.1.mono fun u h => by rw [h]; exact ⟨rfl, by dsimp only; omega⟩, hr.2.2, h.re hr.2.1 (fun j hj => ⟨tg3 (by decide), tg3 (by decide)⟩) (h.head.step hr.2.1 (tg3 (by decide))) hr.1
    ⟨g1, rfl, g3.step hr.2.1 (tg3 (by decide)), b, es, mc, g4, g5.step hr.2.1 (tg3 (by decide)), g6⟩⟩
theorem Fo.take {σ : Nat} {T : Tags} {H : Heap} {p : Nat} {s : Sb} {c i : Nat} {rows : List CR} {cl : List AV} (h : Fo σ T H p s c i rows cl) (hO : H.Ok) (hs : s.Ok) (hf : (s.cl i).free ≠ []) (d : List UInt8) :
    ∃ f fl b es mc, (rows.getD i noCR).vf = .sl f 0 (s.cl i).free.length 1 ∧ (rows.getD i noCR).vm = .map b ∧ H.get f = some (.cells fl 1) ∧ (fl.drop ((s.cl i).free.length - 1)).take 1 = [.int .i64 (.ofNat ((s.cl i).free.getLastD 0))] ∧
      0 < (s.cl i).free.length ∧ (s.cl i).free.length ≤ fl.length ∧ f ≠ c ∧ b ≠ c ∧ i * 4 + 1 + 1 ≤ cl.length ∧ H.get b = some (.mp es mc) ∧ findE false (.int .i64 (.ofNat ((s.cl i).free.getLastD 0))) es 0 = some none ∧
      Stp (fun u => u.1 = σ ∧ u.2.1 ≤ 3) T H T ((H.put c (.cells (over cl (i * 4 + 1) [.sl f 0 ((s.cl i).free.length - 1) 1]) 1)).put b (.mp (es ++ [(.int .i64 (.ofNat ((s.cl i).free.getLastD 0)), .str d, mc)]) (mc + 1))) ∧
      SbC σ T ((H.put c (.cells (over cl (i * 4 + 1) [.sl f 0 ((s.cl i).free.length - 1) 1]) 1)).put b (.mp (es ++ [(.int .i64 (.ofNat ((s.cl i).free.getLastD 0)), .str d, mc)]) (mc + 1))) p ⟨s.page, s.left, s.used, s.cs.set i ((s.cl i).take d)⟩ c := by
  have hi := h.hi
  rw [h.ln] at hi
  have hcl := hs.cl _ (Sb.cl_mem hi)
  have hlen : 0 < (s.cl i).free.length := List.length_pos_iff.2 hf
  obtain ⟨_, hno, _⟩ := hcl.take hf d
  have hsp := last_split 0 hf
  obtain ⟨g1, g2, g3, b, es, mc, g4, g5, g6⟩ := h.all i hi
  have hnof := mp_no g6 hno 0
  generalize hk : (s.cl i).free.getLastD 0 = k at *
  rcases g3 with ⟨_, h2⟩ | ⟨f, len, fl, e1, h2, h3, h4, h5, h6⟩
  · exact absurd (List.eq_nil_of_length_eq_zero (by rw [← nats_len, h2]; rfl)) hf
  · rw [nats_len, Nat.mul_one] at h2
    subst h2
    rw [nats_len] at h4 h5
    have hr := h.put hO h.row (j := 1) (by decide) (.sl f 0 ((s.cl i).free.length - 1) 1) (r := ⟨(rows.getD i noCR).size, .sl f 0 ((s.cl i).free.length - 1) 1, (rows.getD i noCR).vm, (rows.getD i noCR).count⟩) rfl
    have hfc : f ≠ c := fun e => tg3 (a := σ) (b := 2) (e := 1) (c := i) (f := 0) (by decide) (by rw [← h6, ← h.row.2, e])
    have hbc : b ≠ c := g5.ne h.row (tg3 (by decide))
    have g5' := g5.step hr.2.1 (tg3 (by decide))
    have s5 := g5'.stp1 hr.2.1.ok (.mp (es ++ [(.int .i64 (.ofNat k), .str d, mc)]) (mc + 1))
    have hd1 : (s.cl i).free.dropLast.length = (s.cl i).free.length - 1 := List.length_dropLast
    have hlast : (fl.drop ((s.cl i).free.length - 1)).take 1 = [.int .i64 (.ofNat k)] := by
      have e : (fl.take (s.cl i).free.length).drop ((s.cl i).free.length - 1) = (fl.drop ((s.cl i).free.length - 1)).take 1 := by
        rw [List.drop_take]
        congr 1
        omega
      rw [← e, h5]
      have hnat : nats (s.cl i).free = nats (s.cl i).free.dropLast ++ [.int .i64 (.ofNat k)] := by
        conv => lhs; rw [hsp]
        rw [nats_app]
        rfl
      rw [hnat, List.drop_append_of_le_length (by rw [nats_len]; omega), List.drop_eq_nil_of_le (by rw [nats_len]; omega)]
      rfl
    have hrt : RT T H (σ, 2, i) 0 1 (.sl f 0 ((s.cl i).free.length - 1) 1) (nats (s.cl i).free.dropLast) := by
      have := RT.cut (T := T) (t := (σ, 2, i)) (cs := nats (s.cl i).free) (sz := 1) ((s.cl i).free.length - 1) (Nat.sub_le _ _) (by rw [nats_len, Nat.mul_one]) h3 (by rw [nats_len]; exact h4) (by rw [nats_len]; exact h5) h6
      rw [Nat.mul_one] at this
      have e : (nats (s.cl i).free).take ((s.cl i).free.length - 1) = nats (s.cl i).free.dropLast := by
        unfold nats
        rw [List.dropLast_eq_take, List.map_take]
      rw [e] at this
      exact this
    have st := (hr.2.1.mono (P := fun u => u = (σ, 1, 0) ∨ u = (σ, 3, i)) fun u h => .inl h).trans (s5.mono (P := fun u => u = (σ, 1, 0) ∨ u = (σ, 3, i)) fun u h => .inr h)
    refine ⟨f, fl, b, es, mc, e1, g4, h3, hlast, hlen, h4, hfc, hbc, hr.2.2, g5.1, hnof, st.mono (fun u h => by rcases h with h | h <;> rw [h] <;> exact ⟨rfl, by dsimp only; omega⟩), ?_⟩
    refine h.re st (fun j hj => ⟨?_, ?_⟩) ((h.head.step hr.2.1 (tg3 (by decide))).step s5 (tg3 (by decide))) (hr.1.step s5 (tg3 (by decide))) ⟨g1, g2, (hrt.step hr.2.1 (tg3 (by decide))).step s5 (tg3 (by decide)), b, _, _, g4, g5'.put _, ?_⟩
    · rintro (h | h)
      · exact tg3 (by decide) h
      · exact tg3 (by decide) h
    · rintro (h | h)
      · exact tg3 (by decide) h
      · exact tgn (.inr hj) h
    · show MpN _ ((s.cl i).live ++ [((s.cl i).free.getLastD 0, d)])
      rw [hk]
      exact mp_add g6 _ _ _
end Go.Proofs.Ytihoblfmhighpaa
