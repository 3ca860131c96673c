/- The store of items: in. Conditions: none. -/
import Derived.Test.YtihoblfmhighpaaItQ
import Derived.Test.YtihoblfmhighpaaChE
namespace Go.Proofs.Ytihoblfmhighpaa
open Go.Dp
set_option linter.unusedSimpArgs false
set_option linter.unusedVariables false
set_option maxHeartbeats 400000
set_option maxRecDepth 8000
attribute [local irreducible] Ex.thnK Ex.inK Ret

abbrev Nrow (τ : Nat) (T : Tags) (H : Heap) (cn N : Nat) (ns : List Nd) : Prop := RT T H (τ, 1, 0) 0 6 (.sl cn 0 N 6) (ns.flatMap Nd.cells)
theorem ndAt {τ : Nat} {T : Tags} {H : Heap} {cn N : Nat} {ns : List Nd} (hr : Nrow τ T H cn N ns) (hl : ns.length = N) (hN : 0 < N) :
    ∃ cl, At T H (τ, 1, 0) cn (.cells cl 1) ∧ N * 6 ≤ cl.length ∧ ∀ i, i < N → i * 6 + 6 ≤ cl.length ∧ (cl.drop (i * 6)).take 6 = (ns.getD i noNd).cells ∧ (cl.drop (i * 6)).take 1 = [.str (ns.getD i noNd).key] ∧
      (cl.drop (i * 6 + 1)).take 2 = [.int .i64 (.ofNat (ns.getD i noNd).cls), .int .i64 (.ofNat (ns.getD i noNd).chunk)] ∧ (cl.drop (i * 6 + 1)).take 1 = [.int .i64 (.ofNat (ns.getD i noNd).cls)] ∧ (cl.drop (i * 6 + 3)).take 1 = [.bool false] ∧
      (cl.drop (i * 6 + 4)).take 1 = [.int .i64 (.ofNat (nxt ns i))] ∧ (cl.drop (i * 6 + 5)).take 1 = [.int .i64 (.ofNat (prv ns i))] := by
  obtain ⟨c', cl, e1, e2, e3, e4, e5, e6⟩ := RT.rowG (g := Nd.cells) (fun _ => rfl) noNd hr (by omega) (by decide)
  injection e1 with e1
  subst e1
  refine ⟨cl, ⟨e2, e3⟩, by rw [← hl]; exact e4, fun i hi => ?_⟩
  obtain ⟨f1, rest, f2⟩ := e6 i (by omega)
  refine ⟨f1, ?_, ?_, ?_, ?_, ?_, ?_, ?_⟩
  · rw [f2]; exact List.take_left' rfl
  · rw [f2]; rfl
  · rw [← List.drop_drop, f2]; rfl
  · rw [← List.drop_drop, f2]; rfl
  · rw [← List.drop_drop, f2]; rfl
  · rw [← List.drop_drop, f2]; rfl
  · rw [← List.drop_drop, f2]; rfl
theorem nrow_put {τ : Nat} {T : Tags} {H : Heap} {cn N : Nat} {ns : List Nd} {cl : List AV} (hO : H.Ok) (hr : Nrow τ T H cn N ns) (hl : ns.length = N) (hg : H.get cn = some (.cells cl 1)) {i : Nat} (hi : i < N) {j : Nat} {ys : List AV} {n : Nd} (hj : j + ys.length ≤ 6) (hn : n.cells = over (ns.getD i noNd).cells j ys) :
    Nrow τ T (H.put cn (.cells (over cl (i * 6 + j) ys) 1)) cn N (ns.set i n) ∧ Stp (fun u => u = (τ, 1, 0)) T H T (H.put cn (.cells (over cl (i * 6 + j) ys) 1)) ∧ i * 6 + j + ys.length ≤ cl.length := by
  obtain ⟨c', cl', e1, e2, e3, e4, e5, e6⟩ := RT.rowG (g := Nd.cells) (fun _ => rfl) noNd hr (by omega) (by decide)
  injection e1 with e1
  subst e1
  rw [hg] at e2
  injection e2 with e2
  injection e2 with e2
  subst e2
  have := RT.setG (g := Nd.cells) (fun _ => rfl) noNd hO hg e3 e4 e5 (show i < ns.length by omega) hj hn
  rw [hl] at this
  exact this
theorem nrow_nx {τ : Nat} {T : Tags} {H : Heap} {cn N : Nat} {ns : List Nd} {cl : List AV} (hO : H.Ok) (hr : Nrow τ T H cn N ns) (hl : ns.length = N) (hg : H.get cn = some (.cells cl 1)) {i : Nat} (hi : i < N) (x : Nat) :
    Nrow τ T (H.put cn (.cells (over cl (i * 6 + 4) [.int .i64 (.ofNat x)]) 1)) cn N (setNx ns i x) ∧ Stp (fun u => u = (τ, 1, 0)) T H T (H.put cn (.cells (over cl (i * 6 + 4) [.int .i64 (.ofNat x)]) 1)) ∧ i * 6 + 4 + 1 ≤ cl.length :=
  nrow_put hO hr hl hg hi (by show 4 + 1 ≤ 6; decide) rfl
theorem nrow_pv {τ : Nat} {T : Tags} {H : Heap} {cn N : Nat} {ns : List Nd} {cl : List AV} (hO : H.Ok) (hr : Nrow τ T H cn N ns) (hl : ns.length = N) (hg : H.get cn = some (.cells cl 1)) {i : Nat} (hi : i < N) (x : Nat) :
    Nrow τ T (H.put cn (.cells (over cl (i * 6 + 5) [.int .i64 (.ofNat x)]) 1)) cn N (setPv ns i x) ∧ Stp (fun u => u = (τ, 1, 0)) T H T (H.put cn (.cells (over cl (i * 6 + 5) [.int .i64 (.ofNat x)]) 1)) ∧ i * 6 + 5 + 1 ≤ cl.length :=
  nrow_put hO hr hl hg hi (by show 5 + 1 ≤ 6; decide) rfl

theorem out_ev (τ : Nat) (T : Tags) (H : Heap) (p : Nat) (v0 v1 vs : AV) (cn N : Nat) (ns : List Nd) (ha : At T H (τ, 0, 0) p (.cells [v0, v1, .sl cn 0 N 6, vs] 1)) (hr : Nrow τ T H cn N ns) (hl : ns.length = N)
    (hN : N ≤ 1000000) (i : Nat) (hi : i < N) (hn : nxt ns i < N) (hp : prv ns i < N) (Q : AV → Heap → Prop)
    (hQ : ∀ H', Stp (fun u => u = (τ, 1, 0)) T H T H' → Nrow τ T H' cn N (setPv (setNx ns (prv ns i) (nxt ns i)) (nxt ns i) (prv ns i)) → Q (.tup []) H') : Eo lib n_item_Store_out [.ptr p 0, .int .i64 (.ofNat i)] H Q := by
  refine Eo.ok fun hOk => ?_
  refine Eo.code at_item_Store_out rfl ?_
  obtain ⟨cl, hc, hcl, hat⟩ := ndAt hr hl (by omega)
  obtain ⟨b6, d6, _, _, _, _, _, _⟩ := hat i hi
  have hle := HLe.new (hOk _ (Nat.le_refl _)) (.cells (ns.getD i noNd).cells 1)
  have hO2 := hOk.new (.cells (ns.getD i noNd).cells 1)
  have s1 : Stp (fun u => u = (τ, 1, 0)) T H T (H.new (.cells (ns.getD i noNd).cells 1)) := Stp.le hO2 hle
  have s1' : Stp (fun _ => False) T H T (H.new (.cells (ns.getD i noNd).cells 1)) := Stp.le hO2 hle
  have hr1 := hr.step s1' (fun h => h)
  have hg := ha.1
  have hgc := hc.1
  have hgc1 := hle _ _ hgc
  have hg1 := hle _ _ hg
  have hgn := Heap.get_new_self H (.cells (ns.getD i noNd).cells 1)
  have hcn : cn ≠ H.next := Nat.ne_of_lt (hc.lt hOk)
  have hpn : p ≠ cn := ha.ne hc (tg3 (by decide))
  have hnx : nxt ns i = (ns.getD i noNd).nx := rfl
  have hpv : prv ns i = (ns.getD i noNd).pv := rfl
  obtain ⟨r2, s2, b2⟩ := nrow_nx hO2 hr1 hl hgc1 hp (nxt ns i)
  have g2 := Heap.get_put_self (H.new (.cells (ns.getD i noNd).cells 1)) cn (.cells (over cl (prv ns i * 6 + 4) [.int .i64 (.ofNat (nxt ns i))]) 1)
  obtain ⟨r3, s3, b3⟩ := nrow_pv s2.ok r2 (by rw [setNx_len]; exact hl) g2 hn (prv ns i)
  rw [Heap.put_put] at r3 s3
  have hq := hQ _ (s1.trans (s2.trans s3)) r3
  have hov1 : cl.take (prv ns i * 6 + 4) ++ (.int .i64 (.ofNat (nxt ns i)) :: cl.drop (prv ns i * 6 + 4 + 1)) = over cl (prv ns i * 6 + 4) [.int .i64 (.ofNat (nxt ns i))] := rfl
  generalize over cl (prv ns i * 6 + 4) [.int .i64 (.ofNat (nxt ns i))] = cl2 at *
  have hov2 : cl2.take (nxt ns i * 6 + 5) ++ (.int .i64 (.ofNat (prv ns i)) :: cl2.drop (nxt ns i * 6 + 5 + 1)) = over cl2 (nxt ns i * 6 + 5) [.int .i64 (.ofNat (prv ns i))] := rfl
  generalize over cl2 (nxt ns i * 6 + 5) [.int .i64 (.ofNat (prv ns i))] = cl3 at *
  have hcn2 : H.next ≠ cn := Ne.symm hcn
  have b2 : prv ns i * 6 + 4 + 1 ≤ cl.length := b2
  have b3 : nxt ns i * 6 + 5 + 1 ≤ cl2.length := b3
  clear s1 s1' hr1 s2 s3 r2 r3 hQ hat hle
  generalize nxt ns i = nx at *
  generalize prv ns i = pv at *
  generalize ns.getD i noNd = nd at *
  obtain ⟨k, a, b, x, y⟩ := nd
  have hnx : nx = x := hnx
  have hpv : pv = y := hpv
  subst hnx hpv
  have d6 : (cl.drop (i * 6)).take 6 = [.str k, .int .i64 (.ofNat a), .int .i64 (.ofNat b), .bool false, .int .i64 (.ofNat nx), .int .i64 (.ofNat pv)] := d6
  unfold Nd.cells at *
  repeat (first | ((first | apply Xk.sAny | apply Xk.tAny); (case hok => rfl); (case h => intro C hC; simp (disch := omega) only [w1, ↓reduceIte, Nat.reduceEqDiff, Nat.reduceLeDiff, Nat.reduceAdd, Nat.reduceSub, hg, hi, hgc, b6, d6]; with_reducible exact hC); refine gc ?_) | refine gm ?_)
  repeat (first | ((first | apply Xk.sAny | apply Xk.tAny); (case hok => rfl); (case h => intro C hC; simp (disch := omega) only [w1, ↓reduceIte, Nat.reduceEqDiff, Nat.reduceLeDiff, Nat.reduceAdd, Nat.reduceSub, hg, hi, hgc, b6, d6, hg1, hgc1, hn, hp, hcn, hcn2, hov1, hov2, b2, b3, hgn]; with_reducible exact hC); refine gc ?_) | refine gm ?_)
  exact hq
end Go.Proofs.Ytihoblfmhighpaa
namespace Go.Proofs.Ytihoblfmhighpaa
open Go.Dp
set_option linter.unusedSimpArgs false
set_option linter.unusedVariables false
set_option maxHeartbeats 400000
set_option maxRecDepth 8000
attribute [local irreducible] Ex.thnK Ex.inK Ret

theorem in_ev (τ : Nat) (T : Tags) (H : Heap) (p : Nat) (v0 v1 vs : AV) (cn N : Nat) (ns : List Nd) (ha : At T H (τ, 0, 0) p (.cells [v0, v1, .sl cn 0 N 6, vs] 1)) (hr : Nrow τ T H cn N ns) (hl : ns.length = N)
    (hN : N ≤ 1000000) (i : Nat) (hi : i < N) (hx : nxt ns 0 < N) (Q : AV → Heap → Prop)
    (hQ : ∀ H', Stp (fun u => u = (τ, 1, 0)) T H T H' → Nrow τ T H' cn N (setPv (setNx (setNx (setPv ns i 0) i (nxt ns 0)) 0 i) (nxt ns 0) i) → Q (.tup []) H') : Eo lib n_item_Store_in [.ptr p 0, .int .i64 (.ofNat i)] H Q := by
  refine Eo.ok fun hOk => ?_
  refine Eo.code at_item_Store_in rfl ?_
  obtain ⟨cl, hc, hcl, hat⟩ := ndAt hr hl (by omega)
  obtain ⟨b0, _, _, _, _, _, d0, _⟩ := hat 0 (by omega)
  have hg := ha.1
  have hgc := hc.1
  have hpn : p ≠ cn := ha.ne hc (tg3 (by decide))
  obtain ⟨r1, s1, b1⟩ := nrow_pv hOk hr hl hgc hi 0
  have g1 := Heap.get_put_self H cn (.cells (over cl (i * 6 + 5) [.int .i64 (.ofNat 0)]) 1)
  obtain ⟨r2, s2, b2⟩ := nrow_nx s1.ok r1 (by rw [setPv_len]; exact hl) g1 hi (nxt ns 0)
  rw [Heap.put_put] at r2 s2
  have hov1 : cl.take (i * 6 + 5) ++ (.int .i64 (.ofNat 0) :: cl.drop (i * 6 + 5 + 1)) = over cl (i * 6 + 5) [.int .i64 (.ofNat 0)] := rfl
  generalize over cl (i * 6 + 5) [.int .i64 (.ofNat 0)] = cl1 at *
  have hov2 : cl1.take (i * 6 + 4) ++ (.int .i64 (.ofNat (nxt ns 0)) :: cl1.drop (i * 6 + 4 + 1)) = over cl1 (i * 6 + 4) [.int .i64 (.ofNat (nxt ns 0))] := rfl
  generalize over cl1 (i * 6 + 4) [.int .i64 (.ofNat (nxt ns 0))] = cl2 at *
  have g2 := Heap.get_put_self H cn (.cells cl2 1)
  obtain ⟨r3, s3, b3⟩ := nrow_nx s2.ok r2 (by rw [setNx_len, setPv_len]; exact hl) g2 (show 0 < N by omega) i
  rw [Heap.put_put] at r3 s3
  have hov3 : cl2.take (0 * 6 + 4) ++ (.int .i64 (.ofNat i) :: cl2.drop (0 * 6 + 4 + 1)) = over cl2 (0 * 6 + 4) [.int .i64 (.ofNat i)] := rfl
  generalize over cl2 (0 * 6 + 4) [.int .i64 (.ofNat i)] = cl3 at *
  have g3 := Heap.get_put_self H cn (.cells cl3 1)
  obtain ⟨r4, s4, b4⟩ := nrow_pv s3.ok r3 (by rw [setNx_len, setNx_len, setPv_len]; exact hl) g3 hx i
  rw [Heap.put_put] at r4 s4
  have hov4 : cl3.take (nxt ns 0 * 6 + 5) ++ (.int .i64 (.ofNat i) :: cl3.drop (nxt ns 0 * 6 + 5 + 1)) = over cl3 (nxt ns 0 * 6 + 5) [.int .i64 (.ofNat i)] := rfl
  generalize over cl3 (nxt ns 0 * 6 + 5) [.int .i64 (.ofNat i)] = cl4 at *
  have hq := hQ _ (s1.trans (s2.trans (s3.trans s4))) r4
  clear hQ r1 r2 r3 r4 s1 s2 s3 s4 g1 g2 g3 hat
  have hN0 : 0 < N := by omega
  have b1 : i * 6 + 5 + 1 ≤ cl.length := b1
  have b2 : i * 6 + 4 + 1 ≤ cl1.length := b2
  have b3 : 4 + 1 ≤ cl2.length := by have : 0 * 6 + 4 + 1 ≤ cl2.length := b3
                                     omega
  have b4 : nxt ns 0 * 6 + 5 + 1 ≤ cl3.length := b4
  have d0 : (cl.drop 4).take 1 = [.int .i64 (.ofNat (nxt ns 0))] := d0
  have hov3 : cl2.take 4 ++ (.int .i64 (.ofNat i) :: cl2.drop 5) = cl3 := hov3
  have b0 : 4 + 1 ≤ cl.length := by omega
  have b0' : 5 ≤ cl.length := by omega
  have b3' : 5 ≤ cl2.length := by omega
  generalize nxt ns 0 = x at *
  repeat (first | ((first | apply Xk.sAny | apply Xk.tAny); (case hok => rfl); (case h => intro C hC; simp (disch := omega) only [w1, ↓reduceIte, Nat.reduceEqDiff, Nat.reduceLeDiff, Nat.reduceAdd, Nat.reduceSub, hg, hN0, hgc, b0, b0', d0]; with_reducible exact hC); refine gc ?_) | refine gm ?_)
  repeat (first | ((first | apply Xk.sAny | apply Xk.tAny); (case hok => rfl); (case h => intro C hC; simp (disch := omega) only [w1, ↓reduceIte, Nat.reduceEqDiff, Nat.reduceLeDiff, Nat.reduceAdd, Nat.reduceSub, hg, hN0, hgc, b0, b0', d0, hi, hpn, b1, b2, hov1, hov2]; with_reducible exact hC); refine gc ?_) | refine gm ?_)
  repeat (first | ((first | apply Xk.sAny | apply Xk.tAny); (case hok => rfl); (case h => intro C hC; simp (disch := omega) only [w1, ↓reduceIte, Nat.reduceEqDiff, Nat.reduceLeDiff, Nat.reduceAdd, Nat.reduceSub, hg, hN0, hgc, b0, b0', d0, hi, hpn, b1, b2, hov1, hov2, b3, b3', hov3, hx, b4, hov4]; with_reducible exact hC); refine gc ?_) | refine gm ?_)
  exact hq
end Go.Proofs.Ytihoblfmhighpaa
