/- The clean machine, part QsJ. Conditions: none. -/
import Derived.Test.YtihoblfmhighpaaQsD
set_option linter.unusedSimpArgs false
set_option linter.unusedVariables false
namespace Go.Dp

theorem Tr.set_set {α : Type} : ∀ (f : Nat) (t : Tr α) (n : Nat) (x y : α), Tr.set f (Tr.set f t n x) n y = Tr.set f t n y := by
  intro f
  induction f with
  | zero => intros; rfl
  | succ f ih =>
    intro t n x y
    cases t <;> simp only [Tr.set] <;> cases h0 : Nat.beq n 0 <;> cases h1 : Nat.beq (n % 2) 1 <;> simp only [cond_true, cond_false, Tr.set, h0, h1, ih]

theorem Heap.put_put (H : Heap) (b : Nat) (x y : Blk) : (H.put b x).put b y = H.put b y := by
  unfold Heap.put; simp only [Tr.set_set]
theorem Heap.new_put (H : Heap) (x y : Blk) : (H.new x).put H.next y = H.new y := by
  unfold Heap.put Heap.new; simp only [Tr.set_set]
theorem Heap.get_new_self (H : Heap) (x : Blk) : (H.new x).get H.next = some x := by rw [Heap.get_new, if_pos rfl]
theorem Heap.get_put_self (H : Heap) (b : Nat) (x : Blk) : (H.put b x).get b = some x := by rw [Heap.get_put, if_pos rfl]
theorem Heap.get_new_ne (H : Heap) (x : Blk) {b : Nat} (h : b ≠ H.next) : (H.new x).get b = H.get b := by rw [Heap.get_new, if_neg h]
theorem Heap.get_put_ne (H : Heap) (b : Nat) (x : Blk) {c : Nat} (h : c ≠ b) : (H.put b x).get c = H.get c := by rw [Heap.get_put, if_neg h]

theorem Heap.get_new2 (H : Heap) (x y : Blk) : ((H.new x).new y).get (H.next + 1) = some y := Heap.get_new_self (H.new x) y
theorem Heap.get_new2' (H : Heap) (x y : Blk) : ((H.new x).new y).get H.next = some x := by rw [Heap.get_new_ne _ _ (by rw [Heap.next_new]; omega), Heap.get_new_self]
theorem Heap.put_new2 (H : Heap) (x y z : Blk) : ((H.new x).new y).put (H.next + 1) z = (H.new x).new z := Heap.new_put (H.new x) y z
theorem Heap.get_new2_ne (H : Heap) (x y : Blk) {b : Nat} (h : b < H.next) : ((H.new x).new y).get b = H.get b := by
  rw [Heap.get_new_ne _ _ (by rw [Heap.next_new]; omega), Heap.get_new_ne _ _ (by omega)]
theorem HLe.refl (H : Heap) : HLe H H := fun _ _ h => h
theorem HLe.trans {a b c : Heap} (h : HLe a b) (k : HLe b c) : HLe a c := fun i x e => k i x (h i x e)
theorem HLe.new_ {H0 H : Heap} (h : HLe H0 H) (hO : H.Ok) (x : Blk) : HLe H0 (H.new x) := h.trans (HLe.new (hO H.next (Nat.le_refl _)) x)
def Sl (H : Heap) (sz : Nat) (v : AV) (cs : List AV) : Prop :=
  (v = .nils ∧ cs = []) ∨ ∃ b o len l w rest, v = .sl b o len sz ∧ cs.length = len * sz ∧ H.get b = some (.cells l w) ∧ o ≤ l.length ∧ l.drop o = cs ++ rest

theorem Sl.mono {H H' : Heap} {sz : Nat} {v : AV} {cs : List AV} (hle : HLe H H') (h : Sl H sz v cs) : Sl H' sz v cs := by
  rcases h with h | ⟨b, o, len, l, w, rest, h1, h2, h3, h4⟩
  · exact .inl h
  · exact .inr ⟨b, o, len, l, w, rest, h1, h2, hle _ _ h3, h4⟩

theorem Heap.ld_of {H : Heap} {b o n : Nat} {l : List AV} {w : Nat} (h : H.get b = some (.cells l w)) (hn : o + n ≤ l.length) : H.ld b o n = some ((l.drop o).take n) := by
  unfold Heap.ld
  rw [h]
  simp only [nble, decide_eq_true hn, cond_true]
theorem Sl.ld {H : Heap} {b o len sz : Nat} {cs l rest : List AV} {w : Nat} (h2 : cs.length = len * sz) (h3 : H.get b = some (.cells l w)) (h4 : o ≤ l.length) (h5 : l.drop o = cs ++ rest) {i n : Nat} (hi : i + n ≤ cs.length) :
    H.ld b (o + i) n = some ((cs.drop i).take n) := by
  have hl : l.length - o = cs.length + rest.length := by rw [← List.length_drop, h5, List.length_append]
  rw [Heap.ld_of h3 (by omega), ← List.drop_drop, h5, List.drop_append_of_le_length (by omega), List.take_append_of_le_length (by rw [List.length_drop]; omega)]

theorem Sl.src {H : Heap} {sz : Nat} {v : AV} {cs : List AV} (h : Sl H sz v cs) (hc : cs.all AV.isSc = true) (hz : 0 < sz) : srcCells H sz v = some (cs.length / sz, cs) := by
  rcases h with ⟨rfl, rfl⟩ | ⟨b, o, len, l, w, rest, rfl, h2, h3, h4, h5⟩
  · simp [srcCells]
  · have e := Sl.ld h2 h3 h4 h5 (i := 0) (n := len * sz) (by omega)
    rw [Nat.add_zero, List.drop_zero, ← h2, List.take_length] at e
    unfold srcCells
    simp only [nbeq, decide_true, cond_true]
    rw [← h2, e]
    simp only [hc, cond_true]
    rw [h2, Nat.mul_div_cancel _ hz]

theorem wh :
    (∀ b, AV.cells (.bool b) = [.bool b]) ∧ (∀ k n, AV.cells (.int k n) = [.int k n]) ∧ (∀ s, AV.cells (.str s) = [.str s]) ∧ (AV.cells .nilp = [.nilp]) ∧ (∀ b o, AV.cells (.ptr b o) = [.ptr b o]) ∧ (AV.cells .nils = [.nils]) ∧
    (∀ b o l s, AV.cells (.sl b o l s) = [.sl b o l s]) ∧ (AV.cells .nilm = [.nilm]) ∧ (∀ b, AV.cells (.map b) = [.map b]) ∧ (∀ l, AV.cells (.agg l) = l) ∧
    (∀ b, AV.isSc (.bool b) = true) ∧ (∀ k n, AV.isSc (.int k n) = true) ∧ (∀ s, AV.isSc (.str s) = true) ∧ (AV.isSc .nilp = true) ∧ (∀ b o, AV.isSc (.ptr b o) = true) ∧ (AV.isSc .nils = true) ∧
    (∀ b o l s, AV.isSc (.sl b o l s) = true) ∧ (AV.isSc .nilm = true) ∧ (∀ b, AV.isSc (.map b) = true) ∧
    (∀ fr cs, lay fr cs [] = some cs) ∧
    (∀ fr cs off n x rest, lay fr cs ((off, n, x) :: rest) = bif Nat.beq (x.ev fr).cells.length n && (Nat.ble (off + n) cs.length && (x.ev fr).cells.all AV.isSc) then lay fr (over cs off (x.ev fr).cells) rest else none) ∧
    (∀ k sz len cs, nBslice k sz len (some cs) = some (.cells cs (k + 1), slTo len sz)) ∧
    (∀ len sz b, slTo len sz b = .sl b 0 len sz) ∧ (∀ b, ptrTo b = .ptr b 0) ∧
    (∀ (l : List AV) o vs, over l o vs = l.take o ++ (vs ++ l.drop (o + vs.length))) ∧
    (∀ cs, oneOf true (some cs) = some (.agg cs)) ∧ (∀ c, oneOf false (some [c]) = some c) ∧
    (∀ H g n b o, rLoad H g n (.ptr b o) = oneOf g (H.ld b o n)) ∧
    (∀ off b o, rFaddr off (.ptr b o) = some (.ptr b (o + off))) ∧
    (∀ H n b o cs, eStore H n (.ptr b o) cs = bif Nat.beq cs.length n && cs.all AV.isSc then unit (H.st b o cs) else none) ∧
    (∀ H, unit (some H) = some (.tup [], H)) ∧
    (∀ cs, rBuild (some cs) = some (.agg cs)) ∧
    (∀ i vs, rExt i (.tup vs) = vs[i]?) ∧
    (∀ n off cs, rFld false n off (.agg cs) = cs[off]?) :=
  ⟨fun _ => rfl, fun _ _ => rfl, fun _ => rfl, rfl, fun _ _ => rfl, rfl, fun _ _ _ _ => rfl, rfl, fun _ => rfl, fun _ => rfl, fun _ => rfl, fun _ _ => rfl, fun _ => rfl, rfl, fun _ _ => rfl, rfl, fun _ _ _ _ => rfl, rfl, fun _ => rfl,
    fun _ _ => rfl, fun _ _ _ _ _ _ => rfl, fun _ _ _ _ => rfl, fun _ _ _ => rfl, fun _ => rfl, fun _ _ _ => rfl, fun _ => rfl, fun _ => rfl, fun _ _ _ _ _ => rfl, fun _ _ _ => rfl, fun _ _ _ _ _ => rfl, fun _ => rfl, fun _ => rfl, fun _ _ => rfl, fun _ _ _ => rfl⟩

end Go.Dp
namespace Go.Dp
open Go.RowKit

theorem law_of {c : Cx} {L : Lib} (O : ProgOk c) (hL : LibOk c L) {g f : Nat} (hg : c.fm g = some f) {args : List AV} {vs : Array Value} {ρ : Rho} {H : Heap} {W : World} (R : Rel c W.heap.size ρ H W) (hx : All2 (VRel c ρ) args vs.toList) (hO : H.Ok)
    (h : Eo L f args H fun v _ => v = .bool true) : Calls c.P g vs W fun e W' => e = .returned (.bool true) ∧ Below W.heap.size W W' := by
  obtain ⟨n, v, H', h1, h2, h3, rfl⟩ := h hO
  refine (call_ok O hL n W.heap.size ρ H W g f args vs (.bool true) H' hg R hx h1).mono fun e W' ⟨v', ρ', q1, q2, q3⟩ => ?_
  rw [VRel_bool] at q3
  subst q3
  exact ⟨q1, q2.below⟩

end Go.Dp
namespace Go.Dp
open Go.RowKit

def Heap.RO (H : Heap) : Prop := ∀ b x, H.get b = some x → x.wr = false
theorem Heap.RO.noHeap : noHeap.RO := fun _ _ h => by cases h
theorem Heap.RO.new {H : Heap} (h : H.RO) (l : List AV) : (H.new (.cells l 0)).RO := by
  intro b x hb
  rw [Heap.get_new] at hb
  split at hb
  · cases hb; rfl
  · exact h b x hb

theorem Rel.addArg {c : Cx} {ρ : Rho} {H : Heap} {W : World} (R : Rel c W.heap.size ρ H W) (hO : H.Ok) (hro : H.RO) {p : Pl} {l : List AV} (hb : BlkRel c ρ p W (.cells l 0)) (hin : p.c < W.heap.size) :
    Rel c W.heap.size (ρ.at_ H.next p) (H.new (.cells l 0)) W := by
  have hn : ρ H.next = none := by
    cases h : ρ H.next with
    | none => rfl
    | some q => have := R.dom _ _ h; omega
  have hext := Rho.ext_at (p := p) hn
  have hcase : ∀ i q, (ρ.at_ H.next p) i = some q → (i = H.next ∧ q = p) ∨ (i ≠ H.next ∧ ρ i = some q) := by
    intro i q hq
    unfold Rho.at_ at hq
    by_cases e : i = H.next
    · rw [if_pos e] at hq; exact .inl ⟨e, (Option.some.inj hq).symm⟩
    · rw [if_neg e] at hq; exact .inr ⟨e, hq⟩
  have hro' := hro.new l
  refine ⟨R.size, fun i q hq => ?_, fun i q hq => ?_, fun i q hq => ?_, fun i q y hq hy hwr => ?_, fun i j q q' y y' hne hq hq' hy hy' hl hwr => ?_, fun g i hg => let ⟨q, h1, h2, h3⟩ := R.glob g i hg; ⟨q, hext i q h1, h2, h3⟩⟩
  · rcases hcase i q hq with ⟨rfl, _⟩ | ⟨_, h⟩
    · exact Nat.lt_succ_self _
    · exact Nat.lt_succ_of_lt (R.dom i q h)
  · rcases hcase i q hq with ⟨_, rfl⟩ | ⟨_, h⟩
    · exact hin
    · exact R.in_ i q h
  · rcases hcase i q hq with ⟨rfl, rfl⟩ | ⟨hi, h⟩
    · exact ⟨_, Heap.get_new_self _ _, hb.ext hext⟩
    · obtain ⟨y, hy, hyr⟩ := R.blk i q h
      exact ⟨y, by rw [Heap.get_new_ne _ _ hi]; exact hy, hyr.ext hext⟩
  · rw [hro' _ _ hy] at hwr; cases hwr
  · rw [hro' _ _ hy'] at hwr; cases hwr

theorem arg_slice {c : Cx} {ρ : Rho} {H : Heap} {W : World} (R : Rel c W.heap.size ρ H W) (hO : H.Ok) (hro : H.RO) {a : Addr} {len cap : Nat} {l : List AV} (hspot : a.spot = none) (hl : l.length = len) (hlc : len ≤ cap) {e : TypeId} {n : Nat} (hsh : W.shape? a.block = some (e, n))
    (hcell : ∀ i, i < cap → ∃ v, W.cell? (a.add i) = some v ∧ ∀ x, l[i]? = some x → SRel c ρ x v) :
    ∃ ρ' H', Rel c W.heap.size ρ' H' W ∧ H'.Ok ∧ H'.RO ∧ Ext ρ ρ' ∧ HLe H H' ∧ Sl H' 1 (.sl H.next 0 len 1) l ∧ VRel c ρ' (.sl H.next 0 len 1) (.slice (some a) len cap) := by
  obtain ⟨ab, off, sp⟩ := a
  simp only at hspot hsh
  subst hspot
  have hn : ρ H.next = none := by
    cases h : ρ H.next with
    | none => rfl
    | some q => have := R.dom _ _ h; omega
  unfold World.shape? at hsh
  obtain ⟨cs, e', fz, hh⟩ : ∃ cs e' fz, W.heap[ab]? = some (.cells cs e' fz) := by
    split at hsh
    · rename_i cs e' fz h
      exact ⟨cs, e', _, h⟩
    · cases hsh
  have hin : ab < W.heap.size := by
    rcases Nat.lt_or_ge ab W.heap.size with h | h
    · exact h
    · rw [Array.getElem?_eq_none h] at hh; cases hh
  have hc' : ∀ i, i < cap → ∃ v, cs[off + i]? = some v ∧ ∀ x, l[i]? = some x → SRel c ρ x v := by
    intro i hi
    obtain ⟨v, h1, h2⟩ := hcell i hi
    refine ⟨v, ?_, h2⟩
    rw [Addr.add_lit] at h1
    unfold World.cell? at h1
    simp only [hh] at h1
    simpa using h1
  -- where the block lies
  have key : ∃ p : Pl, p.c = ab ∧ p.n = len ∧ (off = p.s ∨ cap = 0) ∧ p.e = cap - len ∧ BlkRel c ρ p W (.cells l 0) := by
    by_cases h0 : cap = 0
    · refine ⟨⟨ab, 0, len, cap - len⟩, rfl, rfl, .inr h0, rfl, hl, cs, e', fz, hh, by simp; omega, fun i x hx => ?_, ⟨fun h => absurd rfl h, fun h => (by cases h), fun h => (by cases h)⟩⟩
      have := (List.getElem?_eq_some_iff.1 hx).1
      omega
    · refine ⟨⟨ab, off, len, cap - len⟩, rfl, rfl, .inl rfl, rfl, hl, cs, e', fz, hh, ?_, fun i x hx => ?_, ⟨fun h => absurd rfl h, fun h => (by cases h), fun h => (by cases h)⟩⟩
      · obtain ⟨v, h1, _⟩ := hc' (cap - 1) (by omega)
        have := (Array.getElem?_eq_some_iff.1 h1).1
        simp only
        omega
      · have hi := (List.getElem?_eq_some_iff.1 hx).1
        obtain ⟨v, h1, h2⟩ := hc' i (by omega)
        exact ⟨v, h1, h2 x hx⟩
  obtain ⟨p, rfl, hpn, hps, hpe, hb⟩ := key
  refine ⟨ρ.at_ H.next p, H.new (.cells l 0), R.addArg hO hro hb hin, hO.new _, hro.new _, Rho.ext_at hn, HLe.new (hO _ (Nat.le_refl _)) _, ?_, ?_⟩
  · exact .inr ⟨H.next, 0, len, l, 0, [], rfl, by omega, Heap.get_new_self _ _, Nat.zero_le _, by simp⟩
  · rw [VRel_sl]
    exact ⟨p, off, cap, by simp [Rho.at_], rfl, hlc, by omega, by omega, by omega, by omega, by omega⟩

end Go.Dp
namespace Go.Dp

variable {L : Lib} {n : Nat} {k : Kn} {H : Heap} {Q : Ex → Kn → Heap → Prop}

def SAft (L : Lib) (n : Nat) (b : PC) (Q : Ex → Kn → Heap → Prop) : KR → Prop
  | .done k' H' => Xk L n b k' H' Q
  | .call f args d rest k' H' => Eo L f args H' fun v H'' => Xk L n (.seq (.region rest) b) (kput k' d v) H'' Q
  | .bad => False
def TAft (L : Lib) (n : Nat) (Q : Ex → Kn → Heap → Prop) : KR → Prop
  | .done k' H' => Q .normal k' H'
  | .call f args d rest k' H' => Eo L f args H' fun v H'' => Xk L n (.region rest) (kput k' d v) H'' Q
  | .bad => False
theorem SAft.done {b : PC} {k' : Kn} {H' : Heap} (h : Xk L n b k' H' Q) : SAft L n b Q (.done k' H') := h
theorem SAft.call {b : PC} {f : Nat} {args : List AV} {d : Option Nat} {rest : List It} {k' : Kn} {H' : Heap} (h : Eo L f args H' fun v H'' => Xk L n (.seq (.region rest) b) (kput k' d v) H'' Q) : SAft L n b Q (.call f args d rest k' H') := h
theorem TAft.done {k' : Kn} {H' : Heap} (h : Q .normal k' H') : TAft L n Q (.done k' H') := h
theorem TAft.call {f : Nat} {args : List AV} {d : Option Nat} {rest : List It} {k' : Kn} {H' : Heap} (h : Eo L f args H' fun v H'' => Xk L n (.region rest) (kput k' d v) H'' Q) : TAft L n Q (.call f args d rest k' H') := h

theorem Xk.sAny {its : List It} {b : PC} {r : KR} (hok : okR n its k.keys = true) (h : ∀ C : KR → Prop, C r → C (Dp.run its k H)) (hK : SAft L n b Q r) : Xk L n (.seq (.region its) b) k H Q := by
  cases r with
  | bad => cases hK
  | done k' H' => exact Xk.sRun hok h hK
  | call f args d rest k' H' => exact Xk.sCall hok h hK
theorem Xk.tAny {its : List It} {r : KR} (hok : okR n its k.keys = true) (h : ∀ C : KR → Prop, C r → C (Dp.run its k H)) (hK : TAft L n Q r) : Xk L n (.region its) k H Q := by
  cases r with
  | bad => cases hK
  | done k' H' => exact Xk.run hok h hK
  | call f args d rest k' H' => exact Xk.tCall hok h hK
end Go.Dp
namespace Go.Dp
open Go.RowKit

def ArgS (c : Cx) (W : World) (v : Value) (C : List AV → Prop) : Prop :=
  (v = .slice none 0 0 ∧ C []) ∨ ∃ (a : Addr) (len cap : Nat) (cs : List AV) (e : TypeId) (n : Nat), v = .slice (some a) len cap ∧ a.spot = none ∧ cs.length = len ∧ len ≤ cap ∧ W.shape? a.block = some (e, n) ∧
    (∀ ρ i, i < cap → ∃ x, W.cell? (a.add i) = some x ∧ ∀ y, cs[i]? = some y → SRel c ρ y x) ∧ C cs

theorem arg_any {c : Cx} {ρ : Rho} {H : Heap} {W : World} (R : Rel c W.heap.size ρ H W) (hO : H.Ok) (hro : H.RO) {v : Value} {C : List AV → Prop} (h : ArgS c W v C) :
    ∃ ρ' H' av cs, Rel c W.heap.size ρ' H' W ∧ H'.Ok ∧ H'.RO ∧ Ext ρ ρ' ∧ HLe H H' ∧ Sl H' 1 av cs ∧ VRel c ρ' av v ∧ C cs := by
  rcases h with ⟨rfl, h⟩ | ⟨a, len, cap, cs, e, n, rfl, h1, h2, h3, h4, h5, h6⟩
  · exact ⟨ρ, H, .nils, [], R, hO, hro, Ext.refl _, HLe.refl _, .inl ⟨rfl, rfl⟩, by rw [VRel_nils], h⟩
  · obtain ⟨ρ', H', a1, a2, a3, a4, a5, a6, a7⟩ := arg_slice R hO hro h1 h2 h3 h4 (h5 ρ)
    exact ⟨ρ', H', _, cs, a1, a2, a3, a4, a5, a6, a7, h6⟩

theorem args_str {c : Cx} {W : World} {a : Addr} {len cap : Nat} {ss : List ByteArray} {e : TypeId} {n : Nat} (hspot : a.spot = none) (hsh : W.shape? a.block = some (e, n)) (hl : len ≤ cap) (hm : cap ≤ maxLen) (hss : ss.length = cap)
    (hcell : ∀ i, i < ss.length → W.cell? (a.add i) = some (.string (ss.getD i ByteArray.empty))) :
    ArgS c W (.slice (some a) len cap) fun cs => ∃ l : List (List UInt8), cs = l.map AV.str ∧ l.length < 9223372036854775808 := by
  have : maxLen < 9223372036854775808 := by decide
  refine .inr ⟨a, len, cap, ((ss.take len).map fun b => b.data.toList).map AV.str, e, n, rfl, hspot, by rw [List.length_map, List.length_map, List.length_take]; omega, hl, hsh, fun ρ i hi => ⟨_, hcell i (by omega), fun x hx => ?_⟩, _, rfl, by rw [List.length_map, List.length_take]; omega⟩
  rw [List.map_map, List.getElem?_map] at hx
  cases h : (ss.take len)[i]? with
  | none => rw [h] at hx; cases hx
  | some b =>
    rw [h] at hx
    cases hx
    have hb : ss[i]? = some b := by
      rw [List.getElem?_take] at h
      split at h
      · exact h
      · cases h
    rw [List.getD_eq_getElem?_getD, hb]
    exact ⟨b, rfl, rfl⟩
end Go.Dp
namespace Go.Dp

theorem we :
    (∀ fr H x, evalR fr H (.mv x) = some (x.ev fr)) ∧ (∀ fr H c a b, evalR fr H (.pick c a b) = rPick (c.ev fr) (a.ev fr) (b.ev fr)) ∧ (∀ fr H z p, evalR fr H (.build z p) = rBuild (lay fr z p)) ∧
    (∀ fr H g n x, evalR fr H (.load g n x) = rLoad H g n (x.ev fr)) ∧ (∀ fr H x, evalR fr H (.nilck x) = rNilck (x.ev fr)) ∧ (∀ fr H o x y, evalR fr H (.bin o x y) = bin o (x.ev fr) (y.ev fr)) ∧
    (∀ fr H n k x y, evalR fr H (.eqv n k x y) = negIf n (eqv k (x.ev fr) (y.ev fr))) ∧ (∀ fr H n x y, evalR fr H (.eqc n x y) = negIf n (rEqc H (x.ev fr) (y.ev fr))) ∧ (∀ fr H n ks x y, evalR fr H (.eqa n ks x y) = negIf n (aggEq ks (x.ev fr) (y.ev fr))) ∧
    (∀ fr H o x, evalR fr H (.un o x) = un o (x.ev fr)) ∧ (∀ fr H k x, evalR fr H (.cint k x) = rCint k (x.ev fr)) ∧ (∀ fr H x, evalR fr H (.same x) = some (x.ev fr)) ∧ (∀ fr H x, evalR fr H (.b2s x) = rB2s H (x.ev fr)) ∧
    (∀ fr H x a b, evalR fr H (.slstr x a b) = rSlstr fr (x.ev fr) a b) ∧ (∀ fr H z x a b c, evalR fr H (.slsl z x a b c) = rSlsl fr H z (x.ev fr) a b c) ∧ (∀ fr H n z x a b, evalR fr H (.slarr n z x a b) = rSlarr fr H n z (x.ev fr) a b) ∧
    (∀ fr H o x, evalR fr H (.faddr o x) = rFaddr o (x.ev fr)) ∧ (∀ fr H g n o x, evalR fr H (.fld g n o x) = rFld g n o (x.ev fr)) ∧ (∀ fr H z x i, evalR fr H (.iasl z x i) = rIasl z (x.ev fr) (i.ev fr)) ∧
    (∀ fr H l z x i, evalR fr H (.iaarr l z x i) = rIaarr l z (x.ev fr) (i.ev fr)) ∧ (∀ fr H x i, evalR fr H (.ixstr x i) = rIxstr (x.ev fr) (i.ev fr)) ∧ (∀ fr H l g n x i, evalR fr H (.ixagg l g n x i) = rIxagg l g n (x.ev fr) (i.ev fr)) ∧
    (∀ fr H s z o m k, evalR fr H (.look s z o m k) = rLook H s z o (m.ev fr) (k.ev fr)) ∧ (∀ fr H i x, evalR fr H (.ext i x) = rExt i (x.ev fr)) ∧ (∀ fr H x, evalR fr H (.lens x) = rLens (x.ev fr)) ∧ (∀ fr H x, evalR fr H (.lensl x) = rLensl (x.ev fr)) ∧
    (∀ fr H x, evalR fr H (.lenm x) = rLenm H (x.ev fr)) ∧ (∀ fr H x, evalR fr H (.sstr x) = rSstr (x.ev fr)) ∧ (∀ fr H x, evalR fr H (.cap x) = rCap (x.ev fr)) ∧ (∀ fr H m xs, evalR fr H (.minmax m xs) = rMm m fr xs) ∧
    (∀ fr H f xs, evalR fr H (.mkfn f xs) = rMkfn f (xs.map (X.ev fr))) ∧ (∀ fr H x, evalR fr H (.p2u x) = rP2u H (x.ev fr)) ∧ (∀ fr H n x, evalR fr H (.u2b n x) = rU2b H n (x.ev fr)) ∧ (∀ fr H x, evalR fr H (.sdata x) = rSdata H (x.ev fr)) ∧
    (∀ fr H s c, evalR fr H (.index s c) = rIndex (s.ev fr) (c.ev fr)) ∧ (∀ h : Decidable True, @decide True h = true) ∧ (∀ h : Decidable False, @decide False h = false) ∧ (∀ (α β : Type) (f : α → β) a l, List.map f (a :: l) = f a :: List.map f l) ∧ (∀ (α β : Type) (f : α → β), List.map f [] = []) :=
  ⟨fun _ _ _ => rfl, fun _ _ _ _ _ => rfl, fun _ _ _ _ => rfl, fun _ _ _ _ _ => rfl, fun _ _ _ => rfl, fun _ _ _ _ _ => rfl, fun _ _ _ _ _ _ => rfl, fun _ _ _ _ _ => rfl, fun _ _ _ _ _ _ => rfl, fun _ _ _ _ => rfl, fun _ _ _ _ => rfl, fun _ _ _ => rfl, fun _ _ _ => rfl,
    fun _ _ _ _ _ => rfl, fun _ _ _ _ _ _ _ => rfl, fun _ _ _ _ _ _ _ => rfl, fun _ _ _ _ => rfl, fun _ _ _ _ _ _ => rfl, fun _ _ _ _ _ => rfl, fun _ _ _ _ _ _ => rfl, fun _ _ _ _ => rfl, fun _ _ _ _ _ _ _ => rfl, fun _ _ _ _ _ _ _ => rfl, fun _ _ _ _ => rfl, fun _ _ _ => rfl, fun _ _ _ => rfl,
    fun _ _ _ => rfl, fun _ _ _ => rfl, fun _ _ _ => rfl, fun _ _ _ _ => rfl, fun _ _ _ _ => rfl, fun _ _ _ => rfl, fun _ _ _ _ => rfl, fun _ _ _ => rfl, fun _ _ _ _ => rfl, decide_true, decide_false, fun _ _ _ _ _ => rfl, fun _ _ _ => rfl⟩

theorem wx :
    (∀ fr k cs, evalN fr (.new k cs) = some (.cells cs (k + 1), ptrTo)) ∧ (∀ fr x, evalN fr (.box x) = nBox (x.ev fr).cells) ∧ (∀ fr k z l i p, evalN fr (.bslice k z l i p) = nBslice k z l (lay fr i p)) ∧
    (∀ fr k z y c a b, evalN fr (.mksl k z y c a b) = nMksl k z y c (a.ev fr) (b.ev fr)) ∧ (∀ fr x, evalN fr (.s2b x) = nS2b (x.ev fr)) ∧ (∀ fr x, evalN fr (.nozero x) = nNozero (x.ev fr)) ∧ (∀ fr, evalN fr .mkmap = some (.mp [] 0, .map)) ∧
    (∀ (α : Type) (a : α), (a = a) = True) ∧
    (∀ (H : Heap) b o vs, H.st b o vs = match H.get b with
      | some (.cells l (k + 1)) => bif Nat.ble (o + vs.length) l.length then some (H.put b (.cells (over l o vs) (k + 1))) else none
      | _ => none) ∧
    (∀ (H : Heap) b o n, H.ld b o n = match H.get b with
      | some (.cells l _) => bif Nat.ble (o + n) l.length then some ((l.drop o).take n) else none
      | _ => none) ∧
    (∀ (H : Heap) x, (H.new x).get H.next = some x) ∧ (∀ (H : Heap) b x, (H.put b x).get b = some x) ∧ (∀ (H : Heap) x y, (H.new x).put H.next y = H.new y) ∧ (∀ (H : Heap) b x y, (H.put b x).put b y = H.put b y) ∧
    (∀ (H : Heap) x, (H.new x).next = H.next + 1) ∧ (∀ (H : Heap) b x, (H.put b x).next = H.next) ∧ (∀ (H : Heap) x y, ((H.new x).new y).get (H.next + 1) = some y) ∧ (∀ (H : Heap) x y, ((H.new x).new y).get H.next = some x) ∧
    (∀ (H : Heap) x y z, ((H.new x).new y).put (H.next + 1) z = (H.new x).new z) ∧ (∀ (H : Heap) x y b, b < H.next → ((H.new x).new y).get b = H.get b) ∧ (∀ (H : Heap) b x c, c ≠ b → (H.put b x).get c = H.get c) ∧ (∀ (H : Heap) x b, b ≠ H.next → (H.new x).get b = H.get b) ∧
    (∀ b o, rNilck (.ptr b o) = some (.ptr b o)) ∧ (∀ f cs, rNilck (.fn f cs) = some (.fn f cs)) ∧
    (∀ sz b o len z i, rIasl sz (.sl b o len z) i = bif Nat.beq sz z then (match idx i len with
      | some j => some (.ptr b (o + j * sz))
      | none => none) else none) ∧
    (∀ i len, idx i len = match natOf i with
      | some j => bif Nat.blt j len then some j else none
      | none => none) ∧
    (∀ n : Nat, n * 1 = n) ∧ (∀ n : Nat, n + 0 = n) ∧ (∀ (α : Type) (a : α) l, (a :: l).length = l.length + 1) ∧ (∀ (α : Type), ([] : List α).length = 0) ∧ (∀ a b : Nat, Nat.beq a b = decide (a = b)) ∧ (∀ a b : Nat, Nat.ble a b = decide (a ≤ b)) ∧ (∀ a b : Nat, Nat.blt a b = decide (a < b)) ∧
    (∀ (α : Type) (p : α → Bool) a l, (a :: l).all p = (p a && l.all p)) ∧ (∀ (α : Type) (p : α → Bool), ([] : List α).all p = true) ∧ (∀ b : Bool, (b && b) = b) ∧ (∀ b : Bool, (b && true) = b) ∧ (∀ b : Bool, (true && b) = b) ∧
    (∀ (α : Type) (l : List α), l.take 0 = []) ∧ (∀ (α : Type) (l : List α), l.drop 0 = l) ∧ (∀ (α : Type) (l : List α), [] ++ l = l) ∧ (∀ (α : Type) (l : List α), l ++ [] = l) ∧ (∀ (α : Type) (a : α) l n, (a :: l).take (n + 1) = a :: l.take n) ∧ (∀ (α : Type) (a : α) l n, (a :: l).drop (n + 1) = l.drop n) ∧
    (∀ (α : Type) (a : α) l r, (a :: l) ++ r = a :: (l ++ r)) ∧ (∀ (α : Type) (a : α) l, (a :: l)[0]? = some a) ∧ (∀ (α : Type) (a : α) l n, (a :: l)[n + 1]? = l[n]?) ∧
    (∀ fr s lo hi, rSlstr fr (.str s) lo hi = match bnds fr s.length s.length lo hi with
      | some (l, h) => some (.str ((s.drop l).take (h - l)))
      | none => none) ∧
    (∀ fr len m, bnds fr len m none none = some (0, len)) ∧
    (∀ fr len m l, bnds fr len m (some l) none = match bnd (l.ev fr) len with
      | some l => some (l, len)
      | none => none) ∧
    (∀ fr len m h, bnds fr len m none (some h) = match bnd (h.ev fr) m with
      | some h => some (0, h)
      | none => none) ∧
    (∀ fr len m l h, bnds fr len m (some l) (some h) = match bnd (h.ev fr) m with
      | some h => match bnd (l.ev fr) h with
        | some l => some (l, h)
        | none => none
      | none => none) ∧
    (∀ v m, bnd v m = match natOf v with
      | some n => bif Nat.ble n m then some n else none
      | none => none) ∧
    (∀ k n, natOf (.int k (.ofNat n)) = some n) ∧ (∀ k n, natOf (.int k (.negSucc n)) = none) ∧ (∀ n : Nat, n - 0 = n) ∧ (∀ n : Nat, (0 ≤ n) = True) ∧ (∀ n : Nat, (n ≤ n) = True) ∧
    (∀ fr H sz lo hi, rSlsl fr H sz .nils lo hi none = match bnds fr 0 0 lo hi with
      | some _ => some .nils
      | none => none) ∧
    (∀ fr H sz b o len z lo hi, rSlsl fr H sz (.sl b o len z) lo hi none = match H.get b with
      | some (.cells cs _) =>
        bif Nat.beq sz z && !Nat.beq sz 0 then
          match bnds fr len ((cs.length - o) / sz) lo hi with
          | some (l, h) => some (.sl b (o + l * sz) (h - l) sz)
          | none => none
        else none
      | _ => none) ∧
    (∀ n : Nat, n / 1 = n) ∧ (∀ n m : Nat, n + m - m = n) ∧ (∀ n : Nat, 0 + n = n) ∧ (∀ n m : Nat, (n ≤ m + n) = True) :=
  ⟨fun _ _ _ => rfl, fun _ _ => rfl, fun _ _ _ _ _ _ => rfl, fun _ _ _ _ _ _ _ => rfl, fun _ _ => rfl, fun _ _ => rfl, fun _ => rfl, fun _ _ => eq_self _, fun _ _ _ _ => rfl, fun _ _ _ _ => rfl,
    Heap.get_new_self, Heap.get_put_self, Heap.new_put, Heap.put_put, Heap.next_new, Heap.next_put, Heap.get_new2, Heap.get_new2', Heap.put_new2, fun H x y b h => Heap.get_new2_ne H x y h, fun H b x c h => Heap.get_put_ne H b x h, fun H x b h => Heap.get_new_ne H x h,
    fun _ _ => rfl, fun _ _ => rfl, fun _ _ _ _ _ _ => rfl, fun _ _ => rfl, Nat.mul_one, Nat.add_zero, fun _ _ _ => rfl, fun _ => rfl, nbeq, nble, nblt, fun _ _ _ _ => rfl, fun _ _ => rfl, Bool.and_self, Bool.and_true, Bool.true_and,
    fun _ _ => List.take_zero, fun _ _ => List.drop_zero, fun _ _ => rfl, fun _ l => List.append_nil l, fun _ _ _ _ => rfl, fun _ _ _ _ => rfl, fun _ _ _ _ => rfl, fun _ _ _ => rfl, fun _ _ _ _ => rfl,
    fun _ _ _ _ => rfl, fun _ _ _ => rfl, fun _ _ _ _ => rfl, fun _ _ _ _ => rfl, fun _ _ _ _ _ => rfl, fun _ _ => rfl, fun _ _ => rfl, fun _ _ => rfl, Nat.sub_zero, fun n => eq_true (Nat.zero_le n), fun n => eq_true (Nat.le_refl n), fun _ _ _ _ _ => rfl, fun _ _ _ _ _ _ _ _ _ => rfl,
    Nat.div_one, Nat.add_sub_cancel, Nat.zero_add, fun n m => eq_true (Nat.le_add_left n m)⟩

theorem w0 : type_of% wq ∧ type_of% wv ∧ type_of% we := ⟨wq, wv, we⟩
theorem w1 : type_of% w0 ∧ type_of% wh ∧ type_of% wx := ⟨w0, wh, wx⟩

theorem gm {P Q : Prop} (h : P) (k : P → Q := by
    first
    | with_reducible exact SAft.done | with_reducible exact TAft.done
    | (refine fun h => Xk.sTrue ?_ rfl h; simp only [X.kv, Kn.get_cons, ↓reduceIte, Nat.reduceEqDiff]; done) | (refine fun h => Xk.sFalse ?_ rfl h; simp only [X.kv, Kn.get_cons, ↓reduceIte, Nat.reduceEqDiff]; done)
    | (refine fun h => Xk.true_ ?_ rfl h; simp only [X.kv, Kn.get_cons, ↓reduceIte, Nat.reduceEqDiff]; done) | (refine fun h => Xk.false_ ?_ rfl h; simp only [X.kv, Kn.get_cons, ↓reduceIte, Nat.reduceEqDiff]; done)
    | exact Xk.assoc | exact Xk.sSkip | exact Xk.sBlock | exact Xk.sExit | exact Xk.sScope | exact Xk.sRet | exact Xk.ret | exact Xk.skip | exact Xk.exit | exact Xk.block | exact Xk.scope
    | exact Ex.thn_n | exact Ex.in_n | exact Ex.thn_r | exact Ex.in_r | exact Ex.thn_e | exact Ex.in_hit | exact Ex.in_ne rfl | exact Ret.ret rfl rfl rfl | exact Ret.normal rfl rfl rfl) : Q := k h
theorem gc {P Q : Prop} (h : P) (k : P → Q := by
    first
    | with_reducible exact SAft.done | with_reducible exact TAft.done | with_reducible exact SAft.call | with_reducible exact TAft.call
    | (refine fun h => Xk.sTrue ?_ rfl h; simp only [X.kv, Kn.get_cons, ↓reduceIte, Nat.reduceEqDiff]; done) | (refine fun h => Xk.sFalse ?_ rfl h; simp only [X.kv, Kn.get_cons, ↓reduceIte, Nat.reduceEqDiff]; done)
    | (refine fun h => Xk.true_ ?_ rfl h; simp only [X.kv, Kn.get_cons, ↓reduceIte, Nat.reduceEqDiff]; done) | (refine fun h => Xk.false_ ?_ rfl h; simp only [X.kv, Kn.get_cons, ↓reduceIte, Nat.reduceEqDiff]; done)
    | exact Xk.assoc | exact Xk.sSkip | exact Xk.sBlock | exact Xk.sExit | exact Xk.sScope | exact Xk.sRet | exact Xk.ret | exact Xk.skip | exact Xk.exit | exact Xk.block | exact Xk.scope
    | exact Ex.thn_n | exact Ex.in_n | exact Ex.thn_r | exact Ex.in_r | exact Ex.thn_e | exact Ex.in_hit | exact Ex.in_ne rfl | exact Ret.ret rfl rfl rfl | exact Ret.normal rfl rfl rfl) : Q := k h
theorem gt {L : Lib} {n : Nat} {k : Kn} {H : Heap} {Q : Ex → Kn → Heap → Prop} {its : List It} {r : KR} (h : ∀ C : KR → Prop, C r → C (Dp.run its k H)) (hK : TAft L n Q r) (hok : okR n its k.keys = true := by rfl) : Xk L n (.region its) k H Q := Xk.tAny hok h hK

end Go.Dp
