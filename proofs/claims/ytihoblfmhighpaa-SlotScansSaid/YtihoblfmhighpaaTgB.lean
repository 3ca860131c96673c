/- Rows of things with tags: one is read, one is written. Conditions: none. -/
import Derived.Test.YtihoblfmhighpaaQsJ
namespace Go.Proofs.Ytihoblfmhighpaa
open Go.Dp
set_option linter.unusedSimpArgs false
set_option linter.unusedVariables false
set_option maxHeartbeats 2000000

theorem over_lenC (l : List AV) (o : Nat) (vs : List AV) (h : o + vs.length ≤ l.length) : (over l o vs).length = l.length := by
  show (l.take o ++ (vs ++ l.drop (o + vs.length))).length = _
  rw [List.length_append, List.length_append, List.length_take, List.length_drop]
  omega

end Go.Proofs.Ytihoblfmhighpaa
namespace Go.Proofs.Ytihoblfmhighpaa
open Go.Dp
set_option linter.unusedSimpArgs false
set_option linter.unusedVariables false

section
variable {α : Type} {g : α → List AV} {n : Nat}
theorem fm_len (hg : ∀ a, (g a).length = n) (l : List α) : (l.flatMap g).length = l.length * n := by
  induction l with
  | nil => rw [List.flatMap_nil, List.length_nil, List.length_nil, Nat.zero_mul]
  | cons a l ih => rw [List.flatMap_cons, List.length_append, hg, ih, List.length_cons, Nat.add_mul, Nat.one_mul, Nat.add_comm]
theorem fm_drop (hg : ∀ a, (g a).length = n) (d : α) : ∀ (l : List α) (i : Nat), i < l.length → (l.flatMap g).drop (i * n) = g (l.getD i d) ++ (l.drop (i + 1)).flatMap g
  | [], i, h => by cases h
  | a :: l, 0, _ => by rw [Nat.zero_mul]; rfl
  | a :: l, i + 1, h => by
    have e : (i + 1) * n = n + i * n := by rw [Nat.add_mul, Nat.one_mul, Nat.add_comm]
    rw [e, ← List.drop_drop, List.flatMap_cons, ← hg a, List.drop_left, hg a]
    exact fm_drop hg d l i (Nat.lt_of_succ_lt_succ h)
theorem fm_take (hg : ∀ a, (g a).length = n) : ∀ (l : List α) (i : Nat), (l.flatMap g).take (i * n) = (l.take i).flatMap g
  | [], i => by rw [List.take_nil, List.flatMap_nil, List.take_nil]
  | a :: l, 0 => by rw [Nat.zero_mul]; rfl
  | a :: l, i + 1 => by
    have e : (i + 1) * n = (g a).length + i * n := by rw [Nat.add_mul, Nat.one_mul, Nat.add_comm, hg]
    rw [e, List.flatMap_cons, List.take_length_add_append, fm_take hg l i]
    rfl
end

structure Fr where
  kind : Int
  slot : Int
  inc : Int
  rid : Int
  floor : Int
  role : Int
  key : List UInt8
  ver : Int
  data : List UInt8
def Fr.cells (f : Fr) : List AV := [.int .i64 f.kind, .int .i64 f.slot, .int .i64 f.inc, .int .i64 f.rid, .int .i64 f.floor, .int .i64 f.role, .str f.key, .int .i64 f.ver, .str f.data]
def noFr : Fr := ⟨.ofNat 0, .ofNat 0, .ofNat 0, .ofNat 0, .ofNat 0, .ofNat 0, [], .ofNat 0, []⟩
structure Rq where
  f : Fr
  t : Nat
def roleB (k r : Int) : Bool :=
  if k = .ofNat 4 ∨ k = .ofNat 5 ∨ k = .ofNat 7 then decide (r = .ofNat 0)
  else if k = .ofNat 6 then decide (r = .ofNat 0) || decide (r = .ofNat 1) || decide (r = .ofNat 2)
  else decide (r = .ofNat 1) || decide (r = .ofNat 2)
def inB (z : Int) (n : Nat) : Bool := decide (.ofNat 0 ≤ z) && decide (z ≤ .ofNat n)
def rightB (f : Fr) : Bool :=
  decide (.ofNat 1 ≤ f.kind) && decide (f.kind ≤ .ofNat 7) && inB f.slot 11 && roleB f.kind f.role &&
  inB f.inc 1099511627776 && inB f.rid 1099511627776 && inB f.floor 1099511627776 && inB f.ver 1099511627776 && decide (f.key.length ≤ 250) && decide (f.data.length ≤ 1049600)

end Go.Proofs.Ytihoblfmhighpaa
namespace Go.Proofs.Ytihoblfmhighpaa
open Go.Dp
set_option linter.unusedSimpArgs false
set_option linter.unusedVariables false
set_option maxHeartbeats 2000000

theorem Heap.lt_get {H : Heap} (hO : H.Ok) {b : Nat} {x : Blk} (h : H.get b = some x) : b < H.next := by
  rcases Nat.lt_or_ge b H.next with h1 | h1
  · exact h1
  · rw [hO b h1] at h; cases h

abbrev Tg := Nat × Nat × Nat
abbrev Tags := Nat → Tg
def Tags.lay (T : Tags) (b : Nat) (t : Tg) : Tags := fun c => if c = b then t else T c
theorem Tags.lay_self (T : Tags) (b : Nat) (t : Tg) : T.lay b t b = t := if_pos rfl
theorem Tags.lay_ne (T : Tags) {b c : Nat} (t : Tg) (h : c ≠ b) : T.lay b t c = T c := if_neg h

def At (T : Tags) (H : Heap) (t : Tg) (p : Nat) (x : Blk) : Prop := H.get p = some x ∧ T p = t
def RT (T : Tags) (H : Heap) (t : Tg) (k sz : Nat) (v : AV) (cs : List AV) : Prop :=
  (v = .nils ∧ cs = []) ∨ ∃ c len l, v = .sl c 0 len sz ∧ cs.length = len * sz ∧ H.get c = some (.cells l (k + 1)) ∧ cs.length ≤ l.length ∧ l.take cs.length = cs ∧ T c = t

structure Stp (O : Tg → Prop) (T : Tags) (H : Heap) (T' : Tags) (H' : Heap) : Prop where
  ok : H'.Ok
  al : ∀ b y, H.get b = some y → T' b = T b ∧ ∃ z, H'.get b = some z
  kp : ∀ b y, H.get b = some y → ¬ O (T b) → H'.get b = some y

theorem Stp.refl {O : Tg → Prop} {T : Tags} {H : Heap} (h : H.Ok) : Stp O T H T H := ⟨h, fun b y e => ⟨rfl, y, e⟩, fun _ _ e _ => e⟩
theorem Stp.trans {O : Tg → Prop} {T T1 T2 : Tags} {H H1 H2 : Heap} (h : Stp O T H T1 H1) (k : Stp O T1 H1 T2 H2) : Stp O T H T2 H2 :=
  ⟨k.ok, fun b y e => by
    obtain ⟨e1, z, e2⟩ := h.al b y e
    obtain ⟨e3, w, e4⟩ := k.al b z e2
    exact ⟨e3.trans e1, w, e4⟩, fun b y e hn => k.kp b y (h.kp b y e hn) (by rw [(h.al b y e).1]; exact hn)⟩
theorem Stp.mono {O P : Tg → Prop} {T T' : Tags} {H H' : Heap} (h : Stp O T H T' H') (hi : ∀ t, O t → P t) : Stp P T H T' H' := ⟨h.ok, h.al, fun b y e hn => h.kp b y e fun ho => hn (hi _ ho)⟩
theorem Stp.le {O : Tg → Prop} {T : Tags} {H H' : Heap} (h : H'.Ok) (hle : HLe H H') : Stp O T H T H' := ⟨h, fun b y e => ⟨rfl, y, hle b y e⟩, fun b y e _ => hle b y e⟩
theorem Stp.new {O : Tg → Prop} {T : Tags} {H : Heap} (hO : H.Ok) (t : Tg) (x : Blk) : Stp O T H (T.lay H.next t) (H.new x) := by
  have hne : ∀ b y, H.get b = some y → b ≠ H.next := fun b y e => Nat.ne_of_lt (Heap.lt_get hO e)
  exact ⟨hO.new _, fun b y e => ⟨Tags.lay_ne _ _ (hne b y e), y, by rw [Heap.get_new_ne _ _ (hne b y e)]; exact e⟩, fun b y e _ => by rw [Heap.get_new_ne _ _ (hne b y e)]; exact e⟩
theorem Stp.put {O : Tg → Prop} {T : Tags} {H : Heap} (hO : H.Ok) {b : Nat} {y : Blk} (hb : H.get b = some y) (ho : O (T b)) (x : Blk) : Stp O T H T (H.put b x) := by
  refine ⟨hO.put hb _, fun c z e => ⟨rfl, ?_⟩, fun c z e hn => ?_⟩
  · by_cases hc : c = b
    · subst hc; exact ⟨x, Heap.get_put_self _ _ _⟩
    · exact ⟨z, by rw [Heap.get_put_ne _ _ _ hc]; exact e⟩
  · have hc : c ≠ b := fun h => hn (h ▸ ho)
    rw [Heap.get_put_ne _ _ _ hc]; exact e

theorem At.step {O : Tg → Prop} {T T' : Tags} {H H' : Heap} {t : Tg} {p : Nat} {x : Blk} (h : At T H t p x) (s : Stp O T H T' H') (ho : ¬ O t) : At T' H' t p x := ⟨s.kp p x h.1 (by rw [h.2]; exact ho), (s.al p x h.1).1.trans h.2⟩
theorem At.new {T : Tags} {H : Heap} (t : Tg) (x : Blk) : At (T.lay H.next t) (H.new x) t H.next x := ⟨Heap.get_new_self _ _, Tags.lay_self _ _ _⟩
theorem At.put {T : Tags} {H : Heap} {t : Tg} {p : Nat} {x : Blk} (h : At T H t p x) (y : Blk) : At T (H.put p y) t p y := ⟨Heap.get_put_self _ _ _, h.2⟩
theorem At.ne {T : Tags} {H : Heap} {t u : Tg} {p q : Nat} {x y : Blk} (h : At T H t p x) (k : At T H u q y) (hn : t ≠ u) : p ≠ q := fun e => hn (by rw [← h.2, ← k.2, e])
theorem At.stp1 {T : Tags} {H : Heap} {t : Tg} {p : Nat} {x : Blk} (h : At T H t p x) (hO : H.Ok) (y : Blk) : Stp (fun u => u = t) T H T (H.put p y) := Stp.put hO h.1 h.2 y
theorem At.lt {T : Tags} {H : Heap} {t : Tg} {p : Nat} {x : Blk} (h : At T H t p x) (hO : H.Ok) : p < H.next := Heap.lt_get hO h.1

theorem RT.sc {T : Tags} {H : Heap} {t : Tg} {k sz : Nat} {v : AV} {cs : List AV} (h : RT T H t k sz v cs) : v.cells = [v] ∧ v.isSc = true := by
  rcases h with ⟨rfl, _⟩ | ⟨c, len, l, rfl, _⟩ <;> exact ⟨rfl, rfl⟩
theorem RT.same {T : Tags} {H : Heap} {t : Tg} {k sz : Nat} {v : AV} {cs : List AV} (h : RT T H t k sz v cs) : sameAV v v = true := by
  rcases h with ⟨rfl, _⟩ | ⟨c, len, l, rfl, _⟩
  · rfl
  · simp [sameAV, nbeq]
theorem RT.lens {T : Tags} {H : Heap} {t : Tg} {k sz : Nat} {v : AV} {cs : List AV} (hz : 0 < sz) (h : RT T H t k sz v cs) : rLensl v = some (.int .i64 (.ofNat (cs.length / sz))) := by
  rcases h with ⟨rfl, rfl⟩ | ⟨c, len, l, rfl, h2, _⟩
  · rw [List.length_nil, Nat.zero_div]; rfl
  · rw [h2, Nat.mul_div_cancel _ hz]; rfl
theorem RT.sl {T : Tags} {H : Heap} {t : Tg} {k sz : Nat} {v : AV} {cs : List AV} (h : RT T H t k sz v cs) : Sl H sz v cs := by
  rcases h with h | ⟨c, len, l, rfl, h2, h3, h4, h5, _⟩
  · exact .inl h
  · refine .inr ⟨c, 0, len, l, k + 1, l.drop cs.length, rfl, h2, h3, Nat.zero_le _, ?_⟩
    rw [List.drop_zero]
    exact (List.take_append_drop cs.length l).symm.trans (by rw [h5])
theorem RT.step {O : Tg → Prop} {T T' : Tags} {H H' : Heap} {t : Tg} {k sz : Nat} {v : AV} {cs : List AV} (h : RT T H t k sz v cs) (s : Stp O T H T' H') (ho : ¬ O t) : RT T' H' t k sz v cs := by
  rcases h with h | ⟨c, len, l, h1, h2, h3, h4, h5, h6⟩
  · exact .inl h
  · exact .inr ⟨c, len, l, h1, h2, s.kp _ _ h3 (by rw [h6]; exact ho), h4, h5, (s.al _ _ h3).1.trans h6⟩
theorem RT.nil {T : Tags} {H : Heap} {t : Tg} {k sz : Nat} : RT T H t k sz .nils [] := .inl ⟨rfl, rfl⟩
theorem RT.cut {T : Tags} {H : Heap} {t : Tg} {k sz c len : Nat} {l cs : List AV} (n : Nat) (hn : n ≤ len) (h2 : cs.length = len * sz) (h3 : H.get c = some (.cells l (k + 1))) (h4 : cs.length ≤ l.length) (h5 : l.take cs.length = cs) (h6 : T c = t) :
    RT T H t k sz (.sl c 0 n sz) (cs.take (n * sz)) := by
  have hm : n * sz ≤ len * sz := Nat.mul_le_mul_right _ hn
  have hl : (cs.take (n * sz)).length = n * sz := by rw [List.length_take]; omega
  refine .inr ⟨c, n, l, rfl, hl, h3, by omega, ?_, h6⟩
  rw [hl, ← h5, List.take_take]
  congr 1
  omega

theorem RT.app {T : Tags} {H : Heap} {t : Tg} {k sz bytes n : Nat} {v x : AV} {cs new : List AV} (hO : H.Ok) (h : RT T H t k sz v cs) (hx : srcCells H sz x = some (n, new)) (hn : new.length = n * sz) (hz : 0 < sz)
    (hb : (cs.length / sz + n) * bytes ≤ 35184372088832) (hb2 : cs.length / sz + n ≤ 35184372088832) :
    ∃ v' H' T', evalApp k sz bytes H v x = some (v', H') ∧ Stp (fun u => u = t) T H T' H' ∧ RT T' H' t k sz v' (cs ++ new) := by
  have hz' : Nat.beq sz 0 = false := by rw [nbeq]; exact decide_eq_false (by omega)
  by_cases ht : n = 0
  · subst ht
    have hnil : new = [] := List.eq_nil_of_length_eq_zero (by omega)
    subst hnil
    rcases h with ⟨rfl, rfl⟩ | ⟨c, len, l, rfl, h2, h3, h4, h5, h6⟩
    · refine ⟨.nils, H, T, ?_, Stp.refl hO, .inl ⟨rfl, rfl⟩⟩
      simp only [evalApp, hx, nbeq, decide_true, cond_true]
    · refine ⟨.sl c 0 len sz, H, T, ?_, Stp.refl hO, .inr ⟨c, len, l, rfl, by rw [List.append_nil]; exact h2, h3, by rw [List.append_nil]; exact h4, by rw [List.append_nil]; exact h5, h6⟩⟩
      simp only [evalApp, hx, nbeq sz sz, decide_true, hz', Bool.not_false, Bool.and_self, cond_true, h3, appTo, nble, nbeq 0 0]
      rw [decide_eq_true (by omega)]; rfl
  · have hn0 : Nat.beq n 0 = false := by rw [nbeq]; exact decide_eq_false ht
    rcases h with ⟨rfl, rfl⟩ | ⟨c, len, l, rfl, h2, h3, h4, h5, h6⟩
    · simp only [List.length_nil, Nat.zero_div, Nat.zero_add] at hb hb2
      refine ⟨.sl H.next 0 n sz, H.new (.cells new (k + 1)), T.lay H.next t, ?_, Stp.new hO t _, .inr ⟨H.next, n, new, rfl, hn, Heap.get_new_self _ _, by rw [List.nil_append]; exact Nat.le_refl _, by rw [List.nil_append, List.take_length], Tags.lay_self _ _ _⟩⟩
      simp only [evalApp, hx, hn0, cond_false, nble, decide_eq_true hb, decide_eq_true hb2, hz', Bool.not_false, Bool.and_self, cond_true]
    · have hlen : cs.length / sz = len := by rw [h2, Nat.mul_div_cancel _ hz]
      rw [hlen] at hb hb2
      have hnb : H.next ≠ c := by intro e; subst e; rw [hO H.next (Nat.le_refl _)] at h3; cases h3
      have e0 : (0 : Nat) + len * sz = cs.length := by omega
      have e1 : (0 : Nat) + (len + n) * sz = cs.length + new.length := by rw [Nat.add_mul]; omega
      by_cases hfit : cs.length + new.length ≤ l.length
      · have hol : (over l cs.length new).length = l.length := over_lenC l _ _ hfit
        refine ⟨.sl c 0 (len + n) sz, H.put c (.cells (over l cs.length new) (k + 1)), T, ?_, Stp.put hO h3 h6 _,
          .inr ⟨c, len + n, over l cs.length new, rfl, by rw [List.length_append, Nat.add_mul]; omega, Heap.get_put_self _ _ _, by rw [List.length_append, hol]; exact hfit, ?_, h6⟩⟩
        · simp only [evalApp, hx, nbeq sz sz, decide_true, hz', Bool.not_false, Bool.and_self, cond_true, h3, appTo, nble, e0, e1, hn0, cond_false, decide_eq_true h4, decide_eq_true hfit]
        · rw [List.length_append]
          show (l.take cs.length ++ (new ++ l.drop (cs.length + new.length))).take (cs.length + new.length) = _
          rw [h5, ← List.append_assoc, List.take_append_of_le_length (by rw [List.length_append]; exact Nat.le_refl _), List.take_of_length_le (by rw [List.length_append]; exact Nat.le_refl _)]
      · have hO' := hO.put h3 .dead
        refine ⟨.sl H.next 0 (len + n) sz, (H.put c .dead).new (.cells (cs ++ new) (k + 1)), T.lay H.next t, ?_, (Stp.put (O := fun u => u = t) hO h3 h6 .dead).trans (Stp.new hO' t _),
          .inr ⟨H.next, len + n, cs ++ new, rfl, by rw [List.length_append, Nat.add_mul]; omega, Heap.get_new_self (H.put c .dead) _, Nat.le_refl _, List.take_length, Tags.lay_self _ _ _⟩⟩
        simp only [evalApp, hx, nbeq sz sz, decide_true, hz', Bool.not_false, Bool.and_self, cond_true, h3, appTo, nble, e0, e1, hn0, cond_false, decide_eq_true h4, decide_eq_false hfit, nbeq k k, decide_eq_true hb, decide_eq_true hb2, List.drop_zero]
        rw [← h2, h5]

theorem RT.push {T : Tags} {H : Heap} {t : Tg} {k sz bytes w : Nat} {v : AV} {cs row : List AV} (hO : H.Ok) (h : RT T H t k sz v cs) (hr : row.length = sz) (hs : row.all AV.isSc = true) (hz : 0 < sz)
    (hb : (cs.length / sz + 1) * bytes ≤ 35184372088832) (hb2 : cs.length / sz + 1 ≤ 35184372088832) :
    ∃ v' H' T', evalApp k sz bytes (H.new (.cells row w)) v (.sl H.next 0 1 sz) = some (v', H') ∧ Stp (fun u => u = t) T H T' H' ∧ RT T' H' t k sz v' (cs ++ row) := by
  have hx : srcCells (H.new (.cells row w)) sz (.sl H.next 0 1 sz) = some (1, row) := by
    have := Sl.src (H := H.new (.cells row w)) (sz := sz) (v := .sl H.next 0 1 sz) (cs := row) (.inr ⟨H.next, 0, 1, row, w, [], rfl, by omega, Heap.get_new_self _ _, Nat.zero_le _, by simp⟩) hs hz
    rw [hr, Nat.div_self hz] at this
    exact this
  have hle : HLe H (H.new (.cells row w)) := HLe.new (hO _ (Nat.le_refl _)) _
  have s1 : ∀ O, Stp O T H T (H.new (.cells row w)) := fun O => Stp.le (hO.new _) hle
  obtain ⟨v', H', T', e1, e2, e3⟩ := RT.app (hO.new _) (h.step (s1 (fun _ => False)) (fun h => h)) hx (by omega) hz hb hb2
  exact ⟨v', H', T', e1, (s1 _).trans e2, e3⟩
end Go.Proofs.Ytihoblfmhighpaa
namespace Go.Proofs.Ytihoblfmhighpaa
open Go.Dp
set_option linter.unusedSimpArgs false
set_option linter.unusedVariables false
set_option maxHeartbeats 2000000

theorem over_take (l : List AV) (o : Nat) (vs : List AV) (m : Nat) (h : o + vs.length ≤ m) (hm : m ≤ l.length) : (over l o vs).take m = over (l.take m) o vs := by
  show (l.take o ++ (vs ++ l.drop (o + vs.length))).take m = (l.take m).take o ++ (vs ++ (l.take m).drop (o + vs.length))
  rw [List.take_take, Nat.min_eq_left (by omega), List.drop_take, ← List.append_assoc, ← List.append_assoc, List.take_append]
  have e : (l.take o ++ vs).length = o + vs.length := by rw [List.length_append, List.length_take]; omega
  rw [List.take_of_length_le (by omega), e]
theorem over_right (a r : List AV) (o : Nat) (vs : List AV) : over (a ++ r) (a.length + o) vs = a ++ over r o vs := by
  show (a ++ r).take (a.length + o) ++ (vs ++ (a ++ r).drop (a.length + o + vs.length)) = a ++ (r.take o ++ (vs ++ r.drop (o + vs.length)))
  rw [List.take_length_add_append, Nat.add_assoc, List.drop_length_add_append, List.append_assoc]
theorem over_left (a r : List AV) (o : Nat) (vs : List AV) (h : o + vs.length ≤ a.length) : over (a ++ r) o vs = over a o vs ++ r := by
  show (a ++ r).take o ++ (vs ++ (a ++ r).drop (o + vs.length)) = a.take o ++ (vs ++ a.drop (o + vs.length)) ++ r
  rw [List.take_append_of_le_length (by omega), List.drop_append_of_le_length (by omega), List.append_assoc, List.append_assoc]

section
variable {α : Type} {g : α → List AV} {n : Nat}
theorem fm_over (hg : ∀ a, (g a).length = n) (d : α) (j : Nat) (ys : List AV) (x' : α) (hj : j + ys.length ≤ n) : ∀ (l : List α) (i : Nat), i < l.length → g x' = over (g (l.getD i d)) j ys → over (l.flatMap g) (i * n + j) ys = (l.set i x').flatMap g
  | [], i, h, _ => by cases h
  | a :: l, 0, _, hx => by
    rw [Nat.zero_mul, Nat.zero_add, List.flatMap_cons, over_left _ _ _ _ (by rw [hg]; exact hj)]
    have : (a :: l).getD 0 d = a := rfl
    rw [this] at hx
    rw [← hx]
    rfl
  | a :: l, i + 1, h, hx => by
    have e : (i + 1) * n + j = (g a).length + (i * n + j) := by rw [Nat.add_mul, Nat.one_mul, hg]; omega
    rw [e, List.flatMap_cons, over_right, fm_over hg d j ys x' hj l i (Nat.lt_of_succ_lt_succ h) hx]
    rfl

theorem RT.rowG (hg : ∀ a, (g a).length = n) (d : α) {T : Tags} {H : Heap} {t : Tg} {k : Nat} {v : AV} {l : List α} (h : RT T H t k n v (l.flatMap g)) (hl : 0 < l.length) (hn : 0 < n) :
    ∃ c cl, v = .sl c 0 l.length n ∧ H.get c = some (.cells cl (k + 1)) ∧ T c = t ∧ l.length * n ≤ cl.length ∧ cl.take (l.length * n) = l.flatMap g ∧ ∀ i, i < l.length → i * n + n ≤ cl.length ∧ ∃ rest, cl.drop (i * n) = g (l.getD i d) ++ rest := by
  have hr := fm_len hg l
  rcases h with ⟨rfl, h2⟩ | ⟨c, len, cl, rfl, h2, h3, h4, h5, h6⟩
  · rw [h2, List.length_nil] at hr
    have := Nat.mul_pos hl hn
    omega
  · have he : len = l.length := Nat.eq_of_mul_eq_mul_right hn (by rw [← h2, hr])
    subst he
    rw [hr] at h4 h5
    refine ⟨c, cl, rfl, h3, h6, h4, h5, fun i hi => ?_⟩
    have hm : (i + 1) * n ≤ l.length * n := Nat.mul_le_mul_right _ hi
    rw [Nat.add_mul, Nat.one_mul] at hm
    refine ⟨by omega, (l.drop (i + 1)).flatMap g ++ cl.drop (l.length * n), ?_⟩
    have e : cl = l.flatMap g ++ cl.drop (l.length * n) := by rw [← h5, List.take_append_drop]
    have e2 : cl.drop (i * n) = (l.flatMap g).drop (i * n) ++ cl.drop (l.length * n) := by
      conv => lhs; rw [e]
      rw [List.drop_append_of_le_length (by rw [hr]; omega)]
    rw [e2, fm_drop hg d l i hi, List.append_assoc]
theorem RT.lensG (hg : ∀ a, (g a).length = n) {T : Tags} {H : Heap} {t : Tg} {k : Nat} {v : AV} {l : List α} (h : RT T H t k n v (l.flatMap g)) (hn : 0 < n) : rLensl v = some (.int .i64 (.ofNat l.length)) ∧ v.isSc = true ∧ v.cells = [v] := by
  refine ⟨?_, h.sc.2, h.sc.1⟩
  rw [h.lens hn, fm_len hg, Nat.mul_div_cancel _ hn]
theorem RT.setG (hg : ∀ a, (g a).length = n) (d : α) {T : Tags} {H : Heap} {t : Tg} {k c : Nat} {l : List α} {cl : List AV} (hO : H.Ok) (h3 : H.get c = some (.cells cl (k + 1))) (h6 : T c = t) (h4 : l.length * n ≤ cl.length) (h5 : cl.take (l.length * n) = l.flatMap g)
    {i : Nat} (hi : i < l.length) {j : Nat} {ys : List AV} (hj : j + ys.length ≤ n) {x' : α} (hx : g x' = over (g (l.getD i d)) j ys) :
    RT T (H.put c (.cells (over cl (i * n + j) ys) (k + 1))) t k n (.sl c 0 l.length n) ((l.set i x').flatMap g) ∧ Stp (fun u => u = t) T H T (H.put c (.cells (over cl (i * n + j) ys) (k + 1))) ∧ i * n + j + ys.length ≤ cl.length := by
  have hm : (i + 1) * n ≤ l.length * n := Nat.mul_le_mul_right _ hi
  rw [Nat.add_mul, Nat.one_mul] at hm
  have hlen : ((l.set i x').flatMap g).length = l.length * n := by rw [fm_len hg, List.length_set]
  refine ⟨.inr ⟨c, l.length, _, rfl, hlen, Heap.get_put_self _ _ _, ?_, ?_, h6⟩, Stp.put hO h3 h6 _, by omega⟩
  · rw [hlen, over_lenC _ _ _ (by omega)]
    exact h4
  · rw [hlen, over_take _ _ _ _ (by omega) h4, h5, fm_over hg d j ys x' hj l i hi hx]
end
end Go.Proofs.Ytihoblfmhighpaa
