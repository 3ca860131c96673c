/- The slab: the class of so many bytes; a chunk read. Conditions: none. -/
import Derived.Test.YtihoblfmhighpaaTgB
import Derived.Test.YtihoblfmhighpaaPkC
namespace Go.Proofs.Ytihoblfmhighpaa
open Go.Dp
set_option linter.unusedSimpArgs false
set_option linter.unusedVariables false

structure Cl where
  size : Nat
  free : List Nat
  live : List (Nat × List UInt8)
  count : Nat
structure Sb where
  page : Nat
  left : Nat
  used : Nat
  cs : List Cl

def noCl : Cl := ⟨64, [], [], 0⟩
structure Cl.Ok (c : Cl) (page used : Nat) : Prop where
  nd : (c.free ++ c.live.map (·.1)).Nodup
  lt : ∀ k ∈ c.free ++ c.live.map (·.1), k < c.count
  ln : (c.free ++ c.live.map (·.1)).length ≤ c.count
  ct : c.count ≤ 1024 * used
  lo : 64 ≤ c.size
  hi : c.size ≤ page
structure Sb.Ok (s : Sb) : Prop where
  pg : s.page ≤ 65536
  us : s.left + s.used ≤ 64
  cl : ∀ c ∈ s.cs, c.Ok s.page s.used
  ln : s.cs.length ≤ 20

def clsOf : List Cl → Nat → Option Nat
  | [], _ => none
  | c :: l, n => if n ≤ c.size then some 0 else (clsOf l n).map (· + 1)
theorem clsOf_lt : ∀ {l : List Cl} {n i : Nat}, clsOf l n = some i → i < l.length
  | [], _, _, h => by cases h
  | c :: l, n, i, h => by
      rw [clsOf] at h
      split at h
      · cases h; exact Nat.succ_pos _
      · cases h2 : clsOf l n with
        | none => rw [h2] at h; cases h
        | some j => rw [h2] at h; cases h; exact Nat.succ_lt_succ (clsOf_lt h2)
theorem clsOf_drop {l : List Cl} {n : Nat} : ∀ {i : Nat}, (∀ c ∈ l.take i, ¬ n ≤ c.size) → clsOf l n = (clsOf (l.drop i) n).map (· + i) := by
  induction l with
  | nil => intro i _; rw [List.drop_nil]; rfl
  | cons c l ih =>
    intro i h
    cases i with
    | zero => rw [List.drop_zero]; cases clsOf (c :: l) n <;> rfl
    | succ i =>
      have h1 : ¬ n ≤ c.size := h c (by rw [List.take_succ_cons]; exact List.mem_cons_self ..)
      rw [clsOf, if_neg h1, ih (i := i) (fun d hd => h d (by rw [List.take_succ_cons]; exact List.mem_cons_of_mem _ hd)), List.drop_succ_cons]
      cases clsOf (l.drop i) n with
      | none => rfl
      | some j => show some (j + i + 1) = some (j + (i + 1)); rw [Nat.add_assoc]

def chunks (count n : Nat) : List Nat := (List.range n).reverse.map (count + ·)
def chunksTo (count n m : Nat) : List Nat := (chunks count n).take (n - m)
theorem chunks_len (count n : Nat) : (chunks count n).length = n := by simp [chunks]
theorem chunks_at {count n i : Nat} (h : i < n) : (chunks count n)[i]? = some (count + (n - 1 - i)) := by
  rw [chunks, List.getElem?_map, List.getElem?_reverse (by rw [List.length_range]; exact h), List.length_range, List.getElem?_range (by omega)]
  rfl
theorem chunks_mem {count n k : Nat} : k ∈ chunks count n ↔ count ≤ k ∧ k < count + n := by
  simp only [chunks, List.mem_map, List.mem_reverse, List.mem_range]
  constructor
  · rintro ⟨a, h, rfl⟩; omega
  · intro h; exact ⟨k - count, by omega, by omega⟩
theorem chunks_nd (count n : Nat) : (chunks count n).Nodup := by
  unfold chunks
  rw [List.Nodup, List.pairwise_map, List.pairwise_reverse]
  exact List.Pairwise.imp (fun h => by omega) List.nodup_range

def Cl.grow (c : Cl) (page : Nat) : Cl := { c with free := c.free ++ chunks c.count (page / c.size), count := c.count + page / c.size }
def Cl.take (c : Cl) (d : List UInt8) : Cl := { c with free := c.free.dropLast, live := c.live ++ [(c.free.getLastD 0, d)] }
def Cl.give (c : Cl) (k : Nat) : Cl := { c with free := c.free ++ [k], live := c.live.filter fun x => x.1 != k }

theorem div_le {page size : Nat} (h : page ≤ 65536) (h2 : 64 ≤ size) : page / size ≤ 1024 := by
  have : page / size ≤ page / 64 := Nat.div_le_div_left h2 (by decide)
  omega
theorem div_pos' {page size : Nat} (h : size ≤ page) (h2 : 64 ≤ size) : 0 < page / size := Nat.div_pos h (by omega)

theorem Cl.Ok.mono {c : Cl} {page used used' : Nat} (h : c.Ok page used) (hu : used ≤ used') : c.Ok page used' := ⟨h.nd, h.lt, h.ln, Nat.le_trans h.ct (Nat.mul_le_mul_left _ hu), h.lo, h.hi⟩
theorem Cl.Ok.grow {c : Cl} {page used : Nat} (h : c.Ok page used) (hp : page ≤ 65536) : (c.grow page).Ok page (used + 1) := by
  have hd := div_le hp h.lo
  have hc := h.ct
  have hl := h.ln
  rw [List.length_append] at hl
  refine ⟨?_, fun k hk => ?_, by show ((c.free ++ chunks c.count (page / c.size)) ++ c.live.map (·.1)).length ≤ c.count + page / c.size; rw [List.length_append, List.length_append, chunks_len]; omega, by show c.count + page / c.size ≤ _; omega, h.lo, h.hi⟩
  · show ((c.free ++ chunks c.count (page / c.size)) ++ c.live.map (·.1)).Nodup
    have hp : ((c.free ++ c.live.map (·.1)) ++ chunks c.count (page / c.size)).Perm ((c.free ++ chunks c.count (page / c.size)) ++ c.live.map (·.1)) := by
      rw [List.append_assoc, List.append_assoc]
      exact List.Perm.append_left _ List.perm_append_comm
    refine hp.nodup_iff.1 (List.nodup_append.2 ⟨h.nd, chunks_nd _ _, fun a ha b hb => ?_⟩)
    have := h.lt a ha
    have := (chunks_mem.1 hb).1
    omega
  · show k < c.count + page / c.size
    have hk : k ∈ (c.free ++ chunks c.count (page / c.size)) ++ c.live.map (·.1) := hk
    rcases List.mem_append.1 hk with hk | hk
    · rcases List.mem_append.1 hk with hk | hk
      · exact Nat.lt_of_lt_of_le (h.lt k (List.mem_append_left _ hk)) (Nat.le_add_right _ _)
      · exact (chunks_mem.1 hk).2
    · exact Nat.lt_of_lt_of_le (h.lt k (List.mem_append_right _ hk)) (Nat.le_add_right _ _)
theorem last_split {α : Type} (d : α) : ∀ {l : List α}, l ≠ [] → l = l.dropLast ++ [l.getLastD d]
  | [], h => absurd rfl h
  | [a], _ => rfl
  | a :: b :: l, _ => by
      have ih := last_split d (l := b :: l) (by simp)
      rw [List.getLastD_cons] at ih
      rw [List.getLastD_cons, List.getLastD_cons]
      show a :: (b :: l) = a :: ((b :: l).dropLast ++ _)
      rw [← ih]
theorem Cl.Ok.take {c : Cl} {page used : Nat} (h : c.Ok page used) (hf : c.free ≠ []) (d : List UInt8) : (c.take d).Ok page used ∧ (∀ x ∈ c.live, x.1 ≠ c.free.getLastD 0) ∧ c.free.getLastD 0 < c.count := by
  have e := last_split 0 hf
  have hm : c.free.getLastD 0 ∈ c.free := by rw [e]; simp
  have hp : (c.free ++ c.live.map (·.1)).Perm ((c.take d).free ++ (c.take d).live.map (·.1)) := by
    show (c.free ++ c.live.map (·.1)).Perm (c.free.dropLast ++ (c.live ++ [(c.free.getLastD 0, d)]).map (·.1))
    rw [List.map_append]
    conv => lhs; rw [e]
    rw [List.append_assoc]
    exact List.Perm.append_left _ List.perm_append_comm
  refine ⟨⟨hp.nodup_iff.1 h.nd, fun k hk => h.lt k (hp.mem_iff.2 hk), Nat.le_trans (Nat.le_of_eq hp.length_eq.symm) h.ln, h.ct, h.lo, h.hi⟩, fun x hx hq => ?_, h.lt _ (List.mem_append_left _ hm)⟩
  exact (List.nodup_append.1 h.nd).2.2 _ hm _ (List.mem_map_of_mem hx) hq.symm
theorem filter_keys {L : List (Nat × List UInt8)} {k : Nat} {d : List UInt8} (hn : (L.map (·.1)).Nodup) (hm : (k, d) ∈ L) : (L.map (·.1)).Perm (k :: (L.filter fun x => x.1 != k).map (·.1)) := by
  induction L with
  | nil => cases hm
  | cons x L ih =>
    rw [List.map_cons, List.nodup_cons] at hn
    by_cases hx : x.1 = k
    · have hall : L.filter (fun x => x.1 != k) = L := by
        rw [List.filter_eq_self]
        intro y hy
        simp only [bne_iff_ne, ne_eq]
        intro hyk
        exact hn.1 (by rw [hx, ← hyk]; exact List.mem_map_of_mem hy)
      rw [List.filter_cons_of_neg (by simp [hx]), hall, List.map_cons, hx]
    · have hm' : (k, d) ∈ L := by
        rcases List.mem_cons.1 hm with h | h
        · exact absurd (by rw [← h]) hx
        · exact h
      rw [List.filter_cons_of_pos (by simp [hx]), List.map_cons, List.map_cons]
      exact ((ih hn.2 hm').cons _).trans (List.Perm.swap ..)
theorem Cl.Ok.give {c : Cl} {page used : Nat} (h : c.Ok page used) {k : Nat} {d : List UInt8} (hm : (k, d) ∈ c.live) : (c.give k).Ok page used := by
  have hp := filter_keys (List.nodup_append.1 h.nd).2.1 hm
  have hq : (c.free ++ c.live.map (·.1)).Perm ((c.give k).free ++ (c.give k).live.map (·.1)) := by
    show (c.free ++ c.live.map (·.1)).Perm ((c.free ++ [k]) ++ (c.live.filter fun x => x.1 != k).map (·.1))
    rw [List.append_assoc]
    exact List.Perm.append_left _ hp
  exact ⟨hq.nodup_iff.1 h.nd, fun x hx => h.lt x (hq.mem_iff.2 hx), Nat.le_trans (Nat.le_of_eq hq.length_eq.symm) h.ln, h.ct, h.lo, h.hi⟩

def Sb.cl (s : Sb) (i : Nat) : Cl := s.cs.getD i noCl
def Sb.alloc (s : Sb) (i : Nat) (d : List UInt8) : Sb × Nat :=
  if (s.cl i).free = [] then ({ s with left := s.left - 1, used := s.used + 1, cs := s.cs.set i (((s.cl i).grow s.page).take d) }, ((s.cl i).grow s.page).free.getLastD 0)
  else ({ s with cs := s.cs.set i ((s.cl i).take d) }, (s.cl i).free.getLastD 0)
def Sb.full (s : Sb) (i : Nat) : Prop := (s.cl i).free = [] ∧ s.left = 0
def Sb.give (s : Sb) (i k : Nat) : Sb := { s with cs := s.cs.set i ((s.cl i).give k) }
def Sb.has (s : Sb) (i k : Nat) (d : List UInt8) : Prop := i < s.cs.length ∧ (k, d) ∈ (s.cl i).live

theorem Sb.cl_mem {s : Sb} {i : Nat} (h : i < s.cs.length) : s.cl i ∈ s.cs := by
  unfold Sb.cl
  rw [List.getD_eq_getElem?_getD, List.getElem?_eq_getElem h]
  exact List.getElem_mem h
theorem mem_set {α : Type} {l : List α} {i : Nat} {x y : α} (h : y ∈ l.set i x) : y = x ∨ y ∈ l := by
  rcases List.mem_or_eq_of_mem_set h with h | h
  · exact .inr h
  · exact .inl h
theorem Sb.Ok.fl {s : Sb} (h : s.Ok) {i : Nat} (hi : i < s.cs.length) : (s.cl i).free.length ≤ 65536 ∧ (s.cl i).live.length ≤ 65536 := by
  have hc := h.cl _ (Sb.cl_mem hi)
  have a := hc.ln
  have b := hc.ct
  have d := h.us
  rw [List.length_append, List.length_map] at a
  omega
theorem Sb.Ok.alloc {s : Sb} (h : s.Ok) {i : Nat} (hi : i < s.cs.length) (hf : ¬ s.full i) (d : List UInt8) : (s.alloc i d).1.Ok := by
  have hc := h.cl _ (Sb.cl_mem hi)
  unfold Sb.alloc
  split
  · rename_i he
    have hl : 0 < s.left := Nat.pos_of_ne_zero fun hz => hf ⟨he, hz⟩
    have hg := hc.grow h.pg
    have hne : ((s.cl i).grow s.page).free ≠ [] := by
      show (s.cl i).free ++ chunks _ _ ≠ []
      intro e
      have := congrArg List.length e
      rw [List.length_append, chunks_len, List.length_nil] at this
      have := div_pos' hc.hi hc.lo
      omega
    refine ⟨h.pg, by have := h.us; show s.left - 1 + (s.used + 1) ≤ 64; omega, fun c hcm => ?_, by show (s.cs.set i _).length ≤ 20; rw [List.length_set]; exact h.ln⟩
    rcases mem_set hcm with rfl | hcm
    · exact (hg.take hne d).1
    · exact (h.cl c hcm).mono (Nat.le_succ _)
  · rename_i he
    refine ⟨h.pg, h.us, fun c hcm => ?_, by show (s.cs.set i _).length ≤ 20; rw [List.length_set]; exact h.ln⟩
    rcases mem_set hcm with rfl | hcm
    · exact (hc.take he d).1
    · exact h.cl c hcm
theorem Sb.Ok.give {s : Sb} (h : s.Ok) {i k : Nat} {d : List UInt8} (hm : s.has i k d) : (s.give i k).Ok := by
  have hc := h.cl _ (Sb.cl_mem hm.1)
  refine ⟨h.pg, h.us, fun c hcm => ?_, by show (s.cs.set i _).length ≤ 20; rw [List.length_set]; exact h.ln⟩
  rcases mem_set hcm with rfl | hcm
  · exact hc.give hm.2
  · exact h.cl c hcm
end Go.Proofs.Ytihoblfmhighpaa
namespace Go.Proofs.Ytihoblfmhighpaa
open Go.Dp
set_option linter.unusedSimpArgs false
set_option linter.unusedVariables false
set_option maxHeartbeats 400000
set_option maxRecDepth 8000

structure CR where
  size : Nat
  vf : AV
  vm : AV
  count : Nat
def CR.cells (r : CR) : List AV := [.int .i64 (.ofNat r.size), r.vf, r.vm, .int .i64 (.ofNat r.count)]
def noCR : CR := ⟨0, .nils, .nilm, 0⟩
def MpN (es : List (AV × AV × Nat)) (L : List (Nat × List UInt8)) : Prop := es.map (fun e => (e.1, e.2.1)) = L.map fun x => (AV.int .i64 (.ofNat x.1), AV.str x.2)
def nats (l : List Nat) : List AV := l.map fun n => .int .i64 (.ofNat n)
def ClH (σ : Nat) (T : Tags) (H : Heap) (i : Nat) (r : CR) (c : Cl) : Prop :=
  r.size = c.size ∧ r.count = c.count ∧ RT T H (σ, 2, i) 0 1 r.vf (nats c.free) ∧ ∃ b es cl, r.vm = .map b ∧ At T H (σ, 3, i) b (.mp es cl) ∧ MpN es c.live
def SbC (σ : Nat) (T : Tags) (H : Heap) (p : Nat) (s : Sb) (c : Nat) : Prop :=
  At T H (σ, 0, 0) p (.cells [.int .i64 (.ofNat s.page), .int .i64 (.ofNat s.left), .int .i64 (.ofNat s.used), .sl c 0 s.cs.length 4] 1) ∧
  ∃ rows : List CR, rows.length = s.cs.length ∧ RT T H (σ, 1, 0) 0 4 (.sl c 0 s.cs.length 4) (rows.flatMap CR.cells) ∧ ∀ i, i < s.cs.length → ClH σ T H i (rows.getD i noCR) (s.cl i)
theorem ClH.step {σ : Nat} {O : Tg → Prop} {T T' : Tags} {H H' : Heap} {i : Nat} {r : CR} {c : Cl} (h : ClH σ T H i r c) (s : Stp O T H T' H') (h2 : ¬ O (σ, 2, i)) (h3 : ¬ O (σ, 3, i)) : ClH σ T' H' i r c := by
  obtain ⟨a, b, d, m, es, cl, e, f, g⟩ := h
  exact ⟨a, b, d.step s h2, m, es, cl, e, f.step s h3, g⟩
theorem SbC.step {σ : Nat} {O : Tg → Prop} {T T' : Tags} {H H' : Heap} {p : Nat} {s : Sb} {c : Nat} (h : SbC σ T H p s c) (st : Stp O T H T' H') (ho : ∀ t : Tg, t.1 = σ → ¬ O t) : SbC σ T' H' p s c := by
  obtain ⟨a, rows, b, d, e⟩ := h
  exact ⟨a.step st (ho _ rfl), rows, b, d.step st (ho _ rfl), fun i hi => (e i hi).step st (ho _ rfl) (ho _ rfl)⟩
structure Fo (σ : Nat) (T : Tags) (H : Heap) (p : Nat) (s : Sb) (c i : Nat) (rows : List CR) (cl : List AV) : Prop where
  head : At T H (σ, 0, 0) p (.cells [.int .i64 (.ofNat s.page), .int .i64 (.ofNat s.left), .int .i64 (.ofNat s.used), .sl c 0 s.cs.length 4] 1)
  row : At T H (σ, 1, 0) c (.cells cl 1)
  ln : rows.length = s.cs.length
  all : ∀ i, i < s.cs.length → ClH σ T H i (rows.getD i noCR) (s.cl i)
  le : rows.length * 4 ≤ cl.length
  tk : cl.take (rows.length * 4) = rows.flatMap CR.cells
  hi : i < rows.length
  b4 : i * 4 + 4 ≤ cl.length
  d4 : (cl.drop (i * 4)).take 4 = (rows.getD i noCR).cells
  d0 : (cl.drop (i * 4)).take 1 = [.int .i64 (.ofNat (s.cl i).size)]
  d1 : (cl.drop (i * 4 + 1)).take 1 = [(rows.getD i noCR).vf]
  d2 : (cl.drop (i * 4 + 2)).take 1 = [(rows.getD i noCR).vm]
  d3 : (cl.drop (i * 4 + 3)).take 1 = [.int .i64 (.ofNat (s.cl i).count)]
theorem SbC.fo {σ : Nat} {T : Tags} {H : Heap} {p : Nat} {s : Sb} {c : Nat} (h : SbC σ T H p s c) {i : Nat} (hi : i < s.cs.length) : ∃ rows cl, Fo σ T H p s c i rows cl := by
  obtain ⟨a, rows, b, d, e⟩ := h
  obtain ⟨c', cl, e1, e2, e3, e4, e5, e6⟩ := RT.rowG (g := CR.cells) (fun _ => rfl) noCR d (by omega) (by decide)
  injection e1 with e1
  subst e1
  obtain ⟨f1, rest, f2⟩ := e6 i (by omega)
  obtain ⟨g1, g2, _⟩ := e i hi
  refine ⟨rows, cl, a, ⟨e2, e3⟩, b, e, e4, e5, by omega, f1, ?_, ?_, ?_, ?_, ?_⟩
  · rw [f2]; exact List.take_left' rfl
  · rw [f2, ← g1]; rfl
  · rw [← List.drop_drop, f2]; rfl
  · rw [← List.drop_drop, f2]; rfl
  · rw [← List.drop_drop, f2, ← g2]; rfl

theorem Fo.re {σ : Nat} {T : Tags} {H : Heap} {p : Nat} {s : Sb} {c i : Nat} {rows : List CR} {cl : List AV} (h : Fo σ T H p s c i rows cl) {O : Tg → Prop} {T' : Tags} {H' : Heap} (st : Stp O T H T' H') (ho : ∀ j, j ≠ i → ¬ O (σ, 2, j) ∧ ¬ O (σ, 3, j))
    {left used : Nat} (ha : At T' H' (σ, 0, 0) p (.cells [.int .i64 (.ofNat s.page), .int .i64 (.ofNat left), .int .i64 (.ofNat used), .sl c 0 s.cs.length 4] 1)) {r : CR} {k : Cl}
    (hr : RT T' H' (σ, 1, 0) 0 4 (.sl c 0 s.cs.length 4) ((rows.set i r).flatMap CR.cells)) (hk : ClH σ T' H' i r k) : SbC σ T' H' p ⟨s.page, left, used, s.cs.set i k⟩ c := by
  have hln : (s.cs.set i k).length = s.cs.length := List.length_set
  refine ⟨by show At T' H' _ p (.cells [_, _, _, .sl c 0 (s.cs.set i k).length 4] 1); rw [hln]; exact ha, rows.set i r, by show _ = (s.cs.set i k).length; rw [List.length_set, hln]; exact h.ln, by show RT T' H' _ 0 4 (.sl c 0 (s.cs.set i k).length 4) _; rw [hln]; exact hr, fun j hj => ?_⟩
  have hj : j < (s.cs.set i k).length := hj
  rw [hln] at hj
  show ClH σ T' H' j _ ((s.cs.set i k).getD j noCl)
  have hi := h.hi
  rw [h.ln] at hi
  by_cases e : i = j
  · subst e
    rw [List.getD_eq_getElem?_getD, List.getD_eq_getElem?_getD, List.getElem?_set_self h.hi, List.getElem?_set_self hi]
    exact hk
  · rw [List.getD_eq_getElem?_getD, List.getD_eq_getElem?_getD, List.getElem?_set_ne e, List.getElem?_set_ne e, ← List.getD_eq_getElem?_getD, ← List.getD_eq_getElem?_getD]
    exact (h.all j hj).step st (ho j (fun q => e q.symm)).1 (ho j (fun q => e q.symm)).2
theorem Fo.put {σ : Nat} {T : Tags} {H : Heap} {p : Nat} {s : Sb} {c i : Nat} {rows : List CR} {cl : List AV} (h : Fo σ T H p s c i rows cl) {T' : Tags} {H' : Heap} (hO : H'.Ok) (hc : At T' H' (σ, 1, 0) c (.cells cl 1)) {j : Nat} (hj : j < 4) (v : AV) {r : CR} (hr : r.cells = over (rows.getD i noCR).cells j [v]) :
    RT T' (H'.put c (.cells (over cl (i * 4 + j) [v]) 1)) (σ, 1, 0) 0 4 (.sl c 0 s.cs.length 4) ((rows.set i r).flatMap CR.cells) ∧ Stp (fun u => u = (σ, 1, 0)) T' H' T' (H'.put c (.cells (over cl (i * 4 + j) [v]) 1)) ∧ i * 4 + j + 1 ≤ cl.length := by
  have := RT.setG (g := CR.cells) (fun _ => rfl) noCR hO hc.1 hc.2 h.le h.tk h.hi (j := j) (ys := [v]) (by show j + 1 ≤ 4; omega) hr
  rw [h.ln] at this
  exact this

theorem mp_no {k : Nat} : ∀ {L : List (Nat × List UInt8)} {es : List (AV × AV × Nat)}, MpN es L → (∀ x ∈ L, x.1 ≠ k) → ∀ i, findE false (.int .i64 (.ofNat k)) es i = some none
  | [], [], _, _, _ => rfl
  | [], _ :: _, h, _, _ => by cases h
  | _ :: _, [], h, _, _ => by cases h
  | x :: L, (k', v, b) :: es, h, hn, i => by
      have h : (k', v) :: es.map (fun e => (e.1, e.2.1)) = (AV.int .i64 (.ofNat x.1), AV.str x.2) :: L.map fun x => (AV.int .i64 (.ofNat x.1), AV.str x.2) := h
      injection h with h1 h2
      injection h1 with h1 h3
      subst h1 h3
      have hne : ibeq (.ofNat k) (.ofNat x.1) = false := by
        rw [ibeq_eq]
        exact decide_eq_false fun e => hn x (List.mem_cons_self ..) (Int.ofNat.inj e).symm
      show (match (bif (!false && kbeq .i64 .i64) then some (ibeq (.ofNat k) (.ofNat x.1)) else none) with
        | some true => _
        | some false => findE false _ es (i + 1)
        | none => _) = _
      rw [hne]
      exact mp_no h2 (fun y hy => hn y (List.mem_cons_of_mem _ hy)) (i + 1)
theorem mp_yes {k : Nat} {d : List UInt8} : ∀ {L : List (Nat × List UInt8)} {es : List (AV × AV × Nat)}, MpN es L → (L.map (·.1)).Nodup → (k, d) ∈ L → ∀ i, ∃ j b, findE false (.int .i64 (.ofNat k)) es i = some (some (i + j, .str d, b)) ∧ MpN (es.eraseIdx j) (L.filter fun x => x.1 != k)
  | [], _, _, _, h, _ => by cases h
  | _ :: _, [], h, _, _, _ => by cases h
  | x :: L, (k', v, b) :: es, h, hn, hm, i => by
      have h : (k', v) :: es.map (fun e => (e.1, e.2.1)) = (AV.int .i64 (.ofNat x.1), AV.str x.2) :: L.map fun x => (AV.int .i64 (.ofNat x.1), AV.str x.2) := h
      injection h with h1 h2
      injection h1 with h1 h3
      subst h1 h3
      rw [List.map_cons, List.nodup_cons] at hn
      by_cases hx : x.1 = k
      · have hne : ibeq (.ofNat k) (.ofNat x.1) = true := by
          rw [ibeq_eq]; exact decide_eq_true (by rw [hx])
        have hd : x = (k, d) := by
          rcases List.mem_cons.1 hm with e | e
          · exact e.symm
          · exact absurd (by rw [hx]; exact List.mem_map_of_mem e) hn.1
        have hall : L.filter (fun x => x.1 != k) = L := by
          rw [List.filter_eq_self]
          intro y hy
          simp only [bne_iff_ne, ne_eq]
          intro hyk
          exact hn.1 (by rw [hx, ← hyk]; exact List.mem_map_of_mem hy)
        refine ⟨0, b, ?_, ?_⟩
        · show (match (bif (!false && kbeq .i64 .i64) then some (ibeq (.ofNat k) (.ofNat x.1)) else none) with
            | some true => some (some (i, AV.str x.2, b))
            | some false => _
            | none => _) = _
          rw [hne, hd]; rfl
        · rw [List.filter_cons_of_neg (by simp [hx]), hall]
          exact h2
      · have hne : ibeq (.ofNat k) (.ofNat x.1) = false := by
          rw [ibeq_eq]; exact decide_eq_false fun e => hx (Int.ofNat.inj e).symm
        have hm' : (k, d) ∈ L := by
          rcases List.mem_cons.1 hm with e | e
          · exact absurd (by rw [← e]) hx
          · exact e
        obtain ⟨j, b', e1, e2⟩ := mp_yes h2 hn.2 hm' (i + 1)
        refine ⟨j + 1, b', ?_, ?_⟩
        · show (match (bif (!false && kbeq .i64 .i64) then some (ibeq (.ofNat k) (.ofNat x.1)) else none) with
            | some true => _
            | some false => findE false _ es (i + 1)
            | none => _) = _
          rw [hne]
          show findE false _ es (i + 1) = _
          rw [e1, Nat.add_assoc, Nat.add_comm 1 j]
        · rw [List.filter_cons_of_pos (by simp [hx])]
          show (AV.int .i64 (.ofNat x.1), AV.str x.2) :: (es.eraseIdx j).map (fun e => (e.1, e.2.1)) = _ :: _
          rw [e2]
theorem mp_add {es : List (AV × AV × Nat)} {L : List (Nat × List UInt8)} (h : MpN es L) (k : Nat) (d : List UInt8) (b : Nat) : MpN (es ++ [(.int .i64 (.ofNat k), .str d, b)]) (L ++ [(k, d)]) := by
  unfold MpN at h ⊢
  rw [List.map_append, List.map_append, h]
  rfl
end Go.Proofs.Ytihoblfmhighpaa
namespace Go.Proofs.Ytihoblfmhighpaa
open Go.Dp
set_option linter.unusedSimpArgs false
set_option linter.unusedVariables false
set_option maxHeartbeats 400000
set_option maxRecDepth 8000
attribute [local irreducible] Ex.thnK Ex.inK Ret

theorem ClH.sc {σ : Nat} {T : Tags} {H : Heap} {i : Nat} {r : CR} {c : Cl} (h : ClH σ T H i r c) : r.vf.isSc = true ∧ r.vm.isSc = true ∧ r.vf.cells = [r.vf] ∧ r.vm.cells = [r.vm] := by
  obtain ⟨_, _, hr, b, es, cl, e, _⟩ := h
  exact ⟨hr.sc.2, by rw [e]; rfl, hr.sc.1, by rw [e]; rfl⟩

theorem Class_ev (σ : Nat) (T : Tags) (H : Heap) (p : Nat) (s : Sb) (c : Nat) (h : SbC σ T H p s c) (hl : s.cs.length ≤ 20) (n : Nat) (Q : AV → Heap → Prop)
    (hno : clsOf s.cs n = none → ∀ H', H'.Ok → HLe H H' → Q (.int .i64 (.negSucc 0)) H')
    (hyes : ∀ i, clsOf s.cs n = some i → ∀ H', H'.Ok → HLe H H' → Q (.int .i64 (.ofNat i)) H') : Eo lib n_slab_Slab_Class [.ptr p 0, .int .i64 (.ofNat n)] H Q := by
  refine Eo.ok fun hOk => ?_
  refine Eo.code at_slab_Slab_Class rfl ?_
  have hg := h.1.1
  iterate 2 repeat (first | ((first | apply Xk.sAny | apply Xk.tAny); (case hok => rfl); (case h => intro C hC; simp (disch := omega) only [w1, ↓reduceIte, Nat.reduceEqDiff, Nat.reduceLeDiff, Nat.reduceAdd, Nat.reduceSub, hg, Nat.not_lt_zero]; with_reducible exact hC); refine gc ?_) | refine gm ?_)
  refine Xk.iter [1, 12, 13, 14] (fun m k H' => ∃ i, m = s.cs.length - i ∧ i ≤ s.cs.length ∧ k = [(1, .int .i64 (.ofNat n)), (12, .sl c 0 s.cs.length 4), (13, .int .i64 (.ofNat s.cs.length)), (14, .int .i64 (.ofNat i))] ∧ (∀ x ∈ s.cs.take i, ¬ n ≤ x.size) ∧ H'.Ok ∧ HLe H H') rfl
    ⟨_, 0, rfl, Nat.zero_le _, rfl, (fun x hx => by cases hx), hOk, HLe.refl _⟩ ?_
  rintro m k H' ⟨i, rfl, hi, rfl, hne, hO', hle'⟩
  unfold l0_slab_Slab_Class
  by_cases d : i < s.cs.length
  · obtain ⟨rows, cl, F⟩ := h.fo d
    obtain ⟨v1, v2, v3, v4⟩ := (F.all i d).sc
    have d4 := F.d4
    have hsz := (F.all i d).1
    generalize rows.getD i noCR = r at d4 v1 v2 v3 v4 hsz
    obtain ⟨rs, rf, rm, rc⟩ := r
    have v1 : rf.isSc = true := v1
    have v2 : rm.isSc = true := v2
    have d4 : (cl.drop (i * 4)).take 4 = [.int .i64 (.ofNat rs), rf, rm, .int .i64 (.ofNat rc)] := d4
    have hsz : rs = (s.cl i).size := hsz
    have hgc := hle' _ _ F.row.1
    have b4 := F.b4
    have hO2 := hO'.new (.cells [.int .i64 (.ofNat rs), rf, rm, .int .i64 (.ofNat rc)] 1)
    have hl2 := hle'.new_ hO' (.cells [.int .i64 (.ofNat rs), rf, rm, .int .i64 (.ofNat rc)] 1)
    have hdr : s.cs.drop i = s.cl i :: s.cs.drop (i + 1) := by
      unfold Sb.cl
      rw [List.drop_eq_getElem_cons d, List.getD_eq_getElem?_getD, List.getElem?_eq_getElem d]
      rfl
    by_cases e : n ≤ rs
    · have e' := eq_true e
      iterate 3 repeat (first | ((first | apply Xk.sAny | apply Xk.tAny); (case hok => rfl); (case h => intro C hC; simp (disch := omega) only [w1, ↓reduceIte, Nat.reduceEqDiff, Nat.reduceLeDiff, Nat.reduceAdd, Nat.reduceSub, d, hgc, b4, d4, v1, v2, e']; with_reducible exact hC); refine gc ?_) | refine gm ?_)
      refine hyes i ?_ _ hO2 hl2
      rw [clsOf_drop hne, hdr, clsOf, if_pos (by rw [← hsz]; exact e)]
      show some (0 + i) = some i
      rw [Nat.zero_add]
    · have e' := eq_false e
      iterate 3 repeat (first | ((first | apply Xk.sAny | apply Xk.tAny); (case hok => rfl); (case h => intro C hC; simp (disch := omega) only [w1, ↓reduceIte, Nat.reduceEqDiff, Nat.reduceLeDiff, Nat.reduceAdd, Nat.reduceSub, d, hgc, b4, d4, v1, v2, e']; with_reducible exact hC); refine gc ?_) | refine gm ?_)
      refine ⟨rfl, _, by omega, i + 1, rfl, by omega, rfl, fun x hx => ?_, hO2, hl2⟩
      rw [List.take_add_one] at hx
      rcases List.mem_append.1 hx with hx | hx
      · exact hne x hx
      · rw [List.getElem?_eq_getElem d] at hx
        have : x = s.cl i := by
          have hx : x ∈ [s.cs[i]] := hx
          rw [List.mem_singleton] at hx
          rw [hx]
          unfold Sb.cl
          rw [List.getD_eq_getElem?_getD, List.getElem?_eq_getElem d]
          rfl
        rw [this, ← hsz]
        exact e
  · repeat (first | ((first | apply Xk.sAny | apply Xk.tAny); (case hok => rfl); (case h => intro C hC; simp (disch := omega) only [w1, ↓reduceIte, Nat.reduceEqDiff, Nat.reduceLeDiff, Nat.reduceAdd, Nat.reduceSub, d]; with_reducible exact hC); refine gc ?_) | refine gm ?_)
    obtain rfl : i = s.cs.length := by omega
    repeat (first | ((first | apply Xk.sAny | apply Xk.tAny); (case hok => rfl); (case h => intro C hC; simp (disch := omega) only [w1, ↓reduceIte, Nat.reduceEqDiff, Nat.reduceLeDiff, Nat.reduceAdd, Nat.reduceSub, d]; with_reducible exact hC); refine gc ?_) | refine gm ?_)
    refine hno ?_ _ hO' hle'
    rw [clsOf_drop hne, List.drop_length]
    rfl

theorem Read_ev2 (σ : Nat) (T : Tags) (H : Heap) (p : Nat) (s : Sb) (c : Nat) (h : SbC σ T H p s c) (hs : s.Ok) (i k : Nat) (d : List UInt8) (hh : s.has i k d) (Q : AV → Heap → Prop)
    (hQ : ∀ H', H'.Ok → HLe H H' → Q (.tup [.str d, .bool true]) H') : Eo lib n_slab_Slab_Read [.ptr p 0, .agg [.int .i64 (.ofNat i), .int .i64 (.ofNat k)]] H Q := by
  refine Eo.ok fun hOk => ?_
  refine Eo.code at_slab_Slab_Read rfl ?_
  have hi := hh.1
  obtain ⟨rows, cl, F⟩ := h.fo hi
  have hln := hs.ln
  obtain ⟨_, _, _, b, es, mc, hm, ham, hmp⟩ := F.all i hi
  have hnd := (List.nodup_append.1 (hs.cl _ (Sb.cl_mem hi)).nd).2.1
  obtain ⟨j, born, hf, _⟩ := mp_yes hmp hnd hh.2 0
  rw [Nat.zero_add] at hf
  have d2 := F.d2
  rw [hm] at d2
  have hbx : nBox [.int .i64 (.ofNat i), .int .i64 (.ofNat k)] = some (.cells [.int .i64 (.ofNat i), .int .i64 (.ofNat k)] 1, ptrTo) := rfl
  have hle := HLe.new (hOk _ (Nat.le_refl _)) (.cells [.int .i64 (.ofNat i), .int .i64 (.ofNat k)] 1)
  have hO2 := hOk.new (.cells [.int .i64 (.ofNat i), .int .i64 (.ofNat k)] 1)
  have hg := hle _ _ h.1.1
  have hgc := hle _ _ F.row.1
  have hgm := hle _ _ ham.1
  have hlk : ∀ H2 : Heap, H2.get b = some (.mp es mc) → rLook H2 false (.str []) true (.map b) (.int .i64 (.ofNat k)) = some (.tup [.str d, .bool true]) := by
    intro H2 h2
    simp only [rLook, entries, h2, hf]
    rfl
  have hlk2 := hlk _ hgm
  have b4 := F.b4
  have b2 : i * 4 + 2 + 1 ≤ cl.length := by omega
  have hnl := fun e => Nat.not_le.2 hi e
  have hpb : (H.new (.cells [.int .i64 (.ofNat i), .int .i64 (.ofNat k)] 1)).get H.next = some (.cells [.int .i64 (.ofNat i), .int .i64 (.ofNat k)] 1) := Heap.get_new_self _ _
  generalize hH2 : H.new (.cells [.int .i64 (.ofNat i), .int .i64 (.ofNat k)] 1) = H2 at hle hO2 hg hgc hgm hlk2 hpb
  have hil : ¬ s.cs.length ≤ i := Nat.not_le.2 hi
  repeat (first | ((first | apply Xk.sAny | apply Xk.tAny); (case hok => rfl); (case h => intro C hC; simp (disch := omega) only [w1, ↓reduceIte, Nat.reduceEqDiff, Nat.reduceLeDiff, Nat.reduceAdd, Nat.reduceSub, hbx, hH2, hpb, hg, hil, Nat.not_lt_zero]; with_reducible exact hC); refine gc ?_) | refine gm ?_)
  iterate 2 repeat (first | ((first | apply Xk.sAny | apply Xk.tAny); (case hok => rfl); (case h => intro C hC; simp (disch := omega) only [w1, ↓reduceIte, Nat.reduceEqDiff, Nat.reduceLeDiff, Nat.reduceAdd, Nat.reduceSub, hbx, hH2, hpb, hg, hgc, hi, hil, d2, b2, hlk2]; with_reducible exact hC); refine gc ?_) | refine gm ?_)
  exact hQ _ hO2 hle

end Go.Proofs.Ytihoblfmhighpaa
