/- The store of items, plainly: an item goes, is touched, comes. Conditions: none. -/
import Derived.Test.YtihoblfmhighpaaSbN
namespace Go.Proofs.Ytihoblfmhighpaa
open Go.Dp
set_option linter.unusedSimpArgs false
set_option linter.unusedVariables false

def Chn (nx pv : Nat → Nat) : Nat → List Nat → Prop
  | a, [] => nx a = 0 ∧ pv 0 = a
  | a, b :: l => nx a = b ∧ pv b = a ∧ Chn nx pv b l
def upd (f : Nat → Nat) (i x : Nat) : Nat → Nat := fun a => if a = i then x else f a

theorem Chn.congr {nx pv nx' pv' : Nat → Nat} : ∀ {l : List Nat} {a : Nat}, Chn nx pv a l → (∀ x ∈ a :: l, nx' x = nx x) → (∀ x ∈ l, pv' x = pv x) → pv' 0 = pv 0 → Chn nx' pv' a l
  | [], a, h, h1, h2, h0 => ⟨(h1 a (List.mem_cons_self ..)).trans h.1, h0.trans h.2⟩
  | b :: l, a, h, h1, h2, h0 => ⟨(h1 a (List.mem_cons_self ..)).trans h.1, (h2 b (List.mem_cons_self ..)).trans h.2.1, h.2.2.congr (fun x hx => h1 x (List.mem_cons_of_mem _ hx)) (fun x hx => h2 x (List.mem_cons_of_mem _ hx)) h0⟩
theorem Chn.at_ {nx pv : Nat → Nat} {i : Nat} {post : List Nat} : ∀ {pre : List Nat} {a : Nat}, Chn nx pv a (pre ++ i :: post) → pv i = pre.getLastD a ∧ nx i = post.headD 0 ∧ (post = [] → pv 0 = i)
  | [], a, h => by
      refine ⟨h.2.1, ?_, ?_⟩
      · cases post with
        | nil => exact h.2.2.1
        | cons c q => exact h.2.2.1
      · rintro rfl
        exact h.2.2.2
  | b :: pre, a, h => by
      have := Chn.at_ (pre := pre) (a := b) h.2.2
      rw [List.getLastD_cons]
      exact this
theorem Chn.zero {nx pv : Nat → Nat} : ∀ {l : List Nat} {a : Nat}, Chn nx pv a l → nx a = l.headD 0 ∧ pv 0 = l.getLastD a
  | [], a, h => h
  | b :: l, a, h => ⟨h.1, by rw [List.getLastD_cons]; exact (Chn.zero h.2.2).2⟩

theorem getLastD_mem {pre : List Nat} {a : Nat} : pre.getLastD a ∈ a :: pre := by
  induction pre generalizing a with
  | nil => simp
  | cons b pre ih => rw [List.getLastD_cons]; exact List.mem_cons_of_mem _ ih
theorem Chn.out {nx pv : Nat → Nat} {i : Nat} {post : List Nat} : ∀ {pre : List Nat} {a : Nat}, Chn nx pv a (pre ++ i :: post) → (a :: (pre ++ i :: post)).Nodup → (0 ∉ pre ++ i :: post) →
    Chn (upd nx (pre.getLastD a) (post.headD 0)) (upd pv (post.headD 0) (pre.getLastD a)) a (pre ++ post)
  | [], a, h, hn, h0 => by
      rw [List.nil_append] at *
      show Chn (upd nx a (post.headD 0)) (upd pv (post.headD 0) a) a post
      rw [List.nodup_cons] at hn
      cases post with
      | nil => exact ⟨if_pos rfl, if_pos rfl⟩
      | cons c q =>
        have hac : a ∉ c :: q := fun h => hn.1 (List.mem_cons_of_mem _ h)
        have hcq := (List.nodup_cons.1 (List.nodup_cons.1 hn.2).2).1
        refine ⟨if_pos rfl, if_pos rfl, h.2.2.2.2.congr (fun x hx => if_neg fun e => ?_) (fun x hx => if_neg fun e => ?_) (if_neg fun e => ?_)⟩
        · subst e; exact hac hx
        · have e : x = c := e
          subst e; exact hcq hx
        · have e : 0 = c := e
          subst e; exact h0 (List.mem_cons_of_mem _ (List.mem_cons_self ..))
  | b :: pre, a, h, hn, h0 => by
      have hn2 : (a :: b :: (pre ++ i :: post)).Nodup := hn
      rw [List.nodup_cons] at hn2
      have hi := Chn.out (pre := pre) (a := b) h.2.2 hn2.2 (fun h => h0 (List.mem_cons_of_mem _ h))
      rw [List.getLastD_cons]
      refine ⟨(if_neg fun e => ?_).trans h.1, (if_neg fun e => ?_).trans h.2.1, hi⟩
      · have hm := getLastD_mem (pre := pre) (a := b)
        rw [← e] at hm
        refine hn2.1 ?_
        rcases List.mem_cons.1 hm with h | h
        · rw [h]; exact List.mem_cons_self ..
        · exact List.mem_cons_of_mem _ (List.mem_append_left _ h)
      · cases post with
        | nil =>
          have e : b = 0 := e
          subst e
          exact h0 (List.mem_cons_self ..)
        | cons c q =>
          have e : b = c := e
          subst e
          exact (List.nodup_cons.1 hn2.2).1 (List.mem_append_right _ (List.mem_cons_of_mem _ (List.mem_cons_self ..)))
theorem Chn.in_ {nx pv : Nat → Nat} {i : Nat} {l : List Nat} (h : Chn nx pv 0 l) (hi : i ∉ 0 :: l) (h0 : 0 ∉ l) (hn : l.Nodup) :
    Chn (upd (upd nx i (l.headD 0)) 0 i) (upd (upd pv i 0) (l.headD 0) i) 0 (i :: l) := by
  have hi0 : i ≠ 0 := fun e => hi (by rw [e]; exact List.mem_cons_self ..)
  cases l with
  | nil => exact ⟨if_pos rfl, (if_neg hi0).trans (if_pos rfl), (if_neg hi0).trans (if_pos rfl), if_pos rfl⟩
  | cons c q =>
    have hic : i ≠ c := fun e => hi (by rw [e]; exact List.mem_cons_of_mem _ (List.mem_cons_self ..))
    have hc0 : c ≠ 0 := fun e => h0 (by rw [e]; exact List.mem_cons_self ..)
    refine ⟨if_pos rfl, (if_neg hic).trans (if_pos rfl), (if_neg hi0).trans (if_pos rfl), if_pos rfl, h.2.2.congr (fun x hx => ?_) (fun x hx => ?_) ?_⟩
    · have hx0 : x ≠ 0 := fun e => h0 (e ▸ hx)
      have hxi : x ≠ i := fun e => hi (List.mem_cons_of_mem _ (e ▸ hx))
      exact (if_neg hx0).trans (if_neg hxi)
    · have hxc : x ≠ c := fun e => (List.nodup_cons.1 hn).1 (e ▸ hx)
      have hxi : x ≠ i := fun e => hi (List.mem_cons_of_mem _ (List.mem_cons_of_mem _ (e ▸ hx)))
      exact (if_neg hxc).trans (if_neg hxi)
    · exact (if_neg (Ne.symm hc0)).trans (if_neg (Ne.symm hi0))

structure Nd where
  key : List UInt8
  cls : Nat
  chunk : Nat
  nx : Nat
  pv : Nat
def noNd : Nd := ⟨[], 0, 0, 0, 0⟩
def Nd.cells (n : Nd) : List AV := [.str n.key, .int .i64 (.ofNat n.cls), .int .i64 (.ofNat n.chunk), .bool false, .int .i64 (.ofNat n.nx), .int .i64 (.ofNat n.pv)]
def nxt (ns : List Nd) (a : Nat) : Nat := (ns.getD a noNd).nx
def prv (ns : List Nd) (a : Nat) : Nat := (ns.getD a noNd).pv
theorem getD_setN {ns : List Nd} {i : Nat} (h : i < ns.length) (n : Nd) (a : Nat) : (ns.set i n).getD a noNd = if a = i then n else ns.getD a noNd := by
  rw [List.getD_eq_getElem?_getD, List.getD_eq_getElem?_getD]
  split
  · rename_i e; subst e
    rw [List.getElem?_set_self h]; rfl
  · rename_i e
    rw [List.getElem?_set_ne (fun q => e q.symm)]
def setNx (ns : List Nd) (i x : Nat) : List Nd := ns.set i { ns.getD i noNd with nx := x }
def setPv (ns : List Nd) (i x : Nat) : List Nd := ns.set i { ns.getD i noNd with pv := x }
theorem setNx_len (ns : List Nd) (i x : Nat) : (setNx ns i x).length = ns.length := List.length_set
theorem setPv_len (ns : List Nd) (i x : Nat) : (setPv ns i x).length = ns.length := List.length_set
theorem nxt_setNx {ns : List Nd} {i : Nat} (h : i < ns.length) (x : Nat) : nxt (setNx ns i x) = upd (nxt ns) i x := by
  funext a
  unfold nxt setNx upd
  rw [getD_setN h]
  split <;> rfl
theorem prv_setNx {ns : List Nd} {i : Nat} (h : i < ns.length) (x : Nat) : prv (setNx ns i x) = prv ns := by
  funext a
  unfold prv setNx
  rw [getD_setN h]
  split
  · rename_i e; subst e; rfl
  · rfl
theorem prv_setPv {ns : List Nd} {i : Nat} (h : i < ns.length) (x : Nat) : prv (setPv ns i x) = upd (prv ns) i x := by
  funext a
  unfold prv setPv upd
  rw [getD_setN h]
  split <;> rfl
theorem nxt_setPv {ns : List Nd} {i : Nat} (h : i < ns.length) (x : Nat) : nxt (setPv ns i x) = nxt ns := by
  funext a
  unfold nxt setPv
  rw [getD_setN h]
  split
  · rename_i e; subst e; rfl
  · rfl
def Nd.same (a b : Nd) : Prop := a.key = b.key ∧ a.cls = b.cls ∧ a.chunk = b.chunk
theorem setNx_same {ns : List Nd} {i : Nat} (h : i < ns.length) (x a : Nat) : ((setNx ns i x).getD a noNd).same (ns.getD a noNd) := by
  unfold setNx
  rw [getD_setN h]
  split
  · rename_i e; subst e; exact ⟨rfl, rfl, rfl⟩
  · exact ⟨rfl, rfl, rfl⟩
theorem setPv_same {ns : List Nd} {i : Nat} (h : i < ns.length) (x a : Nat) : ((setPv ns i x).getD a noNd).same (ns.getD a noNd) := by
  unfold setPv
  rw [getD_setN h]
  split
  · rename_i e; subst e; exact ⟨rfl, rfl, rfl⟩
  · exact ⟨rfl, rfl, rfl⟩

structure It where
  key : List UInt8
  data : List UInt8
  cls : Nat
  chunk : Nat
  node : Nat
structure St where
  s : Sb
  l : List It
  spare : List Nat
  n : Nat
structure Ring (ns : List Nd) (st : St) : Prop where
  ln : ns.length = st.n
  chn : Chn (nxt ns) (prv ns) 0 (st.l.map (·.node))
  nd : ∀ x ∈ st.l, (ns.getD x.node noNd).key = x.key ∧ (ns.getD x.node noNd).cls = x.cls ∧ (ns.getD x.node noNd).chunk = x.chunk
structure St.Ok (st : St) : Prop where
  s : st.s.Ok
  nd : (0 :: (st.l.map (·.node) ++ st.spare)).Nodup
  lt : ∀ x ∈ 0 :: (st.l.map (·.node) ++ st.spare), x < st.n
  has : ∀ x ∈ st.l, st.s.has x.cls x.chunk (x.key ++ x.data)
  hd : (st.l.map fun x => (x.cls, x.chunk)).Nodup
  ky : (st.l.map (·.key)).Nodup
end Go.Proofs.Ytihoblfmhighpaa
namespace Go.Proofs.Ytihoblfmhighpaa
open Go.Dp
set_option linter.unusedSimpArgs false
set_option linter.unusedVariables false

def outN (ns : List Nd) (i : Nat) : List Nd := setPv (setNx ns (prv ns i) (nxt ns i)) (nxt ns i) (prv ns i)
def inN (ns : List Nd) (i : Nat) : List Nd := setPv (setNx (setNx (setPv ns i 0) i (nxt ns 0)) 0 i) (nxt ns 0) i
theorem outN_len (ns : List Nd) (i : Nat) : (outN ns i).length = ns.length := by unfold outN; rw [setPv_len, setNx_len]
theorem inN_len (ns : List Nd) (i : Nat) : (inN ns i).length = ns.length := by unfold inN; rw [setPv_len, setNx_len, setNx_len, setPv_len]
theorem Nd.same.trans {a b c : Nd} (h : a.same b) (k : b.same c) : a.same c := ⟨h.1.trans k.1, h.2.1.trans k.2.1, h.2.2.trans k.2.2⟩
theorem outN_same {ns : List Nd} {i : Nat} (h1 : nxt ns i < ns.length) (h2 : prv ns i < ns.length) (a : Nat) : ((outN ns i).getD a noNd).same (ns.getD a noNd) :=
  (setPv_same (by rw [setNx_len]; exact h1) _ _).trans (setNx_same h2 _ _)
theorem inN_same {ns : List Nd} {i : Nat} (h0 : 0 < ns.length) (hi : i < ns.length) (h1 : nxt ns 0 < ns.length) (a : Nat) : ((inN ns i).getD a noNd).same (ns.getD a noNd) :=
  (setPv_same (by rw [setNx_len, setNx_len, setPv_len]; exact h1) _ _).trans ((setNx_same (by rw [setNx_len, setPv_len]; exact h0) _ _).trans ((setNx_same (by rw [setPv_len]; exact hi) _ _).trans (setPv_same hi _ _)))
theorem outN_fun {ns : List Nd} {i : Nat} (h1 : nxt ns i < ns.length) (h2 : prv ns i < ns.length) : nxt (outN ns i) = upd (nxt ns) (prv ns i) (nxt ns i) ∧ prv (outN ns i) = upd (prv ns) (nxt ns i) (prv ns i) := by
  unfold outN
  rw [nxt_setPv (by rw [setNx_len]; exact h1), prv_setPv (by rw [setNx_len]; exact h1), nxt_setNx h2, prv_setNx h2]
  exact ⟨rfl, rfl⟩
theorem inN_fun {ns : List Nd} {i : Nat} (h0 : 0 < ns.length) (hi : i < ns.length) (h1 : nxt ns 0 < ns.length) :
    nxt (inN ns i) = upd (upd (nxt ns) i (nxt ns 0)) 0 i ∧ prv (inN ns i) = upd (upd (prv ns) i 0) (nxt ns 0) i := by
  unfold inN
  have a1 : (setPv ns i 0).length = ns.length := setPv_len _ _ _
  have a2 : (setNx (setPv ns i 0) i (nxt ns 0)).length = ns.length := by rw [setNx_len]; exact a1
  have a3 : (setNx (setNx (setPv ns i 0) i (nxt ns 0)) 0 i).length = ns.length := by rw [setNx_len]; exact a2
  rw [nxt_setPv (by rw [a3]; exact h1), prv_setPv (by rw [a3]; exact h1), nxt_setNx (by rw [a2]; exact h0), prv_setNx (by rw [a2]; exact h0), nxt_setNx (by rw [a1]; exact hi), prv_setNx (by rw [a1]; exact hi), nxt_setPv hi, prv_setPv hi]
  exact ⟨rfl, rfl⟩

theorem headD_mem (l : List Nat) : l.headD 0 ∈ 0 :: l := by
  cases l with
  | nil => exact List.mem_cons_self ..
  | cons a l => exact List.mem_cons_of_mem _ (List.mem_cons_self ..)

theorem ring_out {ns : List Nd} {pre post : List Nat} {i : Nat} (h : Chn (nxt ns) (prv ns) 0 (pre ++ i :: post)) (hn : (0 :: (pre ++ i :: post)).Nodup) (hlt : ∀ x ∈ 0 :: (pre ++ i :: post), x < ns.length) :
    nxt ns i < ns.length ∧ prv ns i < ns.length ∧ Chn (nxt (outN ns i)) (prv (outN ns i)) 0 (pre ++ post) := by
  obtain ⟨e1, e2, _⟩ := h.at_
  have m1 : nxt ns i < ns.length := by
    rw [e2]
    refine hlt _ ?_
    rcases List.mem_cons.1 (headD_mem post) with h | h
    · rw [h]; exact List.mem_cons_self ..
    · exact List.mem_cons_of_mem _ (List.mem_append_right _ (List.mem_cons_of_mem _ h))
  have m2 : prv ns i < ns.length := by
    rw [e1]
    refine hlt _ ?_
    rcases List.mem_cons.1 (getLastD_mem (pre := pre) (a := 0)) with h | h
    · rw [h]; exact List.mem_cons_self ..
    · exact List.mem_cons_of_mem _ (List.mem_append_left _ h)
  refine ⟨m1, m2, ?_⟩
  obtain ⟨f1, f2⟩ := outN_fun m1 m2
  rw [f1, f2, e1, e2]
  exact h.out hn (List.nodup_cons.1 hn).1
theorem ring_in {ns : List Nd} {l : List Nat} {i : Nat} (h : Chn (nxt ns) (prv ns) 0 l) (hn : (0 :: i :: l).Nodup) (hlt : ∀ x ∈ 0 :: i :: l, x < ns.length) :
    nxt ns 0 < ns.length ∧ Chn (nxt (inN ns i)) (prv (inN ns i)) 0 (i :: l) := by
  have e1 := h.zero.1
  have m1 : nxt ns 0 < ns.length := by
    rw [e1]
    refine hlt _ ?_
    rcases List.mem_cons.1 (headD_mem l) with h | h
    · rw [h]; exact List.mem_cons_self ..
    · exact List.mem_cons_of_mem _ (List.mem_cons_of_mem _ h)
  refine ⟨m1, ?_⟩
  obtain ⟨f1, f2⟩ := inN_fun (hlt 0 (List.mem_cons_self ..)) (hlt i (List.mem_cons_of_mem _ (List.mem_cons_self ..))) m1
  rw [f1, f2, e1]
  rw [List.nodup_cons] at hn
  have h0i : 0 ≠ i := fun e => hn.1 (by rw [← e]; exact List.mem_cons_self ..)
  refine h.in_ (fun hm => ?_) (fun hm => hn.1 (List.mem_cons_of_mem _ hm)) (List.nodup_cons.1 hn.2).2
  rcases List.mem_cons.1 hm with h | h
  · exact h0i h.symm
  · exact (List.nodup_cons.1 hn.2).1 h

def St.gone (st : St) (pre post : List It) (x : It) : St := ⟨st.s.give x.cls x.chunk, pre ++ post, st.spare ++ [x.node], st.n⟩
def St.touch (st : St) (pre post : List It) (x : It) : St := ⟨st.s, x :: (pre ++ post), st.spare, st.n⟩

theorem perm_mid {α : Type} (pre post : List α) (x : α) : (pre ++ x :: post).Perm (x :: (pre ++ post)) := List.perm_middle
theorem St.Ok.lts {st : St} (h : st.Ok) {pre post : List It} {x : It} (e : st.l = pre ++ x :: post) : (∀ y ∈ 0 :: (pre.map (·.node) ++ x.node :: post.map (·.node)), y < st.n) ∧ (0 :: (pre.map (·.node) ++ x.node :: post.map (·.node))).Nodup := by
  have em : st.l.map (·.node) = pre.map (·.node) ++ x.node :: post.map (·.node) := by rw [e, List.map_append, List.map_cons]
  have hn := h.nd
  have hl := h.lt
  rw [em] at hn hl
  refine ⟨fun y hy => hl y ?_, ?_⟩
  · rcases List.mem_cons.1 hy with h | h
    · rw [h]; exact List.mem_cons_self ..
    · exact List.mem_cons_of_mem _ (List.mem_append_left _ h)
  · rw [List.nodup_cons] at hn ⊢
    exact ⟨fun hm => hn.1 (List.mem_append_left _ hm), (List.nodup_append.1 hn.2).1⟩
theorem St.Ok.touch {st : St} (h : st.Ok) {pre post : List It} {x : It} (e : st.l = pre ++ x :: post) : (st.touch pre post x).Ok := by
  have hp : st.l.Perm (x :: (pre ++ post)) := by rw [e]; exact perm_mid ..
  have hm : (0 :: (st.l.map (·.node) ++ st.spare)).Perm (0 :: ((x :: (pre ++ post)).map (·.node) ++ st.spare)) := ((hp.map _).append_right _).cons _
  exact ⟨h.s, hm.nodup_iff.1 h.nd, fun y hy => h.lt y (hm.mem_iff.2 hy), fun y hy => h.has y (hp.mem_iff.2 hy), (hp.map _).nodup_iff.1 h.hd, (hp.map _).nodup_iff.1 h.ky⟩
theorem give_has {s : Sb} {i k j m : Nat} {d : List UInt8} (h : s.has j m d) (hne : ¬ (j = i ∧ m = k)) : (s.give i k).has j m d := by
  refine ⟨by show j < (s.cs.set i _).length; rw [List.length_set]; exact h.1, ?_⟩
  show (m, d) ∈ ((s.cs.set i ((s.cl i).give k)).getD j noCl).live
  by_cases e : i = j
  · subst e
    rw [List.getD_eq_getElem?_getD, List.getElem?_set_self h.1]
    show (m, d) ∈ (s.cl i).live.filter fun x => x.1 != k
    rw [List.mem_filter]
    exact ⟨h.2, by simp only [bne_iff_ne, ne_eq]; exact fun q => hne ⟨rfl, q⟩⟩
  · rw [List.getD_eq_getElem?_getD, List.getElem?_set_ne e, ← List.getD_eq_getElem?_getD]
    exact h.2
theorem St.Ok.gone {st : St} (h : st.Ok) {pre post : List It} {x : It} (e : st.l = pre ++ x :: post) : (st.gone pre post x).Ok := by
  have hp : st.l.Perm (x :: (pre ++ post)) := by rw [e]; exact perm_mid ..
  have hx : x ∈ st.l := hp.mem_iff.2 (List.mem_cons_self ..)
  have hm : (0 :: (st.l.map (·.node) ++ st.spare)).Perm (0 :: ((pre ++ post).map (·.node) ++ (st.spare ++ [x.node]))) := by
    refine List.Perm.cons _ (((hp.map _).append_right _).trans ?_)
    rw [List.map_cons, List.cons_append, ← List.append_assoc]
    exact List.perm_append_singleton _ _ |>.symm
  have hd2 := (hp.map fun x => (x.cls, x.chunk)).nodup_iff.1 h.hd
  rw [List.map_cons, List.nodup_cons] at hd2
  have hk2 := (hp.map (·.key)).nodup_iff.1 h.ky
  rw [List.map_cons, List.nodup_cons] at hk2
  refine ⟨h.s.give (h.has x hx), hm.nodup_iff.1 h.nd, fun y hy => h.lt y (hm.mem_iff.2 hy), fun y hy => ?_, hd2.2, hk2.2⟩
  refine give_has (h.has y (hp.mem_iff.2 (List.mem_cons_of_mem _ hy))) fun q => hd2.1 ?_
  rw [← q.1, ← q.2]
  exact List.mem_map_of_mem hy

theorem Ring.gone {ns : List Nd} {st : St} (h : Ring ns st) (ok : st.Ok) {pre post : List It} {x : It} (e : st.l = pre ++ x :: post) :
    nxt ns x.node < st.n ∧ prv ns x.node < st.n ∧ Ring ((outN ns x.node).set x.node noNd) (st.gone pre post x) := by
  obtain ⟨hlt, hnd⟩ := ok.lts e
  have hc := h.chn
  rw [e, List.map_append, List.map_cons] at hc
  obtain ⟨m1, m2, c1⟩ := ring_out hc hnd (by rw [h.ln]; exact hlt)
  have hxl : x.node < (outN ns x.node).length := by rw [outN_len, h.ln]; exact hlt _ (List.mem_cons_of_mem _ (List.mem_append_right _ (List.mem_cons_self ..)))
  have hnot : x.node ∉ 0 :: (pre.map (·.node) ++ post.map (·.node)) := by
    have hp : (0 :: (pre.map (·.node) ++ x.node :: post.map (·.node))).Perm (x.node :: 0 :: (pre.map (·.node) ++ post.map (·.node))) := (List.Perm.cons _ (perm_mid ..)).trans (List.Perm.swap ..)
    exact (List.nodup_cons.1 (hp.nodup_iff.1 hnd)).1
  have hg : ∀ a, a ≠ x.node → ((outN ns x.node).set x.node noNd).getD a noNd = (outN ns x.node).getD a noNd := fun a ha => by rw [getD_setN hxl, if_neg ha]
  refine ⟨by rw [← h.ln]; exact m1, by rw [← h.ln]; exact m2, by show (List.set _ _ _).length = st.n; rw [List.length_set, outN_len]; exact h.ln, ?_, fun y hy => ?_⟩
  · show Chn _ _ 0 ((pre ++ post).map (·.node))
    rw [List.map_append]
    refine c1.congr (fun y hy => ?_) (fun y hy => ?_) ?_
    · show (List.getD _ y noNd).nx = (List.getD _ y noNd).nx
      rw [hg y fun q => hnot (q ▸ hy)]
    · show (List.getD _ y noNd).pv = (List.getD _ y noNd).pv
      rw [hg y fun q => hnot (q ▸ List.mem_cons_of_mem _ hy)]
    · show (List.getD _ 0 noNd).pv = (List.getD _ 0 noNd).pv
      rw [hg 0 fun q => hnot (by rw [← q]; exact List.mem_cons_self ..)]
  · have hy : y ∈ pre ++ post := hy
    have hym : y.node ∈ pre.map (·.node) ++ post.map (·.node) := by rw [← List.map_append]; exact List.mem_map_of_mem hy
    rw [hg _ fun q => hnot (q ▸ List.mem_cons_of_mem _ hym)]
    have hy2 : y ∈ st.l := by rw [e]; exact (perm_mid ..).mem_iff.2 (List.mem_cons_of_mem _ hy)
    have a := outN_same m1 m2 y.node
    have b := h.nd y hy2
    exact ⟨a.1.trans b.1, a.2.1.trans b.2.1, a.2.2.trans b.2.2⟩
theorem Ring.touch {ns : List Nd} {st : St} (h : Ring ns st) (ok : st.Ok) {pre post : List It} {x : It} (e : st.l = pre ++ x :: post) :
    nxt ns x.node < st.n ∧ prv ns x.node < st.n ∧ nxt (outN ns x.node) 0 < st.n ∧ Ring (inN (outN ns x.node) x.node) (st.touch pre post x) := by
  obtain ⟨hlt, hnd⟩ := ok.lts e
  have hc := h.chn
  rw [e, List.map_append, List.map_cons] at hc
  obtain ⟨m1, m2, c1⟩ := ring_out hc hnd (by rw [h.ln]; exact hlt)
  have hp : (0 :: (pre.map (·.node) ++ x.node :: post.map (·.node))).Perm (0 :: x.node :: (pre.map (·.node) ++ post.map (·.node))) := List.Perm.cons _ (perm_mid ..)
  obtain ⟨m3, c2⟩ := ring_in c1 (hp.nodup_iff.1 hnd) (by rw [outN_len, h.ln]; exact fun y hy => hlt y (hp.mem_iff.2 hy))
  rw [outN_len] at m3
  refine ⟨by rw [← h.ln]; exact m1, by rw [← h.ln]; exact m2, by rw [← h.ln]; exact m3, by show List.length _ = st.n; rw [inN_len, outN_len]; exact h.ln, ?_, fun y hy => ?_⟩
  · show Chn _ _ 0 ((x :: (pre ++ post)).map (·.node))
    rw [List.map_cons, List.map_append]
    exact c2
  · have hy2 : y ∈ st.l := by rw [e]; exact (perm_mid ..).mem_iff.2 hy
    have a := outN_same m1 m2 y.node
    have a2 := inN_same (ns := outN ns x.node) (i := x.node) (by rw [outN_len, h.ln]; exact hlt 0 (List.mem_cons_self ..)) (by rw [outN_len, h.ln]; exact hlt _ (List.mem_cons_of_mem _ (List.mem_append_right _ (List.mem_cons_self ..)))) (by rw [outN_len]; exact m3) y.node
    have b := h.nd y hy2
    exact ⟨a2.1.trans (a.1.trans b.1), a2.2.1.trans (a.2.1.trans b.2.1), a2.2.2.trans (a.2.2.trans b.2.2)⟩
theorem Ring.add {ns : List Nd} {st : St} {n' : Nat} {x : It} (hl : ns.length = n') (hc : Chn (nxt ns) (prv ns) 0 (st.l.map (·.node))) (hf : ∀ y ∈ st.l, (ns.getD y.node noNd).key = y.key ∧ (ns.getD y.node noNd).cls = y.cls ∧ (ns.getD y.node noNd).chunk = y.chunk)
    (hn : (0 :: x.node :: st.l.map (·.node)).Nodup) (hlt : ∀ y ∈ 0 :: x.node :: st.l.map (·.node), y < n') (hx : (ns.getD x.node noNd).key = x.key ∧ (ns.getD x.node noNd).cls = x.cls ∧ (ns.getD x.node noNd).chunk = x.chunk) (s' : Sb) (sp : List Nat) :
    nxt ns 0 < n' ∧ Ring (inN ns x.node) ⟨s', x :: st.l, sp, n'⟩ := by
  obtain ⟨m3, c2⟩ := ring_in hc hn (by rw [hl]; exact hlt)
  refine ⟨by rw [← hl]; exact m3, by show List.length _ = n'; rw [inN_len]; exact hl, c2, fun y hy => ?_⟩
  have a2 := inN_same (ns := ns) (i := x.node) (by rw [hl]; exact hlt 0 (List.mem_cons_self ..)) (by rw [hl]; exact hlt _ (List.mem_cons_of_mem _ (List.mem_cons_self ..))) m3 y.node
  rcases List.mem_cons.1 hy with rfl | hy
  · exact ⟨a2.1.trans hx.1, a2.2.1.trans hx.2.1, a2.2.2.trans hx.2.2⟩
  · have b := hf y hy
    exact ⟨a2.1.trans b.1, a2.2.1.trans b.2.1, a2.2.2.trans b.2.2⟩
end Go.Proofs.Ytihoblfmhighpaa
