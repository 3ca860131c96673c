/- The store of items, plainly: an item is put. Conditions: none. -/
import Derived.Test.YtihoblfmhighpaaItD
namespace Go.Proofs.Ytihoblfmhighpaa
open Go.Dp
set_option linter.unusedSimpArgs false
set_option linter.unusedVariables false

def Drp (st : St) (key : List UInt8) (st1 : St) : Prop := ((∀ x ∈ st.l, x.key ≠ key) ∧ st1 = st) ∨ ∃ pre x post, st.l = pre ++ x :: post ∧ x.key = key ∧ st1 = st.gone pre post x
theorem Drp.ok {st st1 : St} {key : List UInt8} (h : Drp st key st1) (ok : st.Ok) : st1.Ok ∧ (∀ x ∈ st1.l, x.key ≠ key) := by
  rcases h with ⟨h, rfl⟩ | ⟨pre, x, post, e, rfl, rfl⟩
  · exact ⟨ok, h⟩
  · refine ⟨ok.gone e, fun y hy hk => ?_⟩
    have hp : st.l.Perm (x :: (pre ++ post)) := by rw [e]; exact perm_mid ..
    have hk2 := (hp.map (·.key)).nodup_iff.1 ok.ky
    rw [List.map_cons, List.nodup_cons] at hk2
    exact hk2.1 (by rw [← hk]; exact List.mem_map_of_mem hy)
theorem alloc_cl {s : Sb} {i : Nat} (hi : i < s.cs.length) (d : List UInt8) : ∃ c' : Cl, (s.alloc i d).1.cs = s.cs.set i (c'.take d) ∧ (s.alloc i d).2 = c'.free.getLastD 0 ∧ c'.live = (s.cl i).live ∧ (s.Ok → ¬ s.full i → c'.free ≠ [] ∧ c'.Ok s.page (s.used + 1)) := by
  unfold Sb.alloc
  split
  · rename_i he
    refine ⟨(s.cl i).grow s.page, rfl, rfl, rfl, fun h hf => ?_⟩
    have hc := h.cl _ (Sb.cl_mem hi)
    refine ⟨?_, hc.grow h.pg⟩
    show (s.cl i).free ++ chunks _ _ ≠ []
    intro e
    have := congrArg List.length e
    rw [List.length_append, chunks_len, List.length_nil] at this
    have := div_pos' hc.hi hc.lo
    omega
  · rename_i he
    exact ⟨s.cl i, rfl, rfl, rfl, fun h hf => ⟨he, (h.cl _ (Sb.cl_mem hi)).mono (Nat.le_succ _)⟩⟩
theorem alloc_has {s : Sb} (h : s.Ok) {i : Nat} (hi : i < s.cs.length) (hf : ¬ s.full i) (d : List UInt8) :
    (s.alloc i d).1.has i (s.alloc i d).2 d ∧ (∀ j m d', s.has j m d' → (s.alloc i d).1.has j m d') ∧ ∀ d', ¬ s.has i (s.alloc i d).2 d' := by
  obtain ⟨c', e1, e2, e3, e4⟩ := alloc_cl hi d
  obtain ⟨f1, f2⟩ := e4 h hf
  obtain ⟨_, g2, _⟩ := f2.take f1 d
  have hcl : ∀ j, (s.alloc i d).1.cl j = if j = i then c'.take d else s.cl j := by
    intro j
    show (s.alloc i d).1.cs.getD j noCl = _
    rw [e1, List.getD_eq_getElem?_getD]
    split
    · rename_i e; subst e
      rw [List.getElem?_set_self hi]; rfl
    · rename_i e
      rw [List.getElem?_set_ne (fun q => e q.symm), ← List.getD_eq_getElem?_getD]
      rfl
  have hln : (s.alloc i d).1.cs.length = s.cs.length := by rw [e1, List.length_set]
  refine ⟨⟨by rw [hln]; exact hi, ?_⟩, fun j m d' hm => ⟨by rw [hln]; exact hm.1, ?_⟩, fun d' hm => ?_⟩
  · rw [hcl, if_pos rfl, e2]
    exact List.mem_append_right _ (List.mem_cons_self ..)
  · rw [hcl]
    split
    · rename_i e; subst e
      refine List.mem_append_left _ ?_
      rw [e3]
      exact hm.2
    · exact hm.2
  · refine g2 _ (by rw [e3]; exact hm.2) ?_
    exact e2

def St.nnode (st : St) : Nat := if st.spare = [] then st.n else st.spare.getLastD 0
def St.put (st : St) (key data : List UInt8) (i : Nat) : St :=
  ⟨(st.s.alloc i (key ++ data)).1, ⟨key, data, i, (st.s.alloc i (key ++ data)).2, st.nnode⟩ :: st.l, st.spare.dropLast, if st.spare = [] then st.n + 1 else st.n⟩
theorem St.Ok.put {st : St} (h : st.Ok) {key data : List UInt8} {i : Nat} (hi : i < st.s.cs.length) (hf : ¬ st.s.full i) (hk : ∀ x ∈ st.l, x.key ≠ key) : (st.put key data i).Ok ∧ (0 :: st.nnode :: st.l.map (·.node)).Nodup ∧ (∀ y ∈ 0 :: st.nnode :: st.l.map (·.node), y < (st.put key data i).n) := by
  obtain ⟨a1, a2, a3⟩ := alloc_has h.s hi hf (key ++ data)
  have key1 : (0 :: (st.nnode :: st.l.map (·.node) ++ st.spare.dropLast)).Nodup ∧ ∀ y ∈ 0 :: (st.nnode :: st.l.map (·.node) ++ st.spare.dropLast), y < (st.put key data i).n := by
    by_cases hs : st.spare = []
    · have e1 : st.nnode = st.n := if_pos hs
      have e2 : (st.put key data i).n = st.n + 1 := if_pos hs
      have hn := h.nd
      have hl := h.lt
      rw [hs, List.append_nil] at hn hl
      rw [e1, e2, hs]
      show (0 :: (st.n :: st.l.map (·.node) ++ [])).Nodup ∧ _
      rw [List.append_nil]
      have hp : (st.n :: 0 :: st.l.map (·.node)).Perm (0 :: st.n :: st.l.map (·.node)) := List.Perm.swap ..
      refine ⟨hp.nodup_iff.1 (List.nodup_cons.2 ⟨fun hm => by have := hl _ hm; omega, hn⟩), fun y hy => ?_⟩
      have hy : y ∈ 0 :: (st.n :: st.l.map (·.node) ++ []) := hy
      rw [List.append_nil] at hy
      rcases List.mem_cons.1 (hp.mem_iff.2 hy) with q | hm
      · omega
      · have := hl y hm; omega
    · have e1 : st.nnode = st.spare.getLastD 0 := if_neg hs
      have e2 : (st.put key data i).n = st.n := if_neg hs
      have hsp := last_split 0 hs
      have hp : (0 :: (st.l.map (·.node) ++ st.spare)).Perm (0 :: (st.spare.getLastD 0 :: st.l.map (·.node) ++ st.spare.dropLast)) := by
        refine List.Perm.cons _ ?_
        conv => lhs; rw [hsp]
        rw [← List.append_assoc]
        exact List.perm_append_singleton _ _
      rw [e1, e2]
      exact ⟨hp.nodup_iff.1 h.nd, fun y hy => h.lt y (hp.mem_iff.2 hy)⟩
  refine ⟨⟨h.s.alloc hi hf _, key1.1, key1.2, fun x hx => ?_, ?_, ?_⟩, ?_, fun y hy => key1.2 y ?_⟩
  · rcases List.mem_cons.1 hx with rfl | hx
    · exact a1
    · exact a2 _ _ _ (h.has x hx)
  · show (((i, (st.s.alloc i (key ++ data)).2)) :: st.l.map fun x => (x.cls, x.chunk)).Nodup
    refine List.nodup_cons.2 ⟨fun hm => ?_, h.hd⟩
    obtain ⟨x, hx, e⟩ := List.mem_map.1 hm
    obtain ⟨e1, e2⟩ := Prod.mk.inj e
    have := h.has x hx
    rw [e1, e2] at this
    exact a3 _ this
  · show (key :: st.l.map (·.key)).Nodup
    refine List.nodup_cons.2 ⟨fun hm => ?_, h.ky⟩
    obtain ⟨x, hx, e⟩ := List.mem_map.1 hm
    exact hk x hx e
  · have hh : (0 :: (st.nnode :: st.l.map (·.node) ++ st.spare.dropLast)).Nodup := key1.1
    have : (0 :: (st.nnode :: st.l.map (·.node)) ++ st.spare.dropLast).Nodup := hh
    exact (List.nodup_append.1 this).1
  · have : y ∈ (0 :: st.nnode :: st.l.map (·.node)) ++ st.spare.dropLast := List.mem_append_left _ hy
    exact this
end Go.Proofs.Ytihoblfmhighpaa
