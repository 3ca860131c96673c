/- The slot's store, plainly: what each request leaves. Conditions: none. -/
import Derived.Test.YtihoblfmhighpaaSlB
namespace Go.Proofs.Ytihoblfmhighpaa
open Go.Dp
set_option linter.unusedSimpArgs false
set_option linter.unusedVariables false

def clsZ : List Nat → Nat → Option Nat
  | [], _ => none
  | c :: l, n => if n ≤ c then some 0 else (clsZ l n).map (· + 1)
theorem clsOf_Z (cs : List Cl) (n : Nat) : clsOf cs n = clsZ (cs.map (·.size)) n := by
  induction cs with
  | nil => rfl
  | cons c l ih => rw [List.map_cons, clsOf, clsZ, ih]
structure KP (pg P m c : Nat) (szl : List Nat) (st : St) : Prop where
  rm : Rm P m szl st
  page : st.s.page = pg
  ln : st.l.length ≤ c
  ns : st.l.length + st.spare.length + 1 = st.n
  n : st.n ≤ c + 1
  tx : ∀ x ∈ st.l, TextOk x.data ∧ x.key.length ≤ 20000 ∧ x.data.length ≤ 20020
theorem KP.few {pg P m c : Nat} {szl : List Nat} {st : St} (h : KP pg P m c szl st) (hc : c ≤ 40000) : st.Few := by
  have a := h.ns
  have b := h.n
  have d := h.ln
  refine ⟨by omega, by omega, by omega, fun x hx => by have := (h.tx x hx).2.1; omega, fun x hx => by have := (h.tx x hx).2.2; omega⟩
theorem KP.mono {pg P m c c' : Nat} {szl : List Nat} {st : St} (h : KP pg P m c szl st) (hc : c ≤ c') : KP pg P m c' szl st := ⟨h.rm, h.page, Nat.le_trans h.ln hc, h.ns, by have := h.n; omega, h.tx⟩
theorem KP.touch {pg P m c : Nat} {szl : List Nat} {st : St} (h : KP pg P m c szl st) {pre post : List It} {x : It} (e : st.l = pre ++ x :: post) : KP pg P m c szl (st.touch pre post x) := by
  have hp : st.l.Perm (x :: (pre ++ post)) := by rw [e]; exact perm_mid ..
  have hl : (st.touch pre post x).l.length = st.l.length := hp.length_eq.symm
  exact ⟨h.rm.touch e, h.page, by rw [hl]; exact h.ln, by rw [hl]; exact h.ns, h.n, fun y hy => h.tx y (hp.mem_iff.2 hy)⟩
theorem KP.gone {pg P m c : Nat} {szl : List Nat} {st : St} (h : KP pg P m c szl st) (ok : st.Ok) {pre post : List It} {x : It} (e : st.l = pre ++ x :: post) : KP pg P m c szl (st.gone pre post x) := by
  have hp : st.l.Perm (x :: (pre ++ post)) := by rw [e]; exact perm_mid ..
  have hl : st.l.length = (pre ++ post).length + 1 := hp.length_eq
  have hn := h.ns
  have hc := h.ln
  refine ⟨h.rm.gone ok e, h.page, by show (pre ++ post).length ≤ c; omega, ?_, h.n, fun y hy => h.tx y (hp.mem_iff.2 (List.mem_cons_of_mem _ hy))⟩
  show (pre ++ post).length + (st.spare ++ [x.node]).length + 1 = st.n
  have e2 : (st.spare ++ [x.node]).length = st.spare.length + 1 := by rw [List.length_append]; rfl
  omega
theorem KP.drp {pg P m c : Nat} {szl : List Nat} {st st1 : St} (h : KP pg P m c szl st) (ok : st.Ok) {key : List UInt8} (hd : Drp st key st1) : KP pg P m c szl st1 := by
  rcases hd with ⟨_, rfl⟩ | ⟨pre, x, post, e, _, rfl⟩
  · exact h
  · exact h.gone ok e
theorem KP.put {pg P m c : Nat} {szl : List Nat} {st : St} (h : KP pg P m c szl st) (ok : st.Ok) {i : Nat} (hi : i < st.s.cs.length) (him : i < m) (hP : m ≤ P) (hb : c < pg / (st.s.cl i).size) (key data : List UInt8) (hk : key.length ≤ 20000) (hd : data.length ≤ 20020) (ht : TextOk data) :
    ¬ st.s.full i ∧ KP pg P m (c + 1) szl (st.put key data i) := by
  have hpg := h.page
  have hf := h.rm.room hP hi him h.ln (by rw [hpg]; exact hb)
  refine ⟨hf, h.rm.put ok hi him hf (fun he => ?_) key data, ?_, ?_, ?_, ?_, fun x hx => ?_⟩
  · have a := h.rm.ct i hi
    rw [he, List.length_nil, Nat.zero_add, h.rm.lv i hi] at a
    have b : (st.l.filter fun x => x.cls == i).length ≤ st.l.length := List.length_filter_le ..
    have d := h.ln
    rcases h.rm.big i hi with q | q
    · exact q
    · rw [hpg] at q; omega
  · show (st.s.alloc i (key ++ data)).1.page = pg
    unfold Sb.alloc
    split <;> exact hpg
  · show (_ :: st.l).length ≤ c + 1
    rw [List.length_cons]
    have := h.ln
    omega
  · show (_ :: st.l).length + st.spare.dropLast.length + 1 = if st.spare = [] then st.n + 1 else st.n
    have hns := h.ns
    rw [List.length_cons, List.length_dropLast]
    by_cases e : st.spare = []
    · rw [if_pos e]
      rw [e, List.length_nil] at hns ⊢
      omega
    · rw [if_neg e]
      have := List.length_pos_iff.2 e
      omega
  · show (if st.spare = [] then st.n + 1 else st.n) ≤ c + 1 + 1
    have := h.n
    split <;> omega
  · rcases List.mem_cons.1 hx with rfl | hx
    · exact ⟨ht, hk, hd⟩
    · exact h.tx x hx
def Fit (pg m c : Nat) (szl : List Nat) (n : Nat) : Prop := ∃ i, i < m ∧ clsZ szl n = some i ∧ c < pg / szl.getD i 0
theorem Fit.cls {pg m c : Nat} {szl : List Nat} {n : Nat} (h : Fit pg m c szl n) {st : St} (hz : st.s.cs.map (·.size) = szl) : ∃ i, i < m ∧ clsOf st.s.cs n = some i ∧ c < pg / (st.s.cl i).size := by
  obtain ⟨i, h1, h2, h3⟩ := h
  have e : clsOf st.s.cs n = some i := by rw [clsOf_Z, hz]; exact h2
  refine ⟨i, h1, e, ?_⟩
  have hi := clsOf_lt e
  have : (st.s.cl i).size = szl.getD i 0 := by
    unfold Sb.cl
    rw [← hz, List.getD_eq_getElem?_getD, List.getD_eq_getElem?_getD, List.getElem?_map, List.getElem?_eq_getElem hi]
    rfl
  rw [this]
  exact h3
theorem KP.new {a b m : Nat} : KP b a m 0 (szs b 64) (newSt a b) := by
  have hcl : ∀ i, i < (newSb a b).cs.length → ∃ z, (newSb a b).cl i = ⟨z, [], [], 0⟩ := by
    intro i hi
    have := Sb.cl_mem (s := newSb a b) hi
    obtain ⟨z, _, hz⟩ := List.mem_map.1 this
    exact ⟨z, hz.symm⟩
  refine ⟨⟨?_, rfl, fun i hi => ?_, fun i hi => ?_, fun i hi => ?_, ?_, fun i hi => ?_⟩, rfl, Nat.le_refl _, rfl, Nat.le_refl _, fun x hx => by cases hx⟩
  · show ((szs b 64).map fun z => (⟨z, [], [], 0⟩ : Cl)).map (·.size) = _
    rw [List.map_map]
    exact List.map_id _
  · obtain ⟨z, hz⟩ := hcl i hi
    show ((newSb a b).cl i).live.length = _
    rw [hz]; rfl
  · obtain ⟨z, hz⟩ := hcl i hi
    show ((newSb a b).cl i).free.length + ((newSb a b).cl i).live.length = ((newSb a b).cl i).count
    rw [hz]; rfl
  · obtain ⟨z, hz⟩ := hcl i hi
    refine .inl ?_
    show ((newSb a b).cl i).count = 0
    rw [hz]
  · show 0 = (((szs b 64).map fun z => (⟨z, [], [], 0⟩ : Cl)).filter fun c => c.count != 0).length
    have : ((szs b 64).map fun z => (⟨z, [], [], 0⟩ : Cl)).filter (fun c => c.count != 0) = [] := by
      rw [List.filter_eq_nil_iff]
      intro c hc
      obtain ⟨z, _, rfl⟩ := List.mem_map.1 hc
      exact fun h => by cases h
    rw [this]; rfl
  · obtain ⟨z, hz⟩ := hcl i hi
    refine .inl ?_
    show ((newSb a b).cl i).count = 0
    rw [hz]
end Go.Proofs.Ytihoblfmhighpaa
