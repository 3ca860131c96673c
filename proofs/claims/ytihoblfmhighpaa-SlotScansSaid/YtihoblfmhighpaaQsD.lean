/- The clean machine, part QsD. Conditions: none. -/
import Derived.Test.YtihoblfmhighpaaQqZ
set_option linter.unusedSimpArgs false
set_option linter.unusedVariables false
namespace Go.Dp

def CalLe (cal cal' : Cal) : Prop := ∀ f args H r, cal f args H = some r → cal' f args H = some r

section
variable {cal cal' : Cal}

theorem evalE_le (h : CalLe cal cal') {fr : List AV} {H : Heap} {p : PE} {r : AV × Heap} (he : evalE cal fr H p = some r) : evalE cal' fr H p = some r := by
  cases p <;> simp only [evalE] at he ⊢ <;> try exact he
  case call f args => exact h _ _ _ _ he
  case callv f args =>
    unfold eCallv at he ⊢
    split at he
    · exact h _ _ _ _ he
    · cases he

theorem step_le (h : CalLe cal cal') {o : PO} {fr : List AV} {H : Heap} {r : List AV × Heap} (he : step cal o fr H = some r) : step cal' o fr H = some r := by
  unfold step at he ⊢
  split at he
  · rename_i w hw
    cases w with
    | false => exact he
    | true =>
      simp only [cond_true] at he ⊢
      unfold putR at he ⊢
      split at he
      · rename_i v H' hv
        have : evalO cal' fr H o.op = some (v, H') := by
          cases hop : o.op with
          | r p => rw [hop] at hv; exact hv
          | n p => rw [hop] at hv; exact hv
          | e p => rw [hop] at hv; exact evalE_le h hv
        rw [this]; exact he
      · cases he
  · cases he

theorem doIt_le (h : CalLe cal cal') {i : It} {fr : List AV} {H : Heap} {r : List AV × Heap} (he : doIt cal i fr H = some r) : doIt cal' i fr H = some r := by
  cases i with
  | op o => exact step_le h he
  | again o => exact he

theorem steps_le (h : CalLe cal cal') : ∀ {l : List It} {fr : List AV} {H : Heap} {r : List AV × Heap}, steps cal l fr H = some r → steps cal' l fr H = some r
  | [], _, _, _, he => he
  | i :: l, fr, H, r, he => by
    rw [steps_cons] at he ⊢
    unfold thenDo at he ⊢
    split at he
    · rename_i fr1 H1 h1
      rw [doIt_le h h1]
      exact steps_le h he
    · cases he

def DnLe (f g : Dn) : Prop := ∀ fr H r, f fr H = some r → g fr H = some r

theorem dSeq_le {f g f' g' : Dn} (hf : DnLe f f') (hg : DnLe g g') : DnLe (dSeq f g) (dSeq f' g') := by
  intro fr H r h
  unfold dSeq at h ⊢
  cases hx : f fr H with
  | none => rw [hx] at h; cases h
  | some q =>
    rw [hx] at h
    rw [hf _ _ _ hx]
    obtain ⟨ex, fr1, H1⟩ := q
    cases ex with
    | normal => exact hg _ _ _ h
    | exit id => exact h
    | ret => exact h

theorem iter_le {f g : Dn} (hf : DnLe f g) : ∀ {n m : Nat}, n ≤ m → DnLe (iter f n) (iter g m)
  | 0, _, _ => fun fr H r h => by rw [iter_zero] at h; cases h
  | n + 1, 0, h => absurd h (by omega)
  | n + 1, m + 1, h => by
    rw [iter_succ, iter_succ]
    exact dSeq_le hf (iter_le hf (by omega))

theorem exec_le (h : CalLe cal cal') {n m : Nat} (hn : n ≤ m) : ∀ c : PC, DnLe (exec cal n c) (exec cal' m c) := by
  intro c
  induction c with
  | region its =>
    intro fr H r he
    have he' : dReg (steps cal its) fr H = some r := he
    show dReg (steps cal' its) fr H = some r
    unfold dReg at he' ⊢
    split at he'
    · rename_i fr1 H1 h1; rw [steps_le h h1]; exact he'
    · cases he'
  | seq a b iha ihb => exact dSeq_le iha ihb
  | cond x a b iha ihb =>
    intro fr H r he
    rw [exec_cond] at he ⊢
    unfold dCond at he ⊢
    split at he
    · exact iha _ _ _ he
    · exact ihb _ _ _ he
    · cases he
  | block id b ih =>
    intro fr H r he
    rw [exec_block] at he ⊢
    unfold dBlock at he ⊢
    cases hx : exec cal n b fr H with
    | none => rw [hx] at he; cases he
    | some q => rw [hx] at he; rw [ih _ _ _ hx]; exact he
  | loop b ih => exact iter_le ih hn
  | scope b ih => exact ih
  | _ => exact fun fr H r he => he

theorem call_le (L : Lib) : ∀ {n m : Nat}, n ≤ m → CalLe (call L n) (call L m)
  | 0, _, _ => fun f args H r h => by rw [call_zero] at h; cases h
  | n + 1, 0, h => absurd h (by omega)
  | n + 1, m + 1, h => by
    intro f args H r he
    rw [call_succ] at he ⊢
    unfold callBy at he ⊢
    split at he
    · cases he
    · rename_i g hg; exact he
    · rename_i pf hg
      unfold leave at he ⊢
      cases hx : exec (call L n) n pf.body (enter pf args) H with
      | none => rw [hx] at he; cases he
      | some q =>
        rw [hx] at he
        rw [exec_le (call_le L (by omega)) (by omega) pf.body _ _ _ hx]
        exact he
end

def Ev (L : Lib) (f : Nat) (args : List AV) (H : Heap) (Q : AV → Heap → Prop) : Prop := ∃ n v H', call L n f args H = some (v, H') ∧ Q v H'
def Xc (L : Lib) (c : PC) (fr : List AV) (H : Heap) (Q : Ex → List AV → Heap → Prop) : Prop := ∃ n ex fr' H', exec (call L n) n c fr H = some (ex, fr', H') ∧ Q ex fr' H'
def Xs (L : Lib) (l : List It) (fr : List AV) (H : Heap) (Q : List AV → Heap → Prop) : Prop := ∃ n fr' H', steps (call L n) l fr H = some (fr', H') ∧ Q fr' H'

def Ex.thn (K : List AV → Heap → Prop) (Q : Ex → List AV → Heap → Prop) : Ex → List AV → Heap → Prop
  | .normal, fr, H => K fr H
  | e, fr, H => Q e fr H
def Ex.inB (id : Nat) (Q : Ex → List AV → Heap → Prop) : Ex → List AV → Heap → Prop
  | .exit j, fr, H => if j = id then Q .normal fr H else Q (.exit j) fr H
  | e, fr, H => Q e fr H

section
variable {L : Lib} {fr : List AV} {H : Heap} {Q : Ex → List AV → Heap → Prop}

theorem Xc.mono {c : PC} {Q' : Ex → List AV → Heap → Prop} (h : Xc L c fr H Q) (hq : ∀ e fr' H', Q e fr' H' → Q' e fr' H') : Xc L c fr H Q' :=
  let ⟨n, ex, fr', H', h1, h2⟩ := h; ⟨n, ex, fr', H', h1, hq _ _ _ h2⟩

theorem Xc.skip (h : Q .normal fr H) : Xc L .skip fr H Q := ⟨0, _, _, _, rfl, h⟩
theorem Xc.exit {id : Nat} (h : Q (.exit id) fr H) : Xc L (.exit id) fr H Q := ⟨0, _, _, _, rfl, h⟩
theorem Xc.ret (h : Q .ret fr H) : Xc L .ret fr H Q := ⟨0, _, _, _, rfl, h⟩
theorem Xc.region {l : List It} (h : Xs L l fr H (Q .normal)) : Xc L (.region l) fr H Q := by
  obtain ⟨n, fr', H', h1, h2⟩ := h
  exact ⟨n, .normal, fr', H', by rw [exec_region]; unfold dReg; rw [h1], h2⟩
theorem Xc.seq {a b : PC} (h : Xc L a fr H (Ex.thn (fun fr' H' => Xc L b fr' H' Q) Q)) : Xc L (.seq a b) fr H Q := by
  obtain ⟨n, ex, fr1, H1, h1, h2⟩ := h
  cases ex with
  | normal =>
    obtain ⟨m, ex2, fr2, H2, h3, h4⟩ := h2
    refine ⟨max n m, ex2, fr2, H2, ?_, h4⟩
    have e1 := exec_le (call_le L (Nat.le_max_left n m)) (Nat.le_max_left n m) a _ _ _ h1
    have e2 := exec_le (call_le L (Nat.le_max_right n m)) (Nat.le_max_right n m) b _ _ _ h3
    rw [exec_seq]; unfold dSeq; rw [e1]; exact e2
  | exit id => exact ⟨n, .exit id, fr1, H1, by rw [exec_seq]; unfold dSeq; rw [h1], h2⟩
  | ret => exact ⟨n, .ret, fr1, H1, by rw [exec_seq]; unfold dSeq; rw [h1], h2⟩
theorem Xc.cond_true {x : X} {a b : PC} (hx : x.ev fr = .bool true) (h : Xc L a fr H Q) : Xc L (.cond x a b) fr H Q := by
  obtain ⟨n, ex, fr', H', h1, h2⟩ := h
  exact ⟨n, ex, fr', H', by rw [exec_cond]; unfold dCond; rw [hx]; exact h1, h2⟩
theorem Xc.cond_false {x : X} {a b : PC} (hx : x.ev fr = .bool false) (h : Xc L b fr H Q) : Xc L (.cond x a b) fr H Q := by
  obtain ⟨n, ex, fr', H', h1, h2⟩ := h
  exact ⟨n, ex, fr', H', by rw [exec_cond]; unfold dCond; rw [hx]; exact h1, h2⟩
theorem Xc.cond {x : X} {a b : PC} {t : Bool} (hx : x.ev fr = .bool t) (h1 : t = true → Xc L a fr H Q) (h2 : t = false → Xc L b fr H Q) : Xc L (.cond x a b) fr H Q := by
  cases t with
  | true => exact Xc.cond_true hx (h1 rfl)
  | false => exact Xc.cond_false hx (h2 rfl)
theorem Xc.block {id : Nat} {b : PC} (h : Xc L b fr H (Ex.inB id Q)) : Xc L (.block id b) fr H Q := by
  obtain ⟨n, ex, fr', H', h1, h2⟩ := h
  cases ex with
  | normal => exact ⟨n, .normal, fr', H', by rw [exec_block]; unfold dBlock; rw [h1], h2⟩
  | ret => exact ⟨n, .ret, fr', H', by rw [exec_block]; unfold dBlock; rw [h1], h2⟩
  | exit j =>
    have h2' : if j = id then Q .normal fr' H' else Q (.exit j) fr' H' := h2
    by_cases hj : j = id
    · rw [if_pos hj] at h2'
      exact ⟨n, .normal, fr', H', by rw [exec_block]; unfold dBlock; rw [h1]; simp only [nbeq, decide_eq_true hj]; rfl, h2'⟩
    · rw [if_neg hj] at h2'
      exact ⟨n, .exit j, fr', H', by rw [exec_block]; unfold dBlock; rw [h1]; simp only [nbeq, decide_eq_false hj]; rfl, h2'⟩
theorem Xc.loop {b : PC} (h : Xc L b fr H (Ex.thn (fun fr' H' => Xc L (.loop b) fr' H' Q) Q)) : Xc L (.loop b) fr H Q := by
  obtain ⟨n, ex, fr1, H1, h1, h2⟩ := h
  cases ex with
  | normal =>
    obtain ⟨m, ex2, fr2, H2, h3, h4⟩ := h2
    have e1 := exec_le (call_le L (show n ≤ max n m + 1 by omega)) (show n ≤ max n m + 1 by omega) b _ _ _ h1
    have e2 := iter_le (exec_le (call_le L (show m ≤ max n m + 1 by omega)) (show m ≤ max n m + 1 by omega) b) (show m ≤ max n m by omega) _ _ _ h3
    refine ⟨max n m + 1, ex2, fr2, H2, ?_, h4⟩
    rw [exec_loop, iter_succ]; unfold dSeq; rw [e1]; exact e2
  | exit id =>
    have e1 := exec_le (call_le L (Nat.le_succ n)) (Nat.le_succ n) b _ _ _ h1
    exact ⟨n + 1, .exit id, fr1, H1, by rw [exec_loop, iter_succ]; unfold dSeq; rw [e1], h2⟩
  | ret =>
    have e1 := exec_le (call_le L (Nat.le_succ n)) (Nat.le_succ n) b _ _ _ h1
    exact ⟨n + 1, .ret, fr1, H1, by rw [exec_loop, iter_succ]; unfold dSeq; rw [e1], h2⟩

variable {K : List AV → Heap → Prop}
theorem Xs.nil (h : K fr H) : Xs L [] fr H K := ⟨0, _, _, rfl, h⟩
theorem Xs.run {pre rest : List It} {fr1 : List AV} {H1 : Heap} (h : steps (fun _ _ _ => none) pre fr H = some (fr1, H1)) (h2 : Xs L rest fr1 H1 K) : Xs L (pre ++ rest) fr H K := by
  obtain ⟨n, fr2, H2, h3, h4⟩ := h2
  refine ⟨n, fr2, H2, ?_, h4⟩
  have : ∀ {l : List It} {fr : List AV} {H : Heap}, steps (call L n) l fr H = some (fr1, H1) → steps (call L n) (l ++ rest) fr H = some (fr2, H2) := by
    intro l
    induction l with
    | nil => intro fr H h; rw [steps_nil] at h; cases h; exact h3
    | cons i l ih =>
      intro fr H h
      rw [steps_cons] at h
      unfold thenDo at h
      split at h
      · rename_i f1 g1 e1
        rw [List.cons_append, steps_cons]
        unfold thenDo
        rw [e1]
        exact ih h
      · cases h
  exact this (steps_le (fun _ _ _ _ h => by cases h) h)
theorem Xs.all {l : List It} {fr1 : List AV} {H1 : Heap} (h : steps (fun _ _ _ => none) l fr H = some (fr1, H1)) (h2 : K fr1 H1) : Xs L l fr H K := by
  have := Xs.run (rest := []) (L := L) (K := K) h (Xs.nil h2)
  rwa [List.append_nil] at this
theorem Ev.code {f : Nat} {pf : PF} {args : List AV} {Q : AV → Heap → Prop} (hf : L f = some (.code pf)) (h : Xc L pf.body (enter pf args) H (fun ex fr' H' => (∀ id, ex ≠ .exit id) ∧ ∃ vs v, resList fr' H' pf.results = some vs ∧ resV vs = some v ∧ Q v H')) : Ev L f args H Q := by
  obtain ⟨n, ex, fr', H', h1, h2, vs, v, h3, h4, h5⟩ := h
  refine ⟨n + 1, v, H', ?_, h5⟩
  rw [call_succ]
  unfold callBy
  rw [hf]
  simp only []
  unfold leave
  rw [h1]
  cases ex with
  | exit id => exact absurd rfl (h2 id)
  | normal => simp only [h3, h4]
  | ret => simp only [h3, h4]
end

end Go.Dp
namespace Go.Dp

---------------------------------------------------------------- heaps without a block behind their end

def Heap.Ok (H : Heap) : Prop := ∀ b, H.next ≤ b → H.get b = none

theorem Heap.Ok.lt {H : Heap} (h : H.Ok) {b : Nat} {x : Blk} (hb : H.get b = some x) : b < H.next := by
  rcases Nat.lt_or_ge b H.next with h1 | h1
  · exact h1
  · rw [h b h1] at hb; cases hb
theorem Heap.Ok.new {H : Heap} (h : H.Ok) (x : Blk) : (H.new x).Ok := by
  intro b hb
  rw [Heap.next_new] at hb
  rw [Heap.get_new, if_neg (by omega)]
  exact h b (by omega)
theorem Heap.Ok.put {H : Heap} (h : H.Ok) {b : Nat} {y : Blk} (hb : H.get b = some y) (x : Blk) : (H.put b x).Ok := by
  intro c hc
  rw [Heap.next_put] at hc
  have := h.lt hb
  rw [Heap.get_put, if_neg (by omega)]
  exact h c hc
theorem Heap.Ok.noHeap : noHeap.Ok := fun _ _ => rfl

theorem Heap.Ok.st {H H' : Heap} (h : H.Ok) {b o : Nat} {vs : List AV} (e : H.st b o vs = some H') : H'.Ok ∧ H.next ≤ H'.next := by
  unfold Heap.st at e
  split at e
  · rename_i l k hb
    cases hc : Nat.ble (o + vs.length) l.length with
    | false => rw [hc] at e; cases e
    | true => rw [hc] at e; simp only [cond_true, Option.some.injEq] at e; subst e; exact ⟨h.put hb _, Nat.le_refl _⟩
  · cases e

theorem unit_ok {H : Heap} {r : Option Heap} (h : ∀ H', r = some H' → H'.Ok ∧ H.next ≤ H'.next) {v : AV} {H' : Heap} (e : unit r = some (v, H')) : H'.Ok ∧ H.next ≤ H'.next := by
  unfold unit at e
  split at e
  · cases e; exact h _ rfl
  · cases e

abbrev noCal : Cal := fun _ _ _ => none

theorem cond_some {α : Type} {c : Bool} {x : Option α} {r : α} (h : (bif c then x else none) = some r) : c = true ∧ x = some r := by
  cases c with
  | false => cases h
  | true => exact ⟨rfl, h⟩

theorem cond_or {α : Type} {c : Bool} {x y : Option α} {r : α} (h : (bif c then x else y) = some r) : x = some r ∨ y = some r := by
  cases c with
  | false => exact .inr h
  | true => exact .inl h

theorem evalE_ok {H : Heap} (h : H.Ok) {fr : List AV} {p : PE} {v : AV} {H' : Heap} (e : evalE noCal fr H p = some (v, H')) : H'.Ok ∧ H.next ≤ H'.next := by
  have st := fun {b o : Nat} {vs : List AV} {H' : Heap} (e : H.st b o vs = some H') => h.st e
  cases p with
  | store n a v =>
    simp only [evalE, eStore] at e
    split at e
    · exact unit_ok (H := H) (fun _ e => st e) (cond_some e).2
    · cases e
  | mupd str m k v =>
    simp only [evalE, eMupd] at e
    split at e
    · split at e
      · rename_i hb
        have e := (cond_some e).2
        split at e
        · cases e; exact ⟨h.put hb _, Nat.le_refl _⟩
        · cases e; exact ⟨h.put hb _, Nat.le_refl _⟩
        · cases e
      · cases e
    · cases e
  | ment str zero m k =>
    simp only [evalE, eMent] at e
    split at e
    · split at e
      · rename_i hb
        have e := (cond_some e).2
        split at e
        · cases e; exact ⟨h.put hb _, Nat.le_refl _⟩
        · cases e; exact ⟨h.put hb _, Nat.le_refl _⟩
        · cases e
      · cases e
    · cases e
  | mest m s v =>
    simp only [evalE, eMest] at e
    split at e
    · split at e
      · split at e
        · rename_i hb
          have e := (cond_some e).2
          split at e
          · split at e
            · cases e; exact ⟨h.put hb _, Nat.le_refl _⟩
            · cases e
          · cases e
        · cases e
      · cases e
    · cases e
  | mdel str m k =>
    simp only [evalE, eMdel] at e
    split at e
    · cases e; exact ⟨h, Nat.le_refl _⟩
    · split at e
      · rename_i hb
        split at e
        · cases e; exact ⟨h.put hb _, Nat.le_refl _⟩
        · cases e; exact ⟨h, Nat.le_refl _⟩
        · cases e
      · cases e
    · cases e
  | app k sz bytes s x =>
    simp only [evalE, evalApp] at e
    split at e
    · cases e
    · split at e
      · rename_i n new _ _ _
        cases hz : Nat.beq n 0 with
        | true => rw [hz] at e; cases e; exact ⟨h, Nat.le_refl _⟩
        | false =>
          rw [hz] at e
          have e := (cond_some e).2
          cases e
          exact ⟨h.new _, Nat.le_succ _⟩
      · have e := (cond_some e).2
        split at e
        · rename_i hb
          unfold appTo at e
          rcases cond_or (cond_some e).2 with e | e
          · cases e; exact ⟨h, Nat.le_refl _⟩
          · split at e
            · cases e
            · rcases cond_or e with e | e
              · cases e; exact ⟨h.put hb _, Nat.le_refl _⟩
              · have e := (cond_some e).2
                cases e
                exact ⟨(h.put hb _).new _, Nat.le_succ _⟩
        · cases e
      · cases e
  | copy sz d s =>
    simp only [evalE, eCopy] at e
    split at e
    · cases e
    · split at e
      · cases e; exact ⟨h, Nat.le_refl _⟩
      · have e := (cond_some e).2
        split at e
        · rename_i hs
          cases e
          exact st hs
        · cases e
      · cases e
  | clear zero s =>
    simp only [evalE, eClear] at e
    split at e
    · cases e; exact ⟨h, Nat.le_refl _⟩
    · rcases cond_or (cond_some e).2 with e | e
      · cases e; exact ⟨h, Nat.le_refl _⟩
      · exact unit_ok (H := H) (fun _ e => st e) e
    · cases e
  | mark x =>
    simp only [evalE, eMark] at e
    split at e
    · split at e
      · have e := (cond_some e).2
        cases e; exact ⟨h, Nat.le_refl _⟩
      · cases e
    · cases e
  | call f args => cases e
  | callv f args =>
    simp only [evalE, eCallv] at e
    split at e <;> cases e
  | ustr p n =>
    simp only [evalE, eUstr'] at e
    split at e
    · have e := (cond_some e).2
      unfold eUstr at e
      split at e
      · have e := (cond_some e).2; cases e; exact ⟨h, Nat.le_refl _⟩
      · rcases cond_or e with e | e
        · cases e; exact ⟨h, Nat.le_refl _⟩
        · split at e
          · rename_i hb
            have e := (cond_some e).2
            split at e
            · cases e; exact ⟨h.put hb _, Nat.le_refl _⟩
            · cases e
          · cases e
      · cases e
    · cases e

---------------------------------------------------------------- frames known in part

abbrev Kn := List (Nat × AV)

def Kn.get : Kn → Nat → AV
  | [], _ => .undef
  | (j, v) :: r, i => if i = j then v else Kn.get r i
def Kn.top : Kn → Nat
  | [] => 0
  | (j, _) :: r => max (j + 1) (Kn.top r)
def Kn.fr (k : Kn) : List AV := (List.range k.top).map k.get
def Kn.keys (k : Kn) : List Nat := k.map Prod.fst

theorem Kn.get_top : ∀ (k : Kn) (i : Nat), k.top ≤ i → k.get i = .undef
  | [], _, _ => rfl
  | (j, v) :: r, i, h => by
    simp only [Kn.top] at h
    simp only [Kn.get]
    rw [if_neg (by omega), Kn.get_top r i (by omega)]
theorem Kn.fr_get (k : Kn) (i : Nat) : k.fr.getD i .undef = k.get i := by
  unfold Kn.fr
  rw [List.getD_eq_getElem?_getD, List.getElem?_map]
  by_cases h : i < k.top
  · rw [List.getElem?_range h]; rfl
  · rw [List.getElem?_eq_none (by rw [List.length_range]; omega), Kn.get_top k i (by omega)]; rfl
theorem X.ev_t (k : Kn) (i : Nat) : X.ev k.fr (.t i) = k.get i := Kn.fr_get k i
theorem Kn.get_cons (i j : Nat) (v : AV) (r : Kn) : Kn.get ((j, v) :: r) i = if i = j then v else Kn.get r i := rfl

structure Fits (n : Nat) (k : Kn) (fr : List AV) : Prop where
  len : fr.length = n
  at_ : ∀ i, has k.keys i = true → fr.getD i .undef = k.get i

def kput (k : Kn) (d : Option Nat) (v : AV) : Kn := match d with
  | some d => (d, v) :: k
  | none => k
def kadd (ks : List Nat) (d : Option Nat) : List Nat := match d with
  | some d => d :: ks
  | none => ks
def dOk (n : Nat) (d : Option Nat) : Bool := match d with
  | some d => Nat.blt d n
  | none => true

section
variable {n : Nat} {k : Kn} {fr : List AV}

theorem Fits.put (F : Fits n k fr) {d : Option Nat} (hd : dOk n d = true) (v : AV) : Fits n (kput k d v) (setD fr d v) := by
  cases d with
  | none => exact F
  | some d =>
    have hd' : d < n := by simpa [dOk, nblt] using hd
    refine ⟨by show (fr.set d v).length = n; rw [List.length_set]; exact F.len, fun i hi => ?_⟩
    show (fr.set d v).getD i .undef = if i = d then v else k.get i
    rw [getD_set]
    by_cases e : i = d
    · subst e
      rw [if_pos ⟨rfl, by rw [F.len]; exact hd'⟩, if_pos rfl]
    · rw [if_neg (fun h => e h.1.symm), if_neg e]
      refine F.at_ i ?_
      rw [has_iff] at hi ⊢
      rcases List.mem_cons.1 hi with h | h
      · exact absurd h e
      · exact h

theorem Fits.ag (F : Fits n k fr) {ts : List Nat} (h : ts.all (has k.keys) = true) : Ag ts fr k.fr := by
  intro i hi
  rw [Kn.fr_get]
  exact F.at_ i (List.all_eq_true.1 h i hi)

def Kn.only (k : Kn) (l : List Nat) : Kn := l.map fun i => (i, k.get i)
theorem Kn.only_get (k : Kn) : ∀ (l : List Nat) (i : Nat), i ∈ l → (k.only l).get i = k.get i
  | [], _, h => by cases h
  | j :: l, i, h => by
    show (if i = j then k.get j else Kn.get (Kn.only k l) i) = _
    by_cases e : i = j
    · rw [if_pos e, e]
    · rw [if_neg e]
      rcases List.mem_cons.1 h with h | h
      · exact absurd h e
      · exact Kn.only_get k l i h
theorem Kn.only_keys (k : Kn) (l : List Nat) : (k.only l).keys = l := by
  unfold Kn.keys Kn.only
  rw [List.map_map]
  conv => rhs; rw [← List.map_id l]
  rfl
theorem Fits.only (F : Fits n k fr) {l : List Nat} (h : l.all (has k.keys) = true) : Fits n (k.only l) fr := by
  refine ⟨F.len, fun i hi => ?_⟩
  rw [Kn.only_keys, has_iff] at hi
  rw [Kn.only_get k l i hi]
  exact F.at_ i (List.all_eq_true.1 h i hi)

---------------------------------------------------------------- a region's run

inductive KR where
  | bad
  | done (k : Kn) (H : Heap)
  | call (f : Nat) (args : List AV) (d : Option Nat) (rest : List It) (k : Kn) (H : Heap)

def thenV (d : Option Nat) (k : Kn) (g : Kn → Heap → KR) : Option (AV × Heap) → KR
  | some (v, H) => g (kput k d v) H
  | none => .bad

def made (H : Heap) (m : Made) : Eff := match m with
  | some (b, f) => some (f H.next, H.new b)
  | none => none

def runF (d : Option Nat) (r : List It) (k : Kn) (H : Heap) (xs : List AV) : AV → KR
  | .fn f caps => .call f (xs ++ caps) d r k H
  | _ => .bad

def runP (d : Option Nat) (r : List It) (g : Kn → Heap → KR) (k : Kn) (H : Heap) : Pk → KR
  | .r p => thenV d k g (withH H (evalR k.fr H p))
  | .n p => thenV d k g (made H (evalN k.fr p))
  | .e p => match p with
    | .call f xs => .call f (xs.map (X.ev k.fr)) d r k H
    | .callv f xs => runF d r k H (xs.map (X.ev k.fr)) (f.ev k.fr)
    | p => thenV d k g (evalE noCal k.fr H p)

def runG (d : Option Nat) (r : List It) (g : Kn → Heap → KR) (k : Kn) (H : Heap) (w : Bool) (p : Pk) : AV → KR
  | .bool b => bif b == w then runP d r g k H p else g (kput k d (.tup [])) H
  | .undef => .bad
  | _ => g (kput k d (.tup [])) H

def agV (k : Kn) (H : Heap) (g : Kn → Heap → KR) (o : AV) : Option AV → KR
  | some v => bif sameV v o then g k H else .bad
  | none => .bad

def agP (d : Nat) (g : Kn → Heap → KR) (k : Kn) (H : Heap) : Pk → KR
  | .r p => agV k H g (k.get d) (evalR k.fr H p)
  | _ => .bad

def agG (d : Nat) (g : Kn → Heap → KR) (k : Kn) (H : Heap) (w : Bool) (p : Pk) (v : AV) : KR := match p with
  | .r p => (match v with
    | .bool b => bif b == w then agV k H g (k.get d) (evalR k.fr H p) else g k H
    | .undef => .bad
    | _ => g k H)
  | _ => .bad

def runI (i : It) (r : List It) (g : Kn → Heap → KR) (k : Kn) (H : Heap) : KR := match i with
  | .op o => (match o.guard with
    | none => runP o.dst r g k H o.op
    | some (s, w) => runG o.dst r g k H w o.op (k.get s))
  | .again o => (match o.dst with
    | none => .bad
    | some d => (match o.guard with
      | none => agP d g k H o.op
      | some (s, w) => agG d g k H w o.op (k.get s)))

def run : List It → Kn → Heap → KR
  | [], k, H => .done k H
  | i :: r, k, H => runI i r (run r) k H

def okI (n : Nat) (i : It) (ks : List Nat) : Bool := match i with
  | .op o => o.tm.all (has ks) && dOk n o.dst
  | .again o => o.tm.all (has ks) && (match o.dst with
    | some d => has ks d
    | none => false)
def addI (i : It) (ks : List Nat) : List Nat := match i with
  | .op o => kadd ks o.dst
  | .again _ => ks
def okR (n : Nat) : List It → List Nat → Bool
  | [], _ => true
  | i :: r, ks => okI n i ks && okR n r (addI i ks)

def RunOk (n : Nat) (its : List It) (fr : List AV) (H : Heap) : KR → Prop
  | .bad => True
  | .done k' H' => ∃ fr', (∀ cal, steps cal its fr H = some (fr', H')) ∧ H'.Ok ∧ H.next ≤ H'.next ∧ Fits n k' fr'
  | .call f args d rest k' H' => H'.Ok ∧ H.next ≤ H'.next ∧ dOk n d = true ∧ ∃ fr', Fits n k' fr' ∧
      ∀ cal v H'', cal f args H' = some (v, H'') → steps cal its fr H = steps cal rest (setD fr' d v) H''

theorem kput_keys (k : Kn) (d : Option Nat) (v : AV) : (kput k d v).keys = kadd k.keys d := by cases d <;> rfl

theorem RunOk.cons {i : It} {its : List It} {fr fr1 : List AV} {H H1 : Heap} (h1 : ∀ cal, doIt cal i fr H = some (fr1, H1)) (hn : H.next ≤ H1.next) : ∀ {q : KR}, RunOk n its fr1 H1 q → RunOk n (i :: its) fr H q
  | .bad, _ => trivial
  | .done k' H', ⟨fr', e1, e2, e3, e4⟩ => ⟨fr', fun cal => by rw [steps_cons]; unfold thenDo; rw [h1 cal]; exact e1 cal, e2, Nat.le_trans hn e3, e4⟩
  | .call f args d rest k' H', ⟨e1, e2, e3, fr', e4, e5⟩ => ⟨e1, Nat.le_trans hn e2, e3, fr', e4, fun cal v H'' hc => by rw [steps_cons]; unfold thenDo; rw [h1 cal]; exact e5 cal v H'' hc⟩

theorem evalN_made {H : Heap} (h : H.Ok) (m : Made) : withN H m = made H m := by
  unfold withN made
  split
  · rw [h H.next (Nat.le_refl _)]
  · rfl
theorem made_ok {H : Heap} (h : H.Ok) {m : Made} {v : AV} {H' : Heap} (e : made H m = some (v, H')) : H'.Ok ∧ H.next ≤ H'.next := by
  unfold made at e
  split at e
  · cases e; exact ⟨h.new _, Nat.le_succ _⟩
  · cases e

theorem evalE_any {fr : List AV} {H : Heap} {p : PE} (hp : ∀ f xs, p ≠ .call f xs) (hq : ∀ f xs, p ≠ .callv f xs) (cal cal' : Cal) : evalE cal fr H p = evalE cal' fr H p := by
  cases p <;> first | rfl | exact absurd rfl (hp _ _) | exact absurd rfl (hq _ _)

theorem run_ok : ∀ (its : List It) {k : Kn} {H : Heap} {fr : List AV}, okR n its k.keys = true → H.Ok → Fits n k fr → RunOk n its fr H (run its k H)
  | [], k, H, fr, _, hH, F => ⟨fr, fun _ => rfl, hH, Nat.le_refl _, F⟩
  | i :: r, k, H, fr, hok, hH, F => by
    rw [okR, Bool.and_eq_true] at hok
    obtain ⟨h1, h2⟩ := hok
    have ih := fun {k : Kn} {H : Heap} {fr : List AV} => @run_ok r k H fr
    show RunOk n (i :: r) fr H (runI i r (run r) k H)
    cases i with
    | op o =>
      rw [okI, Bool.and_eq_true] at h1
      obtain ⟨ht, hd⟩ := h1
      have hA := F.ag ht
      have hAp : Ag o.op.tm fr k.fr := Ag.right hA
      have hAg : Ag (guardTm o.guard) fr k.fr := Ag.left hA
      -- a value is put
      have hput : ∀ (v : AV) (H1 : Heap), H1.Ok → H.next ≤ H1.next → (∀ cal, doIt cal (.op o) fr H = some (setD fr o.dst v, H1)) → RunOk n (.op o :: r) fr H (run r (kput k o.dst v) H1) := by
        intro v H1 o1 o2 hs
        refine RunOk.cons hs o2 (ih ?_ o1 (F.put hd v))
        rw [kput_keys]; exact h2
      have hthen : ∀ (e : Eff), (∀ v H1, e = some (v, H1) → H1.Ok ∧ H.next ≤ H1.next) → (∀ cal, doIt cal (.op o) fr H = putR fr o.dst e) → RunOk n (.op o :: r) fr H (thenV o.dst k (run r) e) := by
        intro e he hs
        cases e with
        | none => trivial
        | some q => obtain ⟨v, H1⟩ := q; exact hput v H1 (he v H1 rfl).1 (he v H1 rfl).2 hs
      have hcall : ∀ (f : Nat) (args : List AV), (∀ cal, doIt cal (.op o) fr H = putR fr o.dst (cal f args H)) → RunOk n (.op o :: r) fr H (.call f args o.dst r k H) := by
        intro f args hs
        refine ⟨hH, Nat.le_refl _, hd, fr, F, fun cal v H'' hc => ?_⟩
        rw [steps_cons]; unfold thenDo; rw [hs cal, hc]; rfl
      have hP : (∀ cal, doIt cal (.op o) fr H = putR fr o.dst (evalO cal fr H o.op)) → RunOk n (.op o :: r) fr H (runP o.dst r (run r) k H o.op) := by
        intro hs
        cases hop : o.op with
        | r p =>
          rw [hop] at hs hAp
          refine hthen _ (fun v H1 e => ?_) (fun cal => by rw [hs cal]; show putR fr o.dst (withH H (evalR fr H p)) = _; rw [evalR_congr H hAp])
          unfold withH at e
          split at e
          · cases e; exact ⟨hH, Nat.le_refl _⟩
          · cases e
        | n p =>
          rw [hop] at hs hAp
          exact hthen _ (fun v H1 e => made_ok hH e) (fun cal => by rw [hs cal]; show putR fr o.dst (withN H (evalN fr p)) = _; rw [evalN_congr hAp, evalN_made hH])
        | e p =>
          rw [hop] at hs hAp
          have hgen : (∀ f xs, p ≠ .call f xs) → (∀ f xs, p ≠ .callv f xs) → RunOk n (.op o :: r) fr H (thenV o.dst k (run r) (evalE noCal k.fr H p)) := fun a b =>
            hthen _ (fun v H1 e => evalE_ok hH e) (fun cal => by rw [hs cal]; show putR fr o.dst (evalE cal fr H p) = _; rw [evalE_congr H hAp, evalE_any a b cal noCal])
          cases p with
          | call f xs => exact hcall f _ (fun cal => by rw [hs cal]; show putR fr o.dst (evalE cal fr H (.call f xs)) = _; rw [evalE_congr (p := .call f xs) H hAp]; rfl)
          | callv f xs =>
            show RunOk n (.op o :: r) fr H (runF o.dst r k H (xs.map (X.ev k.fr)) (f.ev k.fr))
            unfold runF
            split
            · rename_i g caps hf
              exact hcall g _ (fun cal => by rw [hs cal]; show putR fr o.dst (evalE cal fr H (.callv f xs)) = _; rw [evalE_congr (p := .callv f xs) H hAp]; show putR fr o.dst (eCallv cal H (f.ev k.fr) _) = _; rw [hf]; rfl)
            · trivial
          | _ => exact hgen (fun _ _ h => by cases h) (fun _ _ h => by cases h)
      have hstep : ∀ cal w, wanted k.fr o.guard = some w → doIt cal (.op o) fr H = bif w then putR fr o.dst (evalO cal fr H o.op) else some (setD fr o.dst (.tup []), H) := by
        intro cal w hw
        show step cal o fr H = _
        unfold step
        rw [wanted_congr hAg, hw]
      show RunOk n (.op o :: r) fr H (match o.guard with
        | none => runP o.dst r (run r) k H o.op
        | some (s, w) => runG o.dst r (run r) k H w o.op (k.get s))
      cases hg : o.guard with
      | none => exact hP (fun cal => hstep cal true (by rw [hg]; rfl))
      | some q =>
        obtain ⟨s, w⟩ := q
        have hw : wanted k.fr o.guard = (match k.get s with
          | .bool b => some (b == w)
          | .undef => none
          | _ => some false) := by rw [hg]; show (match k.fr.getD s .undef with | .bool b => _ | .undef => _ | _ => _) = _; rw [Kn.fr_get]
        show RunOk n (.op o :: r) fr H (runG o.dst r (run r) k H w o.op (k.get s))
        cases hv : k.get s with
        | bool b =>
          rw [hv] at hw
          show RunOk n (.op o :: r) fr H (bif b == w then runP o.dst r (run r) k H o.op else run r (kput k o.dst (.tup [])) H)
          cases hb : b == w with
          | true => exact hP (fun cal => hstep cal true (by rw [hw]; show some (b == w) = _; rw [hb]))
          | false => exact hput _ H hH (Nat.le_refl _) (fun cal => hstep cal false (by rw [hw]; show some (b == w) = _; rw [hb]))
        | undef => trivial
        | _ => exact hput _ H hH (Nat.le_refl _) (fun cal => hstep cal false (by rw [hw, hv]))
    | again o =>
      rw [okI, Bool.and_eq_true] at h1
      obtain ⟨ht, hd⟩ := h1
      have hA := F.ag ht
      have hAp : Ag o.op.tm fr k.fr := Ag.right hA
      have hAg : Ag (guardTm o.guard) fr k.fr := Ag.left hA
      show RunOk n (.again o :: r) fr H (match o.dst with
        | none => .bad
        | some d => (match o.guard with
          | none => agP d (run r) k H o.op
          | some (s, w) => agG d (run r) k H w o.op (k.get s)))
      cases hdd : o.dst with
      | none => trivial
      | some d =>
        rw [hdd] at hd
        have hd : has k.keys d = true := hd
        have hgo : (∀ cal, doIt cal (.again o) fr H = some (fr, H)) → RunOk n (.again o :: r) fr H (run r k H) := fun hs => RunOk.cons hs (Nat.le_refl _) (ih h2 hH F)
        have hP : (wanted k.fr o.guard = some true) → RunOk n (.again o :: r) fr H (agP d (run r) k H o.op) := by
          intro hw
          cases hop : o.op with
          | r p =>
            rw [hop] at hAp
            show RunOk n (.again o :: r) fr H (agV k H (run r) (k.get d) (evalR k.fr H p))
            cases he : evalR k.fr H p with
            | none => trivial
            | some v =>
              show RunOk n (.again o :: r) fr H (bif sameV v (k.get d) then run r k H else .bad)
              cases hs : sameV v (k.get d) with
              | false => trivial
              | true =>
                refine hgo fun cal => ?_
                show again o fr H = _
                unfold again
                rw [hop, hdd]
                simp only []
                rw [wanted_congr hAg, hw]
                simp only [cond_true]
                unfold againR
                rw [evalR_congr H hAp, he]
                simp only []
                rw [F.at_ d hd, hs]
                rfl
          | n p => trivial
          | e p => trivial
        have hno : (wanted k.fr o.guard = some false) → (∃ p, o.op = .r p) → ∀ cal, doIt cal (.again o) fr H = some (fr, H) := by
          intro hw ⟨p, hp⟩ cal
          show again o fr H = _
          unfold again
          rw [hp, hdd]
          simp only []
          rw [wanted_congr hAg, hw]
          rfl
        cases hg : o.guard with
        | none => exact hP (by rw [hg]; rfl)
        | some q =>
          obtain ⟨s, w⟩ := q
          have hw : wanted k.fr o.guard = (match k.get s with
            | .bool b => some (b == w)
            | .undef => none
            | _ => some false) := by rw [hg]; show (match k.fr.getD s .undef with | .bool b => _ | .undef => _ | _ => _) = _; rw [Kn.fr_get]
          show RunOk n (.again o :: r) fr H (agG d (run r) k H w o.op (k.get s))
          cases hop : o.op with
          | r p =>
            rw [hop] at hP
            cases hv : k.get s with
            | bool b =>
              rw [hv] at hw
              show RunOk n (.again o :: r) fr H (bif b == w then agV k H (run r) (k.get d) (evalR k.fr H p) else run r k H)
              cases hb : b == w with
              | true => exact hP (by rw [hw]; show some (b == w) = _; rw [hb])
              | false => exact hgo (hno (by rw [hw]; show some (b == w) = _; rw [hb]) ⟨p, hop⟩)
            | undef => trivial
            | _ => exact hgo (hno (by rw [hw, hv]) ⟨p, hop⟩)
          | n p => trivial
          | e p => trivial
end

end Go.Dp
namespace Go.Dp

def Eo (L : Lib) (f : Nat) (args : List AV) (H : Heap) (Q : AV → Heap → Prop) : Prop := H.Ok → Ev L f args H fun v H' => H'.Ok ∧ H.next ≤ H'.next ∧ Q v H'
def Xr (L : Lib) (n : Nat) (its : List It) (k : Kn) (H : Heap) (K : Kn → Heap → Prop) : Prop :=
  H.Ok → ∀ fr, Fits n k fr → Xs L its fr H fun fr' H' => H'.Ok ∧ H.next ≤ H'.next ∧ ∃ k', Fits n k' fr' ∧ K k' H'
structure Xk (L : Lib) (n : Nat) (c : PC) (k : Kn) (H : Heap) (Q : Ex → Kn → Heap → Prop) : Prop where
  go : H.Ok → ∀ fr, Fits n k fr → Xc L c fr H fun ex fr' H' => H'.Ok ∧ H.next ≤ H'.next ∧ ∃ k', Fits n k' fr' ∧ Q ex k' H'

def Ex.thnK (K : Kn → Heap → Prop) (Q : Ex → Kn → Heap → Prop) : Ex → Kn → Heap → Prop
  | .normal, k, H => K k H
  | e, k, H => Q e k H
def Ex.inK (id : Nat) (Q : Ex → Kn → Heap → Prop) : Ex → Kn → Heap → Prop
  | .exit j, k, H => bif Nat.beq j id then Q .normal k H else Q (.exit j) k H
  | e, k, H => Q e k H

section
variable {L : Lib} {n : Nat} {k : Kn} {H : Heap} {Q : Ex → Kn → Heap → Prop}

theorem Eo.ok {f : Nat} {args : List AV} {Q : AV → Heap → Prop} (h : H.Ok → Eo L f args H Q) : Eo L f args H Q := fun hH => h hH hH
theorem Xk.mono {c : PC} {Q' : Ex → Kn → Heap → Prop} (h : Xk L n c k H Q) (hq : ∀ e k' H', H'.Ok → H.next ≤ H'.next → Q e k' H' → Q' e k' H') : Xk L n c k H Q' :=
  ⟨fun hH fr F => (h.go hH fr F).mono fun e fr' H' ⟨a, b, k', c, d⟩ => ⟨a, b, k', c, hq e k' H' a b d⟩⟩

theorem Xk.only {c : PC} (l : List Nat) (hl : l.all (has k.keys) = true) (h : Xk L n c (k.only l) H Q) : Xk L n c k H Q := ⟨fun hH fr F => h.go hH fr (F.only hl)⟩

theorem Xr.done {its : List It} {K : Kn → Heap → Prop} {k' : Kn} {H' : Heap} (hok : okR n its k.keys = true) (h : ∀ C : KR → Prop, C (.done k' H') → C (run its k H)) (hK : K k' H') : Xr L n its k H K := by
  intro hH fr F
  have e : run its k H = .done k' H' := h (fun r => r = .done k' H') rfl
  have h := run_ok its hok hH F
  rw [e] at h
  obtain ⟨fr', h1, h2, h3, h4⟩ := h
  exact Xs.all (h1 _) ⟨h2, h3, k', h4, hK⟩
theorem Xk.reg {its : List It} (h : Xr L n its k H (Q .normal)) : Xk L n (.region its) k H Q := ⟨fun hH fr F => Xc.region (h hH fr F)⟩
theorem Xk.skip (h : Q .normal k H) : Xk L n .skip k H Q := ⟨fun hH _ F => Xc.skip ⟨hH, Nat.le_refl _, k, F, h⟩⟩
theorem Xk.exit {id : Nat} (h : Q (.exit id) k H) : Xk L n (.exit id) k H Q := ⟨fun hH _ F => Xc.exit ⟨hH, Nat.le_refl _, k, F, h⟩⟩
theorem Xk.ret (h : Q .ret k H) : Xk L n .ret k H Q := ⟨fun hH _ F => Xc.ret ⟨hH, Nat.le_refl _, k, F, h⟩⟩
theorem Xk.scope {b : PC} (h : Xk L n b k H Q) : Xk L n (.scope b) k H Q := ⟨h.go⟩
theorem Xk.seq {a b : PC} (h : Xk L n a k H (Ex.thnK (fun k' H' => Xk L n b k' H' Q) Q)) : Xk L n (.seq a b) k H Q := by
  constructor
  intro hH fr F
  refine Xc.seq ((h.go hH fr F).mono fun ex fr' H' ⟨h1, h2, k', h3, h4⟩ => ?_)
  cases ex with
  | normal =>
    have h4 : Xk L n b k' H' Q := h4
    exact (h4.go h1 fr' h3).mono fun e fr2 H2 ⟨a, b, c⟩ => ⟨a, Nat.le_trans h2 b, c⟩
  | exit id => exact ⟨h1, h2, k', h3, h4⟩
  | ret => exact ⟨h1, h2, k', h3, h4⟩
def X.kv (k : Kn) : X → AV
  | .t i => k.get i
  | .c v => v
theorem X.kev {x : X} {fr : List AV} (F : Fits n k fr) (h : x.tm.all (has k.keys) = true) : x.ev fr = x.kv k := by
  rw [Ag.x (F.ag h)]
  cases x with
  | t i => exact Kn.fr_get k i
  | c v => rfl
theorem Xk.cond {x : X} {a b : PC} {t : Bool} (hx : x.kv k = .bool t) (hk : x.tm.all (has k.keys) = true) (h1 : t = true → Xk L n a k H Q) (h2 : t = false → Xk L n b k H Q) : Xk L n (.cond x a b) k H Q :=
  ⟨fun hH fr F => Xc.cond (t := t) (by rw [X.kev F hk]; exact hx) (fun e => (h1 e).go hH fr F) (fun e => (h2 e).go hH fr F)⟩
theorem Xk.block {id : Nat} {b : PC} (h : Xk L n b k H (Ex.inK id Q)) : Xk L n (.block id b) k H Q := by
  constructor
  intro hH fr F
  refine Xc.block ((h.go hH fr F).mono fun ex fr' H' ⟨h1, h2, k', h3, h4⟩ => ?_)
  cases ex with
  | normal => exact ⟨h1, h2, k', h3, h4⟩
  | ret => exact ⟨h1, h2, k', h3, h4⟩
  | exit j =>
    have h4 : (bif Nat.beq j id then Q .normal k' H' else Q (.exit j) k' H') := h4
    show (if j = id then _ else _)
    rw [nbeq] at h4
    by_cases e : j = id
    · rw [if_pos e]; rw [decide_eq_true e] at h4; exact ⟨h1, h2, k', h3, h4⟩
    · rw [if_neg e]; rw [decide_eq_false e] at h4; exact ⟨h1, h2, k', h3, h4⟩
theorem Xk.loop {b : PC} (h : Xk L n b k H (Ex.thnK (fun k' H' => Xk L n (.loop b) k' H' Q) Q)) : Xk L n (.loop b) k H Q := by
  constructor
  intro hH fr F
  refine Xc.loop ((h.go hH fr F).mono fun ex fr' H' ⟨h1, h2, k', h3, h4⟩ => ?_)
  cases ex with
  | normal =>
    have h4 : Xk L n (.loop b) k' H' Q := h4
    exact (h4.go h1 fr' h3).mono fun e fr2 H2 ⟨a, b, c⟩ => ⟨a, Nat.le_trans h2 b, c⟩
  | exit id => exact ⟨h1, h2, k', h3, h4⟩
  | ret => exact ⟨h1, h2, k', h3, h4⟩

-- heads
theorem Xk.assoc {a b c : PC} (h : Xk L n (.seq a (.seq b c)) k H Q) : Xk L n (.seq (.seq a b) c) k H Q := by
  constructor
  intro hH fr F
  obtain ⟨m, ex, fr', H', e, r⟩ := h.go hH fr F
  refine ⟨m, ex, fr', H', ?_, r⟩
  rw [exec_seq, exec_seq] at e ⊢
  unfold dSeq at e ⊢
  cases hx : exec (call L m) m a fr H with
  | none => rw [hx] at e; cases e
  | some q =>
    obtain ⟨ex1, fr1, H1⟩ := q
    rw [hx] at e
    cases ex1 <;> exact e
theorem Xk.sSkip {b : PC} (h : Xk L n b k H Q) : Xk L n (.seq .skip b) k H Q := Xk.seq (Xk.skip h)
theorem Xk.sRet {b : PC} (h : Q .ret k H) : Xk L n (.seq .ret b) k H Q := Xk.seq (Xk.ret h)
theorem Xk.sExit {b : PC} {id : Nat} (h : Q (.exit id) k H) : Xk L n (.seq (.exit id) b) k H Q := Xk.seq (Xk.exit h)
theorem Xk.sScope {a b : PC} (h : Xk L n (.seq a b) k H Q) : Xk L n (.seq (.scope a) b) k H Q := ⟨h.go⟩
theorem Xk.sReg {its : List It} {b : PC} (h : Xr L n its k H fun k' H' => Xk L n b k' H' Q) : Xk L n (.seq (.region its) b) k H Q := Xk.seq (Xk.reg h)
theorem Xk.sRun {its : List It} {b : PC} {k' : Kn} {H' : Heap} (hok : okR n its k.keys = true) (h : ∀ C : KR → Prop, C (.done k' H') → C (run its k H)) (hK : Xk L n b k' H' Q) : Xk L n (.seq (.region its) b) k H Q :=
  Xk.sReg (Xr.done hok h hK)
theorem Xk.sCall {its : List It} {b : PC} {f : Nat} {args : List AV} {d : Option Nat} {rest : List It} {k' : Kn} {H' : Heap} (hok : okR n its k.keys = true) (h : ∀ C : KR → Prop, C (.call f args d rest k' H') → C (run its k H))
    (hE : Eo L f args H' fun v H'' => Xk L n (.seq (.region rest) b) (kput k' d v) H'' Q) : Xk L n (.seq (.region its) b) k H Q := by
  constructor
  intro hH fr F
  have e : run its k H = .call f args d rest k' H' := h (fun r => r = .call f args d rest k' H') rfl
  have h := run_ok its hok hH F
  rw [e] at h
  obtain ⟨h1, h2, h3, fr', h4, h5⟩ := h
  obtain ⟨m, v, H2, e1, e2, e3, e4⟩ := hE h1
  obtain ⟨m', ex, fr2, H3, e5, e6, e7, k2, e8, e9⟩ := e4.go e2 _ (h4.put h3 v)
  refine ⟨max m m', ex, fr2, H3, ?_, e6, by omega, k2, e8, e9⟩
  have e5' := exec_le (call_le L (Nat.le_max_right m m')) (Nat.le_max_right m m') _ _ _ _ e5
  have e6' := h5 (Dp.call L (max m m')) v H2 (call_le L (Nat.le_max_left m m') _ _ _ _ e1)
  rw [exec_seq, exec_region] at e5' ⊢
  unfold dSeq dReg at e5' ⊢
  rw [e6']
  exact e5'
theorem Xk.tCall {its : List It} {f : Nat} {args : List AV} {d : Option Nat} {rest : List It} {k' : Kn} {H' : Heap} (hok : okR n its k.keys = true) (h : ∀ C : KR → Prop, C (.call f args d rest k' H') → C (run its k H))
    (hE : Eo L f args H' fun v H'' => Xk L n (.region rest) (kput k' d v) H'' Q) : Xk L n (.region its) k H Q := by
  constructor
  intro hH fr F
  have e : run its k H = .call f args d rest k' H' := h (fun r => r = .call f args d rest k' H') rfl
  have h := run_ok its hok hH F
  rw [e] at h
  obtain ⟨h1, h2, h3, fr', h4, h5⟩ := h
  obtain ⟨m, v, H2, e1, e2, e3, e4⟩ := hE h1
  obtain ⟨m', ex, fr2, H3, e5, e6, e7, k2, e8, e9⟩ := e4.go e2 _ (h4.put h3 v)
  refine ⟨max m m', ex, fr2, H3, ?_, e6, by omega, k2, e8, e9⟩
  have e5' := exec_le (call_le L (Nat.le_max_right m m')) (Nat.le_max_right m m') _ _ _ _ e5
  have e6' := h5 (Dp.call L (max m m')) v H2 (call_le L (Nat.le_max_left m m') _ _ _ _ e1)
  rw [exec_region] at e5' ⊢
  unfold dReg at e5' ⊢
  rw [e6']
  exact e5'
theorem Xk.sCond {x : X} {a b c : PC} {t : Bool} (hx : x.kv k = .bool t) (hk : x.tm.all (has k.keys) = true) (h1 : t = true → Xk L n (.seq a c) k H Q) (h2 : t = false → Xk L n (.seq b c) k H Q) : Xk L n (.seq (.cond x a b) c) k H Q := by
  constructor
  intro hH fr F
  have hx' : x.ev fr = .bool t := by rw [X.kev F hk]; exact hx
  cases t with
  | true =>
    obtain ⟨m, ex, fr', H', e, r⟩ := (h1 rfl).go hH fr F
    refine ⟨m, ex, fr', H', ?_, r⟩
    rw [exec_seq, exec_cond] at *
    unfold dSeq dCond at *
    rw [hx']
    exact e
  | false =>
    obtain ⟨m, ex, fr', H', e, r⟩ := (h2 rfl).go hH fr F
    refine ⟨m, ex, fr', H', ?_, r⟩
    rw [exec_seq, exec_cond] at *
    unfold dSeq dCond at *
    rw [hx']
    exact e
theorem Xk.sBlock {id : Nat} {a b : PC} (h : Xk L n a k H (Ex.inK id (Ex.thnK (fun k' H' => Xk L n b k' H' Q) Q))) : Xk L n (.seq (.block id a) b) k H Q := Xk.seq (Xk.block h)

---------------------------------------------------------------- a function

def argsK : Nat → List AV → Kn
  | _, [] => []
  | i, a :: r => (i, a) :: argsK (i + 1) r

theorem argsK_keys : ∀ (i : Nat) (l : List AV) (j : Nat), has (argsK i l).keys j = true → i ≤ j ∧ j < i + l.length
  | i, [], j, h => by cases h
  | i, a :: r, j, h => by
    rw [has_iff] at h
    rcases List.mem_cons.1 h with h | h
    · have h : j = i := h
      subst h; simp
    · have := argsK_keys (i + 1) r j (has_iff.2 h)
      simp only [List.length_cons]; omega
theorem argsK_get : ∀ (i : Nat) (l : List AV) (j : Nat), i ≤ j → (argsK i l).get j = l.getD (j - i) .undef
  | i, [], j, h => by simp [argsK, Kn.get]
  | i, a :: r, j, h => by
    show (if j = i then a else (argsK (i + 1) r).get j) = _
    by_cases e : j = i
    · subst e; simp
    · rw [if_neg e, argsK_get (i + 1) r j (by omega)]
      have : j - i = (j - (i + 1)) + 1 := by omega
      rw [this, List.getD_cons_succ]

theorem fits_enter {pf : PF} {args : List AV} (h : Nat.ble args.length pf.ntmps = true) : Fits pf.ntmps (argsK 0 args) (enter pf args) := by
  rw [nble] at h
  have h : args.length ≤ pf.ntmps := by simpa using h
  refine ⟨by unfold enter; rw [List.length_append, List.length_replicate]; omega, fun i hi => ?_⟩
  have hk := argsK_keys 0 args i hi
  rw [argsK_get 0 args i (by omega)]
  unfold enter
  simp only [List.getD_eq_getElem?_getD]
  rw [List.getElem?_append_left (by omega)]
  rfl

def PRes.at_ : PRes → Nat
  | .tmp t => t
  | .cell t _ _ => t
def okRes (rs : List PRes) (ks : List Nat) : Bool := rs.all fun r => has ks r.at_

def resK (k : Kn) (H : Heap) : PRes → Option AV
  | .tmp t => some (k.get t)
  | .cell t agg n => rLoad H agg n (k.get t)
def resKs (k : Kn) (H : Heap) : List PRes → Option (List AV)
  | [] => some []
  | r :: rs => match resK k H r, resKs k H rs with
    | some v, some vs => some (v :: vs)
    | _, _ => none
theorem resList_k {fr : List AV} (F : Fits n k fr) : ∀ {rs : List PRes}, okRes rs k.keys = true → resList fr H rs = resKs k H rs
  | [], _ => rfl
  | r :: rs, h => by
    simp only [okRes, List.all_cons, Bool.and_eq_true] at h
    have e : resOf fr H r = resK k H r := by
      have := F.at_ r.at_ h.1
      cases r with
      | tmp t => exact congrArg some this
      | cell t g m => exact congrArg (rLoad H g m) this
    simp only [resList, resKs, e, resList_k F (rs := rs) h.2]
    cases resK k H r <;> cases resKs k H rs <;> rfl

def Ret (rs : List PRes) (Q : AV → Heap → Prop) : Ex → Kn → Heap → Prop
  | .exit _, _, _ => False
  | _, k, H => okRes rs k.keys = true ∧ ∃ vs v, resKs k H rs = some vs ∧ resV vs = some v ∧ Q v H

theorem Ret.ret {rs : List PRes} {Q : AV → Heap → Prop} {vs : List AV} {v : AV} (h1 : okRes rs k.keys = true) (h2 : resKs k H rs = some vs) (h3 : resV vs = some v) (h4 : Q v H) : Ret rs Q .ret k H := ⟨h1, vs, v, h2, h3, h4⟩
theorem Ret.normal {rs : List PRes} {Q : AV → Heap → Prop} {vs : List AV} {v : AV} (h1 : okRes rs k.keys = true) (h2 : resKs k H rs = some vs) (h3 : resV vs = some v) (h4 : Q v H) : Ret rs Q .normal k H := ⟨h1, vs, v, h2, h3, h4⟩

theorem Eo.code {f : Nat} {pf : PF} {args : List AV} {Q : AV → Heap → Prop} (hf : L f = some (.code pf)) (hn : Nat.ble args.length pf.ntmps = true) (h : Xk L pf.ntmps pf.body (argsK 0 args) H (Ret pf.results Q)) : Eo L f args H Q := by
  intro hH
  refine Ev.code hf ((h.go hH _ (fits_enter hn)).mono fun ex fr' H' ⟨h1, h2, k', h3, h4⟩ => ?_)
  cases ex with
  | exit id => exact h4.elim
  | normal =>
    obtain ⟨a, vs, v, b, c, d⟩ := h4
    exact ⟨fun _ e => (by cases e), vs, v, (by rw [resList_k h3 a]; exact b), c, h1, h2, d⟩
  | ret =>
    obtain ⟨a, vs, v, b, c, d⟩ := h4
    exact ⟨fun _ e => (by cases e), vs, v, (by rw [resList_k h3 a]; exact b), c, h1, h2, d⟩
end

end Go.Dp
namespace Go.Dp

theorem addn_i64 (a b : Nat) (h : a + b < 9223372036854775808) : bin .add (.int .i64 (.ofNat a)) (.int .i64 (.ofNat b)) = some (.int .i64 (.ofNat (a + b))) := by
  show some (AV.int .i64 (wr .i64 (.ofNat (a + b)))) = _
  have : Nat.blt (a + b) (lim .i64) = true := by rw [nblt]; exact decide_eq_true h
  simp only [wr, this, cond_true]
theorem addn_u64 (a b : Nat) (h : a + b < 18446744073709551616) : bin .add (.int .u64 (.ofNat a)) (.int .u64 (.ofNat b)) = some (.int .u64 (.ofNat (a + b))) := by
  show some (AV.int .u64 (wr .u64 (.ofNat (a + b)))) = _
  have : Nat.blt (a + b) (lim .u64) = true := by rw [nblt]; exact decide_eq_true h
  simp only [wr, this, cond_true]
theorem addn_u8 (a b : Nat) (h : a + b < 256) : bin .add (.int .u8 (.ofNat a)) (.int .u8 (.ofNat b)) = some (.int .u8 (.ofNat (a + b))) := by
  show some (AV.int .u8 (wr .u8 (.ofNat (a + b)))) = _
  have : Nat.blt (a + b) (lim .u8) = true := by rw [nblt]; exact decide_eq_true h
  simp only [wr, this, cond_true]
theorem muln_i64 (a b : Nat) (h : a * b < 9223372036854775808) : bin .mul (.int .i64 (.ofNat a)) (.int .i64 (.ofNat b)) = some (.int .i64 (.ofNat (a * b))) := by
  show some (AV.int .i64 (wr .i64 (.ofNat (a * b)))) = _
  have : Nat.blt (a * b) (lim .i64) = true := by rw [nblt]; exact decide_eq_true h
  simp only [wr, this, cond_true]
theorem muln_u64 (a b : Nat) (h : a * b < 18446744073709551616) : bin .mul (.int .u64 (.ofNat a)) (.int .u64 (.ofNat b)) = some (.int .u64 (.ofNat (a * b))) := by
  show some (AV.int .u64 (wr .u64 (.ofNat (a * b)))) = _
  have : Nat.blt (a * b) (lim .u64) = true := by rw [nblt]; exact decide_eq_true h
  simp only [wr, this, cond_true]
theorem ofNat_sub {a b : Nat} (h : b ≤ a) : Int.ofNat a - Int.ofNat b = Int.ofNat (a - b) := by
  show (a : Int) - (b : Int) = ((a - b : Nat) : Int); omega
theorem subn (k : IntKind) (a b : Nat) (h : b ≤ a) (h2 : Nat.blt (a - b) (lim k) = true) : bin .sub (.int k (.ofNat a)) (.int k (.ofNat b)) = some (.int k (.ofNat (a - b))) := by
  have : bin .sub (.int k (.ofNat a)) (.int k (.ofNat b)) = some (AV.int k (wr k (Int.ofNat a - Int.ofNat b))) := by
    show binII .sub k (.ofNat a) k (.ofNat b) = _
    simp only [binII, kbeq_eq, decide_true, cond_true, binInt]
  rw [this, ofNat_sub h]
  simp only [wr, h2, cond_true]
theorem subn_i64 (a b : Nat) (h : b ≤ a) (h2 : a - b < 9223372036854775808) : bin .sub (.int .i64 (.ofNat a)) (.int .i64 (.ofNat b)) = some (.int .i64 (.ofNat (a - b))) := subn _ _ _ h (by rw [nblt]; exact decide_eq_true h2)
theorem subn_u64 (a b : Nat) (h : b ≤ a) (h2 : a - b < 18446744073709551616) : bin .sub (.int .u64 (.ofNat a)) (.int .u64 (.ofNat b)) = some (.int .u64 (.ofNat (a - b))) := subn _ _ _ h (by rw [nblt]; exact decide_eq_true h2)
theorem subn_u8 (a b : Nat) (h : b ≤ a) (h2 : a - b < 256) : bin .sub (.int .u8 (.ofNat a)) (.int .u8 (.ofNat b)) = some (.int .u8 (.ofNat (a - b))) := subn _ _ _ h (by rw [nblt]; exact decide_eq_true h2)
theorem wrn_u64 (a : Nat) (h : a < 18446744073709551616) : wr .u64 (.ofNat a) = .ofNat a := by
  have : Nat.blt a (lim .u64) = true := by rw [nblt]; exact decide_eq_true h
  simp only [wr, this, cond_true]
theorem wrn_i64 (a : Nat) (h : a < 9223372036854775808) : wr .i64 (.ofNat a) = .ofNat a := by
  have : Nat.blt a (lim .i64) = true := by rw [nblt]; exact decide_eq_true h
  simp only [wr, this, cond_true]
theorem wrn_u8 (a : Nat) (h : a < 256) : wr .u8 (.ofNat a) = .ofNat a := by
  have : Nat.blt a (lim .u8) = true := by rw [nblt]; exact decide_eq_true h
  simp only [wr, this, cond_true]
theorem cint_u64 (j : IntKind) (a : Nat) (h : a < 18446744073709551616) : rCint .u64 (.int j (.ofNat a)) = some (.int .u64 (.ofNat a)) := by
  show some (AV.int .u64 (wr .u64 (.ofNat a))) = _; rw [wrn_u64 a h]
theorem cint_i64 (j : IntKind) (a : Nat) (h : a < 9223372036854775808) : rCint .i64 (.int j (.ofNat a)) = some (.int .i64 (.ofNat a)) := by
  show some (AV.int .i64 (wr .i64 (.ofNat a))) = _; rw [wrn_i64 a h]
theorem cint_u8 (j : IntKind) (a : Nat) (h : a < 256) : rCint .u8 (.int j (.ofNat a)) = some (.int .u8 (.ofNat a)) := by
  show some (AV.int .u8 (wr .u8 (.ofNat a))) = _; rw [wrn_u8 a h]
theorem quon (k : IntKind) (a b : Nat) (h : 0 < b) (hl : Nat.blt (a / b) (lim k) = true) : bin .quo (.int k (.ofNat a)) (.int k (.ofNat b)) = some (.int k (.ofNat (a / b))) := by
  have h0 : ibeq (Int.ofNat b) 0 = false := by rw [ibeq_eq]; simp; omega
  show binII .quo k (.ofNat a) k (.ofNat b) = _
  simp only [binII, kbeq_eq, decide_true, cond_true, binInt, h0, cond_false]
  show some (AV.int k (wr k (.ofNat (a / b)))) = _
  simp only [wr, hl, cond_true]
theorem quon_u64 (a b : Nat) (h : 0 < b) (hl : a / b < 18446744073709551616) : bin .quo (.int .u64 (.ofNat a)) (.int .u64 (.ofNat b)) = some (.int .u64 (.ofNat (a / b))) := quon _ _ _ h (by rw [nblt]; exact decide_eq_true hl)
theorem quon_i64 (a b : Nat) (h : 0 < b) (hl : a / b < 9223372036854775808) : bin .quo (.int .i64 (.ofNat a)) (.int .i64 (.ofNat b)) = some (.int .i64 (.ofNat (a / b))) := quon _ _ _ h (by rw [nblt]; exact decide_eq_true hl)
theorem remn (k : IntKind) (a b : Nat) (h : 0 < b) : bin .rem (.int k (.ofNat a)) (.int k (.ofNat b)) = some (.int k (.ofNat (a % b))) := by
  have h0 : ibeq (Int.ofNat b) 0 = false := by rw [ibeq_eq]; simp; omega
  show binII .rem k (.ofNat a) k (.ofNat b) = _
  simp only [binII, kbeq_eq, decide_true, cond_true, binInt, h0, cond_false]
  rfl

theorem lssi (k : IntKind) (a b : Int) : bin .lss (.int k a) (.int k b) = some (.bool (decide (a < b))) := by
  show binII .lss k a k b = _
  simp only [binII, kbeq_eq, decide_true, cond_true, binInt, ible_eq]
  congr 2
  by_cases h : a < b
  · simp [h, Int.not_le.2 h]
  · simp [h, Int.not_lt.1 h]
theorem leqi (k : IntKind) (a b : Int) : bin .leq (.int k a) (.int k b) = some (.bool (decide (a ≤ b))) := by
  show binII .leq k a k b = _
  simp only [binII, kbeq_eq, decide_true, cond_true, binInt, ible_eq]
theorem gtri (k : IntKind) (a b : Int) : bin .gtr (.int k a) (.int k b) = some (.bool (decide (b < a))) := by
  show binII .gtr k a k b = _
  simp only [binII, kbeq_eq, decide_true, cond_true, binInt, ible_eq]
  congr 2
  by_cases h : b < a
  · simp [h, Int.not_le.2 h]
  · simp [h, Int.not_lt.1 h]
theorem geqi (k : IntKind) (a b : Int) : bin .geq (.int k a) (.int k b) = some (.bool (decide (b ≤ a))) := by
  show binII .geq k a k b = _
  simp only [binII, kbeq_eq, decide_true, cond_true, binInt, ible_eq]
theorem eqli (k : IntKind) (a b : Int) : bin .eql (.int k a) (.int k b) = some (.bool (decide (a = b))) := by
  show binII .eql k a k b = _
  simp only [binII, kbeq_eq, decide_true, cond_true, binInt, ibeq_eq]
  rfl
theorem neqi (k : IntKind) (a b : Int) : bin .neq (.int k a) (.int k b) = some (.bool (!decide (a = b))) := by
  show binII .neq k a k b = _
  simp only [binII, kbeq_eq, decide_true, cond_true, binInt, ibeq_eq]
  rfl
theorem nat_lt (a b : Nat) : (Int.ofNat a < Int.ofNat b) = (a < b) := by
  rw [eq_iff_iff]; show (a : Int) < b ↔ _; omega
theorem nat_le (a b : Nat) : (Int.ofNat a ≤ Int.ofNat b) = (a ≤ b) := by
  rw [eq_iff_iff]; show (a : Int) ≤ b ↔ _; omega
theorem nat_eq (a b : Nat) : (Int.ofNat a = Int.ofNat b) = (a = b) := by
  rw [eq_iff_iff]; show (a : Int) = b ↔ _; omega
theorem beqd (a b : List UInt8) : (a == b) = decide (a = b) := by
  rw [Bool.eq_iff_iff, beq_iff_eq, decide_eq_true_iff]
theorem eqls (a b : List UInt8) : bin .eql (.str a) (.str b) = some (.bool (decide (a = b))) := by
  show some (AV.bool (beqB a b)) = _
  rw [beqB_eq, beqd]
theorem neqs (a b : List UInt8) : bin .neq (.str a) (.str b) = some (.bool (!decide (a = b))) := by
  show some (AV.bool (!beqB a b)) = _
  rw [beqB_eq, beqd]
theorem adds (a b : List UInt8) (h : a.length + b.length ≤ 4611686018427387904) : bin .add (.str a) (.str b) = some (.str (a ++ b)) := by
  show (bif Nat.ble (a.length + b.length) 4611686018427387904 then _ else _) = _
  rw [nble, decide_eq_true h]; rfl
theorem ixs (s : List UInt8) (k : IntKind) (j : Nat) (h : j < s.length) : rIxstr (.str s) (.int k (.ofNat j)) = some (.int .u8 (.ofNat (s.getD j 0).toNat)) := by
  have hb : Nat.blt j s.length = true := by rw [nblt]; simpa using h
  simp only [rIxstr, idx, natOf, hb, cond_true, List.getElem?_eq_getElem h, List.getD_eq_getElem?_getD, Option.getD_some]
theorem lens (s : List UInt8) : rLens (.str s) = some (.int .i64 (.ofNat s.length)) := rfl
theorem notb (b : Bool) : un .not (.bool b) = some (.bool !b) := rfl

theorem agV_same (k : Kn) (H : Heap) (r : List It) (v : AV) (h : sameV v v = true) : agV k H (run r) v (some v) = run r k H := by
  show (bif sameV v v then run r k H else .bad) = _
  rw [h]; rfl
theorem agV_sl (k : Kn) (H : Heap) (r : List It) (b o l s : Nat) : agV k H (run r) (.sl b o l s) (some (.sl b o l s)) = run r k H := agV_same _ _ _ _ (by simp [sameV, sameAV, nbeq])
theorem agV_ptr (k : Kn) (H : Heap) (r : List It) (b o : Nat) : agV k H (run r) (.ptr b o) (some (.ptr b o)) = run r k H := agV_same _ _ _ _ (by simp [sameV, sameAV, nbeq])
theorem agV_str (k : Kn) (H : Heap) (r : List It) (s : List UInt8) : agV k H (run r) (.str s) (some (.str s)) = run r k H := agV_same _ _ _ _ (by simp [sameV, sameAV, beqB_eq])
theorem agV_int (k : Kn) (H : Heap) (r : List It) (j : IntKind) (n : Int) : agV k H (run r) (.int j n) (some (.int j n)) = run r k H := agV_same _ _ _ _ (by simp [sameV, sameAV, kbeq_eq, ibeq_eq])
theorem agV_bool (k : Kn) (H : Heap) (r : List It) (b : Bool) : agV k H (run r) (.bool b) (some (.bool b)) = run r k H := agV_same _ _ _ _ (by simp [sameV, sameAV])
theorem wq :
    (∀ k H, run [] k H = .done k H) ∧
    (∀ d p r k H, run (.op ⟨d, none, .r p⟩ :: r) k H = thenV d k (run r) (withH H (evalR k.fr H p))) ∧
    (∀ d p r k H, run (.op ⟨d, none, .n p⟩ :: r) k H = thenV d k (run r) (made H (evalN k.fr p))) ∧
    (∀ d n a v r k H, run (.op ⟨d, none, .e (.store n a v)⟩ :: r) k H = thenV d k (run r) (eStore H n (a.ev k.fr) (v.ev k.fr).cells)) ∧
    (∀ d s m x v r k H, run (.op ⟨d, none, .e (.mupd s m x v)⟩ :: r) k H = thenV d k (run r) (eMupd H s (m.ev k.fr) (x.ev k.fr) (v.ev k.fr))) ∧
    (∀ d s z m x r k H, run (.op ⟨d, none, .e (.ment s z m x)⟩ :: r) k H = thenV d k (run r) (eMent H s z (m.ev k.fr) (x.ev k.fr))) ∧
    (∀ d m x v r k H, run (.op ⟨d, none, .e (.mest m x v)⟩ :: r) k H = thenV d k (run r) (eMest H (m.ev k.fr) (x.ev k.fr) (v.ev k.fr))) ∧
    (∀ d s m x r k H, run (.op ⟨d, none, .e (.mdel s m x)⟩ :: r) k H = thenV d k (run r) (eMdel H s (m.ev k.fr) (x.ev k.fr))) ∧
    (∀ d w sz b s x r k H, run (.op ⟨d, none, .e (.app w sz b s x)⟩ :: r) k H = thenV d k (run r) (evalApp w sz b H (s.ev k.fr) (x.ev k.fr))) ∧
    (∀ d sz a b r k H, run (.op ⟨d, none, .e (.copy sz a b)⟩ :: r) k H = thenV d k (run r) (eCopy H sz (a.ev k.fr) (b.ev k.fr))) ∧
    (∀ d z a r k H, run (.op ⟨d, none, .e (.clear z a)⟩ :: r) k H = thenV d k (run r) (eClear H z (a.ev k.fr))) ∧
    (∀ d a b r k H, run (.op ⟨d, none, .e (.ustr a b)⟩ :: r) k H = thenV d k (run r) (eUstr' H (a.ev k.fr) (b.ev k.fr))) ∧
    (∀ d f xs r k H, run (.op ⟨d, none, .e (.call f xs)⟩ :: r) k H = .call f (xs.map (X.ev k.fr)) d r k H) ∧
    (∀ d f xs r k H, run (.op ⟨d, none, .e (.callv f xs)⟩ :: r) k H = runF d r k H (xs.map (X.ev k.fr)) (f.ev k.fr)) ∧
    (∀ d s w p r k H, run (.op ⟨d, some (s, w), p⟩ :: r) k H = runG d r (run r) k H w p (k.get s)) ∧
    (∀ d r k H p, runG d r (run r) k H true p (.bool true) = run (.op ⟨d, none, p⟩ :: r) k H) ∧
    (∀ d r k H p, runG d r (run r) k H false p (.bool false) = run (.op ⟨d, none, p⟩ :: r) k H) ∧
    (∀ d r k H p, runG d r (run r) k H true p (.bool false) = run r (kput k d (.tup [])) H) ∧
    (∀ d r k H p, runG d r (run r) k H false p (.bool true) = run r (kput k d (.tup [])) H) ∧
    (∀ d a r k H, run (.op ⟨d, none, .e (.mark a)⟩ :: r) k H = thenV d k (run r) (eMark H (a.ev k.fr))) ∧
    (∀ d r k H w p l, runG d r (run r) k H w p (.tup l) = run r (kput k d (.tup [])) H) ∧
    (∀ d p r k H, run (.again ⟨some d, none, .r p⟩ :: r) k H = agV k H (run r) (k.get d) (evalR k.fr H p)) ∧
    (∀ d s w p r k H, run (.again ⟨some d, some (s, w), p⟩ :: r) k H = agG d (run r) k H w p (k.get s)) ∧
    (∀ d r k H p, agG d (run r) k H true (.r p) (.bool true) = agV k H (run r) (k.get d) (evalR k.fr H p)) ∧
    (∀ d r k H p, agG d (run r) k H false (.r p) (.bool false) = agV k H (run r) (k.get d) (evalR k.fr H p)) ∧
    (∀ d r k H p, agG d (run r) k H true (.r p) (.bool false) = run r k H) ∧
    (∀ d r k H p, agG d (run r) k H false (.r p) (.bool true) = run r k H) ∧
    (∀ k H r b o l s, agV k H (run r) (.sl b o l s) (some (.sl b o l s)) = run r k H) ∧
    (∀ k H r b o, agV k H (run r) (.ptr b o) (some (.ptr b o)) = run r k H) ∧
    (∀ k H r s, agV k H (run r) (.str s) (some (.str s)) = run r k H) ∧
    (∀ k H r j n, agV k H (run r) (.int j n) (some (.int j n)) = run r k H) ∧
    (∀ k H r b, agV k H (run r) (.bool b) (some (.bool b)) = run r k H) ∧
    (∀ k H r, agV k H (run r) .nils (some .nils) = run r k H) ∧
    (∀ d r k H xs f cs, runF d r k H xs (.fn f cs) = .call f (xs ++ cs) d r k H) ∧
    (∀ d k r v H, thenV d k (run r) (some (v, H)) = run r (kput k d v) H) ∧
    (∀ k d v, kput k (some d) v = (d, v) :: k) ∧
    (∀ k v, kput k none v = k) ∧
    (∀ H v, withH H (some v) = some (v, H)) ∧
    (∀ (H : Heap) b f, made H (some (b, f)) = some (f H.next, H.new b)) ∧
    (∀ (k : Kn) i, X.ev k.fr (.t i) = k.get i) ∧
    (∀ fr v, X.ev fr (.c v) = v) ∧
    (∀ (i j : Nat) v (r : Kn), Kn.get ((j, v) :: r) i = if i = j then v else Kn.get r i) ∧
    (∀ b : Bool, (b == true) = b) ∧ (∀ b : Bool, (b == false) = !b) ∧
    (∀ (α : Type) (a b : α), (bif true then a else b) = a) ∧ (∀ (α : Type) (a b : α), (bif false then a else b) = b) ∧
    ((!true) = false) ∧ ((!false) = true) ∧ (∀ i, argsK i [] = []) ∧ (∀ i a r, argsK i (a :: r) = (i, a) :: argsK (i + 1) r) ∧
    (∀ a b, rPick (.bool true) a b = some a) ∧ (∀ a b, rPick (.bool false) a b = some b) :=
  ⟨fun _ _ => rfl, fun _ _ _ _ _ => rfl, fun _ _ _ _ _ => rfl, fun _ _ _ _ _ _ _ => rfl, fun _ _ _ _ _ _ _ _ => rfl, fun _ _ _ _ _ _ _ _ => rfl, fun _ _ _ _ _ _ _ => rfl,
    fun _ _ _ _ _ _ _ => rfl, fun _ _ _ _ _ _ _ _ _ => rfl, fun _ _ _ _ _ _ _ => rfl, fun _ _ _ _ _ _ => rfl, fun _ _ _ _ _ _ => rfl, fun _ _ _ _ _ _ => rfl, fun _ _ _ _ _ _ => rfl,
    fun _ _ _ _ _ _ _ => rfl, fun _ _ _ _ _ => rfl, fun _ _ _ _ _ => rfl, fun _ _ _ _ _ => rfl, fun _ _ _ _ _ => rfl, fun _ _ _ _ _ => rfl, fun _ _ _ _ _ _ _ => rfl, fun _ _ _ _ _ => rfl, fun _ _ _ _ _ _ _ => rfl, fun _ _ _ _ _ => rfl, fun _ _ _ _ _ => rfl, fun _ _ _ _ _ => rfl, fun _ _ _ _ _ => rfl, agV_sl, agV_ptr, agV_str, agV_int, agV_bool, fun _ _ _ => rfl, fun _ _ _ _ _ _ _ => rfl, fun _ _ _ _ _ => rfl, fun _ _ _ => rfl, fun _ _ => rfl, fun _ _ => rfl, fun _ _ _ => rfl,
    X.ev_t, fun _ _ => rfl, fun _ _ _ _ => rfl, fun b => by cases b <;> rfl, fun b => by cases b <;> rfl, fun _ _ _ => rfl, fun _ _ _ => rfl, rfl, rfl, fun _ => rfl, fun _ _ _ => rfl, fun _ _ => rfl, fun _ _ => rfl⟩

theorem wv :
    (∀ a b : Nat, a + b < 9223372036854775808 → bin .add (.int .i64 (.ofNat a)) (.int .i64 (.ofNat b)) = some (.int .i64 (.ofNat (a + b)))) ∧
    (∀ a b : Nat, a + b < 18446744073709551616 → bin .add (.int .u64 (.ofNat a)) (.int .u64 (.ofNat b)) = some (.int .u64 (.ofNat (a + b)))) ∧
    (∀ a b : Nat, a + b < 256 → bin .add (.int .u8 (.ofNat a)) (.int .u8 (.ofNat b)) = some (.int .u8 (.ofNat (a + b)))) ∧
    (∀ a b : Nat, b ≤ a → a - b < 9223372036854775808 → bin .sub (.int .i64 (.ofNat a)) (.int .i64 (.ofNat b)) = some (.int .i64 (.ofNat (a - b)))) ∧
    (∀ a b : Nat, b ≤ a → a - b < 18446744073709551616 → bin .sub (.int .u64 (.ofNat a)) (.int .u64 (.ofNat b)) = some (.int .u64 (.ofNat (a - b)))) ∧
    (∀ a b : Nat, b ≤ a → a - b < 256 → bin .sub (.int .u8 (.ofNat a)) (.int .u8 (.ofNat b)) = some (.int .u8 (.ofNat (a - b)))) ∧
    (∀ a b : Nat, a * b < 9223372036854775808 → bin .mul (.int .i64 (.ofNat a)) (.int .i64 (.ofNat b)) = some (.int .i64 (.ofNat (a * b)))) ∧
    (∀ a b : Nat, a * b < 18446744073709551616 → bin .mul (.int .u64 (.ofNat a)) (.int .u64 (.ofNat b)) = some (.int .u64 (.ofNat (a * b)))) ∧
    (∀ a b : Nat, 0 < b → a / b < 18446744073709551616 → bin .quo (.int .u64 (.ofNat a)) (.int .u64 (.ofNat b)) = some (.int .u64 (.ofNat (a / b)))) ∧
    (∀ a b : Nat, 0 < b → a / b < 9223372036854775808 → bin .quo (.int .i64 (.ofNat a)) (.int .i64 (.ofNat b)) = some (.int .i64 (.ofNat (a / b)))) ∧
    (∀ (k : IntKind) (a b : Nat), 0 < b → bin .rem (.int k (.ofNat a)) (.int k (.ofNat b)) = some (.int k (.ofNat (a % b)))) ∧
    (∀ (j : IntKind) (a : Nat), a < 18446744073709551616 → rCint .u64 (.int j (.ofNat a)) = some (.int .u64 (.ofNat a))) ∧
    (∀ (j : IntKind) (a : Nat), a < 9223372036854775808 → rCint .i64 (.int j (.ofNat a)) = some (.int .i64 (.ofNat a))) ∧
    (∀ (j : IntKind) (a : Nat), a < 256 → rCint .u8 (.int j (.ofNat a)) = some (.int .u8 (.ofNat a))) ∧
    (∀ (k : IntKind) (a b : Int), bin .lss (.int k a) (.int k b) = some (.bool (decide (a < b)))) ∧
    (∀ (k : IntKind) (a b : Int), bin .leq (.int k a) (.int k b) = some (.bool (decide (a ≤ b)))) ∧
    (∀ (k : IntKind) (a b : Int), bin .gtr (.int k a) (.int k b) = some (.bool (decide (b < a)))) ∧
    (∀ (k : IntKind) (a b : Int), bin .geq (.int k a) (.int k b) = some (.bool (decide (b ≤ a)))) ∧
    (∀ (k : IntKind) (a b : Int), bin .eql (.int k a) (.int k b) = some (.bool (decide (a = b)))) ∧
    (∀ (k : IntKind) (a b : Int), bin .neq (.int k a) (.int k b) = some (.bool (!decide (a = b)))) ∧
    (∀ a b : Nat, (Int.ofNat a < Int.ofNat b) = (a < b)) ∧ (∀ a b : Nat, (Int.ofNat a ≤ Int.ofNat b) = (a ≤ b)) ∧ (∀ a b : Nat, (Int.ofNat a = Int.ofNat b) = (a = b)) ∧
    (∀ a b, bin .eql (.str a) (.str b) = some (.bool (decide (a = b)))) ∧ (∀ a b, bin .neq (.str a) (.str b) = some (.bool (!decide (a = b)))) ∧
    (∀ a b : List UInt8, a.length + b.length ≤ 4611686018427387904 → bin .add (.str a) (.str b) = some (.str (a ++ b))) ∧
    (∀ (s : List UInt8) (k : IntKind) (j : Nat), j < s.length → rIxstr (.str s) (.int k (.ofNat j)) = some (.int .u8 (.ofNat (s.getD j 0).toNat))) ∧
    (∀ s, rLens (.str s) = some (.int .i64 (.ofNat s.length))) ∧ (∀ b, un .not (.bool b) = some (.bool !b)) ∧
    (∀ b o l s, rLensl (.sl b o l s) = some (.int .i64 (.ofNat l))) ∧ (rLensl .nils = some (.int .i64 (.ofNat 0))) :=
  ⟨addn_i64, addn_u64, addn_u8, subn_i64, subn_u64, subn_u8, muln_i64, muln_u64, quon_u64, quon_i64, remn, cint_u64, cint_i64, cint_u8, lssi, leqi, gtri, geqi, eqli, neqi, nat_lt, nat_le, nat_eq, eqls, neqs, adds, ixs, lens, notb, fun _ _ _ _ => rfl, rfl⟩

section
variable {L : Lib} {n : Nat} {k : Kn} {H : Heap} {Q : Ex → Kn → Heap → Prop}
theorem Xk.sIf {x : X} {a b c : PC} {p : Prop} [Decidable p] (hx : x.kv k = .bool (decide p)) (hk : x.tm.all (has k.keys) = true) (h1 : p → Xk L n (.seq a c) k H Q) (h2 : ¬p → Xk L n (.seq b c) k H Q) : Xk L n (.seq (.cond x a b) c) k H Q :=
  Xk.sCond hx hk (fun h => h1 (of_decide_eq_true h)) (fun h => h2 (of_decide_eq_false h))
theorem Xk.if_ {x : X} {a b : PC} {p : Prop} [Decidable p] (hx : x.kv k = .bool (decide p)) (hk : x.tm.all (has k.keys) = true) (h1 : p → Xk L n a k H Q) (h2 : ¬p → Xk L n b k H Q) : Xk L n (.cond x a b) k H Q :=
  Xk.cond hx hk (fun h => h1 (of_decide_eq_true h)) (fun h => h2 (of_decide_eq_false h))
theorem Xk.sTrue {x : X} {a b c : PC} (hx : x.kv k = .bool true) (hk : x.tm.all (has k.keys) = true) (h1 : Xk L n (.seq a c) k H Q) : Xk L n (.seq (.cond x a b) c) k H Q :=
  Xk.sCond hx hk (fun _ => h1) (fun h => by cases h)
theorem Xk.sFalse {x : X} {a b c : PC} (hx : x.kv k = .bool false) (hk : x.tm.all (has k.keys) = true) (h1 : Xk L n (.seq b c) k H Q) : Xk L n (.seq (.cond x a b) c) k H Q :=
  Xk.sCond hx hk (fun h => by cases h) (fun _ => h1)
theorem Xk.true_ {x : X} {a b : PC} (hx : x.kv k = .bool true) (hk : x.tm.all (has k.keys) = true) (h1 : Xk L n a k H Q) : Xk L n (.cond x a b) k H Q :=
  Xk.cond hx hk (fun _ => h1) (fun h => by cases h)
theorem Xk.false_ {x : X} {a b : PC} (hx : x.kv k = .bool false) (hk : x.tm.all (has k.keys) = true) (h1 : Xk L n b k H Q) : Xk L n (.cond x a b) k H Q :=
  Xk.cond hx hk (fun h => by cases h) (fun _ => h1)
theorem Xk.run {its : List It} {k' : Kn} {H' : Heap} (hok : okR n its k.keys = true) (h : ∀ C : KR → Prop, C (.done k' H') → C (run its k H)) (hK : Q .normal k' H') : Xk L n (.region its) k H Q :=
  Xk.reg (Xr.done hok h hK)
theorem Xk.iter {b : PC} (l : List Nat) (I : Nat → Kn → Heap → Prop) (hl : l.all (has k.keys) = true) (h0 : ∃ m, I m (k.only l) H)
    (step : ∀ m k H, I m k H → Xk L n b k H (Ex.thnK (fun k' H' => l.all (has k'.keys) = true ∧ ∃ m', m' < m ∧ I m' (k'.only l) H') Q)) : Xk L n (.loop b) k H Q := by
  have go : ∀ m k H, I m k H → Xk L n (.loop b) k H Q := by
    intro m
    induction m using Nat.strongRecOn with
    | ind m ih =>
      intro k H hI
      refine Xk.loop ((step m k H hI).mono fun e k' H' _ _ h => ?_)
      cases e with
      | normal =>
        obtain ⟨h2, m', h1, h3⟩ := h
        exact Xk.only l h2 (ih m' h1 _ _ h3)
      | exit id => exact h
      | ret => exact h
  obtain ⟨m, h0⟩ := h0
  exact Xk.only l hl (go m _ _ h0)

theorem Xk.cut {a b : PC} (l : List Nat) (I : Kn → Heap → Prop) (h1 : Xk L n a k H (Ex.thnK (fun k' H' => l.all (has k'.keys) = true ∧ I (k'.only l) H') Q)) (h2 : ∀ k' H', I k' H' → Xk L n b k' H' Q) : Xk L n (.seq a b) k H Q :=
  Xk.seq (h1.mono fun e k' H' _ _ h => by
    cases e with
    | normal => exact Xk.only l h.1 (h2 _ _ h.2)
    | exit id => exact h
    | ret => exact h)
theorem Ex.thn_n {K : Kn → Heap → Prop} (h : K k H) : Ex.thnK K Q .normal k H := h
theorem Ex.thn_r {K : Kn → Heap → Prop} (h : Q .ret k H) : Ex.thnK K Q .ret k H := h
theorem Ex.thn_e {K : Kn → Heap → Prop} {j : Nat} (h : Q (.exit j) k H) : Ex.thnK K Q (.exit j) k H := h
theorem Ex.in_n {id : Nat} (h : Q .normal k H) : Ex.inK id Q .normal k H := h
theorem Ex.in_r {id : Nat} (h : Q .ret k H) : Ex.inK id Q .ret k H := h
theorem Ex.in_hit {id : Nat} (h : Q .normal k H) : Ex.inK id Q (.exit id) k H := by
  show (bif Nat.beq id id then _ else _)
  rw [nbeq, decide_eq_true rfl]; exact h
theorem Ex.in_ne {id j : Nat} (hj : Nat.beq j id = false) (h : Q (.exit j) k H) : Ex.inK id Q (.exit j) k H := by
  show (bif Nat.beq j id then _ else _)
  rw [hj]; exact h
end

end Go.Dp
namespace Go.Dp
set_option linter.unusedSimpArgs false

namespace Mk
def z8 : AV := .int .u8 (.ofNat 0)
def rgA : List It := [.op ⟨(some 0), none, (.n (.new 0 (rep 766 [z8])))⟩]
def rgB : List It := [.op ⟨(some 1), none, (.n (.new 0 (rep 766 [z8])))⟩]
def rgC : List It := [.op ⟨(some 2), none, (.r (.mv (.c (.int .i64 (.ofNat 1)))))⟩]
def rgD : List It := [.op ⟨(some 4), none, (.r (.mv (.c (.int .i64 (.ofNat 0)))))⟩]
def rgE : List It := [.op ⟨(some 5), none, (.r (.bin .lss (.t 4) (.c (.int .i64 (.ofNat 510)))))⟩]
def rgF : List It := [.op ⟨(some 6), none, (.r (.mv (.t 4)))⟩,
       .op ⟨(some 3), none, (.r (.mv (.t 6)))⟩]
def rgG : List It := [.op ⟨(some 7), none, (.r (.mv (.t 3)))⟩,
       .op ⟨(some 8), none, (.r (.mv (.t 2)))⟩,
       .op ⟨(some 9), none, (.r (.cint .u8 (.t 8)))⟩,
       .op ⟨(some 10), none, (.r (.faddr 0 (.t 1)))⟩,
       .op ⟨(some 11), none, (.r (.iaarr 510 1 (.t 10) (.t 7)))⟩,
       .op ⟨none, none, (.e (.store 1 (.t 11) (.t 9)))⟩]
def rgH : List It := [.op ⟨(some 12), none, (.r (.mv (.t 3)))⟩,
       .op ⟨(some 13), none, (.r (.bin .lss (.t 12) (.c (.int .i64 (.ofNat 255)))))⟩]
def rgI : List It := [.op ⟨(some 14), none, (.r (.mv (.t 2)))⟩,
        .op ⟨(some 15), none, (.r (.mv (.t 3)))⟩,
        .op ⟨(some 16), none, (.r (.cint .u8 (.t 15)))⟩,
        .op ⟨(some 17), none, (.r (.faddr 510 (.t 1)))⟩,
        .op ⟨(some 18), none, (.r (.iaarr 256 1 (.t 17) (.t 14)))⟩,
        .op ⟨none, none, (.e (.store 1 (.t 18) (.t 16)))⟩]
def rgJ : List It := [.op ⟨(some 19), none, (.r (.mv (.t 2)))⟩,
       .op ⟨(some 20), none, (.r (.bin .shl (.t 19) (.c (.int .u64 (.ofNat 1)))))⟩,
       .op ⟨(some 2), none, (.r (.mv (.t 20)))⟩]
def rgK : List It := [.op ⟨(some 21), none, (.r (.mv (.t 2)))⟩,
       .op ⟨(some 22), none, (.r (.bin .gtr (.t 21) (.c (.int .i64 (.ofNat 255)))))⟩]
def rgL : List It := [.op ⟨(some 23), none, (.r (.mv (.t 2)))⟩,
        .op ⟨(some 24), none, (.r (.bin .xor (.t 23) (.c (.int .i64 (.ofNat 285)))))⟩,
        .op ⟨(some 2), none, (.r (.mv (.t 24)))⟩]
def rgM : List It := [.op ⟨(some 25), none, (.r (.bin .add (.t 4) (.c (.int .i64 (.ofNat 1)))))⟩,
      .op ⟨(some 4), none, (.r (.mv (.t 25)))⟩]
def rgN : List It := [.op ⟨(some 26), none, (.r (.load true 766 (.t 1)))⟩,
    .op ⟨none, none, (.e (.store 766 (.t 0) (.t 26)))⟩]
def lp : PC := .seq (.region rgE)
    (.seq (.cond (.t 5)
     .skip
     (.exit 0))
    (.seq (.block 1 (.seq (.region rgF)
     (.seq (.region rgG)
     (.seq (.seq (.region rgH)
     (.cond (.t 13)
      (.region rgI)
      .skip))
     (.seq (.region rgJ)
     (.seq (.region rgK)
     (.cond (.t 22)
      (.region rgL)
      .skip)))))))
    (.region rgM)))
def body : PC := .seq (.region rgA)
  (.seq (.region rgB)
  (.seq (.region rgC)
  (.seq (.seq (.region rgD)
  (.block 0 (.loop lp)))
  (.seq (.region rgN)
  .ret))))
def pf : PF := { ntmps := 27, results := [.cell 0 true 766], body := body }

def nx (x : Nat) : Nat := bif Nat.blt 255 (2 * x) then Nat.xor (2 * x) 285 else 2 * x
def put (i x : Nat) (l : List AV) : List AV :=
  let l1 := over l i [.int .u8 (.ofNat x)]
  bif Nat.blt i 255 then over l1 (510 + x) [.int .u8 (.ofNat i)] else l1
def run : Nat → Nat → Nat → List AV → List AV
  | 0, _, _, l => l
  | n + 1, i, x, l => run n (i + 1) (nx x) (put i x l)

theorem nx_lt : ∀ x, x < 256 → nx x < 256 := by decide +kernel
def isI (v : Option AV) (n : Nat) : Bool := match v with
  | some (.int .i64 (.ofNat m)) => Nat.beq m n
  | _ => false
theorem isI_inv {v : Option AV} {n : Nat} (h : isI v n = true) : v = some (.int .i64 (.ofNat n)) := by
  unfold isI at h
  split at h
  · rw [Nat.eq_of_beq_eq_true h]
  · cases h
theorem shl_ok (x : Nat) (h : x < 256) : shiftInt .shl .i64 (Int.ofNat x) (Int.ofNat 1) = some (.int .i64 (Int.ofNat (2 * x))) := by
  have : ∀ x, x < 256 → isI (shiftInt .shl .i64 (Int.ofNat x) (Int.ofNat 1)) (2 * x) = true := by decide +kernel
  exact isI_inv (this x h)
theorem xor_ok (x : Nat) (h : x < 512) : binInt .xor .i64 (Int.ofNat x) (Int.ofNat 285) = some (.int .i64 (Int.ofNat (Nat.xor x 285))) := by
  have : ∀ x, x < 512 → isI (binInt .xor .i64 (Int.ofNat x) (Int.ofNat 285)) (Nat.xor x 285) = true := by decide +kernel
  exact isI_inv (this x h)
theorem add_ok (x : Nat) (h : x < 512) : binInt .add .i64 (Int.ofNat x) (Int.ofNat 1) = some (.int .i64 (Int.ofNat (x + 1))) := by
  have : ∀ x, x < 512 → isI (binInt .add .i64 (Int.ofNat x) (Int.ofNat 1)) (x + 1) = true := by decide +kernel
  exact isI_inv (this x h)
theorem wr8 {x : Nat} (h : x < 256) : wr .u8 (.ofNat x) = .ofNat x := by
  have : Nat.blt x 256 = true := by rw [nblt]; simpa using h
  simp only [wr, lim, this, cond_true]

abbrev no : Cal := fun _ _ _ => none

structure Fr (b0 b1 x i : Nat) (fr : List AV) : Prop where
  len : fr.length = 27
  g0 : fr.getD 0 .undef = .ptr b0 0
  g1 : fr.getD 1 .undef = .ptr b1 0
  g2 : fr.getD 2 .undef = .int .i64 (.ofNat x)
  g4 : fr.getD 4 .undef = .int .i64 (.ofNat i)

section
variable {L : Lib} {b0 b1 x i : Nat} {fr : List AV} {H : Heap}

theorem Fr.set (F : Fr b0 b1 x i fr) {d : Nat} (hd : d ≠ 0 ∧ d ≠ 1 ∧ d ≠ 2 ∧ d ≠ 4) (v : AV) : Fr b0 b1 x i (fr.set d v) := by
  obtain ⟨h0, h1, h2, h4⟩ := hd
  refine ⟨by rw [List.length_set]; exact F.len, ?_, ?_, ?_, ?_⟩ <;> rw [getD_set, if_neg (fun h => by omega)]
  · exact F.g0
  · exact F.g1
  · exact F.g2
  · exact F.g4
theorem Fr.setx (F : Fr b0 b1 x i fr) (y : Nat) : Fr b0 b1 y i (fr.set 2 (.int .i64 (.ofNat y))) := by
  refine ⟨by rw [List.length_set]; exact F.len, ?_, ?_, ?_, ?_⟩ <;> rw [getD_set]
  · rw [if_neg (fun h => by omega)]; exact F.g0
  · rw [if_neg (fun h => by omega)]; exact F.g1
  · rw [if_pos ⟨rfl, by rw [F.len]; decide⟩]
  · rw [if_neg (fun h => by omega)]; exact F.g4
theorem Fr.seti (F : Fr b0 b1 x i fr) (y : Nat) : Fr b0 b1 x y (fr.set 4 (.int .i64 (.ofNat y))) := by
  refine ⟨by rw [List.length_set]; exact F.len, ?_, ?_, ?_, ?_⟩ <;> rw [getD_set]
  · rw [if_neg (fun h => by omega)]; exact F.g0
  · rw [if_neg (fun h => by omega)]; exact F.g1
  · rw [if_neg (fun h => by omega)]; exact F.g2
  · rw [if_pos ⟨rfl, by rw [F.len]; decide⟩]

structure Hp (b1 : Nat) (H : Heap) (l : List AV) (H' : Heap) : Prop where
  at_ : H'.get b1 = some (.cells l 1)
  other : ∀ b, b ≠ b1 → H'.get b = H.get b
  next : H'.next = H.next

theorem Hp.put {l l' : List AV} {H' : Heap} (h : Hp b1 H l H') : Hp b1 H l' (H'.put b1 (.cells l' 1)) :=
  ⟨by rw [Heap.get_put, if_pos rfl], fun b hb => by rw [Heap.get_put, if_neg hb]; exact h.other b hb, h.next⟩

theorem rE (F : Fr b0 b1 x i fr) : steps no rgE fr H = some (fr.set 5 (.bool (!ible (.ofNat 510) (.ofNat i))), H) := by
  simp only [rgE, F.g4, bin, binII, kbeq, binInt, steps_cons, steps_nil, thenDo, doIt, Dp.step, wanted, putR, setD, evalO, evalE, evalN, withH, withN, evalR, X.ev, cond_true, cond_false, getD_set, List.length_set, reduceIte, Nat.reduceEqDiff, Nat.reduceLT, true_and, false_and, and_true, Nat.add_zero, Nat.zero_add, Nat.mul_one, List.length_cons, List.length_nil, nbeq, decide_true, unit, List.all_cons, List.all_nil, AV.isSc, Bool.and_self, AV.cells]
theorem rF (F : Fr b0 b1 x i fr) : steps no rgF fr H = some ((fr.set 6 (.int .i64 (.ofNat i))).set 3 (.int .i64 (.ofNat i)), H) := by
  simp only [rgF, F.g4, F.len, steps_cons, steps_nil, thenDo, doIt, Dp.step, wanted, putR, setD, evalO, evalE, evalN, withH, withN, evalR, X.ev, cond_true, cond_false, getD_set, List.length_set, reduceIte, Nat.reduceEqDiff, Nat.reduceLT, true_and, false_and, and_true, Nat.add_zero, Nat.zero_add, Nat.mul_one, List.length_cons, List.length_nil, nbeq, decide_true, unit, List.all_cons, List.all_nil, AV.isSc, Bool.and_self, AV.cells]
theorem rG (F : Fr b0 b1 x i fr) (hx : x < 256) (hi : i < 510) {l : List AV} (hl : l.length = 766) (hH : H.get b1 = some (.cells l 1)) (h3 : fr.getD 3 .undef = .int .i64 (.ofNat i)) :
    steps no rgG fr H = some (((((fr.set 7 (.int .i64 (.ofNat i))).set 8 (.int .i64 (.ofNat x))).set 9 (.int .u8 (.ofNat x))).set 10 (.ptr b1 0)).set 11 (.ptr b1 i), H.put b1 (.cells (over l i [.int .u8 (.ofNat x)]) 1)) := by
  have hb : Nat.blt i 510 = true := by rw [nblt]; simpa using hi
  have hle : Nat.ble (i + 1) 766 = true := by rw [nble]; simp; omega
  simp only [rgG, F.len, F.g0, F.g1, F.g2, F.g4, h3, rCint, rFaddr, rIaarr, idx, natOf, hb, wr8 hx, eStore, Heap.st, hH, hl, hle, steps_cons, steps_nil, thenDo, doIt, Dp.step, wanted, putR, setD, evalO, evalE, evalN, withH, withN, evalR, X.ev, cond_true, cond_false, getD_set, List.length_set, reduceIte, Nat.reduceEqDiff, Nat.reduceLT, true_and, false_and, and_true, Nat.add_zero, Nat.zero_add, Nat.mul_one, List.length_cons, List.length_nil, nbeq, decide_true, unit, List.all_cons, List.all_nil, AV.isSc, Bool.and_self, AV.cells]
theorem rH (F : Fr b0 b1 x i fr) (h3 : fr.getD 3 .undef = .int .i64 (.ofNat i)) : steps no rgH fr H = some ((fr.set 12 (.int .i64 (.ofNat i))).set 13 (.bool (!ible (.ofNat 255) (.ofNat i))), H) := by
  simp only [rgH, F.len, h3, bin, binII, kbeq, binInt, steps_cons, steps_nil, thenDo, doIt, Dp.step, wanted, putR, setD, evalO, evalE, evalN, withH, withN, evalR, X.ev, cond_true, cond_false, getD_set, List.length_set, reduceIte, Nat.reduceEqDiff, Nat.reduceLT, true_and, false_and, and_true, Nat.add_zero, Nat.zero_add, Nat.mul_one, List.length_cons, List.length_nil, nbeq, decide_true, unit, List.all_cons, List.all_nil, AV.isSc, Bool.and_self, AV.cells]
theorem rI (F : Fr b0 b1 x i fr) (hx : x < 256) (hi : i < 255) {l : List AV} (hl : l.length = 766) (hH : H.get b1 = some (.cells l 1)) (h3 : fr.getD 3 .undef = .int .i64 (.ofNat i)) :
    steps no rgI fr H = some (((((fr.set 14 (.int .i64 (.ofNat x))).set 15 (.int .i64 (.ofNat i))).set 16 (.int .u8 (.ofNat i))).set 17 (.ptr b1 510)).set 18 (.ptr b1 (510 + x)), H.put b1 (.cells (over l (510 + x) [.int .u8 (.ofNat i)]) 1)) := by
  have hb : Nat.blt x 256 = true := by rw [nblt]; simpa using hx
  have hle : Nat.ble (510 + x + 1) 766 = true := by rw [nble]; simp; omega
  have hi' : i < 256 := by omega
  simp only [rgI, F.len, F.g0, F.g1, F.g2, F.g4, h3, rCint, rFaddr, rIaarr, idx, natOf, hb, wr8 hi', eStore, Heap.st, hH, hl, hle, steps_cons, steps_nil, thenDo, doIt, Dp.step, wanted, putR, setD, evalO, evalE, evalN, withH, withN, evalR, X.ev, cond_true, cond_false, getD_set, List.length_set, reduceIte, Nat.reduceEqDiff, Nat.reduceLT, true_and, false_and, and_true, Nat.add_zero, Nat.zero_add, Nat.mul_one, List.length_cons, List.length_nil, nbeq, decide_true, unit, List.all_cons, List.all_nil, AV.isSc, Bool.and_self, AV.cells]
theorem rJ (F : Fr b0 b1 x i fr) (hx : x < 256) : steps no rgJ fr H = some (((fr.set 19 (.int .i64 (.ofNat x))).set 20 (.int .i64 (.ofNat (2 * x)))).set 2 (.int .i64 (.ofNat (2 * x))), H) := by
  simp only [rgJ, F.len, F.g2, bin, binII, shl_ok x hx, steps_cons, steps_nil, thenDo, doIt, Dp.step, wanted, putR, setD, evalO, evalE, evalN, withH, withN, evalR, X.ev, cond_true, cond_false, getD_set, List.length_set, reduceIte, Nat.reduceEqDiff, Nat.reduceLT, true_and, false_and, and_true, Nat.add_zero, Nat.zero_add, Nat.mul_one, List.length_cons, List.length_nil, nbeq, decide_true, unit, List.all_cons, List.all_nil, AV.isSc, Bool.and_self, AV.cells]
theorem rK {y : Nat} (F : Fr b0 b1 y i fr) : steps no rgK fr H = some ((fr.set 21 (.int .i64 (.ofNat y))).set 22 (.bool (!ible (.ofNat y) (.ofNat 255))), H) := by
  simp only [rgK, F.len, F.g2, bin, binII, kbeq, binInt, steps_cons, steps_nil, thenDo, doIt, Dp.step, wanted, putR, setD, evalO, evalE, evalN, withH, withN, evalR, X.ev, cond_true, cond_false, getD_set, List.length_set, reduceIte, Nat.reduceEqDiff, Nat.reduceLT, true_and, false_and, and_true, Nat.add_zero, Nat.zero_add, Nat.mul_one, List.length_cons, List.length_nil, nbeq, decide_true, unit, List.all_cons, List.all_nil, AV.isSc, Bool.and_self, AV.cells]
theorem rL {y : Nat} (F : Fr b0 b1 y i fr) (hy : y < 512) : steps no rgL fr H = some (((fr.set 23 (.int .i64 (.ofNat y))).set 24 (.int .i64 (.ofNat (Nat.xor y 285)))).set 2 (.int .i64 (.ofNat (Nat.xor y 285))), H) := by
  simp only [rgL, F.len, F.g2, bin, binII, kbeq, xor_ok y hy, steps_cons, steps_nil, thenDo, doIt, Dp.step, wanted, putR, setD, evalO, evalE, evalN, withH, withN, evalR, X.ev, cond_true, cond_false, getD_set, List.length_set, reduceIte, Nat.reduceEqDiff, Nat.reduceLT, true_and, false_and, and_true, Nat.add_zero, Nat.zero_add, Nat.mul_one, List.length_cons, List.length_nil, nbeq, decide_true, unit, List.all_cons, List.all_nil, AV.isSc, Bool.and_self, AV.cells]
theorem rM (F : Fr b0 b1 x i fr) (hi : i < 510) : steps no rgM fr H = some ((fr.set 25 (.int .i64 (.ofNat (i + 1)))).set 4 (.int .i64 (.ofNat (i + 1))), H) := by
  simp only [rgM, F.len, F.g4, bin, binII, kbeq, add_ok i (by omega), steps_cons, steps_nil, thenDo, doIt, Dp.step, wanted, putR, setD, evalO, evalE, evalN, withH, withN, evalR, X.ev, cond_true, cond_false, getD_set, List.length_set, reduceIte, Nat.reduceEqDiff, Nat.reduceLT, true_and, false_and, and_true, Nat.add_zero, Nat.zero_add, Nat.mul_one, List.length_cons, List.length_nil, nbeq, decide_true, unit, List.all_cons, List.all_nil, AV.isSc, Bool.and_self, AV.cells]

theorem round (F : Fr b0 b1 x i fr) (hx : x < 256) (hi : i < 510) {l : List AV} (hl : l.length = 766) (hH : H.get b1 = some (.cells l 1)) {Q : Ex → List AV → Heap → Prop}
    (hQ : ∀ fr' H', Fr b0 b1 (nx x) (i + 1) fr' → Hp b1 H (put i x l) H' → Q .normal fr' H') : Xc L lp fr H Q := by
  have t1 : ible (.ofNat 510) (.ofNat i) = false := by rw [ible_eq]; simp; omega
  unfold lp
  refine Xc.seq (Xc.region (Xs.all (rE F) ?_))
  have F1 := F.set (d := 5) (by decide) (.bool (!ible (.ofNat 510) (.ofNat i)))
  refine Xc.seq (Xc.cond_true (by show (fr.set 5 _).getD 5 .undef = _; rw [getD_set, if_pos ⟨rfl, by rw [F.len]; decide⟩, t1]; rfl) (Xc.skip ?_))
  refine Xc.seq (Xc.block (Xc.seq (Xc.region (Xs.all (rF F1) ?_))))
  have F2 := (F1.set (d := 6) (by decide) (.int .i64 (.ofNat i))).set (d := 3) (by decide) (.int .i64 (.ofNat i))
  have h3 : (((fr.set 5 (.bool (!ible (.ofNat 510) (.ofNat i)))).set 6 (.int .i64 (.ofNat i))).set 3 (.int .i64 (.ofNat i))).getD 3 .undef = .int .i64 (.ofNat i) := by
    rw [getD_set, if_pos ⟨rfl, by simp only [List.length_set, F.len]; decide⟩]
  generalize ((fr.set 5 (.bool (!ible (.ofNat 510) (.ofNat i)))).set 6 (.int .i64 (.ofNat i))).set 3 (.int .i64 (.ofNat i)) = f2 at F2 h3 ⊢
  refine Xc.seq (Xc.region (Xs.all (rG F2 hx hi hl hH h3) ?_))
  have F3 := ((((F2.set (d := 7) (by decide) (.int .i64 (.ofNat i))).set (d := 8) (by decide) (.int .i64 (.ofNat x))).set (d := 9) (by decide) (.int .u8 (.ofNat x))).set (d := 10) (by decide) (.ptr b1 0)).set (d := 11) (by decide) (.ptr b1 i)
  have h3' : (((((f2.set 7 (.int .i64 (.ofNat i))).set 8 (.int .i64 (.ofNat x))).set 9 (.int .u8 (.ofNat x))).set 10 (.ptr b1 0)).set 11 (.ptr b1 i)).getD 3 .undef = .int .i64 (.ofNat i) := by
    simp only [getD_set, reduceIte, Nat.reduceEqDiff, false_and, h3]
  generalize ((((f2.set 7 (.int .i64 (.ofNat i))).set 8 (.int .i64 (.ofNat x))).set 9 (.int .u8 (.ofNat x))).set 10 (.ptr b1 0)).set 11 (.ptr b1 i) = f3 at F3 h3' ⊢
  have hp1 : Hp b1 H (over l i [.int .u8 (.ofNat x)]) (H.put b1 (.cells (over l i [.int .u8 (.ofNat x)]) 1)) := Hp.put (l := l) ⟨hH, fun _ _ => rfl, rfl⟩
  generalize H.put b1 (.cells (over l i [.int .u8 (.ofNat x)]) 1) = H1 at hp1 ⊢
  have hl1 : (over l i [.int .u8 (.ofNat x)] : List AV).length = 766 := by rw [over_length _ _ _ (by simp; omega)]; exact hl
  -- the second half
  have tail : ∀ (f : List AV) (H2 : Heap), Fr b0 b1 x i f → Hp b1 H (put i x l) H2 → Xc L (.seq (.region rgJ) (.seq (.region rgK) (.cond (.t 22) (.region rgL) .skip))) f H2 (Ex.inB 1 (Ex.thn (fun fr' H' => Xc L (.region rgM) fr' H' Q) Q)) := by
    intro f H2 Ff hp
    refine Xc.seq (Xc.region (Xs.all (rJ Ff hx) ?_))
    have G1 := ((Ff.set (d := 19) (by decide) (.int .i64 (.ofNat x))).set (d := 20) (by decide) (.int .i64 (.ofNat (2 * x)))).setx (2 * x)
    generalize ((f.set 19 (.int .i64 (.ofNat x))).set 20 (.int .i64 (.ofNat (2 * x)))).set 2 (.int .i64 (.ofNat (2 * x))) = f4 at G1 ⊢
    refine Xc.seq (Xc.region (Xs.all (rK G1) ?_))
    have G2 := (G1.set (d := 21) (by decide) (.int .i64 (.ofNat (2 * x)))).set (d := 22) (by decide) (.bool (!ible (.ofNat (2 * x)) (.ofNat 255)))
    have h22 : ((f4.set 21 (.int .i64 (.ofNat (2 * x)))).set 22 (.bool (!ible (.ofNat (2 * x)) (.ofNat 255)))).getD 22 .undef = .bool (!ible (.ofNat (2 * x)) (.ofNat 255)) := by
      rw [getD_set, if_pos ⟨rfl, by simp only [List.length_set, G1.len]; decide⟩]
    generalize (f4.set 21 (.int .i64 (.ofNat (2 * x)))).set 22 (.bool (!ible (.ofNat (2 * x)) (.ofNat 255))) = f5 at G2 h22 ⊢
    refine Xc.cond h22 (fun ht => Xc.region (Xs.all (rL G2 (by omega)) ?_)) (fun ht => Xc.skip ?_)
    · have hn : nx x = Nat.xor (2 * x) 285 := by
        have : Nat.blt 255 (2 * x) = true := by rw [ible_eq] at ht; rw [nblt]; simp at ht ⊢; omega
        simp only [nx, this, cond_true]
      have G3 := ((G2.set (d := 23) (by decide) (.int .i64 (.ofNat (2 * x)))).set (d := 24) (by decide) (.int .i64 (.ofNat (Nat.xor (2 * x) 285)))).setx (Nat.xor (2 * x) 285)
      show Xc L (.region rgM) _ H2 Q
      refine Xc.region (Xs.all (rM G3 hi) ?_)
      refine hQ _ _ ?_ hp
      rw [hn]
      exact (G3.set (d := 25) (by decide) _).seti (i + 1)
    · have hn : nx x = 2 * x := by
        have : Nat.blt 255 (2 * x) = false := by rw [ible_eq] at ht; rw [nblt]; simp at ht ⊢; omega
        simp only [nx, this, cond_false]
      show Xc L (.region rgM) _ H2 Q
      refine Xc.region (Xs.all (rM G2 hi) ?_)
      refine hQ _ _ ?_ hp
      rw [hn]
      exact (G2.set (d := 25) (by decide) _).seti (i + 1)
  refine Xc.seq (Xc.seq (Xc.region (Xs.all (rH F3 h3') ?_)))
  have F4 := (F3.set (d := 12) (by decide) (.int .i64 (.ofNat i))).set (d := 13) (by decide) (.bool (!ible (.ofNat 255) (.ofNat i)))
  have h13 : ((f3.set 12 (.int .i64 (.ofNat i))).set 13 (.bool (!ible (.ofNat 255) (.ofNat i)))).getD 13 .undef = .bool (!ible (.ofNat 255) (.ofNat i)) := by
    rw [getD_set, if_pos ⟨rfl, by simp only [List.length_set, F3.len]; decide⟩]
  have h3'' : ((f3.set 12 (.int .i64 (.ofNat i))).set 13 (.bool (!ible (.ofNat 255) (.ofNat i)))).getD 3 .undef = .int .i64 (.ofNat i) := by
    simp only [getD_set, reduceIte, Nat.reduceEqDiff, false_and, h3']
  generalize (f3.set 12 (.int .i64 (.ofNat i))).set 13 (.bool (!ible (.ofNat 255) (.ofNat i))) = f4 at F4 h13 h3'' ⊢
  refine Xc.cond h13 (fun ht => Xc.region (Xs.all (rI F4 hx ?_ hl1 hp1.at_ h3'') ?_)) (fun ht => Xc.skip ?_)
  · rw [ible_eq] at ht; simp at ht; omega
  · have hput : put i x l = over (over l i [.int .u8 (.ofNat x)]) (510 + x) [.int .u8 (.ofNat i)] := by
      have : Nat.blt i 255 = true := by rw [ible_eq] at ht; rw [nblt]; simp at ht ⊢; omega
      simp only [put, this, cond_true]
    refine tail _ _ (((((F4.set (by decide) _).set (by decide) _).set (by decide) _).set (by decide) _).set (by decide) _) ?_
    rw [hput]
    exact hp1.put
  · have hput : put i x l = over l i [.int .u8 (.ofNat x)] := by
      have : Nat.blt i 255 = false := by rw [ible_eq] at ht; rw [nblt]; simp at ht ⊢; omega
      simp only [put, this, cond_false]
    refine tail _ _ F4 ?_
    rw [hput]
    exact hp1
end

theorem put_len {i x : Nat} (hi : i < 510) (hx : x < 256) {l : List AV} (hl : l.length = 766) : (put i x l).length = 766 := by
  have h1 : (over l i [.int .u8 (.ofNat x)] : List AV).length = 766 := by rw [over_length _ _ _ (by simp; omega)]; exact hl
  unfold put
  cases Nat.blt i 255 with
  | false => exact h1
  | true =>
    simp only [cond_true]
    rw [over_length _ _ _ (by rw [h1]; show 510 + x + 1 ≤ 766; omega)]
    exact h1

theorem loop {L : Lib} {b0 b1 : Nat} : ∀ (k i x : Nat) (l : List AV) (fr : List AV) (H : Heap) (Q : Ex → List AV → Heap → Prop), i + k = 510 → x < 256 → l.length = 766 → Fr b0 b1 x i fr → H.get b1 = some (.cells l 1) →
    (∀ x' fr' H', Fr b0 b1 x' 510 fr' → Hp b1 H (run k i x l) H' → Q (.exit 0) fr' H') → Xc L (.loop lp) fr H Q
  | 0, i, x, l, fr, H, Q, hi, hx, hl, F, hH, hQ => by
    have hi' : i = 510 := by omega
    subst hi'
    refine Xc.loop ?_
    unfold lp
    refine Xc.seq (Xc.region (Xs.all (rE F) ?_))
    refine Xc.seq (Xc.cond_false ?_ (Xc.exit ?_))
    · show (fr.set 5 _).getD 5 .undef = _
      rw [getD_set, if_pos ⟨rfl, by rw [F.len]; decide⟩]
      rfl
    · exact hQ x _ H (F.set (by decide) _) ⟨hH, fun _ _ => rfl, rfl⟩
  | k + 1, i, x, l, fr, H, Q, hi, hx, hl, F, hH, hQ => by
    refine Xc.loop (round F hx (by omega) hl hH fun fr' H' F' hp => ?_)
    show Xc L (.loop lp) fr' H' Q
    refine loop k (i + 1) (nx x) (put i x l) fr' H' Q (by omega) (nx_lt x hx) (put_len (by omega) hx hl) F' hp.at_ fun x2 fr2 H2 F2 hp2 => ?_
    exact hQ x2 fr2 H2 F2 ⟨hp2.at_, fun b hb => (hp2.other b hb).trans (hp.other b hb), hp2.next.trans hp.next⟩

def u (n : Nat) : AV := .int .u8 (.ofNat n)
def table : List AV := [u 1, u 2, u 4, u 8, u 16, u 32, u 64, u 128, u 29, u 58, u 116, u 232, u 205, u 135, u 19, u 38, u 76, u 152, u 45, u 90, u 180, u 117, u 234, u 201, u 143, u 3, u 6, u 12, u 24, u 48, u 96, u 192, u 157, u 39, u 78, u 156, u 37, u 74, u 148, u 53, u 106, u 212, u 181, u 119, u 238, u 193, u 159, u 35, u 70, u 140, u 5, u 10, u 20, u 40, u 80, u 160, u 93, u 186, u 105, u 210, u 185, u 111, u 222, u 161, u 95, u 190, u 97, u 194, u 153, u 47, u 94, u 188, u 101, u 202, u 137, u 15, u 30, u 60, u 120, u 240, u 253, u 231, u 211, u 187, u 107, u 214, u 177, u 127, u 254, u 225, u 223, u 163, u 91, u 182, u 113, u 226, u 217, u 175, u 67, u 134, u 17, u 34, u 68, u 136, u 13, u 26, u 52, u 104, u 208, u 189, u 103, u 206, u 129, u 31, u 62, u 124, u 248, u 237, u 199, u 147, u 59, u 118, u 236, u 197, u 151, u 51, u 102, u 204, u 133, u 23, u 46, u 92, u 184, u 109, u 218, u 169, u 79, u 158, u 33, u 66, u 132, u 21, u 42, u 84, u 168, u 77, u 154, u 41, u 82, u 164, u 85, u 170, u 73, u 146, u 57, u 114, u 228, u 213, u 183, u 115, u 230, u 209, u 191, u 99, u 198, u 145, u 63, u 126, u 252, u 229, u 215, u 179, u 123, u 246, u 241, u 255, u 227, u 219, u 171, u 75, u 150, u 49, u 98, u 196, u 149, u 55, u 110, u 220, u 165, u 87, u 174, u 65, u 130, u 25, u 50, u 100, u 200, u 141, u 7, u 14, u 28, u 56, u 112, u 224, u 221, u 167, u 83, u 166, u 81, u 162, u 89, u 178, u 121, u 242, u 249, u 239, u 195, u 155, u 43, u 86, u 172, u 69, u 138, u 9, u 18, u 36, u 72, u 144, u 61, u 122, u 244, u 245, u 247, u 243, u 251, u 235, u 203, u 139, u 11, u 22, u 44, u 88, u 176, u 125, u 250, u 233, u 207, u 131, u 27, u 54, u 108, u 216, u 173, u 71, u 142, u 1, u 2, u 4, u 8, u 16, u 32, u 64, u 128, u 29, u 58, u 116, u 232, u 205, u 135, u 19, u 38, u 76, u 152, u 45, u 90, u 180, u 117, u 234, u 201, u 143, u 3, u 6, u 12, u 24, u 48, u 96, u 192, u 157, u 39, u 78, u 156, u 37, u 74, u 148, u 53, u 106, u 212, u 181, u 119, u 238, u 193, u 159, u 35, u 70, u 140, u 5, u 10, u 20, u 40, u 80, u 160, u 93, u 186, u 105, u 210, u 185, u 111, u 222, u 161, u 95, u 190, u 97, u 194, u 153, u 47, u 94, u 188, u 101, u 202, u 137, u 15, u 30, u 60, u 120, u 240, u 253, u 231, u 211, u 187, u 107, u 214, u 177, u 127, u 254, u 225, u 223, u 163, u 91, u 182, u 113, u 226, u 217, u 175, u 67, u 134, u 17, u 34, u 68, u 136, u 13, u 26, u 52, u 104, u 208, u 189, u 103, u 206, u 129, u 31, u 62, u 124, u 248, u 237, u 199, u 147, u 59, u 118, u 236, u 197, u 151, u 51, u 102, u 204, u 133, u 23, u 46, u 92, u 184, u 109, u 218, u 169, u 79, u 158, u 33, u 66, u 132, u 21, u 42, u 84, u 168, u 77, u 154, u 41, u 82, u 164, u 85, u 170, u 73, u 146, u 57, u 114, u 228, u 213, u 183, u 115, u 230, u 209, u 191, u 99, u 198, u 145, u 63, u 126, u 252, u 229, u 215, u 179, u 123, u 246, u 241, u 255, u 227, u 219, u 171, u 75, u 150, u 49, u 98, u 196, u 149, u 55, u 110, u 220, u 165, u 87, u 174, u 65, u 130, u 25, u 50, u 100, u 200, u 141, u 7, u 14, u 28, u 56, u 112, u 224, u 221, u 167, u 83, u 166, u 81, u 162, u 89, u 178, u 121, u 242, u 249, u 239, u 195, u 155, u 43, u 86, u 172, u 69, u 138, u 9, u 18, u 36, u 72, u 144, u 61, u 122, u 244, u 245, u 247, u 243, u 251, u 235, u 203, u 139, u 11, u 22, u 44, u 88, u 176, u 125, u 250, u 233, u 207, u 131, u 27, u 54, u 108, u 216, u 173, u 71, u 142, u 0, u 0, u 1, u 25, u 2, u 50, u 26, u 198, u 3, u 223, u 51, u 238, u 27, u 104, u 199, u 75, u 4, u 100, u 224, u 14, u 52, u 141, u 239, u 129, u 28, u 193, u 105, u 248, u 200, u 8, u 76, u 113, u 5, u 138, u 101, u 47, u 225, u 36, u 15, u 33, u 53, u 147, u 142, u 218, u 240, u 18, u 130, u 69, u 29, u 181, u 194, u 125, u 106, u 39, u 249, u 185, u 201, u 154, u 9, u 120, u 77, u 228, u 114, u 166, u 6, u 191, u 139, u 98, u 102, u 221, u 48, u 253, u 226, u 152, u 37, u 179, u 16, u 145, u 34, u 136, u 54, u 208, u 148, u 206, u 143, u 150, u 219, u 189, u 241, u 210, u 19, u 92, u 131, u 56, u 70, u 64, u 30, u 66, u 182, u 163, u 195, u 72, u 126, u 110, u 107, u 58, u 40, u 84, u 250, u 133, u 186, u 61, u 202, u 94, u 155, u 159, u 10, u 21, u 121, u 43, u 78, u 212, u 229, u 172, u 115, u 243, u 167, u 87, u 7, u 112, u 192, u 247, u 140, u 128, u 99, u 13, u 103, u 74, u 222, u 237, u 49, u 197, u 254, u 24, u 227, u 165, u 153, u 119, u 38, u 184, u 180, u 124, u 17, u 68, u 146, u 217, u 35, u 32, u 137, u 46, u 55, u 63, u 209, u 91, u 149, u 188, u 207, u 205, u 144, u 135, u 151, u 178, u 220, u 252, u 190, u 97, u 242, u 86, u 211, u 171, u 20, u 42, u 93, u 158, u 132, u 60, u 57, u 83, u 71, u 109, u 65, u 162, u 31, u 45, u 67, u 216, u 183, u 123, u 164, u 118, u 196, u 23, u 73, u 236, u 127, u 12, u 111, u 246, u 108, u 161, u 59, u 82, u 41, u 157, u 85, u 170, u 251, u 96, u 134, u 177, u 187, u 204, u 62, u 90, u 203, u 89, u 95, u 176, u 156, u 169, u 160, u 81, u 11, u 245, u 22, u 235, u 122, u 117, u 44, u 215, u 79, u 174, u 213, u 233, u 230, u 231, u 173, u 232, u 116, u 214, u 244, u 234, u 168, u 80, u 88, u 175]
theorem table_run : run 510 0 1 (rep 766 [z8]) = table := sameCells_eq (by decide +kernel)
theorem table_len : table.length = 766 := by decide +kernel
theorem table_sc : table.all AV.isSc = true := by decide +kernel
theorem rep_len : (rep 766 [z8]).length = 766 := by rw [rep_length]; rfl

theorem ev {L : Lib} {f : Nat} (hf : L f = some (.code pf)) {H : Heap} (h0 : H.get H.next = none) (h1 : H.get (H.next + 1) = none) {Q : AV → Heap → Prop}
    (hQ : ∀ H', H'.next = H.next + 2 → (∀ b, b < H.next → H'.get b = H.get b) → (∀ b, H.next + 1 < b → H'.get b = H.get b) → Q (.agg table) H') : Ev L f [] H Q := by
  refine Ev.code hf ?_
  have hg1 : (H.new (.cells (rep 766 [z8]) 1)).get (H.next + 1) = none := by rw [Heap.get_new, if_neg (by omega)]; exact h1
  have hA : steps no rgA (enter pf []) H = some ((enter pf []).set 0 (.ptr H.next 0), H.new (.cells (rep 766 [z8]) 1)) := by
    simp only [rgA, steps_cons, steps_nil, thenDo, doIt, Dp.step, wanted, putR, setD, evalO, withN, evalN, cond_true, h0, ptrTo]
  have hB : steps no rgB ((enter pf []).set 0 (.ptr H.next 0)) (H.new (.cells (rep 766 [z8]) 1)) = some (((enter pf []).set 0 (.ptr H.next 0)).set 1 (.ptr (H.next + 1) 0), (H.new (.cells (rep 766 [z8]) 1)).new (.cells (rep 766 [z8]) 1)) := by
    simp only [rgB, steps_cons, steps_nil, thenDo, doIt, Dp.step, wanted, putR, setD, evalO, withN, evalN, cond_true, Heap.next_new, hg1, ptrTo]
  show Xc L body (enter pf []) H _
  unfold body
  refine Xc.seq (Xc.region (Xs.all hA ?_))
  refine Xc.seq (Xc.region (Xs.all hB ?_))
  have hg0 : ((H.new (.cells (rep 766 [z8]) 1)).new (.cells (rep 766 [z8]) 1)).get H.next = some (.cells (rep 766 [z8]) 1) := by
    rw [Heap.get_new, Heap.next_new, if_neg (by omega), Heap.get_new, if_pos rfl]
  have hgb : ((H.new (.cells (rep 766 [z8]) 1)).new (.cells (rep 766 [z8]) 1)).get (H.next + 1) = some (.cells (rep 766 [z8]) 1) := by
    rw [Heap.get_new, Heap.next_new, if_pos rfl]
  have hgo : ∀ b, b < H.next ∨ H.next + 1 < b → ((H.new (.cells (rep 766 [z8]) 1)).new (.cells (rep 766 [z8]) 1)).get b = H.get b := by
    intro b hb
    rw [Heap.get_new, Heap.next_new, if_neg (by omega), Heap.get_new, if_neg (by omega)]
  have hgn : ((H.new (.cells (rep 766 [z8]) 1)).new (.cells (rep 766 [z8]) 1)).next = H.next + 2 := rfl
  generalize (H.new (.cells (rep 766 [z8]) 1)).new (.cells (rep 766 [z8]) 1) = H2 at hg0 hgb hgo hgn ⊢
  have hC : steps no rgC (((enter pf []).set 0 (.ptr H.next 0)).set 1 (.ptr (H.next + 1) 0)) H2 = some ((((enter pf []).set 0 (.ptr H.next 0)).set 1 (.ptr (H.next + 1) 0)).set 2 (.int .i64 (.ofNat 1)), H2) := rfl
  refine Xc.seq (Xc.region (Xs.all hC ?_))
  have hD : steps no rgD ((((enter pf []).set 0 (.ptr H.next 0)).set 1 (.ptr (H.next + 1) 0)).set 2 (.int .i64 (.ofNat 1))) H2 = some (((((enter pf []).set 0 (.ptr H.next 0)).set 1 (.ptr (H.next + 1) 0)).set 2 (.int .i64 (.ofNat 1))).set 4 (.int .i64 (.ofNat 0)), H2) := rfl
  refine Xc.seq (Xc.seq (Xc.region (Xs.all hD ?_)))
  have F : Fr H.next (H.next + 1) 1 0 (((((enter pf []).set 0 (.ptr H.next 0)).set 1 (.ptr (H.next + 1) 0)).set 2 (.int .i64 (.ofNat 1))).set 4 (.int .i64 (.ofNat 0))) := ⟨rfl, rfl, rfl, rfl, rfl⟩
  refine Xc.block (loop 510 0 1 (rep 766 [z8]) _ H2 _ rfl (by decide) rep_len F hgb fun x' fr' H' F' hp => ?_)
  show Xc L (.seq (.region rgN) .ret) fr' H' _
  have hT := hp.at_
  rw [table_run] at hT
  have h0' : H'.get H.next = some (.cells (rep 766 [z8]) 1) := by rw [hp.other _ (by omega)]; exact hg0
  have htake : (table.drop 0).take 766 = table := by rw [List.drop_zero, ← table_len, List.take_length]
  have hover : over (rep 766 [z8]) 0 table = table := by
    unfold over
    rw [List.take_zero, List.nil_append, Nat.zero_add, table_len, List.drop_eq_nil_of_le (Nat.le_of_eq rep_len), List.append_nil]
  have hN : steps no rgN fr' H' = some (fr'.set 26 (.agg table), H'.put H.next (.cells table 1)) := by
    simp only [rgN, steps_cons, steps_nil, thenDo, doIt, Dp.step, wanted, putR, setD, evalO, evalE, withH, evalR, X.ev, cond_true, getD_set, List.length_set, F'.len, F'.g0, F'.g1, reduceIte, Nat.reduceEqDiff, Nat.reduceLT, true_and, false_and, and_true, rLoad, Heap.ld, hT, Nat.zero_add, table_len, show Nat.ble 766 766 = true from rfl, oneOf, htake, eStore, AV.cells, nbeq, decide_true, table_sc, Bool.and_self, Heap.st, h0', rep_len, hover, unit]
  refine Xc.seq (Xc.region (Xs.all hN (Xc.ret ⟨fun _ h => (by cases h), [.agg table], .agg table, ?_, rfl, ?_⟩)))
  · have : ((fr'.set 26 (.agg table)).getD 0 .undef) = .ptr H.next 0 := by rw [getD_set, if_neg (by omega)]; exact F'.g0
    show resList _ _ [.cell 0 true 766] = _
    simp only [resList, resOf, this, rLoad, Heap.ld, Heap.get_put, if_true, Nat.zero_add, table_len, show Nat.ble 766 766 = true from rfl, cond_true, htake, oneOf]
  · refine hQ _ ?_ (fun b hb => ?_) (fun b hb => ?_)
    · rw [Heap.next_put, hp.next, hgn]
    · rw [Heap.get_put, if_neg (by omega), hp.other _ (by omega), hgo _ (.inl hb)]
    · rw [Heap.get_put, if_neg (by omega), hp.other _ (by omega), hgo _ (.inr hb)]

def prim (args : List AV) (H : Heap) : Option (AV × Heap) := match args with
  | [] => (match H.get H.next with
    | none => (match H.get (H.next + 1) with
      | none => some (.agg table, (H.new .dead).new .dead)
      | some _ => none)
    | some _ => none)
  | _ => none

end Mk

def BodyOk (c : Cx) (g : Nat) : Prop := ∃ fn, c.P.funcs[g]? = some fn ∧ fn.body.isSome = true ∧ (fn.name == "runtime.NumGoroutine") = false
def EntOk (c : Cx) (L : Lib) (g : Nat) : Prop := (∃ fn, c.P.funcs[g]? = some fn ∧ L g = some (.code (trF c fn))) ∨
  (∃ pr, L g = some (.prim pr) ∧ ∀ (base : Nat) (ρ : Rho) (H : Heap) (W : World) (args : List AV) (vs : Array Value) (v : AV) (H' : Heap), Rel c base ρ H W → All2 (VRel c ρ) args vs.toList → pr args H = some (v, H') →
    Calls c.P g vs W fun e W' => ∃ v' ρ', e = .returned v' ∧ Goes c base ρ H W ρ' H' W' ∧ VRel c ρ' v v')

theorem lib_ok2 {c : Cx} {L : Lib} {l : List Nat} (hf : c.fm = fmOf l) (h : AllOf (EntOk c L) l) : LibOk c L := by
  intro g f hg
  rw [hf] at hg
  obtain ⟨hm, rfl⟩ := fmOf_inv hg
  exact h.at_ g hm

theorem fm_ok2 {c : Cx} {l : List Nat} (hf : c.fm = fmOf l) (h : AllOf (BodyOk c) l) : FmOk c := by
  refine ⟨fun g f hg => ?_⟩
  rw [hf] at hg
  obtain ⟨hm, rfl⟩ := fmOf_inv hg
  obtain ⟨fn, h1, h2, h3⟩ := h.at_ g hm
  obtain ⟨code, hc⟩ := Option.isSome_iff_exists.1 h2
  exact ⟨fn, code, h1, hc, fun e => by rw [e] at h3; simp at h3⟩

end Go.Dp
namespace Go.Dp
open Go.RowKit

theorem Goes.under {c : Cx} {base : Nat} {ρ : Rho} {H : Heap} {W W' : World} (R : Rel c base ρ H W) (hb : Below W.heap.size W W') : Goes c base ρ H W ρ H W' :=
  ⟨.refl _, ⟨Nat.le_trans R.size hb.size, R.dom, fun b p hp => Nat.lt_of_lt_of_le (R.in_ b p hp) hb.size, fun b p hp => let ⟨x, hx, hr⟩ := R.blk b p hp; ⟨x, hx, hr.heap (hb.block p.c (R.in_ b p hp))⟩, R.low, R.apart, R.glob⟩,
    hb.mono R.size, Nat.le_refl _, fun _ _ h => .inl h, fun _ _ _ => rfl⟩

def runsPrim (args : List AV) (H : Heap) : Option (AV × Heap) := match args with
  | [] => some (.bool true, H)
  | _ => none

theorem ent_runs {c : Cx} {L : Lib} {g : Nat} (hrun : ∀ w, Calls c.P g #[] w fun e w' => e = .returned (.bool true) ∧ Below w.heap.size w w') (hL : L g = some (.prim runsPrim)) : EntOk c L g := by
  refine .inr ⟨runsPrim, hL, fun base ρ H W args vs v H' R hx h => ?_⟩
  cases args with
  | cons a r => cases h
  | nil =>
    cases h
    have hvs : vs = #[] := by
      cases hl : vs.toList with
      | nil => exact Array.toList_eq_nil_iff.1 hl
      | cons a r => rw [hl] at hx; exact hx.elim
    subst hvs
    exact (hrun W).mono fun e W' ⟨h1, h2⟩ => ⟨.bool true, ρ, h1, Goes.under R h2, by rw [VRel_bool]⟩

theorem Eo.runs {L : Lib} {g : Nat} {H : Heap} {Q : AV → Heap → Prop} (hL : L g = some (.prim runsPrim)) (h : Q (.bool true) H) : Eo L g [] H Q :=
  fun hH => ⟨1, .bool true, H, by rw [call_succ]; unfold callBy; rw [hL]; rfl, hH, Nat.le_refl _, h⟩

end Go.Dp
