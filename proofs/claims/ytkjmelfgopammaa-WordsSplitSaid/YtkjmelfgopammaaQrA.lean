/- Rules to reason over the clean machine's runs without counting rounds. Conditions: none. -/
import Derived.Test.YtkjmelfgopammaaQqZ
namespace Go.Dp

def CalLe (cal cal' : Cal) : Prop := ∀ f args H r, cal f args H = some r → cal' f args H = some r

section
variable {cal cal' : Cal}

theorem evalE_le (h : CalLe cal cal') {fr : List AV} {H : Heap} {p : PE} {r : AV × Heap} (he : evalE cal fr H p = some r) : evalE cal' fr H p = some r := by
  cases p <;> simp only [evalE] at he ⊢ <;> try exact he
  case call f args => exact h _ _ _ _ he
  case callv f args =>
    unfold eCallv at he ⊢
    split at he
    · exact h _ _ _ _ he
    · cases he

theorem step_le (h : CalLe cal cal') {o : PO} {fr : List AV} {H : Heap} {r : List AV × Heap} (he : step cal o fr H = some r) : step cal' o fr H = some r := by
  unfold step at he ⊢
  split at he
  · rename_i w hw
    cases w with
    | false => exact he
    | true =>
      simp only [cond_true] at he ⊢
      unfold putR at he ⊢
      split at he
      · rename_i v H' hv
        have : evalO cal' fr H o.op = some (v, H') := by
          cases hop : o.op with
          | r p => rw [hop] at hv; exact hv
          | n p => rw [hop] at hv; exact hv
          | e p => rw [hop] at hv; exact evalE_le h hv
        rw [this]; exact he
      · cases he
  · cases he

theorem doIt_le (h : CalLe cal cal') {i : It} {fr : List AV} {H : Heap} {r : List AV × Heap} (he : doIt cal i fr H = some r) : doIt cal' i fr H = some r := by
  cases i with
  | op o => exact step_le h he
  | again o => exact he

theorem steps_le (h : CalLe cal cal') : ∀ {l : List It} {fr : List AV} {H : Heap} {r : List AV × Heap}, steps cal l fr H = some r → steps cal' l fr H = some r
  | [], _, _, _, he => he
  | i :: l, fr, H, r, he => by
    rw [steps_cons] at he ⊢
    unfold thenDo at he ⊢
    split at he
    · rename_i fr1 H1 h1
      rw [doIt_le h h1]
      exact steps_le h he
    · cases he

def DnLe (f g : Dn) : Prop := ∀ fr H r, f fr H = some r → g fr H = some r

theorem dSeq_le {f g f' g' : Dn} (hf : DnLe f f') (hg : DnLe g g') : DnLe (dSeq f g) (dSeq f' g') := by
  intro fr H r h
  unfold dSeq at h ⊢
  cases hx : f fr H with
  | none => rw [hx] at h; cases h
  | some q =>
    rw [hx] at h
    rw [hf _ _ _ hx]
    obtain ⟨ex, fr1, H1⟩ := q
    cases ex with
    | normal => exact hg _ _ _ h
    | exit id => exact h
    | ret => exact h

theorem iter_le {f g : Dn} (hf : DnLe f g) : ∀ {n m : Nat}, n ≤ m → DnLe (iter f n) (iter g m)
  | 0, _, _ => fun fr H r h => by rw [iter_zero] at h; cases h
  | n + 1, 0, h => absurd h (by omega)
  | n + 1, m + 1, h => by
    rw [iter_succ, iter_succ]
    exact dSeq_le hf (iter_le hf (by omega))

theorem exec_le (h : CalLe cal cal') {n m : Nat} (hn : n ≤ m) : ∀ c : PC, DnLe (exec cal n c) (exec cal' m c) := by
  intro c
  induction c with
  | region its =>
    intro fr H r he
    have he' : dReg (steps cal its) fr H = some r := he
    show dReg (steps cal' its) fr H = some r
    unfold dReg at he' ⊢
    split at he'
    · rename_i fr1 H1 h1; rw [steps_le h h1]; exact he'
    · cases he'
  | seq a b iha ihb => exact dSeq_le iha ihb
  | cond x a b iha ihb =>
    intro fr H r he
    rw [exec_cond] at he ⊢
    unfold dCond at he ⊢
    split at he
    · exact iha _ _ _ he
    · exact ihb _ _ _ he
    · cases he
  | block id b ih =>
    intro fr H r he
    rw [exec_block] at he ⊢
    unfold dBlock at he ⊢
    cases hx : exec cal n b fr H with
    | none => rw [hx] at he; cases he
    | some q => rw [hx] at he; rw [ih _ _ _ hx]; exact he
  | loop b ih => exact iter_le ih hn
  | scope b ih => exact ih
  | _ => exact fun fr H r he => he

theorem call_le (L : Lib) : ∀ {n m : Nat}, n ≤ m → CalLe (call L n) (call L m)
  | 0, _, _ => fun f args H r h => by rw [call_zero] at h; cases h
  | n + 1, 0, h => absurd h (by omega)
  | n + 1, m + 1, h => by
    intro f args H r he
    rw [call_succ] at he ⊢
    unfold callBy at he ⊢
    split at he
    · cases he
    · rename_i g hg; exact he
    · rename_i pf hg
      unfold leave at he ⊢
      cases hx : exec (call L n) n pf.body (enter pf args) H with
      | none => rw [hx] at he; cases he
      | some q =>
        rw [hx] at he
        rw [exec_le (call_le L (by omega)) (by omega) pf.body _ _ _ hx]
        exact he
end

/-- A call comes to an end. -/
def Ev (L : Lib) (f : Nat) (args : List AV) (H : Heap) (Q : AV → Heap → Prop) : Prop := ∃ n v H', call L n f args H = some (v, H') ∧ Q v H'
def Xc (L : Lib) (c : PC) (fr : List AV) (H : Heap) (Q : Ex → List AV → Heap → Prop) : Prop := ∃ n ex fr' H', exec (call L n) n c fr H = some (ex, fr', H') ∧ Q ex fr' H'
def Xs (L : Lib) (l : List It) (fr : List AV) (H : Heap) (Q : List AV → Heap → Prop) : Prop := ∃ n fr' H', steps (call L n) l fr H = some (fr', H') ∧ Q fr' H'

def Ex.thn (K : List AV → Heap → Prop) (Q : Ex → List AV → Heap → Prop) : Ex → List AV → Heap → Prop
  | .normal, fr, H => K fr H
  | e, fr, H => Q e fr H
def Ex.inB (id : Nat) (Q : Ex → List AV → Heap → Prop) : Ex → List AV → Heap → Prop
  | .exit j, fr, H => if j = id then Q .normal fr H else Q (.exit j) fr H
  | e, fr, H => Q e fr H

section
variable {L : Lib} {fr : List AV} {H : Heap} {Q : Ex → List AV → Heap → Prop}

theorem Ev.mono {f : Nat} {args : List AV} {Q Q' : AV → Heap → Prop} (h : Ev L f args H Q) (hq : ∀ v H', Q v H' → Q' v H') : Ev L f args H Q' :=
  let ⟨n, v, H', h1, h2⟩ := h; ⟨n, v, H', h1, hq _ _ h2⟩
theorem Xc.mono {c : PC} {Q' : Ex → List AV → Heap → Prop} (h : Xc L c fr H Q) (hq : ∀ e fr' H', Q e fr' H' → Q' e fr' H') : Xc L c fr H Q' :=
  let ⟨n, ex, fr', H', h1, h2⟩ := h; ⟨n, ex, fr', H', h1, hq _ _ _ h2⟩

theorem Xc.skip (h : Q .normal fr H) : Xc L .skip fr H Q := ⟨0, _, _, _, rfl, h⟩
theorem Xc.exit {id : Nat} (h : Q (.exit id) fr H) : Xc L (.exit id) fr H Q := ⟨0, _, _, _, rfl, h⟩
theorem Xc.ret (h : Q .ret fr H) : Xc L .ret fr H Q := ⟨0, _, _, _, rfl, h⟩
theorem Xc.region {l : List It} (h : Xs L l fr H (Q .normal)) : Xc L (.region l) fr H Q := by
  obtain ⟨n, fr', H', h1, h2⟩ := h
  exact ⟨n, .normal, fr', H', by rw [exec_region]; unfold dReg; rw [h1], h2⟩
theorem Xc.seq {a b : PC} (h : Xc L a fr H (Ex.thn (fun fr' H' => Xc L b fr' H' Q) Q)) : Xc L (.seq a b) fr H Q := by
  obtain ⟨n, ex, fr1, H1, h1, h2⟩ := h
  cases ex with
  | normal =>
    obtain ⟨m, ex2, fr2, H2, h3, h4⟩ := h2
    refine ⟨max n m, ex2, fr2, H2, ?_, h4⟩
    have e1 := exec_le (call_le L (Nat.le_max_left n m)) (Nat.le_max_left n m) a _ _ _ h1
    have e2 := exec_le (call_le L (Nat.le_max_right n m)) (Nat.le_max_right n m) b _ _ _ h3
    rw [exec_seq]; unfold dSeq; rw [e1]; exact e2
  | exit id => exact ⟨n, .exit id, fr1, H1, by rw [exec_seq]; unfold dSeq; rw [h1], h2⟩
  | ret => exact ⟨n, .ret, fr1, H1, by rw [exec_seq]; unfold dSeq; rw [h1], h2⟩
theorem Xc.cond_true {x : X} {a b : PC} (hx : x.ev fr = .bool true) (h : Xc L a fr H Q) : Xc L (.cond x a b) fr H Q := by
  obtain ⟨n, ex, fr', H', h1, h2⟩ := h
  exact ⟨n, ex, fr', H', by rw [exec_cond]; unfold dCond; rw [hx]; exact h1, h2⟩
theorem Xc.cond_false {x : X} {a b : PC} (hx : x.ev fr = .bool false) (h : Xc L b fr H Q) : Xc L (.cond x a b) fr H Q := by
  obtain ⟨n, ex, fr', H', h1, h2⟩ := h
  exact ⟨n, ex, fr', H', by rw [exec_cond]; unfold dCond; rw [hx]; exact h1, h2⟩
theorem Xc.cond {x : X} {a b : PC} {t : Bool} (hx : x.ev fr = .bool t) (h1 : t = true → Xc L a fr H Q) (h2 : t = false → Xc L b fr H Q) : Xc L (.cond x a b) fr H Q := by
  cases t with
  | true => exact Xc.cond_true hx (h1 rfl)
  | false => exact Xc.cond_false hx (h2 rfl)
theorem Xc.block {id : Nat} {b : PC} (h : Xc L b fr H (Ex.inB id Q)) : Xc L (.block id b) fr H Q := by
  obtain ⟨n, ex, fr', H', h1, h2⟩ := h
  cases ex with
  | normal => exact ⟨n, .normal, fr', H', by rw [exec_block]; unfold dBlock; rw [h1], h2⟩
  | ret => exact ⟨n, .ret, fr', H', by rw [exec_block]; unfold dBlock; rw [h1], h2⟩
  | exit j =>
    have h2' : if j = id then Q .normal fr' H' else Q (.exit j) fr' H' := h2
    by_cases hj : j = id
    · rw [if_pos hj] at h2'
      exact ⟨n, .normal, fr', H', by rw [exec_block]; unfold dBlock; rw [h1]; simp only [nbeq, decide_eq_true hj]; rfl, h2'⟩
    · rw [if_neg hj] at h2'
      exact ⟨n, .exit j, fr', H', by rw [exec_block]; unfold dBlock; rw [h1]; simp only [nbeq, decide_eq_false hj]; rfl, h2'⟩
theorem Xc.scope {b : PC} (h : Xc L b fr H Q) : Xc L (.scope b) fr H Q := h
theorem Xc.loop {b : PC} (h : Xc L b fr H (Ex.thn (fun fr' H' => Xc L (.loop b) fr' H' Q) Q)) : Xc L (.loop b) fr H Q := by
  obtain ⟨n, ex, fr1, H1, h1, h2⟩ := h
  cases ex with
  | normal =>
    obtain ⟨m, ex2, fr2, H2, h3, h4⟩ := h2
    have e1 := exec_le (call_le L (show n ≤ max n m + 1 by omega)) (show n ≤ max n m + 1 by omega) b _ _ _ h1
    have e2 := iter_le (exec_le (call_le L (show m ≤ max n m + 1 by omega)) (show m ≤ max n m + 1 by omega) b) (show m ≤ max n m by omega) _ _ _ h3
    refine ⟨max n m + 1, ex2, fr2, H2, ?_, h4⟩
    rw [exec_loop, iter_succ]; unfold dSeq; rw [e1]; exact e2
  | exit id =>
    have e1 := exec_le (call_le L (Nat.le_succ n)) (Nat.le_succ n) b _ _ _ h1
    exact ⟨n + 1, .exit id, fr1, H1, by rw [exec_loop, iter_succ]; unfold dSeq; rw [e1], h2⟩
  | ret =>
    have e1 := exec_le (call_le L (Nat.le_succ n)) (Nat.le_succ n) b _ _ _ h1
    exact ⟨n + 1, .ret, fr1, H1, by rw [exec_loop, iter_succ]; unfold dSeq; rw [e1], h2⟩

variable {K : List AV → Heap → Prop}
theorem Xs.nil (h : K fr H) : Xs L [] fr H K := ⟨0, _, _, rfl, h⟩
/-- operations that don't call -/
theorem Xs.run {pre rest : List It} {fr1 : List AV} {H1 : Heap} (h : steps (fun _ _ _ => none) pre fr H = some (fr1, H1)) (h2 : Xs L rest fr1 H1 K) : Xs L (pre ++ rest) fr H K := by
  obtain ⟨n, fr2, H2, h3, h4⟩ := h2
  refine ⟨n, fr2, H2, ?_, h4⟩
  have : ∀ {l : List It} {fr : List AV} {H : Heap}, steps (call L n) l fr H = some (fr1, H1) → steps (call L n) (l ++ rest) fr H = some (fr2, H2) := by
    intro l
    induction l with
    | nil => intro fr H h; rw [steps_nil] at h; cases h; exact h3
    | cons i l ih =>
      intro fr H h
      rw [steps_cons] at h
      unfold thenDo at h
      split at h
      · rename_i f1 g1 e1
        rw [List.cons_append, steps_cons]
        unfold thenDo
        rw [e1]
        exact ih h
      · cases h
  exact this (steps_le (fun _ _ _ _ h => by cases h) h)
theorem Xs.one {i : It} {rest : List It} {fr1 : List AV} {H1 : Heap} (h : doIt (fun _ _ _ => none) i fr H = some (fr1, H1)) (h2 : Xs L rest fr1 H1 K) : Xs L (i :: rest) fr H K :=
  Xs.run (pre := [i]) (by rw [steps_cons, steps_nil]; unfold thenDo; rw [h]) h2
theorem Xs.all {l : List It} {fr1 : List AV} {H1 : Heap} (h : steps (fun _ _ _ => none) l fr H = some (fr1, H1)) (h2 : K fr1 H1) : Xs L l fr H K := by
  have := Xs.run (rest := []) (L := L) (K := K) h (Xs.nil h2)
  rwa [List.append_nil] at this
/-- a call -/
theorem Xs.call {d : Option Nat} {f : Nat} {args : List X} {rest : List It} (h : Ev L f (args.map (X.ev fr)) H (fun v H1 => Xs L rest (setD fr d v) H1 K)) : Xs L (.op ⟨d, none, .e (.call f args)⟩ :: rest) fr H K := by
  obtain ⟨n, v, H1, h1, m, fr2, H2, h2, h3⟩ := h
  refine ⟨max n m, fr2, H2, ?_, h3⟩
  have e1 := call_le L (Nat.le_max_left n m) _ _ _ _ h1
  have e2 := steps_le (call_le L (Nat.le_max_right n m)) h2
  rw [steps_cons]
  unfold thenDo
  have : doIt (Dp.call L (max n m)) (.op ⟨d, none, .e (.call f args)⟩) fr H = some (setD fr d v, H1) := by
    simp only [doIt, step, wanted, cond_true, evalO, evalE, e1, putR]
  rw [this]
  exact e2

/-- A function's run. -/
theorem Ev.code {f : Nat} {pf : PF} {args : List AV} {Q : AV → Heap → Prop} (hf : L f = some (.code pf)) (h : Xc L pf.body (enter pf args) H (fun ex fr' H' => (∀ id, ex ≠ .exit id) ∧ ∃ vs v, resList fr' H' pf.results = some vs ∧ resV vs = some v ∧ Q v H')) : Ev L f args H Q := by
  obtain ⟨n, ex, fr', H', h1, h2, vs, v, h3, h4, h5⟩ := h
  refine ⟨n + 1, v, H', ?_, h5⟩
  rw [call_succ]
  unfold callBy
  rw [hf]
  simp only []
  unfold leave
  rw [h1]
  cases ex with
  | exit id => exact absurd rfl (h2 id)
  | normal => simp only [h3, h4]
  | ret => simp only [h3, h4]
end

end Go.Dp
