/- Reasoning over runs where a frame is known in part: code, loops, calls. Conditions: none. -/
import Derived.Test.YtkjmelfgopammaaQsA
namespace Go.Dp

/-- A call comes to an end; the heap stays in order. -/
def Eo (L : Lib) (f : Nat) (args : List AV) (H : Heap) (Q : AV → Heap → Prop) : Prop := H.Ok → Ev L f args H fun v H' => H'.Ok ∧ H.next ≤ H'.next ∧ Q v H'
/-- A region, from what is known. -/
def Xr (L : Lib) (n : Nat) (its : List It) (k : Kn) (H : Heap) (K : Kn → Heap → Prop) : Prop :=
  H.Ok → ∀ fr, Fits n k fr → Xs L its fr H fun fr' H' => H'.Ok ∧ H.next ≤ H'.next ∧ ∃ k', Fits n k' fr' ∧ K k' H'
/-- Code, from what is known. -/
structure Xk (L : Lib) (n : Nat) (c : PC) (k : Kn) (H : Heap) (Q : Ex → Kn → Heap → Prop) : Prop where
  go : H.Ok → ∀ fr, Fits n k fr → Xc L c fr H fun ex fr' H' => H'.Ok ∧ H.next ≤ H'.next ∧ ∃ k', Fits n k' fr' ∧ Q ex k' H'

def Ex.thnK (K : Kn → Heap → Prop) (Q : Ex → Kn → Heap → Prop) : Ex → Kn → Heap → Prop
  | .normal, k, H => K k H
  | e, k, H => Q e k H
def Ex.inK (id : Nat) (Q : Ex → Kn → Heap → Prop) : Ex → Kn → Heap → Prop
  | .exit j, k, H => bif Nat.beq j id then Q .normal k H else Q (.exit j) k H
  | e, k, H => Q e k H

section
variable {L : Lib} {n : Nat} {k : Kn} {H : Heap} {Q : Ex → Kn → Heap → Prop}

theorem Xs.mono {l : List It} {fr : List AV} {K K' : List AV → Heap → Prop} (h : Xs L l fr H K) (hk : ∀ fr' H', K fr' H' → K' fr' H') : Xs L l fr H K' :=
  let ⟨n, _, _, h1, h2⟩ := h; ⟨n, _, _, h1, hk _ _ h2⟩

theorem Eo.mono {f : Nat} {args : List AV} {Q Q' : AV → Heap → Prop} (h : Eo L f args H Q) (hq : ∀ v H', H'.Ok → H.next ≤ H'.next → Q v H' → Q' v H') : Eo L f args H Q' :=
  fun hH => (h hH).mono fun v H' ⟨a, b, c⟩ => ⟨a, b, hq v H' a b c⟩
theorem Eo.ok {f : Nat} {args : List AV} {Q : AV → Heap → Prop} (h : H.Ok → Eo L f args H Q) : Eo L f args H Q := fun hH => h hH hH
theorem Xk.ok {c : PC} (h : H.Ok → Xk L n c k H Q) : Xk L n c k H Q := ⟨fun hH => (h hH).go hH⟩
theorem Xk.mono {c : PC} {Q' : Ex → Kn → Heap → Prop} (h : Xk L n c k H Q) (hq : ∀ e k' H', H'.Ok → H.next ≤ H'.next → Q e k' H' → Q' e k' H') : Xk L n c k H Q' :=
  ⟨fun hH fr F => (h.go hH fr F).mono fun e fr' H' ⟨a, b, k', c, d⟩ => ⟨a, b, k', c, hq e k' H' a b d⟩⟩

/-- Less is known. -/
theorem Xk.only {c : PC} (l : List Nat) (hl : l.all (has k.keys) = true) (h : Xk L n c (k.only l) H Q) : Xk L n c k H Q := ⟨fun hH fr F => h.go hH fr (F.only hl)⟩

/-- A region without a call. -/
theorem Xr.done {its : List It} {K : Kn → Heap → Prop} {k' : Kn} {H' : Heap} (hok : okR n its k.keys = true) (h : ∀ C : KR → Prop, C (.done k' H') → C (run its k H)) (hK : K k' H') : Xr L n its k H K := by
  intro hH fr F
  have e : run its k H = .done k' H' := h (fun r => r = .done k' H') rfl
  have h := run_ok its hok hH F
  rw [e] at h
  obtain ⟨fr', h1, h2, h3, h4⟩ := h
  exact Xs.all (h1 _) ⟨h2, h3, k', h4, hK⟩
/-- A region up to a call. -/
theorem Xr.call {its : List It} {K : Kn → Heap → Prop} {f : Nat} {args : List AV} {d : Option Nat} {rest : List It} {k' : Kn} {H' : Heap} (hok : okR n its k.keys = true) (h : ∀ C : KR → Prop, C (.call f args d rest k' H') → C (run its k H))
    (hE : Eo L f args H' fun v H'' => Xr L n rest (kput k' d v) H'' K) : Xr L n its k H K := by
  intro hH fr F
  have e : run its k H = .call f args d rest k' H' := h (fun r => r = .call f args d rest k' H') rfl
  have h := run_ok its hok hH F
  rw [e] at h
  obtain ⟨h1, h2, h3, fr', h4, h5⟩ := h
  obtain ⟨m, v, H2, e1, e2, e3, e4⟩ := hE h1
  obtain ⟨m', fr2, H3, e5, e6, e7, k2, e8, e9⟩ := e4 e2 _ (h4.put h3 v)
  refine ⟨max m m', fr2, H3, ?_, e6, by omega, k2, e8, e9⟩
  rw [h5 (Dp.call L (max m m')) v H2 (call_le L (Nat.le_max_left m m') _ _ _ _ e1)]
  exact steps_le (call_le L (Nat.le_max_right m m')) e5

theorem Xk.reg {its : List It} (h : Xr L n its k H (Q .normal)) : Xk L n (.region its) k H Q := ⟨fun hH fr F => Xc.region (h hH fr F)⟩
theorem Xk.skip (h : Q .normal k H) : Xk L n .skip k H Q := ⟨fun hH _ F => Xc.skip ⟨hH, Nat.le_refl _, k, F, h⟩⟩
theorem Xk.exit {id : Nat} (h : Q (.exit id) k H) : Xk L n (.exit id) k H Q := ⟨fun hH _ F => Xc.exit ⟨hH, Nat.le_refl _, k, F, h⟩⟩
theorem Xk.ret (h : Q .ret k H) : Xk L n .ret k H Q := ⟨fun hH _ F => Xc.ret ⟨hH, Nat.le_refl _, k, F, h⟩⟩
theorem Xk.scope {b : PC} (h : Xk L n b k H Q) : Xk L n (.scope b) k H Q := ⟨h.go⟩
theorem Xk.seq {a b : PC} (h : Xk L n a k H (Ex.thnK (fun k' H' => Xk L n b k' H' Q) Q)) : Xk L n (.seq a b) k H Q := by
  constructor
  intro hH fr F
  refine Xc.seq ((h.go hH fr F).mono fun ex fr' H' ⟨h1, h2, k', h3, h4⟩ => ?_)
  cases ex with
  | normal =>
    have h4 : Xk L n b k' H' Q := h4
    exact (h4.go h1 fr' h3).mono fun e fr2 H2 ⟨a, b, c⟩ => ⟨a, Nat.le_trans h2 b, c⟩
  | exit id => exact ⟨h1, h2, k', h3, h4⟩
  | ret => exact ⟨h1, h2, k', h3, h4⟩
def X.kv (k : Kn) : X → AV
  | .t i => k.get i
  | .c v => v
theorem X.kev {x : X} {fr : List AV} (F : Fits n k fr) (h : x.tm.all (has k.keys) = true) : x.ev fr = x.kv k := by
  rw [Ag.x (F.ag h)]
  cases x with
  | t i => exact Kn.fr_get k i
  | c v => rfl
theorem Xk.cond {x : X} {a b : PC} {t : Bool} (hx : x.kv k = .bool t) (hk : x.tm.all (has k.keys) = true) (h1 : t = true → Xk L n a k H Q) (h2 : t = false → Xk L n b k H Q) : Xk L n (.cond x a b) k H Q :=
  ⟨fun hH fr F => Xc.cond (t := t) (by rw [X.kev F hk]; exact hx) (fun e => (h1 e).go hH fr F) (fun e => (h2 e).go hH fr F)⟩
theorem Xk.block {id : Nat} {b : PC} (h : Xk L n b k H (Ex.inK id Q)) : Xk L n (.block id b) k H Q := by
  constructor
  intro hH fr F
  refine Xc.block ((h.go hH fr F).mono fun ex fr' H' ⟨h1, h2, k', h3, h4⟩ => ?_)
  cases ex with
  | normal => exact ⟨h1, h2, k', h3, h4⟩
  | ret => exact ⟨h1, h2, k', h3, h4⟩
  | exit j =>
    have h4 : (bif Nat.beq j id then Q .normal k' H' else Q (.exit j) k' H') := h4
    show (if j = id then _ else _)
    rw [nbeq] at h4
    by_cases e : j = id
    · rw [if_pos e]; rw [decide_eq_true e] at h4; exact ⟨h1, h2, k', h3, h4⟩
    · rw [if_neg e]; rw [decide_eq_false e] at h4; exact ⟨h1, h2, k', h3, h4⟩
theorem Xk.loop {b : PC} (h : Xk L n b k H (Ex.thnK (fun k' H' => Xk L n (.loop b) k' H' Q) Q)) : Xk L n (.loop b) k H Q := by
  constructor
  intro hH fr F
  refine Xc.loop ((h.go hH fr F).mono fun ex fr' H' ⟨h1, h2, k', h3, h4⟩ => ?_)
  cases ex with
  | normal =>
    have h4 : Xk L n (.loop b) k' H' Q := h4
    exact (h4.go h1 fr' h3).mono fun e fr2 H2 ⟨a, b, c⟩ => ⟨a, Nat.le_trans h2 b, c⟩
  | exit id => exact ⟨h1, h2, k', h3, h4⟩
  | ret => exact ⟨h1, h2, k', h3, h4⟩

-- heads
theorem Xk.assoc {a b c : PC} (h : Xk L n (.seq a (.seq b c)) k H Q) : Xk L n (.seq (.seq a b) c) k H Q := by
  constructor
  intro hH fr F
  obtain ⟨m, ex, fr', H', e, r⟩ := h.go hH fr F
  refine ⟨m, ex, fr', H', ?_, r⟩
  rw [exec_seq, exec_seq] at e ⊢
  unfold dSeq at e ⊢
  cases hx : exec (call L m) m a fr H with
  | none => rw [hx] at e; cases e
  | some q =>
    obtain ⟨ex1, fr1, H1⟩ := q
    rw [hx] at e
    cases ex1 <;> exact e
theorem Xk.sSkip {b : PC} (h : Xk L n b k H Q) : Xk L n (.seq .skip b) k H Q := Xk.seq (Xk.skip h)
theorem Xk.sRet {b : PC} (h : Q .ret k H) : Xk L n (.seq .ret b) k H Q := Xk.seq (Xk.ret h)
theorem Xk.sExit {b : PC} {id : Nat} (h : Q (.exit id) k H) : Xk L n (.seq (.exit id) b) k H Q := Xk.seq (Xk.exit h)
theorem Xk.sScope {a b : PC} (h : Xk L n (.seq a b) k H Q) : Xk L n (.seq (.scope a) b) k H Q := ⟨h.go⟩
theorem Xk.sReg {its : List It} {b : PC} (h : Xr L n its k H fun k' H' => Xk L n b k' H' Q) : Xk L n (.seq (.region its) b) k H Q := Xk.seq (Xk.reg h)
theorem Xk.sRun {its : List It} {b : PC} {k' : Kn} {H' : Heap} (hok : okR n its k.keys = true) (h : ∀ C : KR → Prop, C (.done k' H') → C (run its k H)) (hK : Xk L n b k' H' Q) : Xk L n (.seq (.region its) b) k H Q :=
  Xk.sReg (Xr.done hok h hK)
theorem Xk.sCall {its : List It} {b : PC} {f : Nat} {args : List AV} {d : Option Nat} {rest : List It} {k' : Kn} {H' : Heap} (hok : okR n its k.keys = true) (h : ∀ C : KR → Prop, C (.call f args d rest k' H') → C (run its k H))
    (hE : Eo L f args H' fun v H'' => Xk L n (.seq (.region rest) b) (kput k' d v) H'' Q) : Xk L n (.seq (.region its) b) k H Q := by
  constructor
  intro hH fr F
  have e : run its k H = .call f args d rest k' H' := h (fun r => r = .call f args d rest k' H') rfl
  have h := run_ok its hok hH F
  rw [e] at h
  obtain ⟨h1, h2, h3, fr', h4, h5⟩ := h
  obtain ⟨m, v, H2, e1, e2, e3, e4⟩ := hE h1
  obtain ⟨m', ex, fr2, H3, e5, e6, e7, k2, e8, e9⟩ := e4.go e2 _ (h4.put h3 v)
  refine ⟨max m m', ex, fr2, H3, ?_, e6, by omega, k2, e8, e9⟩
  have e5' := exec_le (call_le L (Nat.le_max_right m m')) (Nat.le_max_right m m') _ _ _ _ e5
  have e6' := h5 (Dp.call L (max m m')) v H2 (call_le L (Nat.le_max_left m m') _ _ _ _ e1)
  rw [exec_seq, exec_region] at e5' ⊢
  unfold dSeq dReg at e5' ⊢
  rw [e6']
  exact e5'
theorem Xk.tCall {its : List It} {f : Nat} {args : List AV} {d : Option Nat} {rest : List It} {k' : Kn} {H' : Heap} (hok : okR n its k.keys = true) (h : ∀ C : KR → Prop, C (.call f args d rest k' H') → C (run its k H))
    (hE : Eo L f args H' fun v H'' => Xk L n (.region rest) (kput k' d v) H'' Q) : Xk L n (.region its) k H Q := by
  constructor
  intro hH fr F
  have e : run its k H = .call f args d rest k' H' := h (fun r => r = .call f args d rest k' H') rfl
  have h := run_ok its hok hH F
  rw [e] at h
  obtain ⟨h1, h2, h3, fr', h4, h5⟩ := h
  obtain ⟨m, v, H2, e1, e2, e3, e4⟩ := hE h1
  obtain ⟨m', ex, fr2, H3, e5, e6, e7, k2, e8, e9⟩ := e4.go e2 _ (h4.put h3 v)
  refine ⟨max m m', ex, fr2, H3, ?_, e6, by omega, k2, e8, e9⟩
  have e5' := exec_le (call_le L (Nat.le_max_right m m')) (Nat.le_max_right m m') _ _ _ _ e5
  have e6' := h5 (Dp.call L (max m m')) v H2 (call_le L (Nat.le_max_left m m') _ _ _ _ e1)
  rw [exec_region] at e5' ⊢
  unfold dReg at e5' ⊢
  rw [e6']
  exact e5'
theorem Xk.sCond {x : X} {a b c : PC} {t : Bool} (hx : x.kv k = .bool t) (hk : x.tm.all (has k.keys) = true) (h1 : t = true → Xk L n (.seq a c) k H Q) (h2 : t = false → Xk L n (.seq b c) k H Q) : Xk L n (.seq (.cond x a b) c) k H Q := by
  constructor
  intro hH fr F
  have hx' : x.ev fr = .bool t := by rw [X.kev F hk]; exact hx
  cases t with
  | true =>
    obtain ⟨m, ex, fr', H', e, r⟩ := (h1 rfl).go hH fr F
    refine ⟨m, ex, fr', H', ?_, r⟩
    rw [exec_seq, exec_cond] at *
    unfold dSeq dCond at *
    rw [hx']
    exact e
  | false =>
    obtain ⟨m, ex, fr', H', e, r⟩ := (h2 rfl).go hH fr F
    refine ⟨m, ex, fr', H', ?_, r⟩
    rw [exec_seq, exec_cond] at *
    unfold dSeq dCond at *
    rw [hx']
    exact e
theorem Xk.sBlock {id : Nat} {a b : PC} (h : Xk L n a k H (Ex.inK id (Ex.thnK (fun k' H' => Xk L n b k' H' Q) Q))) : Xk L n (.seq (.block id a) b) k H Q := Xk.seq (Xk.block h)

---------------------------------------------------------------- a function

def argsK : Nat → List AV → Kn
  | _, [] => []
  | i, a :: r => (i, a) :: argsK (i + 1) r

theorem argsK_keys : ∀ (i : Nat) (l : List AV) (j : Nat), has (argsK i l).keys j = true → i ≤ j ∧ j < i + l.length
  | i, [], j, h => by cases h
  | i, a :: r, j, h => by
    rw [has_iff] at h
    rcases List.mem_cons.1 h with h | h
    · have h : j = i := h
      subst h; simp
    · have := argsK_keys (i + 1) r j (has_iff.2 h)
      simp only [List.length_cons]; omega
theorem argsK_get : ∀ (i : Nat) (l : List AV) (j : Nat), i ≤ j → (argsK i l).get j = l.getD (j - i) .undef
  | i, [], j, h => by simp [argsK, Kn.get]
  | i, a :: r, j, h => by
    show (if j = i then a else (argsK (i + 1) r).get j) = _
    by_cases e : j = i
    · subst e; simp
    · rw [if_neg e, argsK_get (i + 1) r j (by omega)]
      have : j - i = (j - (i + 1)) + 1 := by omega
      rw [this, List.getD_cons_succ]

theorem fits_enter {pf : PF} {args : List AV} (h : Nat.ble args.length pf.ntmps = true) : Fits pf.ntmps (argsK 0 args) (enter pf args) := by
  rw [nble] at h
  have h : args.length ≤ pf.ntmps := by simpa using h
  refine ⟨by unfold enter; rw [List.length_append, List.length_replicate]; omega, fun i hi => ?_⟩
  have hk := argsK_keys 0 args i hi
  rw [argsK_get 0 args i (by omega)]
  unfold enter
  simp only [List.getD_eq_getElem?_getD]
  rw [List.getElem?_append_left (by omega)]
  rfl

def PRes.at_ : PRes → Nat
  | .tmp t => t
  | .cell t _ _ => t
def okRes (rs : List PRes) (ks : List Nat) : Bool := rs.all fun r => has ks r.at_

def resK (k : Kn) (H : Heap) : PRes → Option AV
  | .tmp t => some (k.get t)
  | .cell t agg n => rLoad H agg n (k.get t)
def resKs (k : Kn) (H : Heap) : List PRes → Option (List AV)
  | [] => some []
  | r :: rs => match resK k H r, resKs k H rs with
    | some v, some vs => some (v :: vs)
    | _, _ => none
theorem resList_k {fr : List AV} (F : Fits n k fr) : ∀ {rs : List PRes}, okRes rs k.keys = true → resList fr H rs = resKs k H rs
  | [], _ => rfl
  | r :: rs, h => by
    simp only [okRes, List.all_cons, Bool.and_eq_true] at h
    have e : resOf fr H r = resK k H r := by
      have := F.at_ r.at_ h.1
      cases r with
      | tmp t => exact congrArg some this
      | cell t g m => exact congrArg (rLoad H g m) this
    simp only [resList, resKs, e, resList_k F (rs := rs) h.2]
    cases resK k H r <;> cases resKs k H rs <;> rfl

/-- What a function's end must come to. -/
def Ret (rs : List PRes) (Q : AV → Heap → Prop) : Ex → Kn → Heap → Prop
  | .exit _, _, _ => False
  | _, k, H => okRes rs k.keys = true ∧ ∃ vs v, resKs k H rs = some vs ∧ resV vs = some v ∧ Q v H

theorem Ret.ret {rs : List PRes} {Q : AV → Heap → Prop} {vs : List AV} {v : AV} (h1 : okRes rs k.keys = true) (h2 : resKs k H rs = some vs) (h3 : resV vs = some v) (h4 : Q v H) : Ret rs Q .ret k H := ⟨h1, vs, v, h2, h3, h4⟩
theorem Ret.normal {rs : List PRes} {Q : AV → Heap → Prop} {vs : List AV} {v : AV} (h1 : okRes rs k.keys = true) (h2 : resKs k H rs = some vs) (h3 : resV vs = some v) (h4 : Q v H) : Ret rs Q .normal k H := ⟨h1, vs, v, h2, h3, h4⟩

theorem Eo.code {f : Nat} {pf : PF} {args : List AV} {Q : AV → Heap → Prop} (hf : L f = some (.code pf)) (hn : Nat.ble args.length pf.ntmps = true) (h : Xk L pf.ntmps pf.body (argsK 0 args) H (Ret pf.results Q)) : Eo L f args H Q := by
  intro hH
  refine Ev.code hf ((h.go hH _ (fits_enter hn)).mono fun ex fr' H' ⟨h1, h2, k', h3, h4⟩ => ?_)
  cases ex with
  | exit id => exact h4.elim
  | normal =>
    obtain ⟨a, vs, v, b, c, d⟩ := h4
    exact ⟨fun _ e => (by cases e), vs, v, (by rw [resList_k h3 a]; exact b), c, h1, h2, d⟩
  | ret =>
    obtain ⟨a, vs, v, b, c, d⟩ := h4
    exact ⟨fun _ e => (by cases e), vs, v, (by rw [resList_k h3 a]; exact b), c, h1, h2, d⟩
end

end Go.Dp
