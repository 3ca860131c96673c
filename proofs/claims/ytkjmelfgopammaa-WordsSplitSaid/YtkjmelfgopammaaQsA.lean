/- Reasoning over runs where a frame is known in part: the rules. Conditions: none. -/
import Derived.Test.YtkjmelfgopammaaQrA
namespace Go.Dp

---------------------------------------------------------------- heaps without a block behind their end

/-- No block stands behind the heap's end. -/
def Heap.Ok (H : Heap) : Prop := ∀ b, H.next ≤ b → H.get b = none

theorem Heap.Ok.lt {H : Heap} (h : H.Ok) {b : Nat} {x : Blk} (hb : H.get b = some x) : b < H.next := by
  rcases Nat.lt_or_ge b H.next with h1 | h1
  · exact h1
  · rw [h b h1] at hb; cases hb
theorem Heap.Ok.new {H : Heap} (h : H.Ok) (x : Blk) : (H.new x).Ok := by
  intro b hb
  rw [Heap.next_new] at hb
  rw [Heap.get_new, if_neg (by omega)]
  exact h b (by omega)
theorem Heap.Ok.put {H : Heap} (h : H.Ok) {b : Nat} {y : Blk} (hb : H.get b = some y) (x : Blk) : (H.put b x).Ok := by
  intro c hc
  rw [Heap.next_put] at hc
  have := h.lt hb
  rw [Heap.get_put, if_neg (by omega)]
  exact h c hc
theorem Heap.Ok.noHeap : noHeap.Ok := fun _ _ => rfl

theorem Heap.Ok.st {H H' : Heap} (h : H.Ok) {b o : Nat} {vs : List AV} (e : H.st b o vs = some H') : H'.Ok ∧ H.next ≤ H'.next := by
  unfold Heap.st at e
  split at e
  · rename_i l k hb
    cases hc : Nat.ble (o + vs.length) l.length with
    | false => rw [hc] at e; cases e
    | true => rw [hc] at e; simp only [cond_true, Option.some.injEq] at e; subst e; exact ⟨h.put hb _, Nat.le_refl _⟩
  · cases e

theorem unit_ok {H : Heap} {r : Option Heap} (h : ∀ H', r = some H' → H'.Ok ∧ H.next ≤ H'.next) {v : AV} {H' : Heap} (e : unit r = some (v, H')) : H'.Ok ∧ H.next ≤ H'.next := by
  unfold unit at e
  split at e
  · cases e; exact h _ rfl
  · cases e

abbrev noCal : Cal := fun _ _ _ => none

theorem cond_some {α : Type} {c : Bool} {x : Option α} {r : α} (h : (bif c then x else none) = some r) : c = true ∧ x = some r := by
  cases c with
  | false => cases h
  | true => exact ⟨rfl, h⟩

theorem cond_or {α : Type} {c : Bool} {x y : Option α} {r : α} (h : (bif c then x else y) = some r) : x = some r ∨ y = some r := by
  cases c with
  | false => exact .inr h
  | true => exact .inl h

theorem evalE_ok {H : Heap} (h : H.Ok) {fr : List AV} {p : PE} {v : AV} {H' : Heap} (e : evalE noCal fr H p = some (v, H')) : H'.Ok ∧ H.next ≤ H'.next := by
  have st := fun {b o : Nat} {vs : List AV} {H' : Heap} (e : H.st b o vs = some H') => h.st e
  cases p with
  | store n a v =>
    simp only [evalE, eStore] at e
    split at e
    · exact unit_ok (H := H) (fun _ e => st e) (cond_some e).2
    · cases e
  | mupd str m k v =>
    simp only [evalE, eMupd] at e
    split at e
    · split at e
      · rename_i hb
        have e := (cond_some e).2
        split at e
        · cases e; exact ⟨h.put hb _, Nat.le_refl _⟩
        · cases e; exact ⟨h.put hb _, Nat.le_refl _⟩
        · cases e
      · cases e
    · cases e
  | ment str zero m k =>
    simp only [evalE, eMent] at e
    split at e
    · split at e
      · rename_i hb
        have e := (cond_some e).2
        split at e
        · cases e; exact ⟨h.put hb _, Nat.le_refl _⟩
        · cases e; exact ⟨h.put hb _, Nat.le_refl _⟩
        · cases e
      · cases e
    · cases e
  | mest m s v =>
    simp only [evalE, eMest] at e
    split at e
    · split at e
      · split at e
        · rename_i hb
          have e := (cond_some e).2
          split at e
          · split at e
            · cases e; exact ⟨h.put hb _, Nat.le_refl _⟩
            · cases e
          · cases e
        · cases e
      · cases e
    · cases e
  | mdel str m k =>
    simp only [evalE, eMdel] at e
    split at e
    · cases e; exact ⟨h, Nat.le_refl _⟩
    · split at e
      · rename_i hb
        split at e
        · cases e; exact ⟨h.put hb _, Nat.le_refl _⟩
        · cases e; exact ⟨h, Nat.le_refl _⟩
        · cases e
      · cases e
    · cases e
  | app k sz bytes s x =>
    simp only [evalE, evalApp] at e
    split at e
    · cases e
    · split at e
      · rename_i n new _ _ _
        cases hz : Nat.beq n 0 with
        | true => rw [hz] at e; cases e; exact ⟨h, Nat.le_refl _⟩
        | false =>
          rw [hz] at e
          have e := (cond_some e).2
          cases e
          exact ⟨h.new _, Nat.le_succ _⟩
      · have e := (cond_some e).2
        split at e
        · rename_i hb
          unfold appTo at e
          rcases cond_or (cond_some e).2 with e | e
          · cases e; exact ⟨h, Nat.le_refl _⟩
          · split at e
            · cases e
            · rcases cond_or e with e | e
              · cases e; exact ⟨h.put hb _, Nat.le_refl _⟩
              · have e := (cond_some e).2
                cases e
                exact ⟨(h.put hb _).new _, Nat.le_succ _⟩
        · cases e
      · cases e
  | copy sz d s =>
    simp only [evalE, eCopy] at e
    split at e
    · cases e
    · split at e
      · cases e; exact ⟨h, Nat.le_refl _⟩
      · have e := (cond_some e).2
        split at e
        · rename_i hs
          cases e
          exact st hs
        · cases e
      · cases e
  | clear zero s =>
    simp only [evalE, eClear] at e
    split at e
    · cases e; exact ⟨h, Nat.le_refl _⟩
    · rcases cond_or (cond_some e).2 with e | e
      · cases e; exact ⟨h, Nat.le_refl _⟩
      · exact unit_ok (H := H) (fun _ e => st e) e
    · cases e
  | mark x =>
    simp only [evalE, eMark] at e
    split at e
    · split at e
      · have e := (cond_some e).2
        cases e; exact ⟨h, Nat.le_refl _⟩
      · cases e
    · cases e
  | call f args => cases e
  | callv f args =>
    simp only [evalE, eCallv] at e
    split at e <;> cases e
  | ustr p n =>
    simp only [evalE, eUstr'] at e
    split at e
    · have e := (cond_some e).2
      unfold eUstr at e
      split at e
      · have e := (cond_some e).2; cases e; exact ⟨h, Nat.le_refl _⟩
      · rcases cond_or e with e | e
        · cases e; exact ⟨h, Nat.le_refl _⟩
        · split at e
          · rename_i hb
            have e := (cond_some e).2
            split at e
            · cases e; exact ⟨h.put hb _, Nat.le_refl _⟩
            · cases e
          · cases e
      · cases e
    · cases e

---------------------------------------------------------------- frames known in part

/-- What is known of a frame: slots and their values; the first entry of a slot counts. -/
abbrev Kn := List (Nat × AV)

def Kn.get : Kn → Nat → AV
  | [], _ => .undef
  | (j, v) :: r, i => if i = j then v else Kn.get r i
def Kn.top : Kn → Nat
  | [] => 0
  | (j, _) :: r => max (j + 1) (Kn.top r)
def Kn.fr (k : Kn) : List AV := (List.range k.top).map k.get
def Kn.keys (k : Kn) : List Nat := k.map Prod.fst

theorem Kn.get_top : ∀ (k : Kn) (i : Nat), k.top ≤ i → k.get i = .undef
  | [], _, _ => rfl
  | (j, v) :: r, i, h => by
    simp only [Kn.top] at h
    simp only [Kn.get]
    rw [if_neg (by omega), Kn.get_top r i (by omega)]
theorem Kn.fr_get (k : Kn) (i : Nat) : k.fr.getD i .undef = k.get i := by
  unfold Kn.fr
  rw [List.getD_eq_getElem?_getD, List.getElem?_map]
  by_cases h : i < k.top
  · rw [List.getElem?_range h]; rfl
  · rw [List.getElem?_eq_none (by rw [List.length_range]; omega), Kn.get_top k i (by omega)]; rfl
theorem X.ev_t (k : Kn) (i : Nat) : X.ev k.fr (.t i) = k.get i := Kn.fr_get k i
theorem X.ev_c (fr : List AV) (v : AV) : X.ev fr (.c v) = v := rfl
theorem Kn.get_hit (i : Nat) (v : AV) (r : Kn) : Kn.get ((i, v) :: r) i = v := if_pos rfl
theorem Kn.get_cons (i j : Nat) (v : AV) (r : Kn) : Kn.get ((j, v) :: r) i = if i = j then v else Kn.get r i := rfl

structure Fits (n : Nat) (k : Kn) (fr : List AV) : Prop where
  len : fr.length = n
  at_ : ∀ i, has k.keys i = true → fr.getD i .undef = k.get i

def kput (k : Kn) (d : Option Nat) (v : AV) : Kn := match d with
  | some d => (d, v) :: k
  | none => k
def kadd (ks : List Nat) (d : Option Nat) : List Nat := match d with
  | some d => d :: ks
  | none => ks
def dOk (n : Nat) (d : Option Nat) : Bool := match d with
  | some d => Nat.blt d n
  | none => true

section
variable {n : Nat} {k : Kn} {fr : List AV}

theorem Fits.put (F : Fits n k fr) {d : Option Nat} (hd : dOk n d = true) (v : AV) : Fits n (kput k d v) (setD fr d v) := by
  cases d with
  | none => exact F
  | some d =>
    have hd' : d < n := by simpa [dOk, nblt] using hd
    refine ⟨by show (fr.set d v).length = n; rw [List.length_set]; exact F.len, fun i hi => ?_⟩
    show (fr.set d v).getD i .undef = if i = d then v else k.get i
    rw [getD_set]
    by_cases e : i = d
    · subst e
      rw [if_pos ⟨rfl, by rw [F.len]; exact hd'⟩, if_pos rfl]
    · rw [if_neg (fun h => e h.1.symm), if_neg e]
      refine F.at_ i ?_
      rw [has_iff] at hi ⊢
      rcases List.mem_cons.1 hi with h | h
      · exact absurd h e
      · exact h

theorem Fits.ag (F : Fits n k fr) {ts : List Nat} (h : ts.all (has k.keys) = true) : Ag ts fr k.fr := by
  intro i hi
  rw [Kn.fr_get]
  exact F.at_ i (List.all_eq_true.1 h i hi)

/-- Less is known. -/
def Kn.only (k : Kn) (l : List Nat) : Kn := l.map fun i => (i, k.get i)
theorem Kn.only_get (k : Kn) : ∀ (l : List Nat) (i : Nat), i ∈ l → (k.only l).get i = k.get i
  | [], _, h => by cases h
  | j :: l, i, h => by
    show (if i = j then k.get j else Kn.get (Kn.only k l) i) = _
    by_cases e : i = j
    · rw [if_pos e, e]
    · rw [if_neg e]
      rcases List.mem_cons.1 h with h | h
      · exact absurd h e
      · exact Kn.only_get k l i h
theorem Kn.only_keys (k : Kn) (l : List Nat) : (k.only l).keys = l := by
  unfold Kn.keys Kn.only
  rw [List.map_map]
  conv => rhs; rw [← List.map_id l]
  rfl
theorem Fits.only (F : Fits n k fr) {l : List Nat} (h : l.all (has k.keys) = true) : Fits n (k.only l) fr := by
  refine ⟨F.len, fun i hi => ?_⟩
  rw [Kn.only_keys, has_iff] at hi
  rw [Kn.only_get k l i hi]
  exact F.at_ i (List.all_eq_true.1 h i hi)

---------------------------------------------------------------- a region's run

inductive KR where
  | bad
  | done (k : Kn) (H : Heap)
  | call (f : Nat) (args : List AV) (d : Option Nat) (rest : List It) (k : Kn) (H : Heap)

def thenV (d : Option Nat) (k : Kn) (g : Kn → Heap → KR) : Option (AV × Heap) → KR
  | some (v, H) => g (kput k d v) H
  | none => .bad

def made (H : Heap) (m : Made) : Eff := match m with
  | some (b, f) => some (f H.next, H.new b)
  | none => none

def runF (d : Option Nat) (r : List It) (k : Kn) (H : Heap) (xs : List AV) : AV → KR
  | .fn f caps => .call f (xs ++ caps) d r k H
  | _ => .bad

def runP (d : Option Nat) (r : List It) (g : Kn → Heap → KR) (k : Kn) (H : Heap) : Pk → KR
  | .r p => thenV d k g (withH H (evalR k.fr H p))
  | .n p => thenV d k g (made H (evalN k.fr p))
  | .e p => match p with
    | .call f xs => .call f (xs.map (X.ev k.fr)) d r k H
    | .callv f xs => runF d r k H (xs.map (X.ev k.fr)) (f.ev k.fr)
    | p => thenV d k g (evalE noCal k.fr H p)

def runG (d : Option Nat) (r : List It) (g : Kn → Heap → KR) (k : Kn) (H : Heap) (w : Bool) (p : Pk) : AV → KR
  | .bool b => bif b == w then runP d r g k H p else g (kput k d (.tup [])) H
  | .undef => .bad
  | _ => g (kput k d (.tup [])) H

def agV (k : Kn) (H : Heap) (g : Kn → Heap → KR) (o : AV) : Option AV → KR
  | some v => bif sameV v o then g k H else .bad
  | none => .bad

def agP (d : Nat) (g : Kn → Heap → KR) (k : Kn) (H : Heap) : Pk → KR
  | .r p => agV k H g (k.get d) (evalR k.fr H p)
  | _ => .bad

def agG (d : Nat) (g : Kn → Heap → KR) (k : Kn) (H : Heap) (w : Bool) (p : Pk) (v : AV) : KR := match p with
  | .r p => (match v with
    | .bool b => bif b == w then agV k H g (k.get d) (evalR k.fr H p) else g k H
    | .undef => .bad
    | _ => g k H)
  | _ => .bad

def runI (i : It) (r : List It) (g : Kn → Heap → KR) (k : Kn) (H : Heap) : KR := match i with
  | .op o => (match o.guard with
    | none => runP o.dst r g k H o.op
    | some (s, w) => runG o.dst r g k H w o.op (k.get s))
  | .again o => (match o.dst with
    | none => .bad
    | some d => (match o.guard with
      | none => agP d g k H o.op
      | some (s, w) => agG d g k H w o.op (k.get s)))

def run : List It → Kn → Heap → KR
  | [], k, H => .done k H
  | i :: r, k, H => runI i r (run r) k H

def okI (n : Nat) (i : It) (ks : List Nat) : Bool := match i with
  | .op o => o.tm.all (has ks) && dOk n o.dst
  | .again o => o.tm.all (has ks) && (match o.dst with
    | some d => has ks d
    | none => false)
def addI (i : It) (ks : List Nat) : List Nat := match i with
  | .op o => kadd ks o.dst
  | .again _ => ks
def okR (n : Nat) : List It → List Nat → Bool
  | [], _ => true
  | i :: r, ks => okI n i ks && okR n r (addI i ks)

def RunOk (n : Nat) (its : List It) (fr : List AV) (H : Heap) : KR → Prop
  | .bad => True
  | .done k' H' => ∃ fr', (∀ cal, steps cal its fr H = some (fr', H')) ∧ H'.Ok ∧ H.next ≤ H'.next ∧ Fits n k' fr'
  | .call f args d rest k' H' => H'.Ok ∧ H.next ≤ H'.next ∧ dOk n d = true ∧ ∃ fr', Fits n k' fr' ∧
      ∀ cal v H'', cal f args H' = some (v, H'') → steps cal its fr H = steps cal rest (setD fr' d v) H''

theorem kput_keys (k : Kn) (d : Option Nat) (v : AV) : (kput k d v).keys = kadd k.keys d := by cases d <;> rfl

theorem RunOk.cons {i : It} {its : List It} {fr fr1 : List AV} {H H1 : Heap} (h1 : ∀ cal, doIt cal i fr H = some (fr1, H1)) (hn : H.next ≤ H1.next) : ∀ {q : KR}, RunOk n its fr1 H1 q → RunOk n (i :: its) fr H q
  | .bad, _ => trivial
  | .done k' H', ⟨fr', e1, e2, e3, e4⟩ => ⟨fr', fun cal => by rw [steps_cons]; unfold thenDo; rw [h1 cal]; exact e1 cal, e2, Nat.le_trans hn e3, e4⟩
  | .call f args d rest k' H', ⟨e1, e2, e3, fr', e4, e5⟩ => ⟨e1, Nat.le_trans hn e2, e3, fr', e4, fun cal v H'' hc => by rw [steps_cons]; unfold thenDo; rw [h1 cal]; exact e5 cal v H'' hc⟩

theorem evalN_made {H : Heap} (h : H.Ok) (m : Made) : withN H m = made H m := by
  unfold withN made
  split
  · rw [h H.next (Nat.le_refl _)]
  · rfl
theorem made_ok {H : Heap} (h : H.Ok) {m : Made} {v : AV} {H' : Heap} (e : made H m = some (v, H')) : H'.Ok ∧ H.next ≤ H'.next := by
  unfold made at e
  split at e
  · cases e; exact ⟨h.new _, Nat.le_succ _⟩
  · cases e

theorem evalE_any {fr : List AV} {H : Heap} {p : PE} (hp : ∀ f xs, p ≠ .call f xs) (hq : ∀ f xs, p ≠ .callv f xs) (cal cal' : Cal) : evalE cal fr H p = evalE cal' fr H p := by
  cases p <;> first | rfl | exact absurd rfl (hp _ _) | exact absurd rfl (hq _ _)

/-- The region's run is what the machine does. -/
theorem run_ok : ∀ (its : List It) {k : Kn} {H : Heap} {fr : List AV}, okR n its k.keys = true → H.Ok → Fits n k fr → RunOk n its fr H (run its k H)
  | [], k, H, fr, _, hH, F => ⟨fr, fun _ => rfl, hH, Nat.le_refl _, F⟩
  | i :: r, k, H, fr, hok, hH, F => by
    rw [okR, Bool.and_eq_true] at hok
    obtain ⟨h1, h2⟩ := hok
    have ih := fun {k : Kn} {H : Heap} {fr : List AV} => @run_ok r k H fr
    show RunOk n (i :: r) fr H (runI i r (run r) k H)
    cases i with
    | op o =>
      rw [okI, Bool.and_eq_true] at h1
      obtain ⟨ht, hd⟩ := h1
      have hA := F.ag ht
      have hAp : Ag o.op.tm fr k.fr := Ag.right hA
      have hAg : Ag (guardTm o.guard) fr k.fr := Ag.left hA
      -- a value is put
      have hput : ∀ (v : AV) (H1 : Heap), H1.Ok → H.next ≤ H1.next → (∀ cal, doIt cal (.op o) fr H = some (setD fr o.dst v, H1)) → RunOk n (.op o :: r) fr H (run r (kput k o.dst v) H1) := by
        intro v H1 o1 o2 hs
        refine RunOk.cons hs o2 (ih ?_ o1 (F.put hd v))
        rw [kput_keys]; exact h2
      have hthen : ∀ (e : Eff), (∀ v H1, e = some (v, H1) → H1.Ok ∧ H.next ≤ H1.next) → (∀ cal, doIt cal (.op o) fr H = putR fr o.dst e) → RunOk n (.op o :: r) fr H (thenV o.dst k (run r) e) := by
        intro e he hs
        cases e with
        | none => trivial
        | some q => obtain ⟨v, H1⟩ := q; exact hput v H1 (he v H1 rfl).1 (he v H1 rfl).2 hs
      have hcall : ∀ (f : Nat) (args : List AV), (∀ cal, doIt cal (.op o) fr H = putR fr o.dst (cal f args H)) → RunOk n (.op o :: r) fr H (.call f args o.dst r k H) := by
        intro f args hs
        refine ⟨hH, Nat.le_refl _, hd, fr, F, fun cal v H'' hc => ?_⟩
        rw [steps_cons]; unfold thenDo; rw [hs cal, hc]; rfl
      have hP : (∀ cal, doIt cal (.op o) fr H = putR fr o.dst (evalO cal fr H o.op)) → RunOk n (.op o :: r) fr H (runP o.dst r (run r) k H o.op) := by
        intro hs
        cases hop : o.op with
        | r p =>
          rw [hop] at hs hAp
          refine hthen _ (fun v H1 e => ?_) (fun cal => by rw [hs cal]; show putR fr o.dst (withH H (evalR fr H p)) = _; rw [evalR_congr H hAp])
          unfold withH at e
          split at e
          · cases e; exact ⟨hH, Nat.le_refl _⟩
          · cases e
        | n p =>
          rw [hop] at hs hAp
          exact hthen _ (fun v H1 e => made_ok hH e) (fun cal => by rw [hs cal]; show putR fr o.dst (withN H (evalN fr p)) = _; rw [evalN_congr hAp, evalN_made hH])
        | e p =>
          rw [hop] at hs hAp
          have hgen : (∀ f xs, p ≠ .call f xs) → (∀ f xs, p ≠ .callv f xs) → RunOk n (.op o :: r) fr H (thenV o.dst k (run r) (evalE noCal k.fr H p)) := fun a b =>
            hthen _ (fun v H1 e => evalE_ok hH e) (fun cal => by rw [hs cal]; show putR fr o.dst (evalE cal fr H p) = _; rw [evalE_congr H hAp, evalE_any a b cal noCal])
          cases p with
          | call f xs => exact hcall f _ (fun cal => by rw [hs cal]; show putR fr o.dst (evalE cal fr H (.call f xs)) = _; rw [evalE_congr (p := .call f xs) H hAp]; rfl)
          | callv f xs =>
            show RunOk n (.op o :: r) fr H (runF o.dst r k H (xs.map (X.ev k.fr)) (f.ev k.fr))
            unfold runF
            split
            · rename_i g caps hf
              exact hcall g _ (fun cal => by rw [hs cal]; show putR fr o.dst (evalE cal fr H (.callv f xs)) = _; rw [evalE_congr (p := .callv f xs) H hAp]; show putR fr o.dst (eCallv cal H (f.ev k.fr) _) = _; rw [hf]; rfl)
            · trivial
          | _ => exact hgen (fun _ _ h => by cases h) (fun _ _ h => by cases h)
      have hstep : ∀ cal w, wanted k.fr o.guard = some w → doIt cal (.op o) fr H = bif w then putR fr o.dst (evalO cal fr H o.op) else some (setD fr o.dst (.tup []), H) := by
        intro cal w hw
        show step cal o fr H = _
        unfold step
        rw [wanted_congr hAg, hw]
      show RunOk n (.op o :: r) fr H (match o.guard with
        | none => runP o.dst r (run r) k H o.op
        | some (s, w) => runG o.dst r (run r) k H w o.op (k.get s))
      cases hg : o.guard with
      | none => exact hP (fun cal => hstep cal true (by rw [hg]; rfl))
      | some q =>
        obtain ⟨s, w⟩ := q
        have hw : wanted k.fr o.guard = (match k.get s with
          | .bool b => some (b == w)
          | .undef => none
          | _ => some false) := by rw [hg]; show (match k.fr.getD s .undef with | .bool b => _ | .undef => _ | _ => _) = _; rw [Kn.fr_get]
        show RunOk n (.op o :: r) fr H (runG o.dst r (run r) k H w o.op (k.get s))
        cases hv : k.get s with
        | bool b =>
          rw [hv] at hw
          show RunOk n (.op o :: r) fr H (bif b == w then runP o.dst r (run r) k H o.op else run r (kput k o.dst (.tup [])) H)
          cases hb : b == w with
          | true => exact hP (fun cal => hstep cal true (by rw [hw]; show some (b == w) = _; rw [hb]))
          | false => exact hput _ H hH (Nat.le_refl _) (fun cal => hstep cal false (by rw [hw]; show some (b == w) = _; rw [hb]))
        | undef => trivial
        | _ => exact hput _ H hH (Nat.le_refl _) (fun cal => hstep cal false (by rw [hw, hv]))
    | again o =>
      rw [okI, Bool.and_eq_true] at h1
      obtain ⟨ht, hd⟩ := h1
      have hA := F.ag ht
      have hAp : Ag o.op.tm fr k.fr := Ag.right hA
      have hAg : Ag (guardTm o.guard) fr k.fr := Ag.left hA
      show RunOk n (.again o :: r) fr H (match o.dst with
        | none => .bad
        | some d => (match o.guard with
          | none => agP d (run r) k H o.op
          | some (s, w) => agG d (run r) k H w o.op (k.get s)))
      cases hdd : o.dst with
      | none => trivial
      | some d =>
        rw [hdd] at hd
        have hd : has k.keys d = true := hd
        have hgo : (∀ cal, doIt cal (.again o) fr H = some (fr, H)) → RunOk n (.again o :: r) fr H (run r k H) := fun hs => RunOk.cons hs (Nat.le_refl _) (ih h2 hH F)
        have hP : (wanted k.fr o.guard = some true) → RunOk n (.again o :: r) fr H (agP d (run r) k H o.op) := by
          intro hw
          cases hop : o.op with
          | r p =>
            rw [hop] at hAp
            show RunOk n (.again o :: r) fr H (agV k H (run r) (k.get d) (evalR k.fr H p))
            cases he : evalR k.fr H p with
            | none => trivial
            | some v =>
              show RunOk n (.again o :: r) fr H (bif sameV v (k.get d) then run r k H else .bad)
              cases hs : sameV v (k.get d) with
              | false => trivial
              | true =>
                refine hgo fun cal => ?_
                show again o fr H = _
                unfold again
                rw [hop, hdd]
                simp only []
                rw [wanted_congr hAg, hw]
                simp only [cond_true]
                unfold againR
                rw [evalR_congr H hAp, he]
                simp only []
                rw [F.at_ d hd, hs]
                rfl
          | n p => trivial
          | e p => trivial
        have hno : (wanted k.fr o.guard = some false) → (∃ p, o.op = .r p) → ∀ cal, doIt cal (.again o) fr H = some (fr, H) := by
          intro hw ⟨p, hp⟩ cal
          show again o fr H = _
          unfold again
          rw [hp, hdd]
          simp only []
          rw [wanted_congr hAg, hw]
          rfl
        cases hg : o.guard with
        | none => exact hP (by rw [hg]; rfl)
        | some q =>
          obtain ⟨s, w⟩ := q
          have hw : wanted k.fr o.guard = (match k.get s with
            | .bool b => some (b == w)
            | .undef => none
            | _ => some false) := by rw [hg]; show (match k.fr.getD s .undef with | .bool b => _ | .undef => _ | _ => _) = _; rw [Kn.fr_get]
          show RunOk n (.again o :: r) fr H (agG d (run r) k H w o.op (k.get s))
          cases hop : o.op with
          | r p =>
            rw [hop] at hP
            cases hv : k.get s with
            | bool b =>
              rw [hv] at hw
              show RunOk n (.again o :: r) fr H (bif b == w then agV k H (run r) (k.get d) (evalR k.fr H p) else run r k H)
              cases hb : b == w with
              | true => exact hP (by rw [hw]; show some (b == w) = _; rw [hb])
              | false => exact hgo (hno (by rw [hw]; show some (b == w) = _; rw [hb]) ⟨p, hop⟩)
            | undef => trivial
            | _ => exact hgo (hno (by rw [hw, hv]) ⟨p, hop⟩)
          | n p => trivial
          | e p => trivial
end

end Go.Dp
