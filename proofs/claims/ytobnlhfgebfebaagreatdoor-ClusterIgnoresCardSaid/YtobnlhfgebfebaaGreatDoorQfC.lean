/- The fast machine, part C: effects, steps, code, calls; what the fast machine answers the clean machine answers. Conditions: none. -/
import Derived.Test.YtobnlhfgebfebaaGreatDoorQfB
namespace Go.Dp.Fs
open Go.Dp

abbrev FEff := Option (AV × FH)
abbrev FCal := Nat → List AV → FH → FEff

def EffOk (e : Eff) (f : FEff) : Prop := ∀ v T', f = some (v, T') → ∃ H', e = some (v, H') ∧ HR H' T'

noncomputable def fSt (T : FH) (b o : Nat) (vs : List AV) : Option FH := match gt T.t b with
  | some (.c N t (k + 1)) => bif' (Nat.ble (o + vs.length) N) (some (put T b (.c N (stL vs t o) (k + 1)))) none
  | _ => none

theorem fSt_ok {H : Heap} {T T' : FH} (h : HR H T) {b o : Nat} {vs : List AV} (e : fSt T b o vs = some T') : ∃ H', H.st b o vs = some H' ∧ HR H' T' := by
  unfold fSt at e
  split at e
  · rename_i N t k hb
    obtain ⟨l, h1, rfl, h3⟩ := h.c hb
    rw [bif'_eq] at e
    cases hle : Nat.ble (o + vs.length) l.length with
    | false => rw [hle] at e; cases e
    | true =>
      rw [hle] at e
      cases e
      refine ⟨H.put b (.cells (over l o vs) (k + 1)), by simp only [Heap.st, h1, hle, cond_true], h.put (by rw [hb]; rfl) ⟨rfl, ?_, h3.over o (by simpa [nble] using hle)⟩⟩
      rw [nble, decide_eq_true_eq] at hle
      simp [over]; omega
  · cases e

noncomputable def fStore (T : FH) (n : Nat) (a : AV) (cs : List AV) : FEff := match a with
  | .ptr b o => bif' (Nat.beq cs.length n && cs.all AV.isSc) (match fSt T b o cs with
    | some T' => some (.tup [], T')
    | none => none) none
  | _ => none
theorem fStore_ok {H : Heap} {T : FH} (h : HR H T) (n : Nat) (a : AV) (cs : List AV) : EffOk (eStore H n a cs) (fStore T n a cs) := by
  intro v T' e
  unfold fStore at e
  cases a <;> try (cases e; done)
  rename_i b o
  simp only [bif'_eq] at e
  simp only [eStore]
  cases hb : Nat.beq cs.length n && cs.all AV.isSc with
  | false => rw [hb] at e; cases e
  | true =>
    rw [hb] at e
    simp only [cond_true] at e ⊢
    split at e
    · rename_i T1 h1
      cases e
      obtain ⟨H', h2, h3⟩ := fSt_ok h h1
      exact ⟨H', by rw [h2]; rfl, h3⟩
    · cases e

noncomputable def fMupd (T : FH) (str : Bool) (m k v : AV) : FEff := match m with
  | .map b => (match gt T.t b with
    | some (.m es cl) => bif' (v.isV && k.isSc) (match findE str k es 0 with
      | some (some (i, _, _)) => some (.tup [], put T b (.m (setE es i k v) cl))
      | some none => some (.tup [], put T b (.m (es ++ [(k, v, cl)]) (cl + 1)))
      | none => none) none
    | _ => none)
  | _ => none
theorem fMupd_ok {H : Heap} {T : FH} (h : HR H T) (str : Bool) (m k v : AV) : EffOk (eMupd H str m k v) (fMupd T str m k v) := by
  intro r T' e
  unfold fMupd at e
  cases m <;> try (cases e; done)
  rename_i b
  simp only at e
  split at e
  · rename_i es cl hb
    have h1 := h.m hb
    rw [bif'_eq] at e
    simp only [eMupd, h1]
    cases hg : v.isV && k.isSc with
    | false => rw [hg] at e; cases e
    | true =>
      rw [hg] at e
      simp only [cond_true] at e ⊢
      split at e
      · rename_i i _ _ hf; cases e; rw [hf]; exact ⟨_, rfl, h.put (by rw [hb]; rfl) ⟨rfl, rfl⟩⟩
      · rename_i hf; cases e; rw [hf]; exact ⟨_, rfl, h.put (by rw [hb]; rfl) ⟨rfl, rfl⟩⟩
      · cases e
  · cases e

noncomputable def fMent (T : FH) (str : Bool) (zero m k : AV) : FEff := match m with
  | .map b => (match gt T.t b with
    | some (.m es cl) => bif' k.isSc (match findE str k es 0 with
      | some (some (i, v, born)) => some (.tup [v, .int .i64 (Int.ofNat born)], put T b (.m (setE es i k v) cl))
      | some none => some (.tup [zero, .int .i64 (Int.ofNat cl)], put T b (.m (es ++ [(k, zero, cl)]) (cl + 1)))
      | none => none) none
    | _ => none)
  | _ => none
theorem fMent_ok {H : Heap} {T : FH} (h : HR H T) (str : Bool) (zero m k : AV) : EffOk (eMent H str zero m k) (fMent T str zero m k) := by
  intro r T' e
  unfold fMent at e
  cases m <;> try (cases e; done)
  rename_i b
  simp only at e
  split at e
  · rename_i es cl hb
    have h1 := h.m hb
    rw [bif'_eq] at e
    simp only [eMent, h1]
    cases hg : k.isSc with
    | false => rw [hg] at e; cases e
    | true =>
      rw [hg] at e
      simp only [cond_true] at e ⊢
      split at e
      · rename_i i _ _ hf; cases e; rw [hf]; exact ⟨_, rfl, h.put (by rw [hb]; rfl) ⟨rfl, rfl⟩⟩
      · rename_i hf; cases e; rw [hf]; exact ⟨_, rfl, h.put (by rw [hb]; rfl) ⟨rfl, rfl⟩⟩
      · cases e
  · cases e

noncomputable def fMest (T : FH) (m s v : AV) : FEff := match m with
  | .map b => (match natOf s with
    | some born => (match gt T.t b with
      | some (.m es cl) => bif' v.isV (match es.findIdx? (fun e => Nat.beq e.2.2 born) with
        | some i => (match es[i]? with
          | some (k, _, _) => some (.tup [], put T b (.m (setE es i k v) cl))
          | none => none)
        | none => none) none
      | _ => none)
    | none => none)
  | _ => none
theorem fMest_ok {H : Heap} {T : FH} (h : HR H T) (m s v : AV) : EffOk (eMest H m s v) (fMest T m s v) := by
  intro r T' e
  unfold fMest at e
  cases m <;> try (cases e; done)
  rename_i b
  simp only at e
  split at e
  · rename_i born hs
    split at e
    · rename_i es cl hb
      have h1 := h.m hb
      rw [bif'_eq] at e
      simp only [eMest, h1, hs]
      cases hg : v.isV with
      | false => rw [hg] at e; cases e
      | true =>
        rw [hg] at e
        simp only [cond_true] at e ⊢
        split at e
        · rename_i i hi
          split at e
          · rename_i k _ _ hk; cases e; rw [hi]; simp only [hk]; exact ⟨_, rfl, h.put (by rw [hb]; rfl) ⟨rfl, rfl⟩⟩
          · cases e
        · cases e
    · cases e
  · cases e

noncomputable def fMdel (T : FH) (str : Bool) (m k : AV) : FEff := match m with
  | .nilm => some (.tup [], T)
  | .map b => (match gt T.t b with
    | some (.m es cl) => (match findE str k es 0 with
      | some (some (i, _, _)) => some (.tup [], put T b (.m (es.eraseIdx i) cl))
      | some none => some (.tup [], T)
      | none => none)
    | _ => none)
  | _ => none
theorem fMdel_ok {H : Heap} {T : FH} (h : HR H T) (str : Bool) (m k : AV) : EffOk (eMdel H str m k) (fMdel T str m k) := by
  intro r T' e
  unfold fMdel at e
  cases m <;> try (cases e; done)
  · cases e; exact ⟨_, rfl, h⟩
  rename_i b
  simp only at e
  split at e
  · rename_i es cl hb
    have h1 := h.m hb
    simp only [eMdel, h1]
    split at e
    · rename_i i _ _ hf; cases e; rw [hf]; exact ⟨_, rfl, h.put (by rw [hb]; rfl) ⟨rfl, rfl⟩⟩
    · rename_i hf; cases e; rw [hf]; exact ⟨_, rfl, h⟩
    · cases e
  · cases e

noncomputable def fSrc (T : FH) (sz : Nat) (x : AV) : Option (Nat × List AV) := match x with
  | .nils => some (0, [])
  | .sl b o n sz' => bif' (Nat.beq sz sz') (match gt T.t b with
    | some (.c N t _) => bif' (Nat.ble (o + n * sz) N) (match rng t (n * sz) o with
      | some cs => bif' (cs.all AV.isSc) (some (n, cs)) none
      | none => none) none
    | _ => none) none
  | .str s => bif' (Nat.beq sz 1) (some (s.length, ofBytes s)) none
  | _ => none
theorem fSrc_ok {H : Heap} {T : FH} (h : HR H T) {sz : Nat} {x : AV} {r : Nat × List AV} (e : fSrc T sz x = some r) : srcCells H sz x = some r := by
  unfold fSrc at e
  cases x <;> try (cases e; done)
  · simp only [bif'_eq] at e; exact e
  · exact e
  · rename_i b o n sz'
    simp only [bif'_eq] at e
    simp only [srcCells]
    cases hz : Nat.beq sz sz' with
    | false => rw [hz] at e; cases e
    | true =>
      rw [hz] at e
      simp only [cond_true] at e ⊢
      split at e
      · rename_i N t k hb
        obtain ⟨l, h1, rfl, h3⟩ := h.c hb
        simp only [Heap.ld, h1]
        cases hle : Nat.ble (o + n * sz) l.length with
        | false => rw [hle] at e; cases e
        | true =>
          rw [hle] at e
          simp only [cond_true] at e ⊢
          rw [h3.rng _ _ (by simpa [nble] using hle)] at e
          exact e
      · cases e

noncomputable def fNew (T : FH) (v : AV) (y : Option FB) : FEff := match y with
  | some y => bif' (Nat.blt T.next 1000000000) (some (v, new T y)) none
  | none => none
theorem fNew_ok {H : Heap} {T : FH} (h : HR H T) {v : AV} {y : Option FB} {x : Blk} (hxy : ∀ z, y = some z → BR (some x) (some z)) : EffOk (some (v, H.new x)) (fNew T v y) := by
  intro r T' e
  unfold fNew at e
  split at e
  · rename_i z
    rw [bif'_eq] at e
    cases hn : Nat.blt T.next 1000000000 with
    | false => rw [hn] at e; cases e
    | true => rw [hn] at e; cases e; exact ⟨_, rfl, h.new (by simpa [nblt] using hn) (hxy z rfl)⟩
  · cases e

/-- the cells that an appended row gets -/
noncomputable def grow (N : Nat) (t : Tr AV) (o m k : Nat) (new : List AV) : Option FB :=
  bif' (Nat.beq o 0 && (Nat.beq m N && Nat.blt (N + new.length) 1000000000)) (some (.c (N + new.length) (pushL new t N) (k + 1))) (match rng t m o with
    | some l => ofB (.cells (l ++ new) (k + 1))
    | none => none)
theorem grow_ok {l : List AV} {t : Tr AV} (h : CR l t) {o m k : Nat} {new : List AV} (hle : o + m ≤ l.length) {y : FB} (e : grow l.length t o m k new = some y) : BR (some (.cells ((l.drop o).take m ++ new) (k + 1))) (some y) := by
  unfold grow at e
  rw [bif'_eq] at e
  cases hb : Nat.beq o 0 && (Nat.beq m l.length && Nat.blt (l.length + new.length) 1000000000) with
  | true =>
    rw [hb] at e
    cases e
    simp only [Bool.and_eq_true, nbeq, nblt, decide_eq_true_eq] at hb
    obtain ⟨rfl, rfl, h3⟩ := hb
    refine ⟨rfl, by simp, ?_⟩
    rw [List.drop_zero, List.take_length]
    exact h.push h3
  | false =>
    rw [hb] at e
    simp only [cond_false] at e
    rw [h.rng _ _ hle] at e
    exact ofB_ok e

noncomputable def fAppTo (k sz bytes : Nat) (T : FH) (b o len n : Nat) (new : List AV) (N : Nat) (t : Tr AV) (w : Nat) : FEff :=
  bif' (Nat.ble (o + len * sz) N)
    (bif' (Nat.beq n 0) (some (.sl b o len sz, T))
      (match w with
      | 0 => none
      | w + 1 =>
        bif' (Nat.ble (o + (len + n) * sz) N)
          (bif' (Nat.ble (o + len * sz + new.length) N) (some (.sl b o (len + n) sz, put T b (.c N (stL new t (o + len * sz)) (w + 1)))) none)
          (bif' (Nat.beq w k && (Nat.ble ((len + n) * bytes) 35184372088832 && Nat.ble (len + n) 35184372088832))
            (fNew (put T b .dead) (.sl T.next 0 (len + n) sz) (grow N t o (len * sz) k new)) none)))
    none
theorem fAppTo_ok {H : Heap} {T : FH} (h : HR H T) {k sz bytes b o len n : Nat} {new l : List AV} {t : Tr AV} {w : Nat} (hb : gt T.t b = some (.c l.length t w)) (hl : CR l t) :
    EffOk (appTo k sz bytes H b o len n new l w) (fAppTo k sz bytes T b o len n new l.length t w) := by
  intro v T' e
  unfold fAppTo at e
  simp only [bif'_eq] at e
  unfold appTo
  cases h1 : Nat.ble (o + len * sz) l.length with
  | false => rw [h1] at e; cases e
  | true =>
    rw [h1] at e
    simp only [cond_true] at e ⊢
    cases h2 : Nat.beq n 0 with
    | true => rw [h2] at e; cases e; exact ⟨_, rfl, h⟩
    | false =>
      rw [h2] at e
      simp only [cond_false] at e ⊢
      cases w with
      | zero => cases e
      | succ w =>
        simp only at e ⊢
        cases h3 : Nat.ble (o + (len + n) * sz) l.length with
        | true =>
          rw [h3] at e
          simp only [cond_true] at e ⊢
          cases h4 : Nat.ble (o + len * sz + new.length) l.length with
          | false => rw [h4] at e; cases e
          | true =>
            rw [h4] at e
            cases e
            simp only [nble, decide_eq_true_eq] at h4
            refine ⟨_, rfl, h.put (by rw [hb]; rfl) ⟨rfl, ?_, hl.over _ h4⟩⟩
            simp [over]; omega
        | false =>
          rw [h3] at e
          simp only [cond_false] at e ⊢
          cases h4 : Nat.beq w k && (Nat.ble ((len + n) * bytes) 35184372088832 && Nat.ble (len + n) 35184372088832) with
          | false => rw [h4] at e; cases e
          | true =>
            rw [h4] at e
            simp only [cond_true] at e ⊢
            have hd : HR (H.put b .dead) (put T b .dead) := h.put (by rw [hb]; rfl) trivial
            rw [h.next] at e
            exact fNew_ok hd (fun z hz => grow_ok hl (by simpa [nble] using h1) hz) v T' e

noncomputable def fApp (k sz bytes : Nat) (T : FH) (s x : AV) : FEff := match fSrc T sz x with
  | none => none
  | some (n, new) => (match s with
    | .nils => bif' (Nat.beq n 0) (some (.nils, T)) (bif' (Nat.ble (n * bytes) 35184372088832 && (Nat.ble n 35184372088832 && !Nat.beq sz 0)) (fNew T (.sl T.next 0 n sz) (ofB (.cells new (k + 1)))) none)
    | .sl b o len sz' => bif' (Nat.beq sz sz' && !Nat.beq sz 0) (match gt T.t b with
      | some (.c N t w) => fAppTo k sz bytes T b o len n new N t w
      | _ => none) none
    | _ => none)
theorem fApp_ok {H : Heap} {T : FH} (h : HR H T) (k sz bytes : Nat) (s x : AV) : EffOk (evalApp k sz bytes H s x) (fApp k sz bytes T s x) := by
  intro v T' e
  unfold fApp at e
  split at e
  · cases e
  · rename_i n new hs
    have hs' := fSrc_ok h hs
    unfold evalApp
    rw [hs']
    simp only
    cases s <;> try (cases e; done)
    · simp only [bif'_eq] at e ⊢
      cases h1 : Nat.beq n 0 with
      | true => rw [h1] at e; cases e; exact ⟨_, rfl, h⟩
      | false =>
        rw [h1] at e
        simp only [cond_false] at e ⊢
        cases h2 : Nat.ble (n * bytes) 35184372088832 && (Nat.ble n 35184372088832 && !Nat.beq sz 0) with
        | false => rw [h2] at e; cases e
        | true =>
          rw [h2] at e
          simp only [cond_true] at e ⊢
          rw [h.next] at e
          exact fNew_ok h (fun z hz => ofB_ok hz) v T' e
    · rename_i b o len sz'
      simp only [bif'_eq] at e ⊢
      cases h1 : Nat.beq sz sz' && !Nat.beq sz 0 with
      | false => rw [h1] at e; cases e
      | true =>
        rw [h1] at e
        simp only [cond_true] at e ⊢
        split at e
        · rename_i N t w hb
          obtain ⟨l, g1, rfl, g3⟩ := h.c hb
          rw [g1]
          exact fAppTo_ok h hb g3 v T' e
        · cases e

noncomputable def fCopy (T : FH) (sz : Nat) (d s : AV) : FEff := match fSrc T sz s with
  | none => none
  | some (n, cs) => (match d with
    | .nils => some (.int .i64 0, T)
    | .sl b o len sz' => bif' (Nat.beq sz sz') (match fSt T b o (cs.take (min n len * sz)) with
      | some T' => some (.int .i64 (Int.ofNat (min n len)), T')
      | none => none) none
    | _ => none)
theorem fCopy_ok {H : Heap} {T : FH} (h : HR H T) (sz : Nat) (d s : AV) : EffOk (eCopy H sz d s) (fCopy T sz d s) := by
  intro v T' e
  unfold fCopy at e
  split at e
  · cases e
  · rename_i n cs hs
    unfold eCopy
    rw [fSrc_ok h hs]
    simp only
    cases d <;> try (cases e; done)
    · cases e; exact ⟨_, rfl, h⟩
    · rename_i b o len sz'
      simp only [bif'_eq] at e ⊢
      cases h1 : Nat.beq sz sz' with
      | false => rw [h1] at e; cases e
      | true =>
        rw [h1] at e
        simp only [cond_true] at e ⊢
        split at e
        · rename_i T1 h2
          cases e
          obtain ⟨H', g1, g2⟩ := fSt_ok h h2
          exact ⟨H', by rw [g1], g2⟩
        · cases e

noncomputable def fClear (T : FH) (zero : List AV) (s : AV) : FEff := match s with
  | .nils => some (.tup [], T)
  | .sl b o len sz => bif' (Nat.beq zero.length sz) (bif' (Nat.beq len 0) (some (.tup [], T)) (match fSt T b o (rep len zero) with
    | some T' => some (.tup [], T')
    | none => none)) none
  | _ => none
theorem fClear_ok {H : Heap} {T : FH} (h : HR H T) (zero : List AV) (s : AV) : EffOk (eClear H zero s) (fClear T zero s) := by
  intro v T' e
  unfold fClear at e
  cases s <;> try (cases e; done)
  · cases e; exact ⟨_, rfl, h⟩
  · rename_i b o len sz
    simp only [bif'_eq] at e
    simp only [eClear]
    cases h1 : Nat.beq zero.length sz with
    | false => rw [h1] at e; cases e
    | true =>
      rw [h1] at e
      simp only [cond_true] at e ⊢
      cases h2 : Nat.beq len 0 with
      | true => rw [h2] at e; cases e; exact ⟨_, rfl, h⟩
      | false =>
        rw [h2] at e
        simp only [cond_false] at e ⊢
        split at e
        · rename_i T1 h3
          cases e
          obtain ⟨H', g1, g2⟩ := fSt_ok h h3
          exact ⟨H', by rw [g1]; rfl, g2⟩
        · cases e

noncomputable def fUstr (T : FH) (p : AV) (n : Nat) : FEff := match p with
  | .nilp => bif' (Nat.beq n 0) (some (.str [], T)) none
  | .ptr b o => bif' (Nat.beq n 0) (some (.str [], T)) (match gt T.t b with
    | some (.c N t k) => bif' (Nat.beq k 3 && Nat.ble (o + n) N) (match strOf (rng t n o) with
      | some s => some (s, put T b (.c N t 0))
      | none => none) none
    | _ => none)
  | _ => none
theorem fUstr_ok {H : Heap} {T : FH} (h : HR H T) (p : AV) (n : Nat) : EffOk (eUstr H p n) (fUstr T p n) := by
  intro v T' e
  unfold fUstr at e
  cases p <;> try (cases e; done)
  · simp only [bif'_eq] at e
    simp only [eUstr]
    cases h1 : Nat.beq n 0 with
    | false => rw [h1] at e; cases e
    | true => rw [h1] at e; cases e; exact ⟨_, rfl, h⟩
  · rename_i b o
    simp only [bif'_eq] at e
    simp only [eUstr]
    cases h1 : Nat.beq n 0 with
    | true => rw [h1] at e; cases e; exact ⟨_, rfl, h⟩
    | false =>
      rw [h1] at e
      simp only [cond_false] at e ⊢
      split at e
      · rename_i N t k hb
        obtain ⟨l, g1, rfl, g3⟩ := h.c hb
        rw [g1]
        simp only
        cases h2 : Nat.beq k 3 && Nat.ble (o + n) l.length with
        | false => rw [h2] at e; cases e
        | true =>
          rw [h2] at e
          simp only [Bool.and_eq_true] at h2
          simp only [cond_true, h2.1, Heap.ld, g1, h2.2] at e ⊢
          rw [g3.rng _ _ (by simpa [nble] using h2.2)] at e
          split at e
          · rename_i s hs
            cases e
            exact ⟨H.put b (.cells l 0), by rw [hs], h.put (by rw [hb]; rfl) ⟨rfl, rfl, g3⟩⟩
          · cases e
      · cases e

noncomputable def fMark (T : FH) (x : AV) : FEff := match x with
  | .sl b o len sz => (match gt T.t b with
    | some (.c _ _ k) => bif' (Nat.beq k 3) (some (.sl b o len sz, T)) none
    | _ => none)
  | _ => none
theorem fMark_ok {H : Heap} {T : FH} (h : HR H T) (x : AV) : EffOk (eMark H x) (fMark T x) := by
  intro v T' e
  unfold fMark at e
  cases x <;> try (cases e; done)
  simp only [bif'_eq] at e
  split at e
  · rename_i N t k hb
    obtain ⟨l, g1, rfl, g3⟩ := h.c hb
    simp only [eMark, g1]
    cases h1 : Nat.beq k 3 with
    | false => rw [h1] at e; cases e
    | true => rw [h1] at e; cases e; exact ⟨_, rfl, h⟩
  · cases e

def CalOk (c : Cal) (f : FCal) : Prop := ∀ g args H T, HR H T → EffOk (c g args H) (f g args T)

noncomputable def evE (p : PE) : FCal → Tr AV → FH → FEff :=
  PE.rec (motive := fun _ => FCal → Tr AV → FH → FEff)
    (fun n a v _ fr T => fStore T n (at' fr a) (at' fr v).cells)
    (fun str m k v _ fr T => fMupd T str (at' fr m) (at' fr k) (at' fr v))
    (fun str zero m k _ fr T => fMent T str zero (at' fr m) (at' fr k))
    (fun m s v _ fr T => fMest T (at' fr m) (at' fr s) (at' fr v))
    (fun str m k _ fr T => fMdel T str (at' fr m) (at' fr k))
    (fun k sz bytes s x _ fr T => fApp k sz bytes T (at' fr s) (at' fr x))
    (fun sz d s _ fr T => fCopy T sz (at' fr d) (at' fr s))
    (fun zero s _ fr T => fClear T zero (at' fr s))
    (fun f args cal fr T => cal f (atl fr args) T)
    (fun f args cal fr T => match at' fr f with
      | .fn f caps => cal f (atl fr args ++ caps) T
      | _ => none)
    (fun p n _ fr T => match natOf (at' fr n) with
      | some n => bif' (Nat.ble n 35184372088832) (fUstr T (at' fr p) n) none
      | none => none)
    (fun x _ fr T => fMark T (at' fr x)) p

theorem evE_ok {f : List AV} {fr : Tr AV} (hf : CR f fr) {H : Heap} {T : FH} (h : HR H T) {c : Cal} {fc : FCal} (hc : CalOk c fc) (p : PE) : EffOk (evalE c f H p) (evE p fc fr T) := by
  cases p
  case store n a v => have := fStore_ok h n (a.ev f) (v.ev f).cells; rw [← at_eq hf, ← at_eq hf] at this; rw [evalE, ← at_eq hf, ← at_eq hf]; exact this
  case mupd str m k v => have := fMupd_ok h str (at' fr m) (at' fr k) (at' fr v); rw [evalE, ← at_eq hf, ← at_eq hf, ← at_eq hf]; exact this
  case ment str zero m k => have := fMent_ok h str zero (at' fr m) (at' fr k); rw [evalE, ← at_eq hf, ← at_eq hf]; exact this
  case mest m s v => have := fMest_ok h (at' fr m) (at' fr s) (at' fr v); rw [evalE, ← at_eq hf, ← at_eq hf, ← at_eq hf]; exact this
  case mdel str m k => have := fMdel_ok h str (at' fr m) (at' fr k); rw [evalE, ← at_eq hf, ← at_eq hf]; exact this
  case app k sz bytes s x => have := fApp_ok h k sz bytes (at' fr s) (at' fr x); rw [evalE, ← at_eq hf, ← at_eq hf]; exact this
  case copy sz d s => have := fCopy_ok h sz (at' fr d) (at' fr s); rw [evalE, ← at_eq hf, ← at_eq hf]; exact this
  case clear zero s => have := fClear_ok h zero (at' fr s); rw [evalE, ← at_eq hf]; exact this
  case call g args => have := hc g (atl fr args) H T h; rw [evalE, ← atl_eq hf]; exact this
  case callv g args =>
    rw [evalE, ← at_eq hf, ← atl_eq hf]
    intro v T' e
    replace e : (match at' fr g with
      | .fn f caps => fc f (atl fr args ++ caps) T
      | _ => none) = some (v, T') := e
    split at e
    · rename_i k caps hk
      rw [hk]
      exact hc k _ H T h v T' e
    · cases e
  case ustr p n =>
    rw [evalE, ← at_eq hf, ← at_eq hf]
    intro v T' e
    replace e : (match natOf (at' fr n) with
      | some n => bif' (Nat.ble n 35184372088832) (fUstr T (at' fr p) n) none
      | none => none) = some (v, T') := e
    split at e
    · rename_i k hk
      simp only [eUstr', hk]
      rw [bif'_eq] at e
      cases hb : Nat.ble k 35184372088832 with
      | false => rw [hb] at e; cases e
      | true => rw [hb] at e; exact fUstr_ok h _ _ v T' e
    · cases e
  case mark x => have := fMark_ok h (at' fr x); rw [evalE, ← at_eq hf]; exact this

noncomputable def evO (p : Pk) : FCal → Tr AV → FH → FEff :=
  Pk.rec (motive := fun _ => FCal → Tr AV → FH → FEff)
    (fun p _ fr T => match evR p fr T with
      | some v => some (v, T)
      | none => none)
    (fun p _ fr T => match evN p fr with
      | some (y, f) => (match gt T.t T.next with
        | none => fNew T (f T.next) (some y)
        | some _ => none)
      | none => none)
    (fun p c fr T => evE p c fr T) p

theorem evO_ok {f : List AV} {fr : Tr AV} (hf : CR f fr) {H : Heap} {T : FH} (h : HR H T) {c : Cal} {fc : FCal} (hc : CalOk c fc) (p : Pk) : EffOk (evalO c f H p) (evO p fc fr T) := by
  cases p with
  | e p => exact evE_ok hf h hc p
  | r p =>
    intro v T' e
    replace e : (match evR p fr T with
      | some v => some (v, T)
      | none => none) = some (v, T') := e
    split at e
    · rename_i v' hv
      cases e
      exact ⟨H, by rw [evalO, evR_ok hf h hv]; rfl, h⟩
    · cases e
  | n p =>
    intro v T' e
    replace e : (match evN p fr with
      | some (y, f) => (match gt T.t T.next with
        | none => fNew T (f T.next) (some y)
        | some _ => none)
      | none => none) = some (v, T') := e
    split at e
    · rename_i y g hy
      obtain ⟨x, h1, h2⟩ := evN_ok hf hy
      split at e
      · rename_i hn
        rw [evalO, h1]
        simp only [withN]
        rw [h.next] at hn e
        rw [h.none hn]
        exact fNew_ok h (fun z hz => by cases hz; exact h2) v T' e
      · cases e
    · cases e

noncomputable def wantT (g : Option (Nat × Bool)) (fr : Tr AV) : Option Bool :=
  Option.rec (motive := fun _ => Option Bool) (some true) (fun p => match look fr p.1 with
    | .bool b => some (b == p.2)
    | .undef => none
    | _ => some false) g
theorem wantT_ok {f : List AV} {fr : Tr AV} (hf : CR f fr) (g : Option (Nat × Bool)) : wantT g fr = wanted f g := by
  cases g with
  | none => rfl
  | some p =>
    obtain ⟨i, w⟩ := p
    show (match look fr i with
      | .bool b => some (b == w)
      | .undef => none
      | _ => some false) = _
    rw [hf.look]
    rfl
noncomputable def setT (fr : Tr AV) (d : Option Nat) (v : AV) : Tr AV := Option.rec (motive := fun _ => Tr AV) fr (fun d => st v fr d) d
theorem setT_ok {f : List AV} {fr : Tr AV} (hf : CR f fr) (d : Option Nat) (v : AV) : CR (setD f d v) (setT fr d v) := by
  cases d with
  | none => exact hf
  | some d => exact hf.set d v

def Do2Ok (d : Do2) (e : Tr AV → FH → Option (Tr AV × FH)) : Prop := ∀ f fr H T, CR f fr → HR H T → ∀ fr' T', e fr T = some (fr', T') → ∃ f' H', d f H = some (f', H') ∧ CR f' fr' ∧ HR H' T'

noncomputable def stepT (o : PO) : FCal → Tr AV → FH → Option (Tr AV × FH) :=
  PO.rec (motive := fun _ => FCal → Tr AV → FH → Option (Tr AV × FH)) (fun d g p c fr T => match wantT g fr with
    | some true => (match evO p c fr T with
      | some (v, T') => some (setT fr d v, T')
      | none => none)
    | some false => some (setT fr d (.tup []), T)
    | none => none) o
theorem stepT_ok {c : Cal} {fc : FCal} (hc : CalOk c fc) (o : PO) : Do2Ok (Dp.step c o) (stepT o fc) := by
  obtain ⟨d, g, p⟩ := o
  intro f fr H T hf h fr' T' e
  replace e : (match wantT g fr with
    | some true => (match evO p fc fr T with
      | some (v, T') => some (setT fr d v, T')
      | none => none)
    | some false => some (setT fr d (.tup []), T)
    | none => none) = some (fr', T') := e
  rw [wantT_ok hf] at e
  simp only [Dp.step]
  cases hw : wanted f g with
  | none => rw [hw] at e; cases e
  | some w =>
    rw [hw] at e
    cases w with
    | false => cases e; exact ⟨_, _, rfl, setT_ok hf d _, h⟩
    | true =>
      simp only [cond_true] at e ⊢
      split at e
      · rename_i v T1 hv
        cases e
        obtain ⟨H', h1, h2⟩ := evO_ok hf h hc p v _ hv
        rw [h1]
        exact ⟨_, _, rfl, setT_ok hf d v, h2⟩
      · cases e

noncomputable def againT (o : PO) : FCal → Tr AV → FH → Option (Tr AV × FH) :=
  PO.rec (motive := fun _ => FCal → Tr AV → FH → Option (Tr AV × FH)) (fun d g p _ fr T => match p with
    | .r p => (match d with
      | some d => (match wantT g fr with
        | some true => (match evR p fr T with
          | some v => bif' (sameV v (look fr d)) (some (fr, T)) none
          | none => none)
        | some false => some (fr, T)
        | none => none)
      | none => none)
    | _ => none) o
theorem againT_ok (fc : FCal) (o : PO) : Do2Ok (again o) (againT o fc) := by
  obtain ⟨d, g, p⟩ := o
  intro f fr H T hf h fr' T' e
  cases p with
  | n p => cases e
  | e p => cases e
  | r p =>
    cases d with
    | none => cases e
    | some d =>
      replace e : (match wantT g fr with
        | some true => (match evR p fr T with
          | some v => bif' (sameV v (look fr d)) (some (fr, T)) none
          | none => none)
        | some false => some (fr, T)
        | none => none) = some (fr', T') := e
      rw [wantT_ok hf] at e
      simp only [again]
      cases hw : wanted f g with
      | none => rw [hw] at e; cases e
      | some w =>
        rw [hw] at e
        cases w with
        | false => cases e; exact ⟨_, _, rfl, hf, h⟩
        | true =>
          simp only [cond_true] at e ⊢
          split at e
          · rename_i v hv
            rw [evR_ok hf h hv]
            rw [bif'_eq, hf.look] at e
            simp only [againR]
            cases hs : sameV v (f.getD d .undef) with
            | false => rw [hs] at e; cases e
            | true => rw [hs] at e; cases e; exact ⟨_, _, rfl, hf, h⟩
          · cases e

noncomputable def itT (i : It) : FCal → Tr AV → FH → Option (Tr AV × FH) := It.rec (motive := fun _ => FCal → Tr AV → FH → Option (Tr AV × FH)) stepT againT i
theorem itT_ok {c : Cal} {fc : FCal} (hc : CalOk c fc) (i : It) : Do2Ok (doIt c i) (itT i fc) := by
  cases i with
  | op o => exact stepT_ok hc o
  | again o => exact againT_ok fc o

noncomputable def stepsT (l : List It) : FCal → Tr AV → FH → Option (Tr AV × FH) :=
  List.rec (motive := fun _ => FCal → Tr AV → FH → Option (Tr AV × FH)) (fun _ fr T => some (fr, T)) (fun i _ ih c fr T => match itT i c fr T with
    | some (fr', T') => ih c fr' T'
    | none => none) l
theorem stepsT_ok {c : Cal} {fc : FCal} (hc : CalOk c fc) : ∀ l : List It, Do2Ok (steps c l) (stepsT l fc)
  | [] => fun f fr H T hf h fr' T' e => by cases e; exact ⟨f, H, rfl, hf, h⟩
  | i :: l => fun f fr H T hf h fr' T' e => by
    replace e : (match itT i fc fr T with
      | some (fr', T') => stepsT l fc fr' T'
      | none => none) = some (fr', T') := e
    split at e
    · rename_i fr1 T1 h1
      obtain ⟨f1, H1, e1, g1, g2⟩ := itT_ok hc i f fr H T hf h fr1 T1 h1
      obtain ⟨f2, H2, e2, g3, g4⟩ := stepsT_ok hc l f1 fr1 H1 T1 g1 g2 fr' T' e
      exact ⟨f2, H2, by rw [steps_cons]; simp only [thenDo, e1, e2], g3, g4⟩
    · cases e

abbrev FDn := Tr AV → FH → Option (Ex × Tr AV × FH)
def DnOk (d : Dn) (e : FDn) : Prop := ∀ f fr H T, CR f fr → HR H T → ∀ x fr' T', e fr T = some (x, fr', T') → ∃ f' H', d f H = some (x, f', H') ∧ CR f' fr' ∧ HR H' T'

noncomputable def tReg (f : Tr AV → FH → Option (Tr AV × FH)) : FDn := fun fr T => match f fr T with
  | some (fr', T') => some (.normal, fr', T')
  | none => none
noncomputable def tSeq (f g : FDn) : FDn := fun fr T => match f fr T with
  | some (.normal, fr', T') => g fr' T'
  | r => r
noncomputable def tCond (c : X) (f g : FDn) : FDn := fun fr T => match at' fr c with
  | .bool true => f fr T
  | .bool false => g fr T
  | _ => none
noncomputable def tBlock (id : Nat) (f : FDn) : FDn := fun fr T => match f fr T with
  | some (.exit j, fr', T') => bif' (Nat.beq j id) (some (.normal, fr', T')) (some (.exit j, fr', T'))
  | r => r
noncomputable def tIter (f : FDn) (n : Nat) : FDn := Nat.rec (motive := fun _ => FDn) (fun _ _ => none) (fun _ ih => tSeq f ih) n
noncomputable def execT (cal : FCal) (n : Nat) (c : PC) : FDn :=
  PC.rec (motive := fun _ => FDn) (fun fr T => some (.normal, fr, T)) (fun its => tReg (stepsT its cal)) (fun _ _ f g => tSeq f g) (fun c _ _ f g => tCond c f g)
    (fun id _ f => tBlock id f) (fun _ f => tIter f n) (fun id fr T => some (.exit id, fr, T)) (fun _ f => f) (fun fr T => some (.ret, fr, T)) (fun _ _ => none) c

theorem tReg_ok {f : Do2} {g : Tr AV → FH → Option (Tr AV × FH)} (h : Do2Ok f g) : DnOk (dReg f) (tReg g) := by
  intro f fr H T hf hH x fr' T' e
  unfold tReg at e
  split at e
  · rename_i fr1 T1 h1
    cases e
    obtain ⟨f1, H1, e1, g1, g2⟩ := h f fr H T hf hH _ _ h1
    exact ⟨f1, H1, by simp only [dReg, e1], g1, g2⟩
  · cases e
theorem tSeq_ok {f g : Dn} {f' g' : FDn} (hf : DnOk f f') (hg : DnOk g g') : DnOk (dSeq f g) (tSeq f' g') := by
  intro fr t H T h1 h2 x t' T' e
  unfold tSeq at e
  split at e
  · rename_i t1 T1 h3
    obtain ⟨f1, H1, e1, g1, g2⟩ := hf fr t H T h1 h2 _ _ _ h3
    obtain ⟨f2, H2, e2, g3, g4⟩ := hg f1 t1 H1 T1 g1 g2 _ _ _ e
    exact ⟨f2, H2, by simp only [dSeq, e1, e2], g3, g4⟩
  · rename_i hn
    obtain ⟨f1, H1, e1, g1, g2⟩ := hf fr t H T h1 h2 _ _ _ e
    refine ⟨f1, H1, ?_, g1, g2⟩
    unfold dSeq
    rw [e1]
    cases x with
    | normal => exact (hn _ _ e).elim
    | exit _ => rfl
    | ret => rfl
theorem tCond_ok (c : X) {f g : Dn} {f' g' : FDn} (hf : DnOk f f') (hg : DnOk g g') : DnOk (dCond c f g) (tCond c f' g') := by
  intro fr t H T h1 h2 x t' T' e
  unfold tCond at e
  rw [at_eq h1] at e
  unfold dCond
  split at e
  · rename_i hc; rw [hc]; exact hf fr t H T h1 h2 _ _ _ e
  · rename_i hc; rw [hc]; exact hg fr t H T h1 h2 _ _ _ e
  · cases e
theorem tBlock_ok (id : Nat) {f : Dn} {f' : FDn} (hf : DnOk f f') : DnOk (dBlock id f) (tBlock id f') := by
  intro fr t H T h1 h2 x t' T' e
  unfold tBlock at e
  split at e
  · rename_i j t1 T1 h3
    obtain ⟨f1, H1, e1, g1, g2⟩ := hf fr t H T h1 h2 _ _ _ h3
    rw [bif'_eq] at e
    simp only [dBlock, e1]
    cases hj : Nat.beq j id with
    | true => rw [hj] at e; cases e; exact ⟨f1, H1, rfl, g1, g2⟩
    | false => rw [hj] at e; cases e; exact ⟨f1, H1, rfl, g1, g2⟩
  · rename_i hn
    obtain ⟨f1, H1, e1, g1, g2⟩ := hf fr t H T h1 h2 _ _ _ e
    refine ⟨f1, H1, ?_, g1, g2⟩
    unfold dBlock
    rw [e1]
    cases x with
    | normal => rfl
    | exit j => exact (hn _ _ _ e).elim
    | ret => rfl
theorem tIter_ok {f : Dn} {f' : FDn} (hf : DnOk f f') : ∀ n, DnOk (iter f n) (tIter f' n)
  | 0 => fun _ _ _ _ _ _ _ _ _ e => by cases e
  | n + 1 => tSeq_ok hf (tIter_ok hf n)
theorem execT_ok {c : Cal} {fc : FCal} (hc : CalOk c fc) (n : Nat) (p : PC) : DnOk (exec c n p) (execT fc n p) := by
  induction p with
  | skip => intro f fr H T hf h x fr' T' e; cases e; exact ⟨f, H, rfl, hf, h⟩
  | region its => exact tReg_ok (stepsT_ok hc its)
  | seq a b ha hb => exact tSeq_ok ha hb
  | cond c a b ha hb => exact tCond_ok c ha hb
  | block id b hb => exact tBlock_ok id hb
  | loop b hb => exact tIter_ok hb n
  | exit id => intro f fr H T hf h x fr' T' e; cases e; exact ⟨f, H, rfl, hf, h⟩
  | scope b hb => exact hb
  | ret => intro f fr H T hf h x fr' T' e; cases e; exact ⟨f, H, rfl, hf, h⟩
  | stuck => intro f fr H T hf h x fr' T' e; cases e

noncomputable def fRes (fr : Tr AV) (T : FH) (rs : List PRes) : Option (List AV) :=
  List.rec (motive := fun _ => Option (List AV)) (some []) (fun r _ ih => match (match r with
      | .tmp t => some (look fr t)
      | .cell t agg n => fLoad T agg n (look fr t)), ih with
    | some v, some vs => some (v :: vs)
    | _, _ => none) rs
theorem fRes_ok {f : List AV} {fr : Tr AV} (hf : CR f fr) {H : Heap} {T : FH} (h : HR H T) : ∀ (rs : List PRes) (vs : List AV), fRes fr T rs = some vs → resList f H rs = some vs
  | [], vs, e => e
  | r :: rs, vs, e => by
    replace e : (match (match r with
      | .tmp t => some (look fr t)
      | .cell t agg n => fLoad T agg n (look fr t)), fRes fr T rs with
      | some v, some vs => some (v :: vs)
      | _, _ => none) = some vs := e
    split at e
    · rename_i v l h1 h2
      cases e
      have h3 : resOf f H r = some v := by
        cases r with
        | tmp t => rw [← h1]; simp only [resOf, hf.look]
        | cell t agg n => exact fLoad_ok h (by rw [← hf.look]; exact h1)
      simp only [resList, h3, fRes_ok hf h rs l h2]
    · cases e

noncomputable def leaveT (rs : List PRes) (o : Option (Ex × Tr AV × FH)) : FEff := match o with
  | some (.exit _, _, _) => none
  | some (_, fr, T) => (match fRes fr T rs with
    | some vs => (match resV vs with
      | some v => some (v, T)
      | none => none)
    | none => none)
  | none => none

/-- The tables in one step. -/
noncomputable def fMk (args : List AV) (T : FH) : FEff := match args with
  | [] => (match gt T.t T.next with
    | none => (match gt T.t (Nat.succ T.next) with
      | none => bif' (Nat.blt T.next 100000000) (some (.agg Mk.table, new (new T .dead) .dead)) none
      | some _ => none)
    | some _ => none)
  | _ => none
theorem fMk_ok {H : Heap} {T : FH} (h : HR H T) (args : List AV) : EffOk (Mk.prim args H) (fMk args T) := by
  intro v T' e
  unfold fMk at e
  split at e
  · split at e
    · rename_i h1
      split at e
      · rename_i h2
        rw [bif'_eq] at e
        cases hb : Nat.blt T.next 100000000 with
        | false => rw [hb] at e; cases e
        | true =>
          rw [hb] at e
          cases e
          rw [h.next] at h1 h2
          have hlt : T.next < 100000000 := by simpa [nblt] using hb
          have hn : (new T .dead).next = T.next + 1 := rfl
          refine ⟨(H.new .dead).new .dead, by simp only [Mk.prim, h.none h1, h.none (b := H.next + 1) h2], (h.new (x := .dead) (y := .dead) (by omega) trivial).new (x := .dead) (y := .dead) (by rw [hn]; omega) trivial⟩
      · cases e
    · cases e
  · cases e

noncomputable def callByT (tr : Tr LF) (mk : Nat) (n : Nat) (ih : FCal) : FCal := fun f args T =>
  bif' (Nat.beq f mk) (fMk args T) (match gt tr f with
    | some (.code pf) => (match enterT pf args with
      | some fr => leaveT pf.results (execT ih n pf.body fr T)
      | none => none)
    | _ => none)
noncomputable def callT (tr : Tr LF) (mk : Nat) (n : Nat) : FCal :=
  Nat.rec (motive := fun _ => FCal) (fun _ _ _ => none) (fun n ih => callByT tr mk n ih) n

theorem callT_ok {tr : Tr LF} {mk : Nat} (hmk : tr.get mk = some (.prim Mk.prim)) : ∀ n, CalOk (call tr.get n) (callT tr mk n)
  | 0 => fun _ _ _ _ _ _ _ e => by cases e
  | n + 1 => fun f args H T h v T' e => by
    replace e : callByT tr mk n (callT tr mk n) f args T = some (v, T') := e
    unfold callByT at e
    rw [bif'_eq] at e
    rw [call_succ]
    unfold callBy
    cases hb : Nat.beq f mk with
    | true =>
      rw [hb] at e
      have : f = mk := Nat.eq_of_beq_eq_true hb
      subst this
      rw [hmk]; exact fMk_ok h args v T' e
    | false =>
      rw [hb] at e
      simp only [cond_false] at e
      rw [gt_eq] at e
      split at e
      · rename_i pf hpf
        rw [hpf]
        simp only
        split at e
        · rename_i fr hfr
          unfold leaveT at e
          split at e
          · cases e
          · rename_i x fr1 T1 hx hx1
            obtain ⟨f1, H1, e1, g1, g2⟩ := execT_ok (callT_ok hmk n) n pf.body _ fr H T (enterT_ok hfr) h _ _ _ hx1
            rw [e1]
            split at e
            · rename_i vs hvs
              have hv := fRes_ok g1 g2 _ _ hvs
              split at e
              · rename_i v1 hv1
                cases e
                refine ⟨H1, ?_, g2⟩
                cases x with
                | exit j => exact (hx j rfl).elim
                | normal => simp only [leave, hv, hv1]
                | ret => simp only [leave, hv, hv1]
              · cases e
            · cases e
          · cases e
        · cases e
      · cases e

def isTrueT : FEff → Bool
  | some (.bool true, _) => true
  | _ => false

theorem rel0 : HR noHeap ⟨.leaf, 0⟩ := ⟨rfl, fun _ => trivial⟩

theorem isTrue_of {tr : Tr LF} {mk n f : Nat} (hmk : tr.get mk = some (.prim Mk.prim)) (h : isTrueT (callT tr mk n f [] ⟨.leaf, 0⟩) = true) : isTrue (call tr.get n f [] noHeap) = true := by
  unfold isTrueT at h
  split at h
  · rename_i T hT
    obtain ⟨H', h1, _⟩ := callT_ok hmk n f [] noHeap _ rel0 _ _ hT
    rw [h1]; rfl
  · cases h

end Go.Dp.Fs
