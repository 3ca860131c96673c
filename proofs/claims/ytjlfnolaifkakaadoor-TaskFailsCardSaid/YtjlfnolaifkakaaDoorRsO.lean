/- Encode as one step of the machine with oracles. Conditions: none. -/
import Derived.Test.YtjlfnolaifkakaaDoorRsC
import Derived.Test.YtjlfnolaifkakaaDoorQfD
namespace Go.Proofs.YtjlfnolaifkakaaDoor
open Go.Dp Go.Dp.Fs
set_option linter.unusedSimpArgs false
set_option linter.unusedVariables false

noncomputable def fb (l : List AV) (w : Nat) : FB := .c l.length (pushL l .leaf 0) w
theorem fb_br {l : List AV} {w : Nat} (h : l.length < 1000000000) : BR (some (.cells l w)) (some (fb l w)) := by
  refine ⟨rfl, rfl, ?_⟩
  have := cr_nil (α := AV) |>.push (vs := l) (by simpa using h)
  simpa using this

def rdNat (v : AV) : Option Nat := match v with
  | .int .u8 (.ofNat n) => bif Nat.blt n 256 then some n else none
  | _ => none
theorem rdNat_ok {v : AV} {n : Nat} (h : rdNat v = some n) : v = .int .u8 (.ofNat n) ∧ n < 256 := by
  unfold rdNat at h
  split at h
  · rename_i m
    cases hb : Nat.blt m 256 with
    | false => rw [hb] at h; cases h
    | true => rw [hb] at h; cases h; exact ⟨rfl, by simpa [nblt] using hb⟩
  · cases h
def rdNats : List AV → Option (List Nat)
  | [] => some []
  | v :: l => match rdNat v with
    | some n => (match rdNats l with
      | some r => some (n :: r)
      | none => none)
    | none => none
theorem rdNats_ok : ∀ {l : List AV} {r : List Nat}, rdNats l = some r → r.length = l.length ∧ ∀ j, j < l.length → l[j]? = some (.int .u8 (.ofNat (r.getD j 0))) ∧ r.getD j 0 < 256
  | [], r, h => by cases h; exact ⟨rfl, fun j hj => by cases hj⟩
  | v :: l, r, h => by
    unfold rdNats at h
    split at h
    · rename_i n hn
      split at h
      · rename_i q hq
        cases h
        obtain ⟨h1, h2⟩ := rdNats_ok hq
        obtain ⟨rfl, h3⟩ := rdNat_ok hn
        refine ⟨by simp [h1], fun j hj => ?_⟩
        cases j with
        | zero => exact ⟨rfl, h3⟩
        | succ j => rw [List.getElem?_cons_succ, List.getD_cons_succ]; exact h2 j (by simpa using hj)
      · cases h
    · cases h
theorem rng_inv {α : Type} {t : Tr α} : ∀ {n o : Nat} {l : List α}, rng t n o = some l → l.length = n ∧ ∀ j, j < n → t.get (o + j) = l[j]?
  | 0, o, l, h => by cases h; exact ⟨rfl, fun j hj => by omega⟩
  | n + 1, o, l, h => by
    rw [rng_succ] at h
    split at h
    · cases h
    · rename_i v hv
      split at h
      · cases h
      · rename_i q hq
        cases h
        obtain ⟨h1, h2⟩ := rng_inv hq
        refine ⟨by simp [h1], fun j hj => ?_⟩
        cases j with
        | zero => rw [← gt_eq, Nat.add_zero, hv]; rfl
        | succ j => rw [show o + (j + 1) = o + 1 + j by omega, h2 j (by omega), List.getElem?_cons_succ]

noncomputable def rowT (T : FH) (k : Nat) (v : AV) : Option (List Nat) := match v with
  | .sl b o k' sz => bif' (Nat.beq k' k && Nat.beq sz 1) (match gt T.t b with
    | some (.c _ t _) => (match rng t k o with
      | some l => rdNats l
      | none => none)
    | _ => none) none
  | _ => none
theorem rowT_ok {H : Heap} {T : FH} (h : HR H T) {k : Nat} {v : AV} {r : List Nat} (e : rowT T k v = some r) :
    r.length = k ∧ Below256 r ∧ ∃ b o l' w', v = .sl b o k 1 ∧ H.get b = some (.cells l' w') ∧ ∀ j, j < k → l'[o + j]? = some (.int .u8 (.ofNat (r.getD j 0))) := by
  unfold rowT at e
  split at e
  · rename_i b o k' sz
    rw [bif'_eq] at e
    replace e := cond_some e
    obtain ⟨e1, e⟩ := e
    simp only [Bool.and_eq_true, nbeq, decide_eq_true_eq] at e1
    obtain ⟨rfl, rfl⟩ := e1
    split at e
    · rename_i N t w hb
      obtain ⟨l', h1, _, h3⟩ := h.c hb
      split at e
      · rename_i l hl
        obtain ⟨q1, q2⟩ := rng_inv hl
        obtain ⟨p1, p2⟩ := rdNats_ok e
        rw [q1] at p1 p2
        refine ⟨p1, fun i => ?_, b, o, l', w, rfl, h1, fun j hj => ?_⟩
        · by_cases hi : i < k'
          · exact (p2 i hi).2
          · rw [List.getD_eq_getElem?_getD, List.getElem?_eq_none (by omega)]; decide
        · rw [← h3, q2 j hj]; exact (p2 j hj).1
      · cases e
    · cases e
  · cases e
noncomputable def rowsT (T : FH) (k : Nat) (l : List AV) : Option (List (List Nat)) :=
  List.rec (motive := fun _ => Option (List (List Nat))) (some []) (fun v _ ih => match rowT T k v with
    | some r => (match ih with
      | some q => some (r :: q)
      | none => none)
    | none => none) l
theorem rowsT_ok {H : Heap} {T : FH} (h : HR H T) {k : Nat} : ∀ {l : List AV} {rows : List (List Nat)}, rowsT T k l = some rows → rows.length = l.length ∧ ∀ i, i < l.length → (rows.getD i []).length = k ∧ Below256 (rows.getD i []) ∧
    ∃ b o l' w', l[i]? = some (.sl b o k 1) ∧ H.get b = some (.cells l' w') ∧ ∀ j, j < k → l'[o + j]? = some (.int .u8 (.ofNat ((rows.getD i []).getD j 0)))
  | [], rows, e => by cases e; exact ⟨rfl, fun i hi => by cases hi⟩
  | v :: l, rows, e => by
    replace e : (match rowT T k v with
      | some r => (match rowsT T k l with
        | some q => some (r :: q)
        | none => none)
      | none => none) = some rows := e
    split at e
    · rename_i r hr
      split at e
      · rename_i q hq
        cases e
        obtain ⟨h1, h2⟩ := rowsT_ok h hq
        obtain ⟨r1, r2, b, o, l', w', rfl, r4, r5⟩ := rowT_ok h hr
        refine ⟨by simp [h1], fun i hi => ?_⟩
        cases i with
        | zero => exact ⟨r1, r2, b, o, l', w', rfl, r4, r5⟩
        | succ i => rw [List.getD_cons_succ, List.getElem?_cons_succ]; exact h2 i (by simpa using hi)
      · cases e
    · cases e

noncomputable def mixT (k : Nat) (value : List UInt8) (rows : List (List Nat)) : FH → FH :=
  List.rec (motive := fun _ => FH → FH) (fun T => T) (fun r _ ih T => ih (new T (fb (u8s (fragN k r value)) 3))) rows
def outL (k : Nat) (value : List UInt8) (rows : List (List Nat)) : List AV := rows.map fun r => .str (fragS k r value)
theorem outL_eq {k n : Nat} {value : List UInt8} {rows : List (List Nat)} (h : rows.length = n) : outL k value rows = outC k rows value n n := by
  apply List.ext_getElem?
  intro i
  unfold outL outC
  rw [List.getElem?_map, List.getElem?_map]
  by_cases hi : i < n
  · rw [List.getElem?_range hi, List.getElem?_eq_getElem (by omega)]
    simp [hi, List.getD_eq_getElem?_getD, List.getElem?_eq_getElem (show i < rows.length by omega)]
  · rw [List.getElem?_eq_none (by omega), List.getElem?_eq_none (by simp; omega)]; rfl

theorem gt_new {T : FH} {x : FB} (h : T.next < 1000000000) (b : Nat) : gt (new T x).t b = if b = T.next then some x else gt T.t b := by
  rw [gt_eq, gt_eq]
  exact get_stg 32 _ _ _ _ (by omega)
theorem gt_mix {k : Nat} {value : List UInt8} : ∀ (rows : List (List Nat)) (T : FH), T.next + rows.length < 1000000000 → (mixT k value rows T).next = T.next + rows.length ∧
    ∀ b, gt (mixT k value rows T).t b = if T.next ≤ b ∧ b < T.next + rows.length then some (fb (u8s (fragN k (rows.getD (b - T.next) []) value)) 3) else gt T.t b
  | [], T, h => ⟨rfl, fun b => by rw [if_neg (by rintro ⟨h1, h2⟩; rw [List.length_nil] at h2; omega)]; rfl⟩
  | r :: rows, T, h => by
    rw [List.length_cons] at h
    have hn : (new T (fb (u8s (fragN k r value)) 3)).next = T.next + 1 := rfl
    obtain ⟨h1, h2⟩ := gt_mix rows (new T (fb (u8s (fragN k r value)) 3)) (by rw [hn]; omega)
    rw [hn] at h1 h2
    refine ⟨by show (mixT k value rows _).next = _; rw [h1, List.length_cons]; omega, fun b => ?_⟩
    show gt (mixT k value rows (new T (fb (u8s (fragN k r value)) 3))).t b = _
    rw [h2, gt_new (by omega), List.length_cons]
    by_cases hb : b = T.next
    · subst hb
      rw [if_neg (by omega), if_pos rfl, if_pos (by omega), Nat.sub_self]
      rfl
    · by_cases hc : T.next + 1 ≤ b ∧ b < T.next + 1 + rows.length
      · rw [if_pos hc, if_pos (by omega)]
        obtain ⟨d, hd⟩ : ∃ d, b - T.next = d + 1 := ⟨b - T.next - 1, by omega⟩
        rw [hd, List.getD_cons_succ, show b - (T.next + 1) = d by omega]
      · rw [if_neg hc, if_neg hb, if_neg (by omega)]

/-- Encode's blocks -/
noncomputable def encH (T : FH) (k : Nat) (rows : List (List Nat)) (value : List UInt8) : FH :=
  mixT k value rows (new (new (new T (fb (u8s (allN k value)) 3)) (fb (dataC T.next (sizeN k value.length) k k) 1)) (fb (outL k value rows) 1))

noncomputable def codeT (T : FH) (p : Nat) : Option (Nat × Nat × List (List Nat)) := match gt T.t p with
  | some (.c _ t _) => (match gt t 0 with
    | some (.int .i64 (.ofNat k)) => (match gt t 1 with
      | some (.int .i64 (.ofNat n)) => (match gt t 768 with
        | some (.sl rb ro n' sz) => bif' ((Nat.beq n' n && Nat.beq sz 1) && ((Nat.blt 0 k && Nat.blt k 1000) && Nat.blt n 1000)) (match rng t 766 2 with
          | some tl => bif' (sameCells tl Mk.table) (match gt T.t rb with
            | some (.c _ tr _) => (match rng tr n ro with
              | some l => (match rowsT T k l with
                | some rows => some (k, n, rows)
                | none => none)
              | none => none)
            | _ => none) none
          | none => none) none
        | _ => none)
      | _ => none)
    | _ => none)
  | _ => none

theorem codeT_ok {H : Heap} {T : FH} (h : HR H T) {p k n : Nat} {rows : List (List Nat)} (e : codeT T p = some (k, n, rows)) : rows.length = n ∧ ∃ rb ro, CodeAt H p rb ro k n rows := by
  unfold codeT at e
  split at e
  · rename_i N t w hp
    obtain ⟨l, h1, _, h3⟩ := h.c hp
    split at e
    · rename_i k0 hk0
      split at e
      · rename_i n0 hn0
        split at e
        · rename_i rb ro n' sz hr
          rw [bif'_eq] at e
          replace e := cond_some e
          obtain ⟨c1, e⟩ := e
          simp only [Bool.and_eq_true, nbeq, nblt, decide_eq_true_eq] at c1
          obtain ⟨⟨rfl, rfl⟩, ⟨c2, c3⟩, c4⟩ := c1
          split at e
          · rename_i tl htl
            rw [bif'_eq] at e
            replace e := cond_some e
            obtain ⟨c5, e⟩ := e
            have ht := sameCells_eq c5
            subst ht
            split at e
            · rename_i N' tr w' hrb
              obtain ⟨lr, r1, _, r3⟩ := h.c hrb
              split at e
              · rename_i lq hlq
                split at e
                · rename_i rows' hrows
                  cases e
                  obtain ⟨q1, q2⟩ := rng_inv hlq
                  obtain ⟨s1, s2⟩ := rowsT_ok h hrows
                  obtain ⟨u1, u2⟩ := rng_inv htl
                  rw [q1] at s1 s2
                  refine ⟨s1, rb, ro, ⟨l, w, h1, by rw [← h3, ← gt_eq]; exact hk0, by rw [← h3, ← gt_eq]; exact hn0, by rw [← h3, ← gt_eq]; exact hr, fun i hi => by rw [← h3]; exact u2 i hi⟩,
                    ⟨lr, w', r1, fun i hi => ?_⟩, fun i hi => (s2 i hi).1, fun i => ?_, c2, c3, c4⟩
                  · obtain ⟨_, _, b, o, l', w2, a1, a2, a3⟩ := s2 i hi
                    exact ⟨b, o, l', w2, by rw [← r3, q2 i hi]; exact a1, a2, a3⟩
                  · by_cases hi : i < rows.length
                    · exact (s2 i (by omega)).2.1
                    · rw [List.getD_eq_getElem?_getD, List.getElem?_eq_none (by omega)]
                      intro j
                      exact (by decide : (0 : Nat) < 256)
                · cases e
              · cases e
            · cases e
          · cases e
        · cases e
      · cases e
    · cases e
  · cases e

noncomputable def encO (args : List AV) (S : FS) : SEff := match args with
  | [.ptr p o, .str value] => bif' (Nat.beq o 0 && Nat.blt S.c.next 100000000) (match codeT S.c p with
    | some (k, n, rows) => some (.sl (S.c.next + 2) 0 n 1, ⟨encH S.c k rows value, S.tape, S.ok ∧ k * value.length < 1000000⟩)
    | none => none) none
  | _ => none

theorem encO_flag (args : List AV) (S : FS) (v : AV) (S' : FS) (h : encO args S = some (v, S')) : S'.ok → S.ok := by
  unfold encO at h
  split at h
  · rw [bif'_eq] at h
    replace h := cond_some h
    obtain ⟨_, h⟩ := h
    split at h
    · cases h; exact And.left
    · cases h
  · cases h

theorem encO_ok (args : List AV) (H : Heap) (S : FS) (v : AV) (S' : FS) (hO : H.Ok) (hH : HR H S.c) (h : encO args S = some (v, S')) (hk : S'.ok) : Ev lib n_rs_Code_Encode args H fun v1 H1 => v1 = v ∧ H1.Ok ∧ HR H1 S'.c := by
  unfold encO at h
  split at h
  · rename_i p o value
    rw [bif'_eq] at h
    replace h := cond_some h
    obtain ⟨c, h⟩ := h
    simp only [Bool.and_eq_true, nbeq, nblt, decide_eq_true_eq] at c
    obtain ⟨rfl, c⟩ := c
    split at h
    · rename_i k n rows hc
      cases h
      obtain ⟨hrl, rb, ro, hC⟩ := codeT_ok hH hc
      have hnx := hH.next
      refine (Encode_ev p rb ro k n rows value hk.2 H hC (fun v1 H1 => v1 = .sl (S.c.next + 2) 0 n 1 ∧ EncI H H1 k n rows value n) (fun H' I => ⟨by rw [hnx], I⟩) hO).mono fun v1 H1 ⟨_, _, e, I⟩ => ⟨e, I.ok, ?_⟩
      have hk0 := hC.k0
      have hn1 := hC.n1
      have hk2 : k * value.length < 1000000 := hk.2
      have hal := allN_len hk0 value
      have hsl : k * sizeN k value.length ≤ k * value.length := Nat.mul_le_mul_left k (sizeN_le hk0)
      have hvl : value.length ≤ k * value.length := Nat.le_mul_of_pos_left _ hk0
      have hsz := sizeN_le (k := k) (n := value.length) hk0
      generalize hT1 : new S.c (fb (u8s (allN k value)) 3) = T1
      generalize hT2 : new T1 (fb (dataC S.c.next (sizeN k value.length) k k) 1) = T2
      generalize hT3 : new T2 (fb (outL k value rows) 1) = T3
      have n1 : T1.next = S.c.next + 1 := by subst hT1; rfl
      have n2 : T2.next = S.c.next + 2 := by subst hT2; show Nat.succ T1.next = _; rw [n1]
      have n3 : T3.next = S.c.next + 3 := by subst hT3; show Nat.succ T2.next = _; rw [n2]
      have g1 : ∀ b, gt T1.t b = if b = S.c.next then some (fb (u8s (allN k value)) 3) else gt S.c.t b := by subst hT1; exact gt_new (by omega)
      have g2 : ∀ b, gt T2.t b = if b = T1.next then some (fb (dataC S.c.next (sizeN k value.length) k k) 1) else gt T1.t b := by subst hT2; exact gt_new (by omega)
      have g3 : ∀ b, gt T3.t b = if b = T2.next then some (fb (outL k value rows) 1) else gt T2.t b := by subst hT3; exact gt_new (by omega)
      obtain ⟨m1, m2⟩ := gt_mix (k := k) (value := value) rows T3 (by rw [n3, hrl]; omega)
      have hE : encH S.c k rows value = mixT k value rows T3 := by unfold encH; rw [hT1, hT2, hT3]
      show HR H1 (encH S.c k rows value)
      rw [hE]
      refine ⟨by rw [m1, n3, hrl, I.next, hnx]; omega, fun b => ?_⟩
      rw [m2, n3, hrl, g3, n2, g2, n1, g1]
      by_cases b0 : b < S.c.next
      · rw [if_neg (by omega), if_neg (by omega), if_neg (by omega), if_neg (by omega), I.old b (by omega)]
        exact hH.at_ b
      by_cases b1 : b = S.c.next
      · subst b1
        rw [if_neg (by omega), if_neg (by omega), if_neg (by omega), if_pos rfl, hnx, I.all]
        exact fb_br (by rw [u8s_len, hal]; omega)
      by_cases b2 : b = S.c.next + 1
      · subst b2
        rw [if_neg (by omega), if_neg (by omega), if_pos rfl, hnx, I.data]
        exact fb_br (by rw [dataC_len]; have := hC.k1; omega)
      by_cases b3 : b = S.c.next + 2
      · subst b3
        rw [if_neg (by omega), if_pos rfl, hnx, I.out, outL_eq hrl]
        exact fb_br (by rw [outC_len]; omega)
      by_cases b4 : b < S.c.next + 3 + n
      · rw [if_pos (by omega)]
        have := I.mix (b - (S.c.next + 3)) (by omega)
        rw [← hnx, show S.c.next + (3 + (b - (S.c.next + 3))) = b by omega] at this
        rw [this]
        refine fb_br ?_
        rw [u8s_len]
        unfold fragN
        rw [mixJ_len, List.length_replicate]
        omega
      · rw [if_neg (by omega), if_neg b3, if_neg b2, if_neg b1]
        have h1 : H1.get b = none := I.ok b (by rw [I.next]; omega)
        have h2 : H.get b = none := hO b (by omega)
        have := hH.at_ b
        rw [h2] at this
        rw [h1]
        exact this
    · cases h
  · cases h

/-- the oracles: Encode, the pure functions, the tables -/
noncomputable def orcE (l : Nat → Bool) : Orc := fun f => bif' (Nat.beq f n_rs_Code_Encode) (some encO) (orcOf lib n_gf_Make l f)
theorem orcE_flag {l : Nat → Bool} : OrcFlag (orcE l) := by
  intro f g hg
  unfold orcE at hg
  rw [bif'_eq] at hg
  cases hf : Nat.beq f n_rs_Code_Encode with
  | true => rw [hf] at hg; cases hg; exact encO_flag
  | false => rw [hf] at hg; exact orcOf_flag f g hg
theorem orcE_ok {l : Nat → Bool} : OrcOk lib (orcE l) := by
  intro f g hg
  unfold orcE at hg
  rw [bif'_eq] at hg
  cases hf : Nat.beq f n_rs_Code_Encode with
  | true =>
    rw [hf] at hg
    cases hg
    have := Nat.eq_of_beq_eq_true hf
    subst this
    intro k args H S v S' hO hH h hk
    replace h : (if k = n_rs_Code_Encode then encO args S else none) = some (v, S') := h
    split at h
    · rename_i e
      subst e
      exact encO_ok args H S v S' hO hH h hk
    · cases h
  | false => rw [hf] at hg; exact orcOf_ok (l := l) (by kernel_rfl) f g hg

end Go.Proofs.YtjlfnolaifkakaaDoor
