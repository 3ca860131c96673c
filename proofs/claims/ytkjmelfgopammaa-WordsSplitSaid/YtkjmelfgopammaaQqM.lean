/- Operations that make one new block. Conditions: none. -/
import Derived.Test.YtkjmelfgopammaaQqL
namespace Go.Dp
open Go.RowKit

theorem push_modify {α : Type} (xs : Array α) (a : α) (f : α → α) : (xs.push a).modify xs.size f = xs.push (f a) := by
  apply Array.ext
  · simp
  · intro i h1 h2
    simp only [Array.getElem_modify, Array.getElem_push]
    simp at h1
    by_cases h : i < xs.size
    · simp [h, Nat.ne_of_gt h]
    · have : i = xs.size := by omega
      subst this
      simp

theorem wrap_nat {n : Nat} (h : n < 9223372036854775808) : IntKind.i64.wrap (n : Int) = (n : Int) := by
  have e := wr_eq .i64 (Int.ofNat n)
  simp only [wr, lim, nblt, decide_eq_true h, cond_true] at e
  exact e.symm

theorem rep_length (z : List AV) : ∀ n, (rep n z).length = n * z.length
  | 0 => by simp [rep]
  | n + 1 => by rw [rep, List.length_append, rep_length z n, Nat.succ_mul]; omega

theorem rep_get (z : List AV) : ∀ (n i : Nat), i < n * z.length → (rep n z)[i]? = z[i % z.length]?
  | 0, i, h => by omega
  | n + 1, i, h => by
    rw [rep]
    by_cases hi : i < z.length
    · rw [List.getElem?_append_left hi, Nat.mod_eq_of_lt hi]
    · rw [List.getElem?_append_right (by omega), rep_get z n (i - z.length) (by rw [Nat.succ_mul] at h; omega)]
      rw [← Nat.mod_eq_sub_mod (by omega)]

section
variable {c : Cx} {base : Nat} {ρ : Rho} {H : Heap} {W : World} {fr : List AV} {a : Act}

/-- A new block, and the value. -/
def Makes (c : Cx) (ρ : Rho) (W : World) (s : Sem Next) (x : Blk) (f : Nat → AV) : Prop :=
  ∃ v' W' o pl, s.run c.P W = .ok (.value v') W' ∧ W'.heap = W.heap.push o ∧ W'.os = W.os ∧ W'.tape = W.tape ∧ W'.output = W.output ∧ pl.c = W.heap.size ∧
    ∀ b, ρ b = none → BlkRel c (ρ.at_ b pl) pl W' x ∧ VRel c (ρ.at_ b pl) (f b) v'

theorem rows_rel {z : List AV} {zs : Array Value} (n : Nat) (h : All2 (SRel c ρ) z zs.toList) : All2 (SRel c ρ) (rep n z) ((Array.range (n * z.length)).map (zs[· % zs.size]!)).toList := by
  have hl : z.length = zs.size := by rw [h.length]; simp
  refine All2.of_get (by rw [rep_length]; simp) fun i x hi => ?_
  have hlt : i < n * z.length := by have := (List.getElem?_eq_some_iff.1 hi).1; rw [rep_length] at this; exact this
  rw [rep_get z n i hlt] at hi
  obtain ⟨v, hv, hr⟩ := h.get hi
  have hz : 0 < z.length := by
    rcases Nat.eq_zero_or_pos z.length with h | h
    · rw [h] at hlt; omega
    · exact h
  have hm : i % z.length < zs.size := by rw [← hl]; exact Nat.mod_lt _ hz
  rw [Array.getElem?_toList, Array.getElem?_eq_getElem hm] at hv
  cases hv
  refine ⟨_, ?_, hr⟩
  simp only [Array.toList_map, Array.toList_range, List.getElem?_map]
  rw [List.getElem?_range hlt]
  simp only [Option.map_some]
  congr 1
  rw [← hl]
  rw [getElem!_pos zs (i % z.length) hm]

/-- A row in a new block. -/
theorem new_row {s : Sem Next} {l : List AV} {k n : Nat} {f : Nat → AV} {v' : Value} {W' : World} {cs : Array Value} {e : TypeId} {fz : Nat × Nat} (hrun : s.run c.P W = .ok (.value v') W') (hh : W'.heap = W.heap.push (.cells cs e fz)) (ho : W'.os = W.os) (ht : W'.tape = W.tape) (hp : W'.output = W.output)
    (hn : l.length = n) (hle : n ≤ cs.size) (hr : ∀ (i : Nat) (x : AV), l[i]? = some x → ∃ v, cs[i]? = some v ∧ SRel c ρ x v) (hk : KindOk c k ⟨W.heap.size, 0, n, cs.size - n⟩ cs.size e fz)
    (hv : ∀ b, VRel c (ρ.at_ b ⟨W.heap.size, 0, n, cs.size - n⟩) (f b) v') : Makes c ρ W s (.cells l k) f := by
  refine ⟨v', W', .cells cs e fz, ⟨W.heap.size, 0, n, cs.size - n⟩, hrun, hh, ho, ht, hp, rfl, fun b hb => ⟨⟨hn, cs, e, fz, ?_, by simp only; omega, fun i x hi => ?_, hk⟩, hv b⟩⟩
  · rw [hh]; simp
  · obtain ⟨v, h1, h2⟩ := hr i x hi
    exact ⟨v, by simpa using h1, h2.ext (Rho.ext_at hb)⟩

theorem ptr_new {b n e : Nat} (W : World) : VRel c (ρ.at_ b ⟨W.heap.size, 0, n, e⟩) (ptrTo b) (.pointer (some ⟨W.heap.size, 0, none⟩)) :=
  VRel_ptr.2 ⟨⟨W.heap.size, 0, n, e⟩, by simp [Rho.at_], rfl⟩

theorem sl_new {b n e len cap sz : Nat} (W : World) (h1 : len ≤ cap) (h2 : cap * sz = n + e) (h3 : len * sz ≤ n) (h4 : 0 < sz) : VRel c (ρ.at_ b ⟨W.heap.size, 0, n, e⟩) (slTo len sz b) (.slice (some ⟨W.heap.size, 0, none⟩) len cap) :=
  VRel_sl.2 ⟨⟨W.heap.size, 0, n, e⟩, 0, cap, by simp [Rho.at_], rfl, h1, .inl rfl, by simp only; omega, by simp only; omega, by simp only; omega, h4⟩

theorem kind_plain {k : Nat} {p : Pl} {size : Nat} {e : TypeId} (h3 : k ≠ 3) (h2 : k = 2 → c.isB e = true ∧ p.s = 0) : KindOk c k p size e (0, 0) :=
  ⟨fun _ _ => rfl, fun h => absurd h h3, h2⟩

theorem rowK_ok {e : TypeId} : rowK c.P e = 0 ∨ (rowK c.P e = 2 ∧ ∃ i, c.P.info? e = some i ∧ i.desc = .int .u8 ∧ i.size = 1) := by
  unfold rowK
  split
  · rename_i i hi
    split
    · rename_i hd
      rw [nbeq]
      by_cases h1 : i.size = 1
      · rw [decide_eq_true h1]; exact .inr ⟨rfl, i, hi, hd, h1⟩
      · rw [decide_eq_false h1]; exact .inl rfl
    · exact .inl rfl
  · exact .inl rfl

theorem kind_row {p : Pl} {size : Nat} {e : TypeId} : KindOk c (rowK c.P e + 1) p size e (0, 0) := by
  rcases rowK_ok (c := c) (e := e) with h | ⟨h, hi⟩
  · rw [h]; exact kind_plain (by omega) (by omega)
  · rw [h]; exact ⟨fun _ _ => rfl, fun _ => ⟨.inl rfl, hi⟩, fun h => by omega⟩

theorem m_new {t : TypeId} {z : List AV} (hz : c.zero t = some z) : Makes c ρ W (do pure (.value (← Instr.alloc t true (.tuple #[])))) (.cells z ((bif c.isB t then 1 else 0) + 1)) ptrTo := by
  obtain ⟨v, n, q1, q2, q3, q4, q5⟩ := zero_run hz W
  have hl : z.length = v.cells.size := by rw [(q5 ρ).length]; simp
  refine new_row (n := z.length) (cs := v.cells) (e := t) (fz := (0, 0)) (v' := .pointer (some ⟨W.heap.size, 0, none⟩)) (W' := { W with heap := W.heap.push (.cells v.cells t (0, 0)) }) ?_ rfl rfl rfl rfl rfl (by omega) ?_ ?_ (fun b => ptr_new W)
  · simp [Instr.alloc, q1, newVar, newRow]
  · intro i x hi
    obtain ⟨v, h1, h2⟩ := (q5 ρ).get hi
    exact ⟨v, by rwa [Array.getElem?_toList] at h1, h2⟩
  · cases hb : c.isB t with
    | true => exact kind_plain (by simp) (fun _ => ⟨hb, rfl⟩)
    | false => exact kind_plain (by simp) (fun h => by simp at h)

theorem m_box {t : TypeId} {x : AV} {w : Value} (hx : VRel c ρ x w) {b : Blk} {f : Nat → AV} (h : nBox x.cells = some (b, f)) : Makes c ρ W (do pure (.value (← Instr.box t w))) b f := by
  unfold nBox at h
  cases hall : x.cells.all AV.isSc with
  | false => rw [hall] at h; cases h
  | true =>
    rw [hall] at h
    cases h
    have hr := VRel.cells hall hx
    have hl : x.cells.length = w.cells.size := by rw [hr.length]; simp
    refine new_row (n := x.cells.length) (cs := w.cells) (e := t) (fz := (0, 0)) (v' := .pointer (some ⟨W.heap.size, 0, none⟩)) (W' := { W with heap := W.heap.push (.cells w.cells t (0, 0)) }) ?_ rfl rfl rfl rfl rfl (by omega) ?_ (kind_plain (by simp) (by simp)) (fun b => ptr_new W)
    · simp [Instr.box, newVar, newRow]
    · intro i x hi
      obtain ⟨v, h1, h2⟩ := hr.get hi
      exact ⟨v, by rwa [Array.getElem?_toList] at h1, h2⟩

theorem m_bslice (R : Rel c base ρ H W) (F : FRel c ρ fr a.tmps) {t e : TypeId} {len n : Nat} {z : List AV} {ps : Array (Nat × Operand)} {ps' : List (Nat × Nat × X)} (ht : c.P.underlying t = some (.slice e)) (hn : c.size e = some n) (hz : c.zero e = some z) (hle : len * n ≤ 16777216) (hn0 : n ≠ 0)
    (hps : trParts c (fun i => some (i * n, n)) ps.toList = some ps') {b : Blk} {f : Nat → AV} (h : nBslice (rowK c.P e) n len (lay fr (rep len z) ps') = some (b, f)) :
    Makes c ρ W (do pure (.value (← Instr.buildSlice t len (ps.map fun (i, x) => (i, a.eval x))))) b f := by
  unfold nBslice at h
  split at h
  · rename_i r hr
    cases h
    obtain ⟨v, m, q1, q2, q3, q4, q5⟩ := zero_run hz W
    rw [hn] at q2
    cases q2
    have hrows := rows_rel len (q5 ρ)
    rw [q3] at hrows
    obtain ⟨rs, e1, e2⟩ := fill_rel R F (fun _ _ h => h) hps hrows hr
    have hl : r.length = rs.size := by rw [e2.length]; simp
    have hlen : rs.size = len * n := by
      have hlay : ∀ {ps : List (Nat × Nat × X)} {l r : List AV}, lay fr l ps = some r → r.length = l.length := by
        intro ps
        induction ps with
        | nil => intro l r h; simp only [lay] at h; cases h; rfl
        | cons q ps ih =>
          obtain ⟨o, m, x⟩ := q
          intro l r h
          simp only [lay] at h
          cases hc : (Nat.beq (x.ev fr).cells.length m && (Nat.ble (o + m) l.length && (x.ev fr).cells.all AV.isSc)) with
          | false => rw [hc] at h; cases h
          | true =>
            rw [hc] at h
            simp only [nbeq, nble, Bool.and_eq_true, decide_eq_true_eq] at hc
            rw [ih h, over_length _ _ _ (by omega)]
      rw [← hl, hlay hr, rep_length, q3]
    refine new_row (n := r.length) (cs := rs) (e := e) (fz := (0, 0)) (v' := .slice (some ⟨W.heap.size, 0, none⟩) len len) (W' := { W with heap := W.heap.push (.cells rs e (0, 0)) }) ?_ rfl rfl rfl rfl rfl (by omega) ?_ kind_row (fun b => sl_new W (Nat.le_refl _) (by omega) (by omega) (by omega))
    · have hfill : Instr.fill (fun i => some (i * n, n)) ((Array.range (len * n)).map (v.cells[· % v.cells.size]!)) (ps.map fun (i, x) => (i, a.eval x)).toList = some rs := by
        rw [Array.toList_map]; exact e1
      have hno : ¬ len * n > 2 ^ 24 := by omega
      by_cases h0 : len * n = 0
      · have hr0 : Array.range (len * n) = #[] := by rw [h0]; rfl
        rw [hr0] at hfill
        simp only [Array.map_empty] at hfill
        simp only [Instr.buildSlice, Sem.run_bind, run_underlying ht, Result.andThen_ok, run_size hn, if_neg hno, if_pos h0, Sem.run_pure, pure_bind, hr0, Array.map_empty, hfill, newRow, run_newObj]
      · simp only [Instr.buildSlice, Sem.run_bind, run_underlying ht, Result.andThen_ok, run_size hn, if_neg hno, if_neg h0, pure_bind, q1, Sem.run_pure, hfill, newRow, run_newObj]
    · intro i x hi
      obtain ⟨v, h1, h2⟩ := e2.get hi
      exact ⟨v, by rwa [Array.getElem?_toList] at h1, h2⟩
  · cases h


theorem natOf_i64 {x : AV} {n : Nat} {w : Value} (h : natOf x = some n) (r : VRel c ρ x w) : (asInt w).run c.P W = .ok (n : Int) W := by
  obtain ⟨k, rfl⟩ := natOf_rel h r
  rfl

theorem m_mksl {t e : TypeId} {n b : Nat} {z : List AV} {l k : AV} {wl wk : Value} (ht : c.P.underlying t = some (.slice e)) (hn : c.size e = some (n + 1)) (hb : c.bytes e = some b) (hz : c.zero e = some z) (hl : VRel c ρ l wl) (hk : VRel c ρ k wk) {x : Blk} {f : Nat → AV}
    (h : nMksl (rowK c.P e) (n + 1) b z l k = some (x, f)) : Makes c ρ W (do pure (.value (← Instr.makeSlice t wl wk))) x f := by
  unfold nMksl at h
  split at h
  · rename_i ln hln
    split at h
    · rename_i cp hcp
      cases hc : (Nat.ble ln cp && (Nat.ble (b * cp) 140737488355328 && Nat.ble cp 140737488355328)) with
      | false => rw [hc] at h; cases h
      | true =>
        rw [hc] at h
        cases h
        simp only [nble, Bool.and_eq_true, decide_eq_true_eq] at hc
        obtain ⟨c1, c2, c3⟩ := hc
        obtain ⟨v, m, q1, q2, q3, q4, q5⟩ := zero_run hz W
        rw [hn] at q2
        cases q2
        have hrows := rows_rel cp (q5 ρ)
        have hi : ∃ i, c.P.info? e = some i ∧ i.bytes = b := by
          unfold Cx.bytes at hb
          split at hb
          · rename_i i hi; cases hb; exact ⟨i, hi, rfl⟩
          · cases hb
        obtain ⟨i, hi, rfl⟩ := hi
        have hA : (asInt wl).run c.P W = .ok (ln : Int) W := natOf_i64 hln hl
        have hB : (asInt wk).run c.P W = .ok (cp : Int) W := natOf_i64 hcp hk
        have w1 : IntKind.i64.wrap (ln : Int) = (ln : Int) := wrap_nat (by omega)
        have w2 : IntKind.i64.wrap (cp : Int) = (cp : Int) := wrap_nat (by omega)
        have t1 : ((cp : Int) < 0 || ((i.bytes : Int) * (cp : Int) > 2 ^ 48)) = false := by
          have : ((i.bytes : Int) * (cp : Int)) ≤ 2 ^ 48 := by
            have h1 : ((i.bytes * cp : Nat) : Int) ≤ (140737488355328 : Nat) := by exact_mod_cast c2
            rw [Int.natCast_mul] at h1
            omega
          simp; omega
        have big : ((((cp : Int) < 0 || ((i.bytes : Int) * (cp : Int) > 2 ^ 48)) || ((ln : Int) < 0 : Bool)) || ((ln : Int) > (cp : Int) : Bool)) = false := by
          rw [t1]; simp; omega
        have hsz : (rep cp z).length = cp * (n + 1) := by rw [rep_length, q3]
        refine new_row (n := (rep cp z).length) (cs := (Array.range (cp * (n + 1))).map (v.cells[· % v.cells.size]!)) (e := e) (fz := (0, 0)) (v' := .slice (some ⟨W.heap.size, 0, none⟩) ln cp) (W' := { W with heap := W.heap.push (.cells ((Array.range (cp * (n + 1))).map (v.cells[· % v.cells.size]!)) e (0, 0)) }) ?_ rfl rfl rfl rfl rfl (by rw [hsz]; simp) ?_ kind_row (fun b => sl_new W c1 (by rw [hsz]; simp) (by rw [hsz]; exact Nat.mul_le_mul_right _ c1) (by omega))
        · have hrun : (Instr.makeSlice t wl wk).run c.P W = (do
              askRoom (cp * i.bytes)
              let zero ← if cp * (n + 1) = 0 then pure #[] else do pure (← zeroValue e).cells
              let a ← newRow e ((Array.range (cp * (n + 1))).map (zero[· % zero.size]!))
              pure (.slice (some a) ln cp) : Sem Value).run c.P W := by
            unfold Instr.makeSlice
            simp only [Sem.run_bind, run_underlying ht, Result.andThen_ok, hA, hB, run_info hi, w1, w2]
            rw [if_neg (by rw [big]; decide)]
            simp only [Sem.run_bind, run_askRoom, Result.andThen_ok, run_size hn, Int.toNat_natCast]
          rw [show ((do pure (Next.value (← Instr.makeSlice t wl wk))) : Sem Next) = (Instr.makeSlice t wl wk) >>= fun v => pure (Next.value v) from rfl]
          rw [Sem.run_bind, hrun]
          by_cases h0 : cp * (n + 1) = 0
          · have hr0 : Array.range (cp * (n + 1)) = #[] := by rw [h0]; rfl
            simp only [Sem.run_bind, run_askRoom, Result.andThen_ok, if_pos h0, Sem.run_pure, hr0, Array.map_empty, newRow, run_newObj]
          · simp only [Sem.run_bind, run_askRoom, Result.andThen_ok, if_neg h0, q1, Sem.run_pure, newRow, run_newObj]
        · intro i x hi
          rw [q3] at hrows
          obtain ⟨v, h1, h2⟩ := hrows.get hi
          exact ⟨v, by rwa [Array.getElem?_toList] at h1, h2⟩
    · cases h
  · cases h

theorem ofBytes_rel (s : List UInt8) : All2 (SRel c ρ) (ofBytes s) (s.map fun b => Value.int .u8 b.toNat) := by
  induction s with
  | nil => trivial
  | cons b s ih => exact ⟨by simp only [SRel, BRel]; rfl, ih⟩

theorem m_s2b {s d e : TypeId} {x : AV} {w : Value} (hs : c.P.underlying s = some .string) (hd : c.P.underlying d = some (.slice e)) (hu : isU8 c.P e = true) (hk : rowK c.P e = 2) (hx : VRel c ρ x w) {b : Blk} {f : Nat → AV} (h : nS2b x = some (b, f)) :
    Makes c ρ W (do pure (.value (← convert s d w))) b f := by
  unfold nS2b at h
  split at h
  · rename_i l
    rw [nble] at h
    by_cases hle : l.length ≤ 35184372088832
    · rw [decide_eq_true hle] at h
      cases h
      rw [VRel_str] at hx
      obtain ⟨sb, rfl, rfl⟩ := hx
      have he : c.P.underlying e = some (.int .u8) := by
        unfold isU8 at hu
        split at hu
        · rename_i h; exact h
        · cases hu
      have hsz : sb.size = sb.data.toList.length := rfl
      let cap := (Question.appendCap sb.size 0 e).cut (W.tape W.drawn (.appendCap sb.size 0 e))
      have hcap : sb.size ≤ cap := by simp only [cap, Question.cut]; omega
      let cs : Array Value := (sb.data.map fun b => Value.int .u8 b.toNat) ++ Array.replicate (cap - sb.size) (.int .u8 0)
      have hcs : cs.size = cap := by simp [cs]; have : sb.data.size = sb.size := rfl; omega
      refine new_row (n := (ofBytes sb.data.toList).length) (cs := cs) (e := e) (fz := (cap, cap + 1)) (v' := .slice (some ⟨W.heap.size, 0, none⟩) sb.size cap) (W' := { W with heap := W.heap.push (.cells cs e (cap, cap + 1)), drawn := W.drawn + 1 }) ?_ rfl rfl rfl rfl rfl (by simp [ofBytes]; omega) ?_ ?_ (fun b => ?_)
      · have hf : ∀ q : Question, q = .appendCap sb.size 0 e → q.forced = false := by rintro _ rfl; rfl
        have hshape : ({ W with drawn := W.drawn + 1, heap := W.heap.push (.cells cs e (0, 0)) } : World).shape? W.heap.size = some (e, cs.size) := by simp [World.shape?]
        have hfr : ({ W with drawn := W.drawn + 1, heap := W.heap.push (.cells cs e (0, 0)) } : World).freeze { block := W.heap.size, off := cs.size } 1 = { W with heap := W.heap.push (.cells cs e (cap, cap + 1)), drawn := W.drawn + 1 } := by
          simp only [World.freeze, Nat.one_ne_zero, if_false, push_modify, hcs]
          simp
        simp only [convert, Sem.run_bind, run_underlying hs, run_underlying hd, run_underlying he, Result.andThen_ok, Conv.stringToBytes, run_choose, hf _ rfl, Bool.false_eq_true, if_false, newRow, run_newObj, Sem.run_pure, markStringish, run_shape]
        rw [show ((Array.map (fun b => Value.int IntKind.u8 ↑b.toNat) sb.data ++ Array.replicate ((Question.appendCap sb.size 0 e).cut (W.tape W.drawn (.appendCap sb.size 0 e)) - sb.size) (Value.int IntKind.u8 0)) : Array Value) = cs from rfl]
        rw [hshape]
        simp only [run_freeze, Result.andThen_ok]
        rw [hfr]
      · intro i x hi
        obtain ⟨v, h1, h2⟩ := (ofBytes_rel (c := c) (ρ := ρ) sb.data.toList).get hi
        refine ⟨v, ?_, h2⟩
        rw [← Array.getElem?_toList]
        simp only [cs, Array.toList_append, Array.toList_map]
        rw [List.getElem?_append_left (by have := (List.getElem?_eq_some_iff.1 h1).1; exact this)]
        exact h1
      · rcases rowK_ok (c := c) (e := e) with h | ⟨_, hi⟩
        · omega
        · exact ⟨fun _ h => absurd rfl h, fun _ => ⟨.inr (by omega), hi⟩, fun h => by omega⟩
      · have e1 : (ofBytes sb.data.toList).length = sb.size := by unfold ofBytes; rw [List.length_map]; rfl
        rw [e1]
        have : sb.data.toList.length = sb.size := rfl
        rw [this, hcs]
        exact sl_new W hcap (by omega) (by omega) (by omega)
    · rw [decide_eq_false hle] at h; cases h
  · cases h

theorem m_mkmap {t : TypeId} : Makes c ρ W (do pure (.value (← Instr.makeMap t none))) (.mp [] 0) .map := by
  refine ⟨.map (some W.heap.size), { W with heap := W.heap.push (.map #[] 0) }, .map #[] 0, ⟨W.heap.size, 0, 1, 0⟩, ?_, rfl, rfl, rfl, rfl, rfl, fun b hb => ⟨⟨rfl, rfl, #[], ?_, trivial⟩, ?_⟩⟩
  · simp [Instr.makeMap]
  · simp
  · exact VRel_map.2 ⟨⟨W.heap.size, 0, 1, 0⟩, by simp [Rho.at_], rfl⟩

end
end Go.Dp
