/- Layer 19: AskLate, plainly. Conditions: none. -/
import Derived.Test.YtcpcajfmkmgjeaaAkI
namespace Go.Proofs.Ytcpcajfmkmgjeaa
open Go.Dp
set_option linter.unusedSimpArgs false
set_option linter.unusedVariables false
set_option maxHeartbeats 2000000
set_option maxRecDepth 8000
attribute [local irreducible] Ex.thnK Ex.inK Ret

def scanF (s : Nat) : Fr := ⟨.ofNat 4, .ofNat s, .ofNat 0, .ofNat 0, .ofNat 0, .ofNat 0, [], .ofNat 0, []⟩
theorem inB_nat {a b : Nat} (h : a ≤ b) : inB (.ofNat a) b = true := by
  unfold inB
  rw [decide_eq_true (show Int.ofNat 0 ≤ Int.ofNat a from Int.ofNat_le.2 (Nat.zero_le a)), decide_eq_true (show Int.ofNat a ≤ Int.ofNat b from Int.ofNat_le.2 h)]
  rfl
theorem begB_scan {s last : Nat} (hs : s ≤ 11) (hl : last ≤ 100000) : begB (scanF s) last = true := by
  have e1 := inB_nat hs
  have e2 : inB (.ofNat (last + 1)) 1099511627776 = true := inB_nat (by omega)
  have e0 : inB (.ofNat 0) 1099511627776 = true := inB_nat (by decide)
  show (true && true && inB (.ofNat s) 11 && true && inB (.ofNat 0) 1099511627776 && inB (.ofNat (last + 1)) 1099511627776 && inB (.ofNat 0) 1099511627776 && inB (.ofNat 0) 1099511627776 && true && true && true) = true
  rw [e1, e2, e0]
  rfl
def ansF (k s rid : Nat) : Fr := ⟨.ofNat k, .ofNat s, .ofNat 0, .ofNat rid, .ofNat 0, .ofNat 0, [], .ofNat 0, []⟩
theorem rightB_ans {k s rid : Nat} (hk : k = 6 ∨ k = 7) (hs : s ≤ 11) (hl : rid ≤ 100000) : rightB (ansF k s rid) = true := by
  have e1 := inB_nat hs
  have e2 : inB (.ofNat rid) 1099511627776 = true := inB_nat (by omega)
  have e0 : inB (.ofNat 0) 1099511627776 = true := inB_nat (by decide)
  rcases hk with rfl | rfl
  · show (true && true && inB (.ofNat s) 11 && true && inB (.ofNat 0) 1099511627776 && inB (.ofNat rid) 1099511627776 && inB (.ofNat 0) 1099511627776 && inB (.ofNat 0) 1099511627776 && true && true) = true
    rw [e1, e2, e0]
    rfl
  · show (true && true && inB (.ofNat s) 11 && true && inB (.ofNat 0) 1099511627776 && inB (.ofNat rid) 1099511627776 && inB (.ofNat 0) 1099511627776 && inB (.ofNat 0) 1099511627776 && true && true) = true
    rw [e1, e2, e0]
    rfl

/-- all are of one age -/
theorem againP_age {L : List Rq} (N : List Rq) {t : Nat} (h : ∀ o ∈ N, o.t = t) : againP L N = if (t + 1) % 4 = 0 then N.map (fun o => o.f.fl (floorP L o.f.slot o.f.rid)) else [] := by
  unfold againP
  by_cases c : (t + 1) % 4 = 0
  · rw [if_pos c]
    have : (N.map inc).filter (fun o => decide (o.t % 4 = 0)) = N.map inc := List.filter_eq_self.2 fun o ho => by
      obtain ⟨o', ho', rfl⟩ := List.mem_map.1 ho
      have := h o' ho'
      simp [inc, this, c]
    rw [this, List.map_map]
    rfl
  · rw [if_neg c]
    have : (N.map inc).filter (fun o => decide (o.t % 4 = 0)) = [] := List.filter_eq_nil_iff.2 fun o ho => by
      obtain ⟨o', ho', rfl⟩ := List.mem_map.1 ho
      have := h o' ho'
      simp [inc, this, c]
    rw [this, List.map_nil]

/-- one request to a slot, others elsewhere -/
structure Lt (f : Fr) (t : Nat) (M : List Rq) : Prop where
  rid : f.rid = .ofNat 1
  inc : f.inc = .ofNat 0
  slot : .ofNat 0 ≤ f.slot ∧ f.slot ≤ .ofNat 5
  oth : ∀ o ∈ M, o.f.slot = .ofNat 6 ∧ o.f.rid ≠ .ofNat 1 ∧ o.t = t
  len : M.length ≤ 10
theorem Lt.again {f : Fr} {t : Nat} {M : List Rq} (h : Lt f t M) : (againP (⟨f, t⟩ :: M) (⟨f, t⟩ :: M)).countP (fun g => decide (g.rid = f.rid)) = if (t + 1) % 4 = 0 then 1 else 0 := by
  rw [againP_age (t := t) (⟨f, t⟩ :: M) (fun o ho => by
    rcases List.mem_cons.1 ho with rfl | ho
    · rfl
    · exact (h.oth o ho).2.2)]
  by_cases c : (t + 1) % 4 = 0
  · rw [if_pos c, if_pos c, List.map_cons, List.countP_cons]
    have : (M.map fun o => o.f.fl (floorP (⟨f, t⟩ :: M) o.f.slot o.f.rid)).countP (fun g => decide (g.rid = f.rid)) = 0 := List.countP_eq_zero.2 fun g hg => by
      obtain ⟨o, ho, rfl⟩ := List.mem_map.1 hg
      have := (h.oth o ho).2.1
      rw [← h.rid] at this
      show ¬ decide (o.f.rid = f.rid) = true
      rw [decide_eq_false this]
      simp
    rw [this]
    simp [Fr.fl]
  · rw [if_neg c, if_neg c]
    rfl
theorem Lt.late {f : Fr} {t : Nat} {M : List Rq} (h : Lt f t M) {z : List Int} (hz : z.Perm (lateP (⟨f, t⟩ :: M))) : z.count f.slot = if 40 ≤ t + 1 then 1 else 0 := by
  obtain ⟨h1, h2⟩ := lateP_ok (⟨f, t⟩ :: M)
  rw [hz.count_eq, h1.count]
  have hiff : f.slot ∈ lateP (⟨f, t⟩ :: M) ↔ 40 ≤ t + 1 := by
    rw [h2]
    constructor
    · rintro ⟨o, ho, q1, q2⟩
      rcases List.mem_cons.1 ho with rfl | ho
      · exact q2
      · rw [(h.oth o ho).2.2] at q2
        exact q2
    · intro q
      exact ⟨⟨f, t⟩, List.mem_cons_self .., rfl, q⟩
  by_cases c : 40 ≤ t + 1
  · rw [if_pos c, if_pos (hiff.2 c)]
  · rw [if_neg c, if_neg (fun hh => c (hiff.1 hh))]
theorem Lt.next {f : Fr} {t : Nat} {M : List Rq} (h : Lt f t M) : Lt f (t + 1) (M.map Go.Proofs.Ytcpcajfmkmgjeaa.inc) :=
  ⟨h.rid, h.inc, h.slot, fun o ho => by
    obtain ⟨o', ho', rfl⟩ := List.mem_map.1 ho
    obtain ⟨q1, q2, q3⟩ := h.oth o' ho'
    exact ⟨q1, q2, by show o'.t + 1 = t + 1; rw [q3]⟩, by rw [List.length_map]; exact h.len⟩
theorem frs_at (l : List Fr) {i : Nat} (h : i < l.length) (cl : List AV) (o : Nat) {rest : List AV} (hd : cl.drop (o + i * 9) = (l.getD i noFr).cells ++ rest) :
    (cl.drop (o + i * 9 + 3)).take 1 = [.int .i64 (l.getD i noFr).rid] ∧ (cl.drop (o + i * 9 + 1)).take 1 = [.int .i64 (l.getD i noFr).slot] ∧ (cl.drop (o + i * 9)).take 9 = (l.getD i noFr).cells := by
  refine ⟨?_, ?_, ?_⟩
  · rw [← List.drop_drop, hd]; rfl
  · rw [← List.drop_drop, hd]; rfl
  · rw [hd]; rfl
end Go.Proofs.Ytcpcajfmkmgjeaa
