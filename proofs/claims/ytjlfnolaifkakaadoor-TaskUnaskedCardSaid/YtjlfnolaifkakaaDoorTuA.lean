/- TaskUnasked over the clean machine: the run is computed with the key's text, its hash and 'now' told by a tape; what was told is then shown. Conditions: none. -/
import Derived.Test.YtjlfnolaifkakaaDoorQfD
import Derived.Test.YtjlfnolaifkakaaDoorWdKy
import Derived.Test.YtjlfnolaifkakaaDoorHsA
import Derived.Test.YtjlfnolaifkakaaDoorWdU
import Derived.KernelRfl
namespace Go.Proofs.YtjlfnolaifkakaaDoor
open Go.Dp Go.Wd
set_option linter.unusedSimpArgs false
set_option linter.unusedVariables false

/-- told by the tape: words.Key, chain.Hash, depotbook.Within, the closed law -/
def tuP (f : Nat) : Bool := Nat.beq f n_words_Key || (Nat.beq f n_chain_Hash || (Nat.beq f n_depotbook_Within || Nat.beq f n_depotlaw21_TaskRuns))
/-- told by the tape: in place.Stripe, the remainder of the hash -/
def tuD (f d : Nat) : Bool := Nat.beq f n_place_Stripe && Nat.beq d 29

theorem tu_lib (f : Nat) (pf : PF) (h : tuP f = false) (ht : tree0.get f = some (.code pf)) : lib f = some (.code pf) := by
  have : Nat.beq f n_depotlaw21_TaskRuns = false := by
    unfold tuP at h
    simp only [Bool.or_eq_false_iff] at h
    exact h.2.2.2
  unfold lib
  rw [show (Nat.beq f n_depotlaw21_TaskRuns) = false from this]
  exact ht

noncomputable def tuRun (tape : List AV) (key : List UInt8) (now : Int) : Fs.SEff :=
  Fs.callS tree0 (Fs.orcOf lib n_gf_Make tuP) (fun _ => false) tuD 200 n_depotlaw21_TaskUnasked [.str key, .int .i64 now] ⟨⟨.leaf, 0⟩, tape, True⟩

def kT (key : List UInt8) (b : Bool) : Prop := Fs.Pure lib n_words_Key [.str key] (.bool b)
def hT (key : List UInt8) : Prop := Fs.Pure lib n_chain_Hash [.str key] (.int .u32 (.ofNat (hashN key)))
def rT (key : List UInt8) (n r : Nat) : Prop := bin .rem (.int .i64 (wr .i64 (.ofNat (hashN key)))) (.int .i64 (.ofNat n)) = some (.int .i64 (.ofNat r))
def nT (now : Int) (r : Nat) : Prop := Fs.Pure lib n_depotbook_Within [.int .i64 now, .int .i64 (.ofNat 0), .int .i64 (.ofNat 2)] (.int .i64 (.ofNat r))
def tT : Prop := Fs.Pure lib n_depotlaw21_TaskRuns [] (.bool true)

def aK (key : List UInt8) : Prop := Fs.AllEq [(key, key)]
def aF (key : List UInt8) : Prop := Fs.AllEq [(key, key), ([], [])]

/-- the tapes -/
def tape0 : List AV := [.bool false, .bool false, .bool true]
def tape1 (key : List UInt8) (s r : Nat) : List AV :=
  let h : AV := .int .u32 (.ofNat (hashN key))
  let q : AV := .int .i64 (.ofNat s)
  [.bool true, h, q, h, q, .bool true, h, q, .int .i64 (.ofNat r), .bool true]

theorem run0 (key : List UInt8) (now : Int) : Fs.fin (tuRun tape0 key now) = (((True ∧ kT key false) ∧ kT key false) ∧ tT) := by kernel_rfl
theorem run1_0_0 (key : List UInt8) (now : Int) : Fs.fin (tuRun (tape1 key 0 0) key now) =
    ((((((((((((((((((True ∧ kT key true) ∧ hT key) ∧ rT key 2 0) ∧ hT key) ∧ rT key 2 0) ∧ kT key true) ∧ hT key) ∧ rT key 2 0) ∧ aK key) ∧ nT now 0) ∧ aF key) ∧ aF key) ∧ aF key) ∧ aK key) ∧ aK key) ∧ aF key) ∧ aF key) ∧ tT) := by kernel_rfl
theorem run1_0_1 (key : List UInt8) (now : Int) : Fs.fin (tuRun (tape1 key 0 1) key now) =
    ((((((((((((((((((True ∧ kT key true) ∧ hT key) ∧ rT key 2 0) ∧ hT key) ∧ rT key 2 0) ∧ kT key true) ∧ hT key) ∧ rT key 2 0) ∧ aK key) ∧ nT now 1) ∧ aF key) ∧ aF key) ∧ aF key) ∧ aK key) ∧ aK key) ∧ aF key) ∧ aF key) ∧ tT) := by kernel_rfl
theorem run1_0_2 (key : List UInt8) (now : Int) : Fs.fin (tuRun (tape1 key 0 2) key now) =
    ((((((((((((((True ∧ kT key true) ∧ hT key) ∧ rT key 2 0) ∧ hT key) ∧ rT key 2 0) ∧ kT key true) ∧ hT key) ∧ rT key 2 0) ∧ aK key) ∧ nT now 2) ∧ aF key) ∧ aF key) ∧ aF key) ∧ tT) := by kernel_rfl
theorem run1_1_0 (key : List UInt8) (now : Int) : Fs.fin (tuRun (tape1 key 1 0) key now) =
    ((((((((((((((((((True ∧ kT key true) ∧ hT key) ∧ rT key 2 1) ∧ hT key) ∧ rT key 2 1) ∧ kT key true) ∧ hT key) ∧ rT key 2 1) ∧ aK key) ∧ nT now 0) ∧ aF key) ∧ aF key) ∧ aF key) ∧ aK key) ∧ aK key) ∧ aF key) ∧ aF key) ∧ tT) := by kernel_rfl
theorem run1_1_1 (key : List UInt8) (now : Int) : Fs.fin (tuRun (tape1 key 1 1) key now) =
    ((((((((((((((((((True ∧ kT key true) ∧ hT key) ∧ rT key 2 1) ∧ hT key) ∧ rT key 2 1) ∧ kT key true) ∧ hT key) ∧ rT key 2 1) ∧ aK key) ∧ nT now 1) ∧ aF key) ∧ aF key) ∧ aF key) ∧ aK key) ∧ aK key) ∧ aF key) ∧ aF key) ∧ tT) := by kernel_rfl
theorem run1_1_2 (key : List UInt8) (now : Int) : Fs.fin (tuRun (tape1 key 1 2) key now) =
    ((((((((((((((True ∧ kT key true) ∧ hT key) ∧ rT key 2 1) ∧ hT key) ∧ rT key 2 1) ∧ kT key true) ∧ hT key) ∧ rT key 2 1) ∧ aK key) ∧ nT now 2) ∧ aF key) ∧ aF key) ∧ aF key) ∧ tT) := by kernel_rfl

theorem Within_ex (x : Int) (lo hi : Nat) (h : lo ≤ hi) (h2 : hi < 4611686018427387904) : ∃ r, lo ≤ r ∧ r ≤ hi ∧ Fs.Pure lib n_depotbook_Within [.int .i64 x, .int .i64 (.ofNat lo), .int .i64 (.ofNat hi)] (.int .i64 (.ofNat r)) := by
  have e1 := remi .i64 x (hi - lo + 1) (by omega)
  rcases tmod_cases x (hi - lo + 1) (by omega) with ⟨r, e2, hr⟩ | ⟨r, e2, hr⟩
  · rw [e2] at e1
    refine ⟨?w, ?h1, ?h2, Fs.Pure.of fun H Q hQ => ?h3⟩
    case h3 =>
      refine Eo.code at_depotbook_Within rfl ?_
      repeat (first | ((first | apply Xk.sAny | apply Xk.tAny); (case hok => rfl); (case h => intro C hC; simp (disch := omega) only [w0, ↓reduceIte, Nat.reduceEqDiff, Nat.reduceLeDiff, Nat.reduceAdd, Nat.reduceSub, e1, h, Nat.not_lt_zero]; with_reducible exact hC); refine gm ?_) | refine gm ?_)
      exact hQ
    · omega
    · omega
  · rw [e2] at e1
    have e3 : Int.negSucc r < Int.ofNat 0 := Int.negSucc_lt_zero r
    refine ⟨?v, ?g1, ?g2, Fs.Pure.of fun H Q hQ => ?g3⟩
    case g3 =>
      refine Eo.code at_depotbook_Within rfl ?_
      repeat (first | ((first | apply Xk.sAny | apply Xk.tAny); (case hok => rfl); (case h => intro C hC; simp (disch := omega) only [w0, ↓reduceIte, Nat.reduceEqDiff, Nat.reduceLeDiff, Nat.reduceAdd, Nat.reduceSub, e1, h, e3, add_neg]; with_reducible exact hC); refine gm ?_) | refine gm ?_)
      exact hQ
    · omega
    · omega

theorem Unasked_law (key : List UInt8) (now : Int) : Eo lib n_depotlaw21_TaskUnasked [.str key, .int .i64 now] noHeap fun v _ => v = .bool true := by
  have ht : tT := Fs.Pure.of fun H Q h => Eo.runs rfl h
  have hk : kT key (keyOk key) := Fs.Pure.of fun H Q h => Key_ev key H Q h
  have go : ∀ tape P, Fs.fin (tuRun tape key now) = P → P → Eo lib n_depotlaw21_TaskUnasked [.str key, .int .i64 now] noHeap fun v _ => v = .bool true :=
    fun tape P h1 h2 => Fs.run_told (tr := tree0) (mk := n_gf_Make) tu_lib rfl (n := 200) (tape := tape) (by have : Fs.fin (tuRun tape key now) := h1 ▸ h2; exact this)
  cases hb : keyOk key with
  | false =>
    rw [hb] at hk
    exact go _ _ (run0 key now) ⟨⟨⟨trivial, hk⟩, hk⟩, ht⟩
  | true =>
    rw [hb] at hk
    have hl : key.length ≤ 250 := by
      unfold keyOk at hb
      simp only [Bool.and_eq_true, decide_eq_true_eq] at hb
      exact hb.2.1
    have hh : hT key := Fs.Pure.of fun H Q h => Hash_ev key (by omega) H Q h
    have hr : rT key 2 (hashN key % 2) := by
      unfold rT
      have := (hashI_eq key).2
      rw [wrn_i64 _ (by omega)]
      exact remi .i64 (.ofNat (hashN key)) 2 (by omega)
    obtain ⟨r, _, r2, hn⟩ := Within_ex now 0 2 (by omega) (by omega)
    have hn : nT now r := hn
    have hak : aK key := ⟨rfl, trivial⟩
    have haf : aF key := ⟨rfl, rfl, trivial⟩
    have h2 : hashN key % 2 < 2 := Nat.mod_lt _ (by omega)
    generalize hashN key % 2 = s at hr h2
    have cases2 : (s = 0 ∨ s = 1) ∧ (r = 0 ∨ r = 1 ∨ r = 2) := ⟨by omega, by omega⟩
    obtain ⟨rfl | rfl, rfl | rfl | rfl⟩ := cases2
    · exact go _ _ (run1_0_0 key now) ⟨⟨⟨⟨⟨⟨⟨⟨⟨⟨⟨⟨⟨⟨⟨⟨⟨⟨trivial, hk⟩, hh⟩, hr⟩, hh⟩, hr⟩, hk⟩, hh⟩, hr⟩, hak⟩, hn⟩, haf⟩, haf⟩, haf⟩, hak⟩, hak⟩, haf⟩, haf⟩, ht⟩
    · exact go _ _ (run1_0_1 key now) ⟨⟨⟨⟨⟨⟨⟨⟨⟨⟨⟨⟨⟨⟨⟨⟨⟨⟨trivial, hk⟩, hh⟩, hr⟩, hh⟩, hr⟩, hk⟩, hh⟩, hr⟩, hak⟩, hn⟩, haf⟩, haf⟩, haf⟩, hak⟩, hak⟩, haf⟩, haf⟩, ht⟩
    · exact go _ _ (run1_0_2 key now) ⟨⟨⟨⟨⟨⟨⟨⟨⟨⟨⟨⟨⟨⟨trivial, hk⟩, hh⟩, hr⟩, hh⟩, hr⟩, hk⟩, hh⟩, hr⟩, hak⟩, hn⟩, haf⟩, haf⟩, haf⟩, ht⟩
    · exact go _ _ (run1_1_0 key now) ⟨⟨⟨⟨⟨⟨⟨⟨⟨⟨⟨⟨⟨⟨⟨⟨⟨⟨trivial, hk⟩, hh⟩, hr⟩, hh⟩, hr⟩, hk⟩, hh⟩, hr⟩, hak⟩, hn⟩, haf⟩, haf⟩, haf⟩, hak⟩, hak⟩, haf⟩, haf⟩, ht⟩
    · exact go _ _ (run1_1_1 key now) ⟨⟨⟨⟨⟨⟨⟨⟨⟨⟨⟨⟨⟨⟨⟨⟨⟨⟨trivial, hk⟩, hh⟩, hr⟩, hh⟩, hr⟩, hk⟩, hh⟩, hr⟩, hak⟩, hn⟩, haf⟩, haf⟩, haf⟩, hak⟩, hak⟩, haf⟩, haf⟩, ht⟩
    · exact go _ _ (run1_1_2 key now) ⟨⟨⟨⟨⟨⟨⟨⟨⟨⟨⟨⟨⟨⟨trivial, hk⟩, hh⟩, hr⟩, hh⟩, hr⟩, hk⟩, hh⟩, hr⟩, hak⟩, hn⟩, haf⟩, haf⟩, haf⟩, ht⟩

end Go.Proofs.YtjlfnolaifkakaaDoor
