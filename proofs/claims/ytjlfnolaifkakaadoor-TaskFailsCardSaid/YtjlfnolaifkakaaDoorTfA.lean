/- TaskFails over the machine with oracles: the run's two stages, what the tape tells, what it must be. Conditions: none. -/
import Derived.Test.YtjlfnolaifkakaaDoorRsO
import Derived.Test.YtjlfnolaifkakaaDoorWdKy
import Derived.Test.YtjlfnolaifkakaaDoorHsA
import Derived.Test.YtjlfnolaifkakaaDoorWdU
import Derived.KernelRfl
namespace Go.Proofs.YtjlfnolaifkakaaDoor
open Go.Dp Go.Wd
set_option linter.unusedSimpArgs false
set_option linter.unusedVariables false

def tfP (f : Nat) : Bool := Nat.beq f n_words_Key || (Nat.beq f n_chain_Hash || (Nat.beq f n_depotbook_Within || Nat.beq f n_depotlaw21_TaskRuns))
/-- told operations: in place.Stripe the remainder of the hash, in pack.num its test, in the law the test of the value's length -/
def tfD (f d : Nat) : Bool := (Nat.beq f n_place_Stripe && Nat.beq d 29) || ((Nat.beq f n_pack_num && Nat.beq d 14) || (Nat.beq f n_depotlaw21_TaskFails && Nat.beq d 44))

theorem tf_lib (f : Nat) (pf : PF) (h : orcE tfP f = none) (ht : tree0.get f = some (.code pf)) : lib f = some (.code pf) := by
  have : Nat.beq f n_depotlaw21_TaskRuns = false := by
    cases hr : Nat.beq f n_depotlaw21_TaskRuns with
    | false => rfl
    | true =>
      exfalso
      have hp : tfP f = true := by unfold tfP; rw [hr]; simp
      unfold orcE Fs.orcOf at h
      simp only [Fs.bif'_eq, hp, cond_true] at h
      cases hf : Nat.beq f n_rs_Code_Encode <;> rw [hf] at h <;> cases h
  unfold lib
  rw [show (Nat.beq f n_depotlaw21_TaskRuns) = false from this]
  exact ht

def nI (n : Nat) : AV := .int .i64 (.ofNat n)
def tfArgs (k m : Int) (key value : List UInt8) (kept : Int) : List AV := [.int .i64 k, .int .i64 m, .str key, .str value, .int .i64 kept]
noncomputable def tf1 (cut : Nat) (args tape : List AV) : Fs.Mid := Fs.stage1 tree0 (orcE tfP) (fun _ => false) tfD 200 n_depotlaw21_TaskFails cut pf_depotlaw21_TaskFails args tape
noncomputable def tf2 (cut : Nat) (m : Fs.Mid) (tape : List AV) : Prop := Fs.stage2 tree0 (orcE tfP) (fun _ => false) tfD 200 n_depotlaw21_TaskFails cut pf_depotlaw21_TaskFails m tape

def tapeP (a b q : Nat) (key : List UInt8) : List AV :=
  [nI a, nI b, .bool true, .bool false, .bool true, .int .u32 (.ofNat (hashN key)), nI q, .int .u32 (.ofNat (hashN key)), nI q]
def tapeQ (a n : Nat) (big : Bool) : List AV := match Nat.blt n a, big with
  | true, _ => [nI n, .bool true]
  | false, false => [nI n, .bool false, .bool false, .bool false, .bool false, .bool false, .bool true]
  | false, true => [nI n, .bool false, .bool false, .bool false, .bool false, .bool true, .bool false, .bool true]

def conj (P : Prop) : List Prop → Prop
  | [] => P
  | Q :: l => conj (P ∧ Q) l
theorem conj_all : ∀ {l : List Prop} {P : Prop}, P → (∀ x ∈ l, x) → conj P l
  | [], _, hP, _ => hP
  | Q :: l, P, hP, h => conj_all (l := l) (P := P ∧ Q) ⟨hP, h Q (List.mem_cons_self)⟩ fun x hx => h x (List.mem_cons_of_mem _ hx)

def wT (x : Int) (lo hi r : Nat) : Prop := Fs.Pure lib n_depotbook_Within [.int .i64 x, nI lo, nI hi] (nI r)
def kT (key : List UInt8) (b : Bool) : Prop := Fs.Pure lib n_words_Key [.str key] (.bool b)
def hT (key : List UInt8) : Prop := Fs.Pure lib n_chain_Hash [.str key] (.int .u32 (.ofNat (hashN key)))
def rT (key : List UInt8) (n r : Nat) : Prop := bin .rem (.int .i64 (wr .i64 (.ofNat (hashN key)))) (nI n) = some (nI r)
def lT (value : List UInt8) (b : Bool) : Prop := bin .gtr (nI value.length) (nI 300) = some (.bool b)
def tT : Prop := Fs.Pure lib n_depotlaw21_TaskRuns [] (.bool true)
def aK (s : List UInt8) : Prop := Fs.AllEq [(s, s)]
def aF (s t : List UInt8) : Prop := Fs.AllEq [(s, s), (t, t)]
def eT (a : Nat) (value : List UInt8) : Prop := a * value.length < 1000000
/-- what pack.num looks at, of a number that isn't below 0 -/
def uL (n : Nat) : Int := wr .u64 ((BitVec.ofInt IntKind.u64.bits (wr .u64 (wr .u64 (.ofNat n) * 2 ^ (min (Int.toNat (.ofNat 1)) IntKind.u64.bits))) ^^^ BitVec.ofInt IntKind.u64.bits (wr .u64 ((Int.ofNat n).fdiv (2 ^ (min (Int.toNat (.ofNat 63)) IntKind.i64.bits))))).toNat : Nat)
def gT (x : Int) (b : Bool) : Prop := bin .geq (.int .u64 x) (.int .u64 (.ofNat 128)) = some (.bool b)
def sL (x : Int) : Int := x.fdiv (2 ^ (min (Int.toNat (.ofNat 7)) IntKind.u64.bits))

def reps (n : Nat) (P : Prop) (l : List Prop) : List Prop := match n with
  | 0 => l
  | n + 1 => P :: reps n P l
def fragsP (key value : List UInt8) (a : Nat) : List (List Nat) → Nat → List Prop → List Prop
  | r :: rs, n + 1, l => aF key (fragS a r value) :: fragsP key value a rs n l
  | _, _, l => l
def preP (a b q : Nat) (k m : Int) (key value : List UInt8) : List Prop :=
  wT k 1 4 a :: wT m 0 3 b :: kT key true :: lT value false :: kT key true :: hT key :: rT key (a + b) q :: hT key :: rT key (a + b) q ::
    reps (b + 1) (aK key) (reps (b + 1) (aF key []) (aK value :: aK key :: aF key value :: aF key value :: eT a value :: reps (a + b) (aK key) []))
def postP (rows : List (List Nat)) (a b n : Nat) (big : Bool) (kept : Int) (key value : List UInt8) : List Prop :=
  wT kept 0 (a + b) n :: fragsP key value a rows n (match Nat.blt n a, big with
    | true, _ => reps (a + b) (aK key) [tT]
    | false, false => gT (uL 9) false :: gT (uL 9) false :: gT (uL 0) false :: gT (uL 0) false :: gT (uL value.length) false :: reps (b + 1) (aK key) [tT]
    | false, true => gT (uL 9) false :: gT (uL 9) false :: gT (uL 0) false :: gT (uL 0) false :: gT (uL value.length) true :: gT (sL (uL value.length)) false :: reps (b + 1) (aK key) [tT])

/-- one case of the law -/
def Cs (rows : List (List Nat)) (a b q n : Nat) (big : Bool) (k m : Int) (key value : List UInt8) (kept : Int) : Prop :=
  tf2 12 (tf1 12 (tfArgs k m key value kept) (tapeP a b q key)) (tapeQ a n big) = conj (conj True (preP a b q k m key value)) (postP rows a b n big kept key value)
theorem Cs.of {rows : List (List Nat)} {a b q n : Nat} {big : Bool} {k m : Int} {key value : List UInt8} {kept : Int}
    (h : tf2 12 (tf1 12 (tfArgs k m key value kept) (tapeP a b q key)) (tapeQ a n big) = conj (conj True (preP a b q k m key value)) (postP rows a b n big kept key value)) : Cs rows a b q n big k m key value kept := h

end Go.Proofs.YtjlfnolaifkakaaDoor
