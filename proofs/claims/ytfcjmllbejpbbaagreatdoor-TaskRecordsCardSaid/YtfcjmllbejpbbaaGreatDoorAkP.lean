/- Layer 19, plainly: requests under way. Conditions: none. -/
import Derived.Test.YtfcjmllbejpbbaaGreatDoorAkA
namespace Go.Proofs.YtfcjmllbejpbbaaGreatDoor
open Go.Dp
set_option linter.unusedSimpArgs false
set_option linter.unusedVariables false

/-! rows of things of n cells each -/
section
variable {α : Type} {g : α → List AV} {n : Nat}
theorem fm_len (hg : ∀ a, (g a).length = n) (l : List α) : (l.flatMap g).length = l.length * n := by
  induction l with
  | nil => rw [List.flatMap_nil, List.length_nil, List.length_nil, Nat.zero_mul]
  | cons a l ih => rw [List.flatMap_cons, List.length_append, hg, ih, List.length_cons, Nat.add_mul, Nat.one_mul, Nat.add_comm]
theorem fm_drop (hg : ∀ a, (g a).length = n) (d : α) : ∀ (l : List α) (i : Nat), i < l.length → (l.flatMap g).drop (i * n) = g (l.getD i d) ++ (l.drop (i + 1)).flatMap g
  | [], i, h => by cases h
  | a :: l, 0, _ => by rw [Nat.zero_mul]; rfl
  | a :: l, i + 1, h => by
    have e : (i + 1) * n = n + i * n := by rw [Nat.add_mul, Nat.one_mul, Nat.add_comm]
    rw [e, ← List.drop_drop, List.flatMap_cons, ← hg a, List.drop_left, hg a]
    exact fm_drop hg d l i (Nat.lt_of_succ_lt_succ h)
theorem fm_take (hg : ∀ a, (g a).length = n) : ∀ (l : List α) (i : Nat), (l.flatMap g).take (i * n) = (l.take i).flatMap g
  | [], i => by rw [List.take_nil, List.flatMap_nil, List.take_nil]
  | a :: l, 0 => by rw [Nat.zero_mul]; rfl
  | a :: l, i + 1 => by
    have e : (i + 1) * n = (g a).length + i * n := by rw [Nat.add_mul, Nat.one_mul, Nat.add_comm, hg]
    rw [e, List.flatMap_cons, List.take_length_add_append, fm_take hg l i]
    rfl
theorem fm_dropn (hg : ∀ a, (g a).length = n) : ∀ (l : List α) (i : Nat), (l.flatMap g).drop (i * n) = (l.drop i).flatMap g
  | [], i => by rw [List.drop_nil, List.flatMap_nil, List.drop_nil]
  | a :: l, 0 => by rw [Nat.zero_mul]; rfl
  | a :: l, i + 1 => by
    have e : (i + 1) * n = n + i * n := by rw [Nat.add_mul, Nat.one_mul, Nat.add_comm]
    rw [e, ← List.drop_drop, List.flatMap_cons, ← hg a, List.drop_left, hg a]
    exact fm_dropn hg l i
theorem fm_set (hg : ∀ a, (g a).length = n) (l : List α) (i : Nat) (x : α) (h : i < l.length) : (l.flatMap g).take (i * n) ++ (g x ++ (l.flatMap g).drop (i * n + n)) = (l.set i x).flatMap g := by
  have e : i * n + n = (i + 1) * n := by rw [Nat.add_mul, Nat.one_mul]
  rw [e, fm_take hg, fm_dropn hg, List.set_eq_take_append_cons_drop, if_pos h, List.flatMap_append, List.flatMap_cons]
end

/-- a frame -/
structure Fr where
  kind : Int
  slot : Int
  inc : Int
  rid : Int
  floor : Int
  role : Int
  key : List UInt8
  ver : Int
  data : List UInt8
def Fr.cells (f : Fr) : List AV := [.int .i64 f.kind, .int .i64 f.slot, .int .i64 f.inc, .int .i64 f.rid, .int .i64 f.floor, .int .i64 f.role, .str f.key, .int .i64 f.ver, .str f.data]
def noFr : Fr := ⟨.ofNat 0, .ofNat 0, .ofNat 0, .ofNat 0, .ofNat 0, .ofNat 0, [], .ofNat 0, []⟩
/-- a request under way: its frame, its ticks -/
structure Rq where
  f : Fr
  t : Nat
def Rq.cells (o : Rq) : List AV := [.int .i64 o.f.kind, .int .i64 o.f.slot, .int .i64 o.f.inc, .int .i64 o.f.rid, .int .i64 o.f.floor, .int .i64 o.f.role, .str o.f.key, .int .i64 o.f.ver, .str o.f.data, .int .i64 (.ofNat o.t)]
def noRq : Rq := ⟨noFr, 0⟩
def frs (l : List Fr) : List AV := l.flatMap Fr.cells
def rqs (l : List Rq) : List AV := l.flatMap Rq.cells
theorem frs_len (l : List Fr) : (frs l).length = l.length * 9 := fm_len (g := Fr.cells) (fun _ => rfl) l
theorem rqs_len (l : List Rq) : (rqs l).length = l.length * 10 := fm_len (g := Rq.cells) (fun _ => rfl) l
theorem Fr.sc (f : Fr) : f.cells.all AV.isSc = true := rfl
theorem Rq.sc (f : Rq) : f.cells.all AV.isSc = true := rfl
theorem frs_sc (l : List Fr) : (frs l).all AV.isSc = true := by
  rw [List.all_eq_true]
  intro x hx
  obtain ⟨f, _, hf⟩ := List.mem_flatMap.1 hx
  exact List.all_eq_true.1 f.sc x hf
theorem rqs_sc (l : List Rq) : (rqs l).all AV.isSc = true := by
  rw [List.all_eq_true]
  intro x hx
  obtain ⟨f, _, hf⟩ := List.mem_flatMap.1 hx
  exact List.all_eq_true.1 f.sc x hf

/-- may a kind have a role? -/
def roleB (k r : Int) : Bool :=
  if k = .ofNat 4 ∨ k = .ofNat 5 ∨ k = .ofNat 7 then decide (r = .ofNat 0)
  else if k = .ofNat 6 then decide (r = .ofNat 0) || decide (r = .ofNat 1) || decide (r = .ofNat 2)
  else decide (r = .ofNat 1) || decide (r = .ofNat 2)
def inB (z : Int) (n : Nat) : Bool := decide (.ofNat 0 ≤ z) && decide (z ≤ .ofNat n)
/-- may a frame be? -/
def rightB (f : Fr) : Bool :=
  decide (.ofNat 1 ≤ f.kind) && decide (f.kind ≤ .ofNat 7) && inB f.slot 11 && roleB f.kind f.role &&
  inB f.inc 1099511627776 && inB f.rid 1099511627776 && inB f.floor 1099511627776 && inB f.ver 1099511627776 && decide (f.key.length ≤ 250) && decide (f.data.length ≤ 1049600)

/-- the least number under way to a slot, a request's own with them -/
def floorP (L : List Rq) (slot rid : Int) : Int := match L.find? (fun o => decide (o.f.slot = slot)) with
  | some o => if o.f.rid < rid then o.f.rid else rid
  | none => rid
end Go.Proofs.YtfcjmllbejpbbaaGreatDoor
