/- What layer 12 says, over lists of bytes: words, numbers, keys, verbs, lines. Conditions: none. -/
import Derived.Test.YtjlfnolaifkakaaDoorQsJ
namespace Go.Wd

theorem drop_getD {α : Type} (d : α) {s : List α} {i : Nat} (h : i < s.length) : s.drop i = s.getD i d :: s.drop (i + 1) := by
  rw [List.drop_eq_getElem_cons h, List.getD_eq_getElem?_getD, List.getElem?_eq_getElem h]
  rfl

def keyCh (c : UInt8) : Bool := decide (32 < c.toNat) && decide (c.toNat ≠ 127)
def keyOk (s : List UInt8) : Bool := decide (1 ≤ s.length) && (decide (s.length ≤ 250) && s.all keyCh)

/-- the parts between blanks; cur: the part that is under way -/
def splitGo : List UInt8 → List UInt8 → List (List UInt8)
  | cur, [] => if cur.length = 0 then [] else [cur]
  | cur, c :: r => if c.toNat = 32 then (if cur.length = 0 then splitGo [] r else cur :: splitGo [] r) else splitGo (cur ++ [c]) r
def splitW (s : List UInt8) : List (List UInt8) := splitGo [] s

def dig (c : UInt8) : Bool := decide (48 ≤ c.toNat) && decide (c.toNat ≤ 57)
@[irreducible] def decS (n : Nat) (c : UInt8) : Nat := 10 * n + (c.toNat - 48)
def decF : Nat → List UInt8 → Nat
  | n, [] => n
  | n, c :: r => decF (decS n c) r
theorem decF_cons (n : Nat) (c : UInt8) (r : List UInt8) : decF n (c :: r) = decF (decS n c) r := rfl
theorem decF_nil (n : Nat) : decF n [] = n := rfl
def num (s : List UInt8) (most : Nat) : Option Nat := if 1 ≤ s.length ∧ s.length ≤ 20 ∧ s.all dig = true ∧ decF 0 s ≤ most then some (decF 0 s) else none

theorem decF_ge : ∀ (s : List UInt8) (n : Nat), n ≤ decF n s
  | [], _ => Nat.le_refl _
  | c :: r, n => Nat.le_trans (by unfold decS; omega) (decF_ge r (decS n c))

theorem num_le {s : List UInt8} {most n : Nat} (h : num s most = some n) : n ≤ most := by
  unfold num at h
  split at h
  · rename_i h1; cases h; exact h1.2.2.2
  · cases h
theorem num_getD (s : List UInt8) (most : Nat) : (num s most).getD 0 ≤ most := by
  cases h : num s most with
  | none => exact Nat.zero_le _
  | some n => exact num_le h

/-- a number that may be below 0, and whether it is one -/
def sgn (s : List UInt8) (most : Nat) : Int × Bool := match s with
  | [] => (0, false)
  | c :: r => if c.toNat = 45 then (-(Int.ofNat ((num r most).getD 0)), (num r most).isSome) else (Int.ofNat ((num (c :: r) most).getD 0), (num (c :: r) most).isSome)

/-- a verb: its number, least, most, may noreply stand there -/
def verbOf (w : List UInt8) : Option (Nat × Nat × Nat × Bool) :=
  if w = [103, 101, 116] then some (1, 1, 64, false) else
  if w = [103, 101, 116, 115] then some (2, 1, 64, false) else
  if w = [115, 101, 116] then some (3, 4, 4, true) else
  if w = [97, 100, 100] then some (4, 4, 4, true) else
  if w = [114, 101, 112, 108, 97, 99, 101] then some (5, 4, 4, true) else
  if w = [97, 112, 112, 101, 110, 100] then some (6, 4, 4, true) else
  if w = [112, 114, 101, 112, 101, 110, 100] then some (7, 4, 4, true) else
  if w = [99, 97, 115] then some (8, 5, 5, true) else
  if w = [100, 101, 108, 101, 116, 101] then some (9, 1, 1, true) else
  if w = [105, 110, 99, 114] then some (10, 2, 2, true) else
  if w = [100, 101, 99, 114] then some (11, 2, 2, true) else
  if w = [116, 111, 117, 99, 104] then some (12, 2, 2, true) else
  if w = [102, 108, 117, 115, 104, 95, 97, 108, 108] then some (13, 0, 1, true) else
  if w = [118, 101, 114, 115, 105, 111, 110] then some (14, 0, 0, false) else
  if w = [118, 101, 114, 98, 111, 115, 105, 116, 121] then some (15, 1, 1, true) else
  if w = [115, 116, 97, 116, 115] then some (16, 0, 0, false) else
  if w = [113, 117, 105, 116] then some (17, 0, 0, false) else none

/-- A request. -/
structure Req where
  verb : Nat
  keys : List (List UInt8)
  flags : Nat
  exp : Int
  bytes : Nat
  cas : Nat
  delta : Nat
  noReply : Bool
  data : List UInt8

def noReq : Req := ⟨0, [], 0, 0, 0, 0, 0, false, []⟩

def storeOk (verb : Nat) (l : List (List UInt8)) : Bool :=
  (num (l.getD 1 []) 4294967295).isSome && ((sgn (l.getD 2 []) 1099511627776).2 && ((num (l.getD 3 []) 2147483647).isSome && (decide (verb ≠ 8) || (num (l.getD 4 []) 1099511627776).isSome)))
def argsB (r : Req) (l : List (List UInt8)) : Option Req :=
  if 3 ≤ r.verb ∧ r.verb ≤ 8 then
    (if storeOk r.verb l = true then some { r with flags := (num (l.getD 1 []) 4294967295).getD 0, exp := (sgn (l.getD 2 []) 1099511627776).1, bytes := (num (l.getD 3 []) 2147483647).getD 0, cas := if r.verb = 8 then (num (l.getD 4 []) 1099511627776).getD 0 else 0 } else none)
  else if r.verb = 10 ∨ r.verb = 11 then (if (num (l.getD 1 []) 18446744073709551615).isSome = true then some { r with delta := (num (l.getD 1 []) 18446744073709551615).getD 0 } else none)
  else if r.verb = 12 then (if (sgn (l.getD 1 []) 1099511627776).2 = true then some { r with exp := (sgn (l.getD 1 []) 1099511627776).1 } else none)
  else some r
/-- the arguments of a verb: none: they are not such as must be -/
def argsOf (r : Req) (l : List (List UInt8)) : Option Req :=
  if r.verb = 1 ∨ r.verb = 2 then (if l.all keyOk = true then some { r with keys := l } else none)
  else if r.verb = 13 then (if l = [] ∨ l.getD 0 [] = [48] then some r else none)
  else if r.verb = 15 then (if (num (l.getD 0 []) 4294967295).isSome = true then some r else none)
  else if r.verb = 14 ∨ r.verb = 16 ∨ r.verb = 17 then some r
  else if keyOk (l.getD 0 []) = true then argsB { r with keys := [l.getD 0 []] } l else none

def noreply : List UInt8 := [110, 111, 114, 101, 112, 108, 121]

/-- the words behind a verb, and whether noreply stood behind them -/
def quietOf (v : Nat × Nat × Nat × Bool) (l : List (List UInt8)) : List (List UInt8) × Bool :=
  if v.2.2.2 = true ∧ v.2.1 < l.length ∧ l.getD (l.length - 1) [] = noreply then (l.take (l.length - 1), true) else (l, false)

/-- a line: the request, the error -/
def wordsOf (l : List (List UInt8)) : Req × Nat := match l with
  | [] => (noReq, 4)
  | w :: l => match verbOf w with
    | none => (noReq, 4)
    | some v =>
      if (quietOf v l).1.length < v.2.1 ∨ v.2.2.1 < (quietOf v l).1.length then (noReq, 4)
      else match argsOf { noReq with verb := v.1, noReply := (quietOf v l).2 } (quietOf v l).1 with
        | none => (noReq, 1)
        | some r => (r, 0)
theorem wordsOf_none {w : List UInt8} {l : List (List UInt8)} (h : verbOf w = none) : wordsOf (w :: l) = (noReq, 4) := by
  unfold wordsOf; simp only [h]
theorem wordsOf_short {w : List UInt8} {l : List (List UInt8)} {v : Nat × Nat × Nat × Bool} (h : verbOf w = some v) (h2 : (quietOf v l).1.length < v.2.1 ∨ v.2.2.1 < (quietOf v l).1.length) : wordsOf (w :: l) = (noReq, 4) := by
  unfold wordsOf; simp only [h, if_pos h2]
theorem wordsOf_args {w : List UInt8} {l : List (List UInt8)} {v : Nat × Nat × Nat × Bool} (h : verbOf w = some v) (h2 : ¬ ((quietOf v l).1.length < v.2.1 ∨ v.2.2.1 < (quietOf v l).1.length)) :
    wordsOf (w :: l) = match argsOf ⟨v.1, [], 0, 0, 0, 0, 0, (quietOf v l).2, []⟩ (quietOf v l).1 with
      | none => (noReq, 1)
      | some r => (r, 0) := by
  unfold wordsOf; simp only [h, if_neg h2]; rfl
def lineOf (s : List UInt8) : Req × Nat := wordsOf (splitW s)

end Go.Wd
