/- Layer 13: what a parser does, in plain Lean. Conditions: none. -/
import Derived.Test.YtkjmelfgopammaaDoorWdS
namespace Go.Wd
set_option linter.unusedSimpArgs false
set_option linter.unusedVariables false

/-- an event: a request, or an answer (kind and text) -/
structure Ev where
  r : Req
  kind : Nat
  text : List UInt8
/-- a parser's state -/
structure PS where
  at_ : Nat
  left : List UInt8
  count : Nat
  asked : Req
  shut : Bool

def evReq (r : Req) : Ev := ⟨r, 0, []⟩
def evAns (kind : Nat) (text : List UInt8) : Ev := ⟨noReq, kind, text⟩

/-- where the first line ends -/
def upTo (c : UInt8) : List UInt8 → Nat
  | [] => 0
  | a :: r => if a = c then 0 else upTo c r + 1
theorem upTo_le (c : UInt8) : ∀ s, upTo c s ≤ s.length
  | [] => Nat.le_refl _
  | a :: r => by
    unfold upTo
    have := upTo_le c r
    split <;> simp <;> omega
/-- without a carriage return behind -/
def trimCR (s : List UInt8) : List UInt8 := if 0 < s.length ∧ s.getD (s.length - 1) 0 = 13 then s.take (s.length - 1) else s

def badLine : List UInt8 := [98, 97, 100, 32, 99, 111, 109, 109, 97, 110, 100, 32, 108, 105, 110, 101, 32, 102, 111, 114, 109, 97, 116]
def badData : List UInt8 := [98, 97, 100, 32, 100, 97, 116, 97, 32, 99, 104, 117, 110, 107]
def tooLarge : List UInt8 := [111, 98, 106, 101, 99, 116, 32, 116, 111, 111, 32, 108, 97, 114, 103, 101, 32, 102, 111, 114, 32, 99, 97, 99, 104, 101]
def storing (v : Nat) : Bool := decide (3 ≤ v ∧ v ≤ 8)

/-- a whole line: what is left behind it is given -/
def doLine (p : PS) (s : List UInt8) : PS × List Ev :=
  let (r, e) := lineOf s
  if e = 4 then (p, [evAns 12 []])
  else if e ≠ 0 then (p, [evAns 13 badLine])
  else if r.verb = 17 then ({ p with shut := true, left := [] }, [evAns 15 []])
  else if storing r.verb = true ∧ 1048576 < r.bytes then ({ p with at_ := 2, count := r.bytes + 2 }, if r.noReply = true then [] else [evAns 14 tooLarge])
  else if storing r.verb = true then ({ p with at_ := 1, asked := r }, [])
  else (p, [evReq r])
def lineStep (p : PS) : Bool × PS × List Ev :=
  let n := upTo 10 p.left
  if 2048 < n then (true, { p with shut := true, left := [] }, [evAns 15 []])
  else if n = p.left.length then (false, p, [])
  else
    let (q, es) := doLine { p with left := p.left.drop (n + 1) } (trimCR (p.left.take n))
    (true, q, es)
def dataStep (p : PS) : Bool × PS × List Ev :=
  let n := p.asked.bytes
  let rest := p.left.drop n
  if p.left.length ≤ n then (false, p, [])
  else if rest = [13] then (false, p, [])
  else if rest.take 2 = [13, 10] then (true, { p with at_ := 0, left := rest.drop 2, asked := noReq }, [evReq { p.asked with data := p.left.take n }])
  else (true, { p with at_ := 3, left := rest, asked := noReq }, [evAns 13 badData])
def pastStep (p : PS) : Bool × PS × List Ev :=
  if p.left = [] then (false, p, [])
  else
    let n := min p.count p.left.length
    (true, { p with left := p.left.drop n, count := p.count - n, at_ := if p.count - n = 0 then 0 else p.at_ }, [])
def brokenStep (p : PS) : Bool × PS × List Ev :=
  let n := upTo 10 p.left
  if n = p.left.length then (false, { p with left := [] }, [])
  else (true, { p with at_ := 0, left := p.left.drop (n + 1) }, [])
def stepP (p : PS) : Bool × PS × List Ev :=
  if p.at_ = 0 then lineStep p else if p.at_ = 1 then dataStep p else if p.at_ = 2 then pastStep p else brokenStep p

def meas (p : PS) : Nat := if p.shut = true then 0 else 2 * p.left.length + (if p.at_ = 1 then 1 else 0) + 1
def feedN : Nat → PS → List Ev × PS
  | 0, p => ([], p)
  | n + 1, p => if p.shut = true then ([], p) else
    match stepP p with
    | (false, q, _) => ([], q)
    | (true, q, es) => let (fs, z) := feedN n q; (es ++ fs, z)
def feed (p : PS) (b : List UInt8) : List Ev × PS := if p.shut = true then ([], p) else
  let q := { p with left := p.left ++ b }
  feedN (meas q) q

/-- what holds of a parser between steps -/
structure PS.Ok (p : PS) : Prop where
  at_ : p.at_ ≤ 3
  count : p.at_ = 2 → 0 < p.count
  zero : p.at_ ≠ 2 → p.count = 0
  most : p.count ≤ 2147483649
  data : p.at_ = 1 → p.asked.bytes ≤ 1048576 ∧ storing p.asked.verb = true ∧ p.asked.keys.length = 1
  asked : p.at_ ≠ 1 → p.asked = noReq
end Go.Wd
