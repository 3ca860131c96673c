/- Layer 17: rows of numbers; requests; the slot of the laws, begun. Conditions: none. -/
import Derived.Test.YtihoblfmhighpaaSlG
namespace Go.Proofs.Ytihoblfmhighpaa
open Go.Dp
set_option linter.unusedSimpArgs false
set_option linter.unusedVariables false
set_option maxRecDepth 8000

def reqF (kind : Nat) (rid : Int) (role : Nat) (key : List UInt8) (ver : Int) (data : List UInt8) : Fr := ⟨.ofNat kind, .ofNat 1, .ofNat 3, rid, .ofNat 0, .ofNat role, key, ver, data⟩
theorem reqF_lr {kind : Nat} {rid : Int} {role : Nat} {key : List UInt8} {ver : Int} {data : List UInt8} (hk : kind = 1 ∨ kind = 2 ∨ kind = 3) (hr : role = 1 ∨ role = 2) (h1 : 0 ≤ rid) (h2 : rid ≤ 1000000) (h3 : 0 ≤ ver) (h4 : ver ≤ 1000000) (h5 : key.length ≤ 250) (h6 : data.length ≤ 3000) :
    LR (reqF kind rid role key ver data) := by
  refine ⟨?_, rfl, rfl, rfl, h1, h3, h4, h5, h6⟩
  have e0 : (Int.ofNat 0) = (0 : Int) := rfl
  have i1 : ∀ n : Nat, 1000000 ≤ n → inB rid n = true := fun n hn => by
    unfold inB
    rw [decide_eq_true (show Int.ofNat 0 ≤ rid from h1), decide_eq_true (show rid ≤ Int.ofNat n by have : Int.ofNat n = (n : Int) := rfl; omega)]
    rfl
  have i2 : ∀ n : Nat, 1000000 ≤ n → inB ver n = true := fun n hn => by
    unfold inB
    rw [decide_eq_true (show Int.ofNat 0 ≤ ver from h3), decide_eq_true (show ver ≤ Int.ofNat n by have : Int.ofNat n = (n : Int) := rfl; omega)]
    rfl
  unfold rightB reqF
  dsimp only
  rw [i1 _ (by decide), i2 _ (by decide), decide_eq_true (show key.length ≤ 250 from h5), decide_eq_true (show data.length ≤ 1049600 by omega)]
  rcases hk with rfl | rfl | rfl <;> rcases hr with rfl | rfl <;> rfl
theorem askF_req {kind : Nat} (rid : Int) (key data : List UInt8) (ver : Int) (h : kind ≠ 5) : askF kind rid key data ver = reqF kind rid 1 key ver data := by
  unfold askF reqF
  rw [if_neg h]

theorem LS.begin {κ : Nat} {T : Tags} {H : Heap} {p a b m : Nat} {rid : Int} (W : SW κ T H p (Sw.begun ⟨.ofNat 1, a, b, false, .ofNat 0, .ofNat 0, newSt a b, []⟩ (askF 5 rid [] [] (.ofNat 0)))) : LS κ T H p b a m 0 (szs b 64) (fun _ => none) [] :=
  ⟨_, W, rfl, rfl, rfl, rfl, rfl, KP.new, fun k => rfl, fun k v d h => by cases h⟩
end Go.Proofs.Ytihoblfmhighpaa
