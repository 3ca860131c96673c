/- A region, whatever it comes to: one rule, then how it ended. Conditions: none. -/
import Derived.Test.YtkjmelfgopammaaQsG
namespace Go.Dp

variable {L : Lib} {n : Nat} {k : Kn} {H : Heap} {Q : Ex → Kn → Heap → Prop}

/-- What is left behind a region that code follows. -/
def SAft (L : Lib) (n : Nat) (b : PC) (Q : Ex → Kn → Heap → Prop) : KR → Prop
  | .done k' H' => Xk L n b k' H' Q
  | .call f args d rest k' H' => Eo L f args H' fun v H'' => Xk L n (.seq (.region rest) b) (kput k' d v) H'' Q
  | .bad => False
/-- What is left behind a region at the end. -/
def TAft (L : Lib) (n : Nat) (Q : Ex → Kn → Heap → Prop) : KR → Prop
  | .done k' H' => Q .normal k' H'
  | .call f args d rest k' H' => Eo L f args H' fun v H'' => Xk L n (.region rest) (kput k' d v) H'' Q
  | .bad => False
theorem SAft.done {b : PC} {k' : Kn} {H' : Heap} (h : Xk L n b k' H' Q) : SAft L n b Q (.done k' H') := h
theorem SAft.call {b : PC} {f : Nat} {args : List AV} {d : Option Nat} {rest : List It} {k' : Kn} {H' : Heap} (h : Eo L f args H' fun v H'' => Xk L n (.seq (.region rest) b) (kput k' d v) H'' Q) : SAft L n b Q (.call f args d rest k' H') := h
theorem TAft.done {k' : Kn} {H' : Heap} (h : Q .normal k' H') : TAft L n Q (.done k' H') := h
theorem TAft.call {f : Nat} {args : List AV} {d : Option Nat} {rest : List It} {k' : Kn} {H' : Heap} (h : Eo L f args H' fun v H'' => Xk L n (.region rest) (kput k' d v) H'' Q) : TAft L n Q (.call f args d rest k' H') := h

theorem Xk.sAny {its : List It} {b : PC} {r : KR} (hok : okR n its k.keys = true) (h : ∀ C : KR → Prop, C r → C (Dp.run its k H)) (hK : SAft L n b Q r) : Xk L n (.seq (.region its) b) k H Q := by
  cases r with
  | bad => cases hK
  | done k' H' => exact Xk.sRun hok h hK
  | call f args d rest k' H' => exact Xk.sCall hok h hK
theorem Xk.tAny {its : List It} {r : KR} (hok : okR n its k.keys = true) (h : ∀ C : KR → Prop, C r → C (Dp.run its k H)) (hK : TAft L n Q r) : Xk L n (.region its) k H Q := by
  cases r with
  | bad => cases hK
  | done k' H' => exact Xk.run hok h hK
  | call f args d rest k' H' => exact Xk.tCall hok h hK
end Go.Dp
