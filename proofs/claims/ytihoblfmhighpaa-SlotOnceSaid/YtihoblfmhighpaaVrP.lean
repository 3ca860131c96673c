/- Layer 17: rows of numbers; requests; the slot of the laws, begun. Conditions: none. -/
import Derived.Test.YtihoblfmhighpaaSlG
namespace Go.Proofs.Ytihoblfmhighpaa
open Go.Dp
set_option linter.unusedSimpArgs false
set_option linter.unusedVariables false
set_option maxRecDepth 8000

theorem nat_at {T : Tags} {H : Heap} {t : Tg} {v : AV} {l : List Nat} (h : RT T H t 0 1 v (nats l)) {i : Nat} (hi : i < l.length) :
    ∃ c cl, v = .sl c 0 l.length 1 ∧ H.get c = some (.cells cl 1) ∧ i + 1 ≤ cl.length ∧ (cl.drop i).take 1 = [.int .i64 (.ofNat (l.getD i 0))] := by
  rcases h with ⟨_, h2⟩ | ⟨c, len, cl, rfl, h2, h3, h4, h5, h6⟩
  · have : (nats l).length = 0 := by rw [h2]; rfl
    rw [nats_len] at this
    omega
  · rw [nats_len, Nat.mul_one] at h2
    rw [nats_len] at h4 h5
    subst h2
    refine ⟨c, cl, rfl, h3, by omega, ?_⟩
    have e : (cl.take l.length).drop i = (cl.drop i).take (l.length - i) := List.drop_take
    have e2 : (cl.drop i).take 1 = ((cl.take l.length).drop i).take 1 := by
      rw [e, List.take_take, Nat.min_eq_left (by omega)]
    rw [e2, h5]
    unfold nats
    rw [← List.map_drop, List.drop_eq_getElem_cons hi, List.getD_eq_getElem?_getD, List.getElem?_eq_getElem hi]
    rfl
theorem int_at {H : Heap} {v : AV} {l : List Int} (h : Sl H 1 v (l.map (.int .i64))) {i : Nat} (hi : i < l.length) :
    ∃ b o cl k, v = .sl b o l.length 1 ∧ H.get b = some (.cells cl k) ∧ o + i + 1 ≤ cl.length ∧ (cl.drop (o + i)).take 1 = [.int .i64 (l.getD i 0)] := by
  rcases h with ⟨_, h2⟩ | ⟨b, o, len, cl, k, rest, rfl, h2, h3, h4, h5⟩
  · have : (l.map (AV.int .i64)).length = 0 := by rw [h2]; rfl
    rw [List.length_map] at this
    omega
  · rw [List.length_map, Nat.mul_one] at h2
    subst h2
    have hl : cl.length - o = l.length + rest.length := by rw [← List.length_drop, h5, List.length_append, List.length_map]
    refine ⟨b, o, cl, k, rfl, h3, by omega, ?_⟩
    rw [← List.drop_drop, h5, List.drop_append_of_le_length (by rw [List.length_map]; omega), ← List.map_drop, List.drop_eq_getElem_cons hi, List.getD_eq_getElem?_getD, List.getElem?_eq_getElem hi]
    rfl
theorem int_len {H : Heap} {v : AV} {l : List Int} (h : Sl H 1 v (l.map (.int .i64))) : rLensl v = some (.int .i64 (.ofNat l.length)) ∧ v.isSc = true ∧ v.cells = [v] := by
  rcases h with ⟨rfl, h2⟩ | ⟨b, o, len, cl, w, rest, rfl, h2, _⟩
  · have : l = [] := by cases l with
      | nil => rfl
      | cons c r => cases h2
    subst this
    exact ⟨rfl, rfl, rfl⟩
  · rw [List.length_map, Nat.mul_one] at h2
    rw [h2]
    exact ⟨rfl, rfl, rfl⟩

/-- a request -/
def reqF (kind : Nat) (rid : Int) (role : Nat) (key : List UInt8) (ver : Int) (data : List UInt8) : Fr := ⟨.ofNat kind, .ofNat 1, .ofNat 3, rid, .ofNat 0, .ofNat role, key, ver, data⟩
theorem reqF_lr {kind : Nat} {rid : Int} {role : Nat} {key : List UInt8} {ver : Int} {data : List UInt8} (hk : kind = 1 ∨ kind = 2 ∨ kind = 3) (hr : role = 1 ∨ role = 2) (h1 : 0 ≤ rid) (h2 : rid ≤ 1000000) (h3 : 0 ≤ ver) (h4 : ver ≤ 1000000) (h5 : key.length ≤ 250) (h6 : data.length ≤ 3000) :
    LR (reqF kind rid role key ver data) := by
  refine ⟨?_, rfl, rfl, rfl, h1, h3, h4, h5, h6⟩
  have e0 : (Int.ofNat 0) = (0 : Int) := rfl
  have i1 : ∀ n : Nat, 1000000 ≤ n → inB rid n = true := fun n hn => by
    unfold inB
    rw [decide_eq_true (show Int.ofNat 0 ≤ rid from h1), decide_eq_true (show rid ≤ Int.ofNat n by have : Int.ofNat n = (n : Int) := rfl; omega)]
    rfl
  have i2 : ∀ n : Nat, 1000000 ≤ n → inB ver n = true := fun n hn => by
    unfold inB
    rw [decide_eq_true (show Int.ofNat 0 ≤ ver from h3), decide_eq_true (show ver ≤ Int.ofNat n by have : Int.ofNat n = (n : Int) := rfl; omega)]
    rfl
  unfold rightB reqF
  dsimp only
  rw [i1 _ (by decide), i2 _ (by decide), decide_eq_true (show key.length ≤ 250 from h5), decide_eq_true (show data.length ≤ 1049600 by omega)]
  rcases hk with rfl | rfl | rfl <;> rcases hr with rfl | rfl <;> rfl
theorem askF_req {kind : Nat} (rid : Int) (key data : List UInt8) (ver : Int) (h : kind ≠ 5) : askF kind rid key data ver = reqF kind rid 1 key ver data := by
  unfold askF reqF
  rw [if_neg h]

theorem LS.begin {κ : Nat} {T : Tags} {H : Heap} {p a b m : Nat} {rid : Int} (W : SW κ T H p (Sw.begun ⟨.ofNat 1, a, b, false, .ofNat 0, .ofNat 0, newSt a b, []⟩ (askF 5 rid [] [] (.ofNat 0)))) : LS κ T H p b a m 0 (szs b 64) (fun _ => none) [] :=
  ⟨_, W, rfl, rfl, rfl, rfl, rfl, KP.new, fun k => rfl, fun k v d h => by cases h⟩
end Go.Proofs.Ytihoblfmhighpaa
