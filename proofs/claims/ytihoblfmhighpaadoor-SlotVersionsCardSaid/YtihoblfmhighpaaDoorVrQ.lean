/- Layer 17: SlotVersions, plainly: what stands when versions were put. Conditions: none. -/
import Derived.Test.YtihoblfmhighpaaDoorSlG
import Derived.Test.YtihoblfmhighpaaDoorStD
namespace Go.Proofs.YtihoblfmhighpaaDoor
open Go.Dp
set_option linter.unusedSimpArgs false
set_option linter.unusedVariables false
set_option maxRecDepth 8000

theorem nat_at {T : Tags} {H : Heap} {t : Tg} {v : AV} {l : List Nat} (h : RT T H t 0 1 v (nats l)) {i : Nat} (hi : i < l.length) :
    ∃ c cl, v = .sl c 0 l.length 1 ∧ H.get c = some (.cells cl 1) ∧ i + 1 ≤ cl.length ∧ (cl.drop i).take 1 = [.int .i64 (.ofNat (l.getD i 0))] := by
  rcases h with ⟨_, h2⟩ | ⟨c, len, cl, rfl, h2, h3, h4, h5, h6⟩
  · have : (nats l).length = 0 := by rw [h2]; rfl
    rw [nats_len] at this
    omega
  · rw [nats_len, Nat.mul_one] at h2
    rw [nats_len] at h4 h5
    subst h2
    refine ⟨c, cl, rfl, h3, by omega, ?_⟩
    have e : (cl.take l.length).drop i = (cl.drop i).take (l.length - i) := List.drop_take
    have e2 : (cl.drop i).take 1 = ((cl.take l.length).drop i).take 1 := by
      rw [e, List.take_take, Nat.min_eq_left (by omega)]
    rw [e2, h5]
    unfold nats
    rw [← List.map_drop, List.drop_eq_getElem_cons hi, List.getD_eq_getElem?_getD, List.getElem?_eq_getElem hi]
    rfl
theorem int_at {H : Heap} {v : AV} {l : List Int} (h : Sl H 1 v (l.map (.int .i64))) {i : Nat} (hi : i < l.length) :
    ∃ b o cl k, v = .sl b o l.length 1 ∧ H.get b = some (.cells cl k) ∧ o + i + 1 ≤ cl.length ∧ (cl.drop (o + i)).take 1 = [.int .i64 (l.getD i 0)] := by
  rcases h with ⟨_, h2⟩ | ⟨b, o, len, cl, k, rest, rfl, h2, h3, h4, h5⟩
  · have : (l.map (AV.int .i64)).length = 0 := by rw [h2]; rfl
    rw [List.length_map] at this
    omega
  · rw [List.length_map, Nat.mul_one] at h2
    subst h2
    have hl : cl.length - o = l.length + rest.length := by rw [← List.length_drop, h5, List.length_append, List.length_map]
    refine ⟨b, o, cl, k, rfl, h3, by omega, ?_⟩
    rw [← List.drop_drop, h5, List.drop_append_of_le_length (by rw [List.length_map]; omega), ← List.map_drop, List.drop_eq_getElem_cons hi, List.getD_eq_getElem?_getD, List.getElem?_eq_getElem hi]
    rfl
theorem int_len {H : Heap} {v : AV} {l : List Int} (h : Sl H 1 v (l.map (.int .i64))) : rLensl v = some (.int .i64 (.ofNat l.length)) ∧ v.isSc = true ∧ v.cells = [v] := by
  rcases h with ⟨rfl, h2⟩ | ⟨b, o, len, cl, w, rest, rfl, h2, _⟩
  · have : l = [] := by cases l with
      | nil => rfl
      | cons c r => cases h2
    subst this
    exact ⟨rfl, rfl, rfl⟩
  · rw [List.length_map, Nat.mul_one] at h2
    rw [h2]
    exact ⟨rfl, rfl, rfl⟩

/-- a request -/
def reqF (kind : Nat) (rid : Int) (role : Nat) (key : List UInt8) (ver : Int) (data : List UInt8) : Fr := ⟨.ofNat kind, .ofNat 1, .ofNat 3, rid, .ofNat 0, .ofNat role, key, ver, data⟩
theorem reqF_lr {kind : Nat} {rid : Int} {role : Nat} {key : List UInt8} {ver : Int} {data : List UInt8} (hk : kind = 1 ∨ kind = 2 ∨ kind = 3) (hr : role = 1 ∨ role = 2) (h1 : 0 ≤ rid) (h2 : rid ≤ 1000000) (h3 : 0 ≤ ver) (h4 : ver ≤ 1000000) (h5 : key.length ≤ 250) (h6 : data.length ≤ 3000) :
    LR (reqF kind rid role key ver data) := by
  refine ⟨?_, rfl, rfl, rfl, h1, h3, h4, h5, h6⟩
  have e0 : (Int.ofNat 0) = (0 : Int) := rfl
  have i1 : ∀ n : Nat, 1000000 ≤ n → inB rid n = true := fun n hn => by
    unfold inB
    rw [decide_eq_true (show Int.ofNat 0 ≤ rid from h1), decide_eq_true (show rid ≤ Int.ofNat n by have : Int.ofNat n = (n : Int) := rfl; omega)]
    rfl
  have i2 : ∀ n : Nat, 1000000 ≤ n → inB ver n = true := fun n hn => by
    unfold inB
    rw [decide_eq_true (show Int.ofNat 0 ≤ ver from h3), decide_eq_true (show ver ≤ Int.ofNat n by have : Int.ofNat n = (n : Int) := rfl; omega)]
    rfl
  unfold rightB reqF
  dsimp only
  rw [i1 _ (by decide), i2 _ (by decide), decide_eq_true (show key.length ≤ 250 from h5), decide_eq_true (show data.length ≤ 1049600 by omega)]
  rcases hk with rfl | rfl | rfl <;> rcases hr with rfl | rfl <;> rfl
theorem askF_req {kind : Nat} (rid : Int) (key data : List UInt8) (ver : Int) (h : kind ≠ 5) : askF kind rid key data ver = reqF kind rid 1 key ver data := by
  unfold askF reqF
  rw [if_neg h]

theorem LS.begin {κ : Nat} {T : Tags} {H : Heap} {p a b m : Nat} {rid : Int} (W : SW κ T H p (Sw.begun ⟨.ofNat 1, a, b, false, .ofNat 0, .ofNat 0, newSt a b, []⟩ (askF 5 rid [] [] (.ofNat 0)))) : LS κ T H p b a m 0 (szs b 64) (fun _ => none) [] :=
  ⟨_, W, rfl, rfl, rfl, rfl, rfl, KP.new, fun k => rfl, fun k v d h => by cases h⟩
end Go.Proofs.YtihoblfmhighpaaDoor
namespace Go.Proofs.YtihoblfmhighpaaDoor
open Go.Dp
set_option linter.unusedSimpArgs false
set_option linter.unusedVariables false
set_option maxRecDepth 8000

def partF (kind : Nat) (rid : Int) (v : Nat) (data : List UInt8) : Fr := reqF kind rid 2 [107] (.ofNat v) data
def metaF (kind : Nat) (rid : Int) (v : Nat) (data : List UInt8) : Fr := reqF kind rid 1 [107] (.ofNat v) data
def pn (v : Nat) : List UInt8 := [112, UInt8.ofNat (2 * v), 107]
def mn : List UInt8 := [109, 107]
theorem zig_nat (v : Nat) : zig (.ofNat v) = 2 * v := by
  simp only [zig]
  have h : (0 : Int) ≤ Int.ofNat v := Int.natCast_nonneg v
  rw [if_pos h]
  rfl
theorem partF_n {kind : Nat} {rid : Int} {v : Nat} {data : List UInt8} (h : v ≤ 20) : nameB (partF kind rid v data) = pn v := by
  unfold nameB
  have h2 : ¬ (partF kind rid v data).role = 1 := by show ¬ (Int.ofNat 2 = 1); decide
  rw [if_neg h2]
  show 112 :: (vi (zig (.ofNat v)) ++ [107]) = _
  rw [zig_nat, vi_small (by omega)]
  rfl
theorem metaF_n {kind : Nat} {rid : Int} {v : Nat} {data : List UInt8} : nameB (metaF kind rid v data) = mn := rfl
theorem pn_inj {v w : Nat} (hv : v ≤ 20) (hw : w ≤ 20) (h : pn v = pn w) : v = w := by
  unfold pn at h
  injection h with _ h
  injection h with h _
  have e : (UInt8.ofNat (2 * v)).toNat = (UInt8.ofNat (2 * w)).toNat := by rw [h]
  rw [u8n (by omega), u8n (by omega)] at e
  omega
theorem pn_mn (v : Nat) : pn v ≠ mn := by
  unfold pn mn
  intro h
  injection h with h _
  exact absurd h (by decide)
def pd (v : Nat) : List UInt8 := 118 :: dec v
def md (v : Nat) : List UInt8 := 114 :: dec v
theorem dec_len {v : Nat} (h : v ≤ 20) : (dec v).length ≤ 2 := by
  by_cases c : v < 10
  · rw [dec_eq (n := 1) (by decide) (by decide) (.inr rfl) c, dgs_len]
    decide
  · rw [dec_eq (n := 2) (by decide) (by decide) (.inl (by show 10 ≤ v; omega)) (by show v < 100; omega), dgs_len]
    exact Nat.le_refl _

/-- what stands, where the versions l were put; g: the greatest -/
structure Inv (l : List Nat) (g : Nat) (M : Mp) : Prop where
  p : ∀ v, v ≤ 20 → M (pn v) = if v ∈ l then some (.ofNat v, pd v) else none
  m : M mn = if g = 0 then none else some (.ofNat g, md g)
  g20 : g ≤ 20
  ge : ∀ v ∈ l, 1 ≤ v ∧ v ≤ 20
theorem Inv.start : Inv [] 0 (fun _ => none) := ⟨fun _ _ => rfl, rfl, by decide, fun v hv => by cases hv⟩
theorem Inv.part {l : List Nat} {g v : Nat} {M : Mp} (h : Inv l g M) (h1 : 1 ≤ v) (h2 : v ≤ 20) (rid : Int) : ∀ k, (putR M (partF 1 rid v (pd v))).1 k = if pn v = k then some (.ofNat v, pd v) else M k := by
  intro k
  unfold putR
  rw [partF_n h2, h.p v h2]
  split
  · rename_i v' d' e
    split at e
    · cases e
      show (if Int.ofNat v < Int.ofNat v then (M, _) else (M.set (pn v) _, _)).1 k = _
      rw [if_neg (Int.lt_irrefl _)]
      rfl
    · cases e
  · rfl
theorem Inv.meta_ {l : List Nat} {g v : Nat} {M : Mp} (h : Inv l g M) (h1 : 1 ≤ v) (h2 : v ≤ 20) (rid rid' : Int) : Inv (l ++ [v]) (max g v) (putR (putR M (partF 1 rid v (pd v))).1 (metaF 1 rid' v (md v))).1 := by
  have hp := h.part h1 h2 rid
  have hm1 : (putR M (partF 1 rid v (pd v))).1 mn = if g = 0 then none else some (.ofNat g, md g) := by rw [hp, if_neg (pn_mn v)]; exact h.m
  generalize (putR M (partF 1 rid v (pd v))).1 = M1 at hp hm1
  have hr : ∀ k, (putR M1 (metaF 1 rid' v (md v))).1 k = if mn = k then some (.ofNat (max g v), md (max g v)) else M1 k := by
    intro k
    unfold putR
    rw [metaF_n, hm1]
    by_cases hg : g = 0
    · rw [if_pos hg]
      show (M1.set mn _) k = _
      have : max g v = v := by omega
      rw [this]
      rfl
    · rw [if_neg hg]
      show (if Int.ofNat v < Int.ofNat g then (M1, _) else (M1.set mn _, _)).1 k = _
      by_cases c : v < g
      · have q : Int.ofNat v < Int.ofNat g := Int.ofNat_lt.2 c
        rw [if_pos q]
        have : max g v = g := by omega
        rw [this]
        show M1 k = _
        split
        · rename_i e; subst e; rw [hm1, if_neg hg]
        · rfl
      · have q : ¬ Int.ofNat v < Int.ofNat g := fun q => c (Int.ofNat_lt.1 q)
        rw [if_neg q]
        have : max g v = v := by omega
        rw [this]
        rfl
  refine ⟨fun w hw => ?_, ?_, by have := h.g20; omega, fun w hw => ?_⟩
  · rw [hr, if_neg (fun e => pn_mn w e.symm), hp]
    by_cases e : v = w
    · subst e
      rw [if_pos rfl, if_pos (by simp)]
    · rw [if_neg (fun q => e (pn_inj h2 hw q)), h.p w hw]
      by_cases hl : w ∈ l
      · rw [if_pos hl, if_pos (by simp [hl])]
      · rw [if_neg hl, if_neg (by simp [hl]; exact fun q => e q.symm)]
  · rw [hr, if_pos rfl, if_neg (by omega)]
  · rcases List.mem_append.1 hw with h' | h'
    · exact h.ge w h'
    · rw [List.mem_singleton] at h'
      subst h'
      exact ⟨h1, h2⟩
/-- and where one was dropped -/
theorem Inv.drop {l : List Nat} {g out : Nat} {M : Mp} (h : Inv l g M) (h2 : out ≤ 20) (rid : Int) : (∀ v, v ≤ 20 → (dropR M (partF 3 rid out [])).1 (pn v) = if v ∈ l ∧ v ≠ out then some (.ofNat v, pd v) else none) ∧ (dropR M (partF 3 rid out [])).1 mn = M mn := by
  have hr : ∀ k, (dropR M (partF 3 rid out [])).1 k = if pn out = k then none else M k := by
    intro k
    unfold dropR
    show (match M (nameB (partF 3 rid out [])) with
      | some (v, _) => if v ≤ Int.ofNat out then M.set (nameB (partF 3 rid out [])) none else M
      | none => M) k = _
    rw [partF_n h2]
    have hp := h.p out h2
    by_cases hl : out ∈ l
    · rw [if_pos hl] at hp
      rw [hp]
      show (if Int.ofNat out ≤ Int.ofNat out then M.set (pn out) none else M) k = _
      rw [if_pos (Int.le_refl _)]
      rfl
    · rw [if_neg hl] at hp
      rw [hp]
      show M k = _
      by_cases q : pn out = k
      · subst q; rw [if_pos rfl]; exact hp
      · rw [if_neg q]
  refine ⟨fun v hv => ?_, by rw [hr, if_neg (pn_mn out)]⟩
  rw [hr]
  by_cases e : out = v
  · subst e
    rw [if_pos rfl, if_neg (fun q => q.2 rfl)]
  · rw [if_neg (fun q => e (pn_inj h2 hv q)), h.p v hv]
    by_cases hl : v ∈ l
    · rw [if_pos hl, if_pos ⟨hl, fun q => e q.symm⟩]
    · rw [if_neg hl, if_neg (fun q => hl q.1)]
end Go.Proofs.YtihoblfmhighpaaDoor
