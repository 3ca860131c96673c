/- The field's tables and the code's mixing, plainly. Conditions: none. -/
import Derived.Test.YtjlfnolaifkakaaDoorQsJ
namespace Go.Proofs.YtjlfnolaifkakaaDoor
open Go.Dp
set_option linter.unusedSimpArgs false
set_option linter.unusedVariables false

def u8s (l : List Nat) : List AV := l.map fun n => .int .u8 (.ofNat n)
theorem u8s_len (l : List Nat) : (u8s l).length = l.length := List.length_map ..
theorem u8s_at {l : List Nat} {i : Nat} (h : i < l.length) : (u8s l)[i]? = some (.int .u8 (.ofNat (l.getD i 0))) := by
  unfold u8s
  rw [List.getElem?_map, List.getElem?_eq_getElem h, List.getD_eq_getElem?_getD, List.getElem?_eq_getElem h]
  rfl
theorem cell1 {l : List AV} {o : Nat} {v : AV} (h : l[o]? = some v) : o + 1 ≤ l.length ∧ (l.drop o).take 1 = [v] := by
  obtain ⟨h1, rfl⟩ := List.getElem?_eq_some_iff.1 h
  refine ⟨h1, ?_⟩
  rw [List.drop_eq_getElem_cons h1, List.take_succ_cons, List.take_zero]

/-- cells of numbers below b -/
def okB (b : Nat) : List AV → Bool
  | [] => true
  | v :: r => (match v with
    | .int .u8 (.ofNat n) => Nat.blt n b
    | _ => false) && okB b r
theorem okB_at {b : Nat} : ∀ {l : List AV} {i : Nat}, okB b l = true → i < l.length → ∃ n, l[i]? = some (.int .u8 (.ofNat n)) ∧ n < b
  | v :: r, 0, h, hi0 => by
    unfold okB at h
    rw [Bool.and_eq_true] at h
    obtain ⟨h, _⟩ := h
    split at h
    · exact ⟨_, rfl, by simpa [nblt] using h⟩
    · cases h
  | v :: r, i + 1, h, hi => by
    unfold okB at h
    rw [Bool.and_eq_true] at h
    obtain ⟨n, h1, h2⟩ := okB_at (i := i) h.2 (by simpa using hi)
    exact ⟨n, by rw [List.getElem?_cons_succ]; exact h1, h2⟩
theorem okB_tab : okB 256 Mk.table = true := by decide +kernel
theorem okB_log : okB 255 (Mk.table.drop 510) = true := by decide +kernel

def tbN (i : Nat) : Nat := match Mk.table[i]? with
  | some (.int _ (.ofNat n)) => n
  | _ => 0
theorem tb_at {i : Nat} (h : i < 766) : Mk.table[i]? = some (.int .u8 (.ofNat (tbN i))) ∧ tbN i < 256 := by
  obtain ⟨n, h1, h2⟩ := okB_at okB_tab (by rw [Mk.table_len]; exact h)
  have : tbN i = n := by unfold tbN; rw [h1]
  rw [this]
  exact ⟨h1, h2⟩
theorem log_le {x : Nat} (h : x < 256) : tbN (510 + x) ≤ 254 := by
  obtain ⟨n, h1, h2⟩ := okB_at (i := x) okB_log (by rw [List.length_drop, Mk.table_len]; omega)
  rw [List.getElem?_drop] at h1
  have : tbN (510 + x) = n := by unfold tbN; rw [h1]
  omega

def mulN (x y : Nat) : Nat := if x = 0 ∨ y = 0 then 0 else tbN (tbN (510 + x) + tbN (510 + y))
theorem mulN_lt {x y : Nat} (hx : x < 256) (hy : y < 256) : mulN x y < 256 := by
  unfold mulN
  split
  · omega
  · have := log_le hx
    have := log_le hy
    exact (tb_at (by omega)).2

/-- out, with a row's product laid over it up to place i -/
def xorI (out row : List Nat) (x : Nat) : Nat → List Nat
  | 0 => out
  | i + 1 => let o := xorI out row x i; o.set i (Nat.xor (o.getD i 0) (mulN x (row.getD i 0)))
theorem xorI_len (out row : List Nat) (x : Nat) : ∀ i, (xorI out row x i).length = out.length
  | 0 => rfl
  | i + 1 => by unfold xorI; simp only [List.length_set]; exact xorI_len out row x i
def Below256 (l : List Nat) : Prop := ∀ i, l.getD i 0 < 256
theorem Below256.set {l : List Nat} (h : Below256 l) (i n : Nat) (hn : n < 256) : Below256 (l.set i n) := by
  intro j
  rw [List.getD_eq_getElem?_getD, List.getElem?_set]
  split
  · split
    · exact hn
    · decide
  · rw [← List.getD_eq_getElem?_getD]; exact h j
theorem xor_lt {a b : Nat} (ha : a < 256) (hb : b < 256) : Nat.xor a b < 256 := Nat.xor_lt_two_pow (n := 8) ha hb
theorem xorI_lt {out row : List Nat} {x : Nat} (ho : Below256 out) (hr : Below256 row) (hx : x < 256) : ∀ i, Below256 (xorI out row x i)
  | 0 => ho
  | i + 1 => by
    unfold xorI
    exact (xorI_lt ho hr hx i).set _ _ (xor_lt (xorI_lt ho hr hx i i) (mulN_lt hx (hr i)))

/-- a row's mix up to place j -/
def mixJ (row : List Nat) (data : Nat → List Nat) (z : List Nat) : Nat → List Nat
  | 0 => z
  | j + 1 => let o := mixJ row data z j; if row.getD j 0 = 0 then o else xorI o (data j) (row.getD j 0) z.length
theorem mixJ_len (row : List Nat) (data : Nat → List Nat) (z : List Nat) : ∀ j, (mixJ row data z j).length = z.length
  | 0 => rfl
  | j + 1 => by
    unfold mixJ
    simp only
    split
    · exact mixJ_len row data z j
    · rw [xorI_len]; exact mixJ_len row data z j
theorem mixJ_lt {row : List Nat} {data : Nat → List Nat} {z : List Nat} (hz : Below256 z) (hr : Below256 row) (hd : ∀ j, Below256 (data j)) : ∀ j, Below256 (mixJ row data z j)
  | 0 => hz
  | j + 1 => by
    unfold mixJ
    simp only
    split
    · exact mixJ_lt hz hr hd j
    · exact xorI_lt (mixJ_lt hz hr hd j) (hd j) (hr j) _
theorem below_rep (n : Nat) : Below256 (List.replicate n 0) := by
  intro i
  rw [List.getD_eq_getElem?_getD, List.getElem?_replicate]
  split <;> decide

/-- the bytes of a fragment of a value of n bytes -/
def sizeN (k n : Nat) : Nat := if n = 0 then 0 else n / k + (if n % k = 0 then 0 else 1)
theorem sizeN_fit {k n : Nat} (hk : 0 < k) : n ≤ k * sizeN k n := by
  unfold sizeN
  have h := Nat.div_add_mod n k
  have hm := Nat.mod_lt n hk
  split
  · omega
  · split
    · rename_i h0; rw [h0] at h; rw [Nat.add_zero]; omega
    · rw [Nat.mul_add, Nat.mul_one]; omega
theorem sizeN_le {k n : Nat} (hk : 0 < k) : sizeN k n ≤ n := by
  unfold sizeN
  have h := Nat.div_le_self n k
  split
  · omega
  · split
    · omega
    · rename_i h0 h1
      have hm := Nat.div_add_mod n k
      have h2 : n / k < n := by
        rcases Nat.lt_or_ge 1 k with h3 | h3
        · exact Nat.div_lt_self (by omega) h3
        · have : k = 1 := by omega
          subst this
          rw [Nat.mod_one] at h1
          omega
      omega
def allN (k : Nat) (value : List UInt8) : List Nat := value.map UInt8.toNat ++ List.replicate (k * sizeN k value.length - value.length) 0
theorem allN_len {k : Nat} (hk : 0 < k) (value : List UInt8) : (allN k value).length = k * sizeN k value.length := by
  have := sizeN_fit (k := k) (n := value.length) hk
  simp [allN]
  omega
theorem allN_lt (k : Nat) (value : List UInt8) : Below256 (allN k value) := by
  intro i
  unfold allN
  rw [List.getD_eq_getElem?_getD, List.getElem?_append]
  split
  · rename_i h
    rw [List.getElem?_map]
    cases value[i]? with
    | none => decide
    | some c => exact c.toNat_lt
  · rw [← List.getD_eq_getElem?_getD]; exact below_rep _ _
def dataN (k : Nat) (value : List UInt8) (j : Nat) : List Nat := ((allN k value).drop (j * sizeN k value.length)).take (sizeN k value.length)
theorem dataN_lt (k : Nat) (value : List UInt8) (j : Nat) : Below256 (dataN k value j) := by
  intro i
  unfold dataN
  rw [List.getD_eq_getElem?_getD, List.getElem?_take]
  split
  · rw [List.getElem?_drop, ← List.getD_eq_getElem?_getD]; exact allN_lt k value _
  · decide
/-- a fragment -/
def fragN (k : Nat) (row : List Nat) (value : List UInt8) : List Nat := mixJ row (dataN k value) (List.replicate (sizeN k value.length) 0) k
def fragS (k : Nat) (row : List Nat) (value : List UInt8) : List UInt8 := (fragN k row value).map UInt8.ofNat

theorem bytes_u8s : ∀ l : List Nat, bytesOf (u8s l) = some (l.map UInt8.ofNat)
  | [] => rfl
  | n :: l => by
    show bytesOf (AV.int .u8 (.ofNat n) :: u8s l) = _
    rw [bytesOf, bytes_u8s l]
    rfl

end Go.Proofs.YtjlfnolaifkakaaDoor
