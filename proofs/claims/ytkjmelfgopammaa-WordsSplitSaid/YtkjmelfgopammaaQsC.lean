/- Reasoning over runs where a frame is known in part: what operations come to, as equations. Conditions: none. -/
import Derived.Test.YtkjmelfgopammaaQsB
namespace Go.Dp

theorem addn_i64 (a b : Nat) (h : a + b < 9223372036854775808) : bin .add (.int .i64 (.ofNat a)) (.int .i64 (.ofNat b)) = some (.int .i64 (.ofNat (a + b))) := by
  show some (AV.int .i64 (wr .i64 (.ofNat (a + b)))) = _
  have : Nat.blt (a + b) (lim .i64) = true := by rw [nblt]; exact decide_eq_true h
  simp only [wr, this, cond_true]
theorem addn_u64 (a b : Nat) (h : a + b < 18446744073709551616) : bin .add (.int .u64 (.ofNat a)) (.int .u64 (.ofNat b)) = some (.int .u64 (.ofNat (a + b))) := by
  show some (AV.int .u64 (wr .u64 (.ofNat (a + b)))) = _
  have : Nat.blt (a + b) (lim .u64) = true := by rw [nblt]; exact decide_eq_true h
  simp only [wr, this, cond_true]
theorem addn_u8 (a b : Nat) (h : a + b < 256) : bin .add (.int .u8 (.ofNat a)) (.int .u8 (.ofNat b)) = some (.int .u8 (.ofNat (a + b))) := by
  show some (AV.int .u8 (wr .u8 (.ofNat (a + b)))) = _
  have : Nat.blt (a + b) (lim .u8) = true := by rw [nblt]; exact decide_eq_true h
  simp only [wr, this, cond_true]
theorem muln_i64 (a b : Nat) (h : a * b < 9223372036854775808) : bin .mul (.int .i64 (.ofNat a)) (.int .i64 (.ofNat b)) = some (.int .i64 (.ofNat (a * b))) := by
  show some (AV.int .i64 (wr .i64 (.ofNat (a * b)))) = _
  have : Nat.blt (a * b) (lim .i64) = true := by rw [nblt]; exact decide_eq_true h
  simp only [wr, this, cond_true]
theorem muln_u64 (a b : Nat) (h : a * b < 18446744073709551616) : bin .mul (.int .u64 (.ofNat a)) (.int .u64 (.ofNat b)) = some (.int .u64 (.ofNat (a * b))) := by
  show some (AV.int .u64 (wr .u64 (.ofNat (a * b)))) = _
  have : Nat.blt (a * b) (lim .u64) = true := by rw [nblt]; exact decide_eq_true h
  simp only [wr, this, cond_true]
theorem ofNat_sub {a b : Nat} (h : b ≤ a) : Int.ofNat a - Int.ofNat b = Int.ofNat (a - b) := by
  show (a : Int) - (b : Int) = ((a - b : Nat) : Int); omega
theorem subn (k : IntKind) (a b : Nat) (h : b ≤ a) (h2 : Nat.blt (a - b) (lim k) = true) : bin .sub (.int k (.ofNat a)) (.int k (.ofNat b)) = some (.int k (.ofNat (a - b))) := by
  have : bin .sub (.int k (.ofNat a)) (.int k (.ofNat b)) = some (AV.int k (wr k (Int.ofNat a - Int.ofNat b))) := by
    show binII .sub k (.ofNat a) k (.ofNat b) = _
    simp only [binII, kbeq_eq, decide_true, cond_true, binInt]
  rw [this, ofNat_sub h]
  simp only [wr, h2, cond_true]
theorem subn_i64 (a b : Nat) (h : b ≤ a) (h2 : a - b < 9223372036854775808) : bin .sub (.int .i64 (.ofNat a)) (.int .i64 (.ofNat b)) = some (.int .i64 (.ofNat (a - b))) := subn _ _ _ h (by rw [nblt]; exact decide_eq_true h2)
theorem subn_u64 (a b : Nat) (h : b ≤ a) (h2 : a - b < 18446744073709551616) : bin .sub (.int .u64 (.ofNat a)) (.int .u64 (.ofNat b)) = some (.int .u64 (.ofNat (a - b))) := subn _ _ _ h (by rw [nblt]; exact decide_eq_true h2)
theorem subn_u8 (a b : Nat) (h : b ≤ a) (h2 : a - b < 256) : bin .sub (.int .u8 (.ofNat a)) (.int .u8 (.ofNat b)) = some (.int .u8 (.ofNat (a - b))) := subn _ _ _ h (by rw [nblt]; exact decide_eq_true h2)
theorem wrn_u64 (a : Nat) (h : a < 18446744073709551616) : wr .u64 (.ofNat a) = .ofNat a := by
  have : Nat.blt a (lim .u64) = true := by rw [nblt]; exact decide_eq_true h
  simp only [wr, this, cond_true]
theorem wrn_i64 (a : Nat) (h : a < 9223372036854775808) : wr .i64 (.ofNat a) = .ofNat a := by
  have : Nat.blt a (lim .i64) = true := by rw [nblt]; exact decide_eq_true h
  simp only [wr, this, cond_true]
theorem wrn_u8 (a : Nat) (h : a < 256) : wr .u8 (.ofNat a) = .ofNat a := by
  have : Nat.blt a (lim .u8) = true := by rw [nblt]; exact decide_eq_true h
  simp only [wr, this, cond_true]
theorem cint_u64 (j : IntKind) (a : Nat) (h : a < 18446744073709551616) : rCint .u64 (.int j (.ofNat a)) = some (.int .u64 (.ofNat a)) := by
  show some (AV.int .u64 (wr .u64 (.ofNat a))) = _; rw [wrn_u64 a h]
theorem cint_i64 (j : IntKind) (a : Nat) (h : a < 9223372036854775808) : rCint .i64 (.int j (.ofNat a)) = some (.int .i64 (.ofNat a)) := by
  show some (AV.int .i64 (wr .i64 (.ofNat a))) = _; rw [wrn_i64 a h]
theorem cint_u8 (j : IntKind) (a : Nat) (h : a < 256) : rCint .u8 (.int j (.ofNat a)) = some (.int .u8 (.ofNat a)) := by
  show some (AV.int .u8 (wr .u8 (.ofNat a))) = _; rw [wrn_u8 a h]
theorem quon (k : IntKind) (a b : Nat) (h : 0 < b) (hl : Nat.blt (a / b) (lim k) = true) : bin .quo (.int k (.ofNat a)) (.int k (.ofNat b)) = some (.int k (.ofNat (a / b))) := by
  have h0 : ibeq (Int.ofNat b) 0 = false := by rw [ibeq_eq]; simp; omega
  show binII .quo k (.ofNat a) k (.ofNat b) = _
  simp only [binII, kbeq_eq, decide_true, cond_true, binInt, h0, cond_false]
  show some (AV.int k (wr k (.ofNat (a / b)))) = _
  simp only [wr, hl, cond_true]
theorem quon_u64 (a b : Nat) (h : 0 < b) (hl : a / b < 18446744073709551616) : bin .quo (.int .u64 (.ofNat a)) (.int .u64 (.ofNat b)) = some (.int .u64 (.ofNat (a / b))) := quon _ _ _ h (by rw [nblt]; exact decide_eq_true hl)
theorem quon_i64 (a b : Nat) (h : 0 < b) (hl : a / b < 9223372036854775808) : bin .quo (.int .i64 (.ofNat a)) (.int .i64 (.ofNat b)) = some (.int .i64 (.ofNat (a / b))) := quon _ _ _ h (by rw [nblt]; exact decide_eq_true hl)
theorem remn (k : IntKind) (a b : Nat) (h : 0 < b) : bin .rem (.int k (.ofNat a)) (.int k (.ofNat b)) = some (.int k (.ofNat (a % b))) := by
  have h0 : ibeq (Int.ofNat b) 0 = false := by rw [ibeq_eq]; simp; omega
  show binII .rem k (.ofNat a) k (.ofNat b) = _
  simp only [binII, kbeq_eq, decide_true, cond_true, binInt, h0, cond_false]
  rfl

theorem lssi (k : IntKind) (a b : Int) : bin .lss (.int k a) (.int k b) = some (.bool (decide (a < b))) := by
  show binII .lss k a k b = _
  simp only [binII, kbeq_eq, decide_true, cond_true, binInt, ible_eq]
  congr 2
  by_cases h : a < b
  · simp [h, Int.not_le.2 h]
  · simp [h, Int.not_lt.1 h]
theorem leqi (k : IntKind) (a b : Int) : bin .leq (.int k a) (.int k b) = some (.bool (decide (a ≤ b))) := by
  show binII .leq k a k b = _
  simp only [binII, kbeq_eq, decide_true, cond_true, binInt, ible_eq]
theorem gtri (k : IntKind) (a b : Int) : bin .gtr (.int k a) (.int k b) = some (.bool (decide (b < a))) := by
  show binII .gtr k a k b = _
  simp only [binII, kbeq_eq, decide_true, cond_true, binInt, ible_eq]
  congr 2
  by_cases h : b < a
  · simp [h, Int.not_le.2 h]
  · simp [h, Int.not_lt.1 h]
theorem geqi (k : IntKind) (a b : Int) : bin .geq (.int k a) (.int k b) = some (.bool (decide (b ≤ a))) := by
  show binII .geq k a k b = _
  simp only [binII, kbeq_eq, decide_true, cond_true, binInt, ible_eq]
theorem eqli (k : IntKind) (a b : Int) : bin .eql (.int k a) (.int k b) = some (.bool (decide (a = b))) := by
  show binII .eql k a k b = _
  simp only [binII, kbeq_eq, decide_true, cond_true, binInt, ibeq_eq]
  rfl
theorem neqi (k : IntKind) (a b : Int) : bin .neq (.int k a) (.int k b) = some (.bool (!decide (a = b))) := by
  show binII .neq k a k b = _
  simp only [binII, kbeq_eq, decide_true, cond_true, binInt, ibeq_eq]
  rfl
theorem nat_lt (a b : Nat) : (Int.ofNat a < Int.ofNat b) = (a < b) := by
  rw [eq_iff_iff]; show (a : Int) < b ↔ _; omega
theorem nat_le (a b : Nat) : (Int.ofNat a ≤ Int.ofNat b) = (a ≤ b) := by
  rw [eq_iff_iff]; show (a : Int) ≤ b ↔ _; omega
theorem nat_eq (a b : Nat) : (Int.ofNat a = Int.ofNat b) = (a = b) := by
  rw [eq_iff_iff]; show (a : Int) = b ↔ _; omega
theorem beqd (a b : List UInt8) : (a == b) = decide (a = b) := by
  rw [Bool.eq_iff_iff, beq_iff_eq, decide_eq_true_iff]
theorem eqls (a b : List UInt8) : bin .eql (.str a) (.str b) = some (.bool (decide (a = b))) := by
  show some (AV.bool (beqB a b)) = _
  rw [beqB_eq, beqd]
theorem neqs (a b : List UInt8) : bin .neq (.str a) (.str b) = some (.bool (!decide (a = b))) := by
  show some (AV.bool (!beqB a b)) = _
  rw [beqB_eq, beqd]
theorem adds (a b : List UInt8) (h : a.length + b.length ≤ 4611686018427387904) : bin .add (.str a) (.str b) = some (.str (a ++ b)) := by
  show (bif Nat.ble (a.length + b.length) 4611686018427387904 then _ else _) = _
  rw [nble, decide_eq_true h]; rfl
theorem ixs (s : List UInt8) (k : IntKind) (j : Nat) (h : j < s.length) : rIxstr (.str s) (.int k (.ofNat j)) = some (.int .u8 (.ofNat (s.getD j 0).toNat)) := by
  have hb : Nat.blt j s.length = true := by rw [nblt]; simpa using h
  simp only [rIxstr, idx, natOf, hb, cond_true, List.getElem?_eq_getElem h, List.getD_eq_getElem?_getD, Option.getD_some]
theorem lens (s : List UInt8) : rLens (.str s) = some (.int .i64 (.ofNat s.length)) := rfl
theorem notb (b : Bool) : un .not (.bool b) = some (.bool !b) := rfl

theorem agV_same (k : Kn) (H : Heap) (r : List It) (v : AV) (h : sameV v v = true) : agV k H (run r) v (some v) = run r k H := by
  show (bif sameV v v then run r k H else .bad) = _
  rw [h]; rfl
theorem agV_sl (k : Kn) (H : Heap) (r : List It) (b o l s : Nat) : agV k H (run r) (.sl b o l s) (some (.sl b o l s)) = run r k H := agV_same _ _ _ _ (by simp [sameV, sameAV, nbeq])
theorem agV_ptr (k : Kn) (H : Heap) (r : List It) (b o : Nat) : agV k H (run r) (.ptr b o) (some (.ptr b o)) = run r k H := agV_same _ _ _ _ (by simp [sameV, sameAV, nbeq])
theorem agV_str (k : Kn) (H : Heap) (r : List It) (s : List UInt8) : agV k H (run r) (.str s) (some (.str s)) = run r k H := agV_same _ _ _ _ (by simp [sameV, sameAV, beqB_eq])
theorem agV_int (k : Kn) (H : Heap) (r : List It) (j : IntKind) (n : Int) : agV k H (run r) (.int j n) (some (.int j n)) = run r k H := agV_same _ _ _ _ (by simp [sameV, sameAV, kbeq_eq, ibeq_eq])
theorem agV_bool (k : Kn) (H : Heap) (r : List It) (b : Bool) : agV k H (run r) (.bool b) (some (.bool b)) = run r k H := agV_same _ _ _ _ (by simp [sameV, sameAV])
/-- The equations of a region's run. -/
theorem wq :
    (∀ k H, run [] k H = .done k H) ∧
    (∀ d p r k H, run (.op ⟨d, none, .r p⟩ :: r) k H = thenV d k (run r) (withH H (evalR k.fr H p))) ∧
    (∀ d p r k H, run (.op ⟨d, none, .n p⟩ :: r) k H = thenV d k (run r) (made H (evalN k.fr p))) ∧
    (∀ d n a v r k H, run (.op ⟨d, none, .e (.store n a v)⟩ :: r) k H = thenV d k (run r) (eStore H n (a.ev k.fr) (v.ev k.fr).cells)) ∧
    (∀ d s m x v r k H, run (.op ⟨d, none, .e (.mupd s m x v)⟩ :: r) k H = thenV d k (run r) (eMupd H s (m.ev k.fr) (x.ev k.fr) (v.ev k.fr))) ∧
    (∀ d s z m x r k H, run (.op ⟨d, none, .e (.ment s z m x)⟩ :: r) k H = thenV d k (run r) (eMent H s z (m.ev k.fr) (x.ev k.fr))) ∧
    (∀ d m x v r k H, run (.op ⟨d, none, .e (.mest m x v)⟩ :: r) k H = thenV d k (run r) (eMest H (m.ev k.fr) (x.ev k.fr) (v.ev k.fr))) ∧
    (∀ d s m x r k H, run (.op ⟨d, none, .e (.mdel s m x)⟩ :: r) k H = thenV d k (run r) (eMdel H s (m.ev k.fr) (x.ev k.fr))) ∧
    (∀ d w sz b s x r k H, run (.op ⟨d, none, .e (.app w sz b s x)⟩ :: r) k H = thenV d k (run r) (evalApp w sz b H (s.ev k.fr) (x.ev k.fr))) ∧
    (∀ d sz a b r k H, run (.op ⟨d, none, .e (.copy sz a b)⟩ :: r) k H = thenV d k (run r) (eCopy H sz (a.ev k.fr) (b.ev k.fr))) ∧
    (∀ d z a r k H, run (.op ⟨d, none, .e (.clear z a)⟩ :: r) k H = thenV d k (run r) (eClear H z (a.ev k.fr))) ∧
    (∀ d a b r k H, run (.op ⟨d, none, .e (.ustr a b)⟩ :: r) k H = thenV d k (run r) (eUstr' H (a.ev k.fr) (b.ev k.fr))) ∧
    (∀ d f xs r k H, run (.op ⟨d, none, .e (.call f xs)⟩ :: r) k H = .call f (xs.map (X.ev k.fr)) d r k H) ∧
    (∀ d f xs r k H, run (.op ⟨d, none, .e (.callv f xs)⟩ :: r) k H = runF d r k H (xs.map (X.ev k.fr)) (f.ev k.fr)) ∧
    (∀ d s w p r k H, run (.op ⟨d, some (s, w), p⟩ :: r) k H = runG d r (run r) k H w p (k.get s)) ∧
    (∀ d r k H p, runG d r (run r) k H true p (.bool true) = run (.op ⟨d, none, p⟩ :: r) k H) ∧
    (∀ d r k H p, runG d r (run r) k H false p (.bool false) = run (.op ⟨d, none, p⟩ :: r) k H) ∧
    (∀ d r k H p, runG d r (run r) k H true p (.bool false) = run r (kput k d (.tup [])) H) ∧
    (∀ d r k H p, runG d r (run r) k H false p (.bool true) = run r (kput k d (.tup [])) H) ∧
    (∀ d a r k H, run (.op ⟨d, none, .e (.mark a)⟩ :: r) k H = thenV d k (run r) (eMark H (a.ev k.fr))) ∧
    (∀ d r k H w p l, runG d r (run r) k H w p (.tup l) = run r (kput k d (.tup [])) H) ∧
    (∀ d p r k H, run (.again ⟨some d, none, .r p⟩ :: r) k H = agV k H (run r) (k.get d) (evalR k.fr H p)) ∧
    (∀ d s w p r k H, run (.again ⟨some d, some (s, w), p⟩ :: r) k H = agG d (run r) k H w p (k.get s)) ∧
    (∀ d r k H p, agG d (run r) k H true (.r p) (.bool true) = agV k H (run r) (k.get d) (evalR k.fr H p)) ∧
    (∀ d r k H p, agG d (run r) k H false (.r p) (.bool false) = agV k H (run r) (k.get d) (evalR k.fr H p)) ∧
    (∀ d r k H p, agG d (run r) k H true (.r p) (.bool false) = run r k H) ∧
    (∀ d r k H p, agG d (run r) k H false (.r p) (.bool true) = run r k H) ∧
    (∀ k H r b o l s, agV k H (run r) (.sl b o l s) (some (.sl b o l s)) = run r k H) ∧
    (∀ k H r b o, agV k H (run r) (.ptr b o) (some (.ptr b o)) = run r k H) ∧
    (∀ k H r s, agV k H (run r) (.str s) (some (.str s)) = run r k H) ∧
    (∀ k H r j n, agV k H (run r) (.int j n) (some (.int j n)) = run r k H) ∧
    (∀ k H r b, agV k H (run r) (.bool b) (some (.bool b)) = run r k H) ∧
    (∀ k H r, agV k H (run r) .nils (some .nils) = run r k H) ∧
    (∀ d r k H xs f cs, runF d r k H xs (.fn f cs) = .call f (xs ++ cs) d r k H) ∧
    (∀ d k r v H, thenV d k (run r) (some (v, H)) = run r (kput k d v) H) ∧
    (∀ k d v, kput k (some d) v = (d, v) :: k) ∧
    (∀ k v, kput k none v = k) ∧
    (∀ H v, withH H (some v) = some (v, H)) ∧
    (∀ (H : Heap) b f, made H (some (b, f)) = some (f H.next, H.new b)) ∧
    (∀ (k : Kn) i, X.ev k.fr (.t i) = k.get i) ∧
    (∀ fr v, X.ev fr (.c v) = v) ∧
    (∀ (i j : Nat) v (r : Kn), Kn.get ((j, v) :: r) i = if i = j then v else Kn.get r i) ∧
    (∀ b : Bool, (b == true) = b) ∧ (∀ b : Bool, (b == false) = !b) ∧
    (∀ (α : Type) (a b : α), (bif true then a else b) = a) ∧ (∀ (α : Type) (a b : α), (bif false then a else b) = b) ∧
    ((!true) = false) ∧ ((!false) = true) ∧ (∀ i, argsK i [] = []) ∧ (∀ i a r, argsK i (a :: r) = (i, a) :: argsK (i + 1) r) ∧
    (∀ a b, rPick (.bool true) a b = some a) ∧ (∀ a b, rPick (.bool false) a b = some b) :=
  ⟨fun _ _ => rfl, fun _ _ _ _ _ => rfl, fun _ _ _ _ _ => rfl, fun _ _ _ _ _ _ _ => rfl, fun _ _ _ _ _ _ _ _ => rfl, fun _ _ _ _ _ _ _ _ => rfl, fun _ _ _ _ _ _ _ => rfl,
    fun _ _ _ _ _ _ _ => rfl, fun _ _ _ _ _ _ _ _ _ => rfl, fun _ _ _ _ _ _ _ => rfl, fun _ _ _ _ _ _ => rfl, fun _ _ _ _ _ _ => rfl, fun _ _ _ _ _ _ => rfl, fun _ _ _ _ _ _ => rfl,
    fun _ _ _ _ _ _ _ => rfl, fun _ _ _ _ _ => rfl, fun _ _ _ _ _ => rfl, fun _ _ _ _ _ => rfl, fun _ _ _ _ _ => rfl, fun _ _ _ _ _ => rfl, fun _ _ _ _ _ _ _ => rfl, fun _ _ _ _ _ => rfl, fun _ _ _ _ _ _ _ => rfl, fun _ _ _ _ _ => rfl, fun _ _ _ _ _ => rfl, fun _ _ _ _ _ => rfl, fun _ _ _ _ _ => rfl, agV_sl, agV_ptr, agV_str, agV_int, agV_bool, fun _ _ _ => rfl, fun _ _ _ _ _ _ _ => rfl, fun _ _ _ _ _ => rfl, fun _ _ _ => rfl, fun _ _ => rfl, fun _ _ => rfl, fun _ _ _ => rfl,
    X.ev_t, fun _ _ => rfl, fun _ _ _ _ => rfl, fun b => by cases b <;> rfl, fun b => by cases b <;> rfl, fun _ _ _ => rfl, fun _ _ _ => rfl, rfl, rfl, fun _ => rfl, fun _ _ _ => rfl, fun _ _ => rfl, fun _ _ => rfl⟩

/-- The equations of values. -/
theorem wv :
    (∀ a b : Nat, a + b < 9223372036854775808 → bin .add (.int .i64 (.ofNat a)) (.int .i64 (.ofNat b)) = some (.int .i64 (.ofNat (a + b)))) ∧
    (∀ a b : Nat, a + b < 18446744073709551616 → bin .add (.int .u64 (.ofNat a)) (.int .u64 (.ofNat b)) = some (.int .u64 (.ofNat (a + b)))) ∧
    (∀ a b : Nat, a + b < 256 → bin .add (.int .u8 (.ofNat a)) (.int .u8 (.ofNat b)) = some (.int .u8 (.ofNat (a + b)))) ∧
    (∀ a b : Nat, b ≤ a → a - b < 9223372036854775808 → bin .sub (.int .i64 (.ofNat a)) (.int .i64 (.ofNat b)) = some (.int .i64 (.ofNat (a - b)))) ∧
    (∀ a b : Nat, b ≤ a → a - b < 18446744073709551616 → bin .sub (.int .u64 (.ofNat a)) (.int .u64 (.ofNat b)) = some (.int .u64 (.ofNat (a - b)))) ∧
    (∀ a b : Nat, b ≤ a → a - b < 256 → bin .sub (.int .u8 (.ofNat a)) (.int .u8 (.ofNat b)) = some (.int .u8 (.ofNat (a - b)))) ∧
    (∀ a b : Nat, a * b < 9223372036854775808 → bin .mul (.int .i64 (.ofNat a)) (.int .i64 (.ofNat b)) = some (.int .i64 (.ofNat (a * b)))) ∧
    (∀ a b : Nat, a * b < 18446744073709551616 → bin .mul (.int .u64 (.ofNat a)) (.int .u64 (.ofNat b)) = some (.int .u64 (.ofNat (a * b)))) ∧
    (∀ a b : Nat, 0 < b → a / b < 18446744073709551616 → bin .quo (.int .u64 (.ofNat a)) (.int .u64 (.ofNat b)) = some (.int .u64 (.ofNat (a / b)))) ∧
    (∀ a b : Nat, 0 < b → a / b < 9223372036854775808 → bin .quo (.int .i64 (.ofNat a)) (.int .i64 (.ofNat b)) = some (.int .i64 (.ofNat (a / b)))) ∧
    (∀ (k : IntKind) (a b : Nat), 0 < b → bin .rem (.int k (.ofNat a)) (.int k (.ofNat b)) = some (.int k (.ofNat (a % b)))) ∧
    (∀ (j : IntKind) (a : Nat), a < 18446744073709551616 → rCint .u64 (.int j (.ofNat a)) = some (.int .u64 (.ofNat a))) ∧
    (∀ (j : IntKind) (a : Nat), a < 9223372036854775808 → rCint .i64 (.int j (.ofNat a)) = some (.int .i64 (.ofNat a))) ∧
    (∀ (j : IntKind) (a : Nat), a < 256 → rCint .u8 (.int j (.ofNat a)) = some (.int .u8 (.ofNat a))) ∧
    (∀ (k : IntKind) (a b : Int), bin .lss (.int k a) (.int k b) = some (.bool (decide (a < b)))) ∧
    (∀ (k : IntKind) (a b : Int), bin .leq (.int k a) (.int k b) = some (.bool (decide (a ≤ b)))) ∧
    (∀ (k : IntKind) (a b : Int), bin .gtr (.int k a) (.int k b) = some (.bool (decide (b < a)))) ∧
    (∀ (k : IntKind) (a b : Int), bin .geq (.int k a) (.int k b) = some (.bool (decide (b ≤ a)))) ∧
    (∀ (k : IntKind) (a b : Int), bin .eql (.int k a) (.int k b) = some (.bool (decide (a = b)))) ∧
    (∀ (k : IntKind) (a b : Int), bin .neq (.int k a) (.int k b) = some (.bool (!decide (a = b)))) ∧
    (∀ a b : Nat, (Int.ofNat a < Int.ofNat b) = (a < b)) ∧ (∀ a b : Nat, (Int.ofNat a ≤ Int.ofNat b) = (a ≤ b)) ∧ (∀ a b : Nat, (Int.ofNat a = Int.ofNat b) = (a = b)) ∧
    (∀ a b, bin .eql (.str a) (.str b) = some (.bool (decide (a = b)))) ∧ (∀ a b, bin .neq (.str a) (.str b) = some (.bool (!decide (a = b)))) ∧
    (∀ a b : List UInt8, a.length + b.length ≤ 4611686018427387904 → bin .add (.str a) (.str b) = some (.str (a ++ b))) ∧
    (∀ (s : List UInt8) (k : IntKind) (j : Nat), j < s.length → rIxstr (.str s) (.int k (.ofNat j)) = some (.int .u8 (.ofNat (s.getD j 0).toNat))) ∧
    (∀ s, rLens (.str s) = some (.int .i64 (.ofNat s.length))) ∧ (∀ b, un .not (.bool b) = some (.bool !b)) ∧
    (∀ b o l s, rLensl (.sl b o l s) = some (.int .i64 (.ofNat l))) ∧ (rLensl .nils = some (.int .i64 (.ofNat 0))) :=
  ⟨addn_i64, addn_u64, addn_u8, subn_i64, subn_u64, subn_u8, muln_i64, muln_u64, quon_u64, quon_i64, remn, cint_u64, cint_i64, cint_u8, lssi, leqi, gtri, geqi, eqli, neqi, nat_lt, nat_le, nat_eq, eqls, neqs, adds, ixs, lens, notb, fun _ _ _ _ => rfl, rfl⟩

section
variable {L : Lib} {n : Nat} {k : Kn} {H : Heap} {Q : Ex → Kn → Heap → Prop}
theorem Xk.sIf {x : X} {a b c : PC} {p : Prop} [Decidable p] (hx : x.kv k = .bool (decide p)) (hk : x.tm.all (has k.keys) = true) (h1 : p → Xk L n (.seq a c) k H Q) (h2 : ¬p → Xk L n (.seq b c) k H Q) : Xk L n (.seq (.cond x a b) c) k H Q :=
  Xk.sCond hx hk (fun h => h1 (of_decide_eq_true h)) (fun h => h2 (of_decide_eq_false h))
theorem Xk.if_ {x : X} {a b : PC} {p : Prop} [Decidable p] (hx : x.kv k = .bool (decide p)) (hk : x.tm.all (has k.keys) = true) (h1 : p → Xk L n a k H Q) (h2 : ¬p → Xk L n b k H Q) : Xk L n (.cond x a b) k H Q :=
  Xk.cond hx hk (fun h => h1 (of_decide_eq_true h)) (fun h => h2 (of_decide_eq_false h))
theorem Xk.sTrue {x : X} {a b c : PC} (hx : x.kv k = .bool true) (hk : x.tm.all (has k.keys) = true) (h1 : Xk L n (.seq a c) k H Q) : Xk L n (.seq (.cond x a b) c) k H Q :=
  Xk.sCond hx hk (fun _ => h1) (fun h => by cases h)
theorem Xk.sFalse {x : X} {a b c : PC} (hx : x.kv k = .bool false) (hk : x.tm.all (has k.keys) = true) (h1 : Xk L n (.seq b c) k H Q) : Xk L n (.seq (.cond x a b) c) k H Q :=
  Xk.sCond hx hk (fun h => by cases h) (fun _ => h1)
theorem Xk.true_ {x : X} {a b : PC} (hx : x.kv k = .bool true) (hk : x.tm.all (has k.keys) = true) (h1 : Xk L n a k H Q) : Xk L n (.cond x a b) k H Q :=
  Xk.cond hx hk (fun _ => h1) (fun h => by cases h)
theorem Xk.false_ {x : X} {a b : PC} (hx : x.kv k = .bool false) (hk : x.tm.all (has k.keys) = true) (h1 : Xk L n b k H Q) : Xk L n (.cond x a b) k H Q :=
  Xk.cond hx hk (fun h => by cases h) (fun _ => h1)
theorem Xk.run {its : List It} {k' : Kn} {H' : Heap} (hok : okR n its k.keys = true) (h : ∀ C : KR → Prop, C (.done k' H') → C (run its k H)) (hK : Q .normal k' H') : Xk L n (.region its) k H Q :=
  Xk.reg (Xr.done hok h hK)
/-- A loop: what holds at its head, with a measure that falls; l: the slots that are known there. -/
theorem Xk.iter {b : PC} (l : List Nat) (I : Nat → Kn → Heap → Prop) (hl : l.all (has k.keys) = true) (h0 : ∃ m, I m (k.only l) H)
    (step : ∀ m k H, I m k H → Xk L n b k H (Ex.thnK (fun k' H' => l.all (has k'.keys) = true ∧ ∃ m', m' < m ∧ I m' (k'.only l) H') Q)) : Xk L n (.loop b) k H Q := by
  have go : ∀ m k H, I m k H → Xk L n (.loop b) k H Q := by
    intro m
    induction m using Nat.strongRecOn with
    | ind m ih =>
      intro k H hI
      refine Xk.loop ((step m k H hI).mono fun e k' H' _ _ h => ?_)
      cases e with
      | normal =>
        obtain ⟨h2, m', h1, h3⟩ := h
        exact Xk.only l h2 (ih m' h1 _ _ h3)
      | exit id => exact h
      | ret => exact h
  obtain ⟨m, h0⟩ := h0
  exact Xk.only l hl (go m _ _ h0)

/-- What holds between two parts of the code; l: the slots that are known there. -/
theorem Xk.cut {a b : PC} (l : List Nat) (I : Kn → Heap → Prop) (h1 : Xk L n a k H (Ex.thnK (fun k' H' => l.all (has k'.keys) = true ∧ I (k'.only l) H') Q)) (h2 : ∀ k' H', I k' H' → Xk L n b k' H' Q) : Xk L n (.seq a b) k H Q :=
  Xk.seq (h1.mono fun e k' H' _ _ h => by
    cases e with
    | normal => exact Xk.only l h.1 (h2 _ _ h.2)
    | exit id => exact h
    | ret => exact h)
theorem Xk.unassoc {a b c : PC} (h : Xk L n (.seq (.seq a b) c) k H Q) : Xk L n (.seq a (.seq b c)) k H Q := by
  constructor
  intro hH fr F
  obtain ⟨m, ex, fr', H', e, r⟩ := h.go hH fr F
  refine ⟨m, ex, fr', H', ?_, r⟩
  rw [exec_seq, exec_seq] at e ⊢
  unfold dSeq at e ⊢
  cases hx : exec (call L m) m a fr H with
  | none => rw [hx] at e; cases e
  | some q =>
    obtain ⟨ex1, fr1, H1⟩ := q
    rw [hx] at e
    cases ex1 <;> exact e
theorem Xk.cut2 {a b c : PC} (l : List Nat) (I : Kn → Heap → Prop) (h1 : Xk L n (.seq a b) k H (Ex.thnK (fun k' H' => l.all (has k'.keys) = true ∧ I (k'.only l) H') Q)) (h2 : ∀ k' H', I k' H' → Xk L n c k' H' Q) : Xk L n (.seq a (.seq b c)) k H Q :=
  Xk.unassoc (Xk.cut l I h1 h2)
theorem Ex.thn_n {K : Kn → Heap → Prop} (h : K k H) : Ex.thnK K Q .normal k H := h
theorem Ex.thn_r {K : Kn → Heap → Prop} (h : Q .ret k H) : Ex.thnK K Q .ret k H := h
theorem Ex.thn_e {K : Kn → Heap → Prop} {j : Nat} (h : Q (.exit j) k H) : Ex.thnK K Q (.exit j) k H := h
theorem Ex.in_n {id : Nat} (h : Q .normal k H) : Ex.inK id Q .normal k H := h
theorem Ex.in_r {id : Nat} (h : Q .ret k H) : Ex.inK id Q .ret k H := h
theorem Ex.in_hit {id : Nat} (h : Q .normal k H) : Ex.inK id Q (.exit id) k H := by
  show (bif Nat.beq id id then _ else _)
  rw [nbeq, decide_eq_true rfl]; exact h
theorem Ex.in_ne {id j : Nat} (hj : Nat.beq j id = false) (h : Q (.exit j) k H) : Ex.inK id Q (.exit j) k H := by
  show (bif Nat.beq j id then _ else _)
  rw [hj]; exact h
end

end Go.Dp
