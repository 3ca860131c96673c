/- The functions that this seat's laws reach, for the clean machine; each is what the translation makes of the given text. Conditions: none. Printed by program. -/
import Derived.Test.YtkjmelfgopammaaDoorLibR
import Derived.Test.YtkjmelfgopammaaDoorLibNA
namespace Go.Proofs.YtkjmelfgopammaaDoor
open Go.Dp
def tree0 : Tr LF := (.node (.node (.node (.node (.node .leaf (some (.code pf_words_Number)) .leaf) (some (.code pf_depotlaw12_WordsNumbers)) (.node (.node (.node .leaf (some (.code pf_math_bits_TrailingZeros32)) .leaf) none .leaf) none .leaf)) none (.node .leaf none (.node (.node .leaf (some (.code pf_internal_strconv_numDigits)) .leaf) none (.node .leaf (some (.code pf_math_bits_Len64)) .leaf)))) none (.node .leaf none (.node .leaf none (.node (.node .leaf (some (.code pf_internal_strconv_formatBits)) .leaf) none (.node .leaf (some (.code pf_internal_strconv_isPowerOfTwo)) .leaf))))) none (.node (.node (.node (.node .leaf (some (.code pf_depotbook_Within)) .leaf) none (.node (.node (.node .leaf (some (.code pf_math_bits_TrailingZeros64)) .leaf) none .leaf) none .leaf)) none (.node .leaf none (.node (.node .leaf (some (.code pf_internal_strconv_formatBase10)) .leaf) (some (.code pf_internal_strconv_FormatUint)) (.node .leaf (some (.code pf_internal_strconv_bool2_int)) .leaf)))) none (.node (.node .leaf none (.node (.node .leaf (some (.code pf_internal_strconv_small)) .leaf) none (.node .leaf (some (.code pf_internal_strconv_log10Pow2)) .leaf))) none (.node .leaf (some (.code pf_strconv_FormatUint)) (.node .leaf none (.node .leaf (some (.code pf_math_bits_TrailingZeros)) .leaf))))))
theorem bd7 : BodyOk cx 7 := ⟨Tryd.f7, Tryd.func7, by kernel_rfl, by kernel_rfl⟩
theorem bd14 : BodyOk cx 14 := ⟨Tryd.f14, Tryd.func14, by kernel_rfl, by kernel_rfl⟩
theorem bd15 : BodyOk cx 15 := ⟨Tryd.f15, Tryd.func15, by kernel_rfl, by kernel_rfl⟩
theorem bd16 : BodyOk cx 16 := ⟨Tryd.f16, Tryd.func16, by kernel_rfl, by kernel_rfl⟩
theorem bd17 : BodyOk cx 17 := ⟨Tryd.f17, Tryd.func17, by kernel_rfl, by kernel_rfl⟩
theorem bd28 : BodyOk cx 28 := ⟨Tryd.f28, Tryd.func28, by kernel_rfl, by kernel_rfl⟩
theorem bd42 : BodyOk cx 42 := ⟨Tryd.f42, Tryd.func42, by kernel_rfl, by kernel_rfl⟩
theorem bd43 : BodyOk cx 43 := ⟨Tryd.f43, Tryd.func43, by kernel_rfl, by kernel_rfl⟩
theorem bd44 : BodyOk cx 44 := ⟨Tryd.f44, Tryd.func44, by kernel_rfl, by kernel_rfl⟩
theorem bd45 : BodyOk cx 45 := ⟨Tryd.f45, Tryd.func45, by kernel_rfl, by kernel_rfl⟩
theorem bd58 : BodyOk cx 58 := ⟨Tryd.f58, Tryd.func58, by kernel_rfl, by kernel_rfl⟩
theorem bd59 : BodyOk cx 59 := ⟨Tryd.f59, Tryd.func59, by kernel_rfl, by kernel_rfl⟩
theorem bd60 : BodyOk cx 60 := ⟨Tryd.f60, Tryd.func60, by kernel_rfl, by kernel_rfl⟩
theorem bd61 : BodyOk cx 61 := ⟨Tryd.f61, Tryd.func61, by kernel_rfl, by kernel_rfl⟩
theorem bd62 : BodyOk cx 62 := ⟨Tryd.f62, Tryd.func62, by kernel_rfl, by kernel_rfl⟩
theorem bd71 : BodyOk cx 71 := ⟨Tryd.f71, Tryd.func71, by kernel_rfl, by kernel_rfl⟩
theorem bd72 : BodyOk cx 72 := ⟨Tryd.f72, Tryd.func72, by kernel_rfl, by kernel_rfl⟩
theorem bds : AllOf (BodyOk cx) nums := ⟨bd7, bd14, bd15, bd16, bd17, bd28, bd42, bd43, bd44, bd45, bd58, bd59, bd60, bd61, bd62, bd71, bd72, trivial⟩
theorem ext_ok : ExtOk cx := by
  refine ext_table (l := [(69, 2), (74, 1), (76, 3)]) rfl fun p hp => ?_
  rcases List.mem_cons.1 hp with rfl | hp
  · exact item_same Tryd.func69 (by kernel_rfl) (by kernel_rfl) (by kernel_rfl) (by kernel_rfl)
  rcases List.mem_cons.1 hp with rfl | hp
  · exact item_index Tryd.func74 (by kernel_rfl) (by kernel_rfl) (by kernel_rfl) (by kernel_rfl)
  rcases List.mem_cons.1 hp with rfl | hp
  · exact item_nozero (ps := #[3]) (t := 54) (e := 5) Tryd.func76 (by kernel_rfl) (by kernel_rfl) (by kernel_rfl) (by kernel_rfl) Tryd.underlying54 (show cx.P.info? 5 = some (cx.P.info? 5).get! from (by kernel_rfl)) (by kernel_rfl) (by kernel_rfl)
  cases hp
theorem prog_ok : ProgOk cx := ⟨by kernel_rfl, ext_ok, fm_ok2 rfl bds⟩
def lib : Lib := fun f => bif Nat.beq f 17 then some (.prim runsPrim) else tree0.get f
theorem lk7 : EntOk cx lib 7 := .inl ⟨Tryd.f7, Tryd.func7, by rw [tr_depotlaw12_WordsNumbers]; kernel_rfl⟩
theorem at_depotlaw12_WordsNumbers : lib n_depotlaw12_WordsNumbers = some (.code pf_depotlaw12_WordsNumbers) := by kernel_rfl
theorem lk14 : EntOk cx lib 14 := .inl ⟨Tryd.f14, Tryd.func14, by rw [tr_strconv_FormatUint]; kernel_rfl⟩
theorem at_strconv_FormatUint : lib n_strconv_FormatUint = some (.code pf_strconv_FormatUint) := by kernel_rfl
theorem lk15 : EntOk cx lib 15 := .inl ⟨Tryd.f15, Tryd.func15, by rw [tr_words_Number]; kernel_rfl⟩
theorem at_words_Number : lib n_words_Number = some (.code pf_words_Number) := by kernel_rfl
theorem lk16 : EntOk cx lib 16 := .inl ⟨Tryd.f16, Tryd.func16, by rw [tr_depotbook_Within]; kernel_rfl⟩
theorem at_depotbook_Within : lib n_depotbook_Within = some (.code pf_depotbook_Within) := by kernel_rfl
theorem lk17 : EntOk cx lib 17 := ent_runs (fun w => R.walk_depotlaw12_WordsRuns w) rfl
theorem lk28 : EntOk cx lib 28 := .inl ⟨Tryd.f28, Tryd.func28, by rw [tr_internal_strconv_FormatUint]; kernel_rfl⟩
theorem at_internal_strconv_FormatUint : lib n_internal_strconv_FormatUint = some (.code pf_internal_strconv_FormatUint) := by kernel_rfl
theorem lk42 : EntOk cx lib 42 := .inl ⟨Tryd.f42, Tryd.func42, by rw [tr_internal_strconv_small]; kernel_rfl⟩
theorem at_internal_strconv_small : lib n_internal_strconv_small = some (.code pf_internal_strconv_small) := by kernel_rfl
theorem lk43 : EntOk cx lib 43 := .inl ⟨Tryd.f43, Tryd.func43, by rw [tr_internal_strconv_numDigits]; kernel_rfl⟩
theorem at_internal_strconv_numDigits : lib n_internal_strconv_numDigits = some (.code pf_internal_strconv_numDigits) := by kernel_rfl
theorem lk44 : EntOk cx lib 44 := .inl ⟨Tryd.f44, Tryd.func44, by rw [tr_internal_strconv_formatBase10]; kernel_rfl⟩
theorem at_internal_strconv_formatBase10 : lib n_internal_strconv_formatBase10 = some (.code pf_internal_strconv_formatBase10) := by kernel_rfl
theorem lk45 : EntOk cx lib 45 := .inl ⟨Tryd.f45, Tryd.func45, by rw [tr_internal_strconv_formatBits]; kernel_rfl⟩
theorem at_internal_strconv_formatBits : lib n_internal_strconv_formatBits = some (.code pf_internal_strconv_formatBits) := by kernel_rfl
theorem lk58 : EntOk cx lib 58 := .inl ⟨Tryd.f58, Tryd.func58, by rw [tr_internal_strconv_log10Pow2]; kernel_rfl⟩
theorem at_internal_strconv_log10Pow2 : lib n_internal_strconv_log10Pow2 = some (.code pf_internal_strconv_log10Pow2) := by kernel_rfl
theorem lk59 : EntOk cx lib 59 := .inl ⟨Tryd.f59, Tryd.func59, by rw [tr_math_bits_Len64]; kernel_rfl⟩
theorem at_math_bits_Len64 : lib n_math_bits_Len64 = some (.code pf_math_bits_Len64) := by kernel_rfl
theorem lk60 : EntOk cx lib 60 := .inl ⟨Tryd.f60, Tryd.func60, by rw [tr_internal_strconv_bool2_int]; kernel_rfl⟩
theorem at_internal_strconv_bool2_int : lib n_internal_strconv_bool2_int = some (.code pf_internal_strconv_bool2_int) := by kernel_rfl
theorem lk61 : EntOk cx lib 61 := .inl ⟨Tryd.f61, Tryd.func61, by rw [tr_internal_strconv_isPowerOfTwo]; kernel_rfl⟩
theorem at_internal_strconv_isPowerOfTwo : lib n_internal_strconv_isPowerOfTwo = some (.code pf_internal_strconv_isPowerOfTwo) := by kernel_rfl
theorem lk62 : EntOk cx lib 62 := .inl ⟨Tryd.f62, Tryd.func62, by rw [tr_math_bits_TrailingZeros]; kernel_rfl⟩
theorem at_math_bits_TrailingZeros : lib n_math_bits_TrailingZeros = some (.code pf_math_bits_TrailingZeros) := by kernel_rfl
theorem lk71 : EntOk cx lib 71 := .inl ⟨Tryd.f71, Tryd.func71, by rw [tr_math_bits_TrailingZeros32]; kernel_rfl⟩
theorem at_math_bits_TrailingZeros32 : lib n_math_bits_TrailingZeros32 = some (.code pf_math_bits_TrailingZeros32) := by kernel_rfl
theorem lk72 : EntOk cx lib 72 := .inl ⟨Tryd.f72, Tryd.func72, by rw [tr_math_bits_TrailingZeros64]; kernel_rfl⟩
theorem at_math_bits_TrailingZeros64 : lib n_math_bits_TrailingZeros64 = some (.code pf_math_bits_TrailingZeros64) := by kernel_rfl
theorem lks : AllOf (EntOk cx lib) nums := ⟨lk7, lk14, lk15, lk16, lk17, lk28, lk42, lk43, lk44, lk45, lk58, lk59, lk60, lk61, lk62, lk71, lk72, trivial⟩
theorem lib_ok : LibOk cx lib := lib_ok2 rfl lks
-- roots [7, 17]
end Go.Proofs.YtkjmelfgopammaaDoor
