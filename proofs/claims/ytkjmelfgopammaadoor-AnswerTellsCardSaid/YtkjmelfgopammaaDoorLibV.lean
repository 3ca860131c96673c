/- The functions that this seat's laws reach, for the clean machine; each is what the translation makes of the given text. Conditions: none. Printed by program. -/
import Derived.Test.YtkjmelfgopammaaDoorLibRV
import Derived.Test.YtkjmelfgopammaaDoorLibVA
namespace Go.Proofs.YtkjmelfgopammaaDoor
open Go.Dp
def tree0 : Tr LF := (.node (.node (.node (.node .leaf none (.node (.node (.node .leaf (some (.code pf_math_bits_TrailingZeros32)) .leaf) (some (.code pf_strings_Builder_WriteString)) .leaf) none .leaf)) none (.node (.node .leaf (some (.code pf_strconv_Itoa)) .leaf) (some (.code pf_depotlaw14_light)) (.node (.node .leaf (some (.code pf_internal_strconv_numDigits)) .leaf) (some (.code pf_depotref9_digits)) (.node .leaf (some (.code pf_math_bits_Len64)) .leaf)))) none (.node (.node (.node .leaf none (.node .leaf (some (.code pf_internal_strconv_FormatInt)) .leaf)) none (.node (.node .leaf (some (.code pf_strings_Builder_String)) .leaf) (some (.code pf_answer_stats)) (.node .leaf (some (.code pf_strings_Builder_Grow)) .leaf))) (some (.code pf_depotlaw14_AnswerLines)) (.node .leaf (some (.code pf_answer_Quiet)) (.node (.node .leaf (some (.code pf_internal_strconv_formatBits)) .leaf) none (.node .leaf (some (.code pf_internal_strconv_isPowerOfTwo)) .leaf))))) none (.node (.node (.node (.node (.node .leaf (some (.code pf_internal_strconv_Itoa)) .leaf) none .leaf) none (.node (.node (.node .leaf (some (.code pf_math_bits_TrailingZeros64)) .leaf) (some (.code pf_strings_Join)) .leaf) (some (.code pf_answer_values)) (.node .leaf (some (.code pf_strings_Builder_copyCheck)) .leaf))) (some (.code pf_depotlaw14_AnswerValues)) (.node .leaf (some (.code pf_depotref9_Text)) (.node (.node .leaf (some (.code pf_internal_strconv_formatBase10)) .leaf) (some (.code pf_internal_strconv_FormatUint)) (.node .leaf (some (.code pf_internal_strconv_bool2_int)) .leaf)))) none (.node (.node .leaf (some (.code pf_answer_Text)) (.node (.node .leaf (some (.code pf_internal_strconv_small)) .leaf) (some (.code pf_answer_plain)) (.node .leaf (some (.code pf_internal_strconv_log10Pow2)) .leaf))) (some (.code pf_depotlaw14_AnswerTells)) (.node (.node (.node (.node .leaf (some (.code pf_strings_Builder_grow)) .leaf) (some (.code pf_answer_number)) .leaf) none .leaf) (some (.code pf_strconv_FormatUint)) (.node .leaf none (.node .leaf (some (.code pf_math_bits_TrailingZeros)) .leaf))))))
theorem bd3 : BodyOk cx 3 := ⟨Tryd.f3, Tryd.func3, by kernel_rfl, by kernel_rfl⟩
theorem bd4 : BodyOk cx 4 := ⟨Tryd.f4, Tryd.func4, by kernel_rfl, by kernel_rfl⟩
theorem bd5 : BodyOk cx 5 := ⟨Tryd.f5, Tryd.func5, by kernel_rfl, by kernel_rfl⟩
theorem bd6 : BodyOk cx 6 := ⟨Tryd.f6, Tryd.func6, by kernel_rfl, by kernel_rfl⟩
theorem bd10 : BodyOk cx 10 := ⟨Tryd.f10, Tryd.func10, by kernel_rfl, by kernel_rfl⟩
theorem bd11 : BodyOk cx 11 := ⟨Tryd.f11, Tryd.func11, by kernel_rfl, by kernel_rfl⟩
theorem bd12 : BodyOk cx 12 := ⟨Tryd.f12, Tryd.func12, by kernel_rfl, by kernel_rfl⟩
theorem bd13 : BodyOk cx 13 := ⟨Tryd.f13, Tryd.func13, by kernel_rfl, by kernel_rfl⟩
theorem bd14 : BodyOk cx 14 := ⟨Tryd.f14, Tryd.func14, by kernel_rfl, by kernel_rfl⟩
theorem bd19 : BodyOk cx 19 := ⟨Tryd.f19, Tryd.func19, by kernel_rfl, by kernel_rfl⟩
theorem bd24 : BodyOk cx 24 := ⟨Tryd.f24, Tryd.func24, by kernel_rfl, by kernel_rfl⟩
theorem bd25 : BodyOk cx 25 := ⟨Tryd.f25, Tryd.func25, by kernel_rfl, by kernel_rfl⟩
theorem bd26 : BodyOk cx 26 := ⟨Tryd.f26, Tryd.func26, by kernel_rfl, by kernel_rfl⟩
theorem bd27 : BodyOk cx 27 := ⟨Tryd.f27, Tryd.func27, by kernel_rfl, by kernel_rfl⟩
theorem bd28 : BodyOk cx 28 := ⟨Tryd.f28, Tryd.func28, by kernel_rfl, by kernel_rfl⟩
theorem bd32 : BodyOk cx 32 := ⟨Tryd.f32, Tryd.func32, by kernel_rfl, by kernel_rfl⟩
theorem bd38 : BodyOk cx 38 := ⟨Tryd.f38, Tryd.func38, by kernel_rfl, by kernel_rfl⟩
theorem bd39 : BodyOk cx 39 := ⟨Tryd.f39, Tryd.func39, by kernel_rfl, by kernel_rfl⟩
theorem bd40 : BodyOk cx 40 := ⟨Tryd.f40, Tryd.func40, by kernel_rfl, by kernel_rfl⟩
theorem bd41 : BodyOk cx 41 := ⟨Tryd.f41, Tryd.func41, by kernel_rfl, by kernel_rfl⟩
theorem bd42 : BodyOk cx 42 := ⟨Tryd.f42, Tryd.func42, by kernel_rfl, by kernel_rfl⟩
theorem bd43 : BodyOk cx 43 := ⟨Tryd.f43, Tryd.func43, by kernel_rfl, by kernel_rfl⟩
theorem bd44 : BodyOk cx 44 := ⟨Tryd.f44, Tryd.func44, by kernel_rfl, by kernel_rfl⟩
theorem bd45 : BodyOk cx 45 := ⟨Tryd.f45, Tryd.func45, by kernel_rfl, by kernel_rfl⟩
theorem bd49 : BodyOk cx 49 := ⟨Tryd.f49, Tryd.func49, by kernel_rfl, by kernel_rfl⟩
theorem bd56 : BodyOk cx 56 := ⟨Tryd.f56, Tryd.func56, by kernel_rfl, by kernel_rfl⟩
theorem bd57 : BodyOk cx 57 := ⟨Tryd.f57, Tryd.func57, by kernel_rfl, by kernel_rfl⟩
theorem bd58 : BodyOk cx 58 := ⟨Tryd.f58, Tryd.func58, by kernel_rfl, by kernel_rfl⟩
theorem bd59 : BodyOk cx 59 := ⟨Tryd.f59, Tryd.func59, by kernel_rfl, by kernel_rfl⟩
theorem bd60 : BodyOk cx 60 := ⟨Tryd.f60, Tryd.func60, by kernel_rfl, by kernel_rfl⟩
theorem bd61 : BodyOk cx 61 := ⟨Tryd.f61, Tryd.func61, by kernel_rfl, by kernel_rfl⟩
theorem bd62 : BodyOk cx 62 := ⟨Tryd.f62, Tryd.func62, by kernel_rfl, by kernel_rfl⟩
theorem bd70 : BodyOk cx 70 := ⟨Tryd.f70, Tryd.func70, by kernel_rfl, by kernel_rfl⟩
theorem bd71 : BodyOk cx 71 := ⟨Tryd.f71, Tryd.func71, by kernel_rfl, by kernel_rfl⟩
theorem bd72 : BodyOk cx 72 := ⟨Tryd.f72, Tryd.func72, by kernel_rfl, by kernel_rfl⟩
theorem bds : AllOf (BodyOk cx) nums := ⟨bd3, bd4, bd5, bd6, bd10, bd11, bd12, bd13, bd14, bd19, bd24, bd25, bd26, bd27, bd28, bd32, bd38, bd39, bd40, bd41, bd42, bd43, bd44, bd45, bd49, bd56, bd57, bd58, bd59, bd60, bd61, bd62, bd70, bd71, bd72, trivial⟩
theorem ext_ok : ExtOk cx := by
  refine ext_table (l := [(69, 2), (74, 1), (76, 3)]) rfl fun p hp => ?_
  rcases List.mem_cons.1 hp with rfl | hp
  · exact item_same Tryd.func69 (by kernel_rfl) (by kernel_rfl) (by kernel_rfl) (by kernel_rfl)
  rcases List.mem_cons.1 hp with rfl | hp
  · exact item_index Tryd.func74 (by kernel_rfl) (by kernel_rfl) (by kernel_rfl) (by kernel_rfl)
  rcases List.mem_cons.1 hp with rfl | hp
  · exact item_nozero (ps := #[3]) (t := 54) (e := 5) Tryd.func76 (by kernel_rfl) (by kernel_rfl) (by kernel_rfl) (by kernel_rfl) Tryd.underlying54 (show cx.P.info? 5 = some (cx.P.info? 5).get! from (by kernel_rfl)) (by kernel_rfl) (by kernel_rfl)
  cases hp
theorem prog_ok : ProgOk cx := ⟨by kernel_rfl, ext_ok, fm_ok2 rfl bds⟩
def lib : Lib := fun f => bif Nat.beq f 3 then some (.prim runsPrim) else tree0.get f
theorem lk3 : EntOk cx lib 3 := ent_runs (fun w => R.walk_depotlaw14_AnswerRuns w) rfl
theorem lk4 : EntOk cx lib 4 := .inl ⟨Tryd.f4, Tryd.func4, by rw [tr_depotlaw14_AnswerValues]; kernel_rfl⟩
theorem at_depotlaw14_AnswerValues : lib n_depotlaw14_AnswerValues = some (.code pf_depotlaw14_AnswerValues) := by kernel_rfl
theorem lk5 : EntOk cx lib 5 := .inl ⟨Tryd.f5, Tryd.func5, by rw [tr_depotlaw14_AnswerLines]; kernel_rfl⟩
theorem at_depotlaw14_AnswerLines : lib n_depotlaw14_AnswerLines = some (.code pf_depotlaw14_AnswerLines) := by kernel_rfl
theorem lk6 : EntOk cx lib 6 := .inl ⟨Tryd.f6, Tryd.func6, by rw [tr_depotlaw14_AnswerTells]; kernel_rfl⟩
theorem at_depotlaw14_AnswerTells : lib n_depotlaw14_AnswerTells = some (.code pf_depotlaw14_AnswerTells) := by kernel_rfl
theorem lk10 : EntOk cx lib 10 := .inl ⟨Tryd.f10, Tryd.func10, by rw [tr_answer_Text]; kernel_rfl⟩
theorem at_answer_Text : lib n_answer_Text = some (.code pf_answer_Text) := by kernel_rfl
theorem lk11 : EntOk cx lib 11 := .inl ⟨Tryd.f11, Tryd.func11, by rw [tr_depotlaw14_light]; kernel_rfl⟩
theorem at_depotlaw14_light : lib n_depotlaw14_light = some (.code pf_depotlaw14_light) := by kernel_rfl
theorem lk12 : EntOk cx lib 12 := .inl ⟨Tryd.f12, Tryd.func12, by rw [tr_depotref9_Text]; kernel_rfl⟩
theorem at_depotref9_Text : lib n_depotref9_Text = some (.code pf_depotref9_Text) := by kernel_rfl
theorem lk13 : EntOk cx lib 13 := .inl ⟨Tryd.f13, Tryd.func13, by rw [tr_answer_Quiet]; kernel_rfl⟩
theorem at_answer_Quiet : lib n_answer_Quiet = some (.code pf_answer_Quiet) := by kernel_rfl
theorem lk14 : EntOk cx lib 14 := .inl ⟨Tryd.f14, Tryd.func14, by rw [tr_strconv_FormatUint]; kernel_rfl⟩
theorem at_strconv_FormatUint : lib n_strconv_FormatUint = some (.code pf_strconv_FormatUint) := by kernel_rfl
theorem lk19 : EntOk cx lib 19 := .inl ⟨Tryd.f19, Tryd.func19, by rw [tr_strconv_Itoa]; kernel_rfl⟩
theorem at_strconv_Itoa : lib n_strconv_Itoa = some (.code pf_strconv_Itoa) := by kernel_rfl
theorem lk24 : EntOk cx lib 24 := .inl ⟨Tryd.f24, Tryd.func24, by rw [tr_answer_values]; kernel_rfl⟩
theorem at_answer_values : lib n_answer_values = some (.code pf_answer_values) := by kernel_rfl
theorem lk25 : EntOk cx lib 25 := .inl ⟨Tryd.f25, Tryd.func25, by rw [tr_answer_stats]; kernel_rfl⟩
theorem at_answer_stats : lib n_answer_stats = some (.code pf_answer_stats) := by kernel_rfl
theorem lk26 : EntOk cx lib 26 := .inl ⟨Tryd.f26, Tryd.func26, by rw [tr_answer_plain]; kernel_rfl⟩
theorem at_answer_plain : lib n_answer_plain = some (.code pf_answer_plain) := by kernel_rfl
theorem lk27 : EntOk cx lib 27 := .inl ⟨Tryd.f27, Tryd.func27, by rw [tr_depotref9_digits]; kernel_rfl⟩
theorem at_depotref9_digits : lib n_depotref9_digits = some (.code pf_depotref9_digits) := by kernel_rfl
theorem lk28 : EntOk cx lib 28 := .inl ⟨Tryd.f28, Tryd.func28, by rw [tr_internal_strconv_FormatUint]; kernel_rfl⟩
theorem at_internal_strconv_FormatUint : lib n_internal_strconv_FormatUint = some (.code pf_internal_strconv_FormatUint) := by kernel_rfl
theorem lk32 : EntOk cx lib 32 := .inl ⟨Tryd.f32, Tryd.func32, by rw [tr_internal_strconv_Itoa]; kernel_rfl⟩
theorem at_internal_strconv_Itoa : lib n_internal_strconv_Itoa = some (.code pf_internal_strconv_Itoa) := by kernel_rfl
theorem lk38 : EntOk cx lib 38 := .inl ⟨Tryd.f38, Tryd.func38, by rw [tr_answer_number]; kernel_rfl⟩
theorem at_answer_number : lib n_answer_number = some (.code pf_answer_number) := by kernel_rfl
theorem lk39 : EntOk cx lib 39 := .inl ⟨Tryd.f39, Tryd.func39, by rw [tr_strings_Builder_WriteString]; kernel_rfl⟩
theorem at_strings_Builder_WriteString : lib n_strings_Builder_WriteString = some (.code pf_strings_Builder_WriteString) := by kernel_rfl
theorem lk40 : EntOk cx lib 40 := .inl ⟨Tryd.f40, Tryd.func40, by rw [tr_strings_Join]; kernel_rfl⟩
theorem at_strings_Join : lib n_strings_Join = some (.code pf_strings_Join) := by kernel_rfl
theorem lk41 : EntOk cx lib 41 := .inl ⟨Tryd.f41, Tryd.func41, by rw [tr_strings_Builder_String]; kernel_rfl⟩
theorem at_strings_Builder_String : lib n_strings_Builder_String = some (.code pf_strings_Builder_String) := by kernel_rfl
theorem lk42 : EntOk cx lib 42 := .inl ⟨Tryd.f42, Tryd.func42, by rw [tr_internal_strconv_small]; kernel_rfl⟩
theorem at_internal_strconv_small : lib n_internal_strconv_small = some (.code pf_internal_strconv_small) := by kernel_rfl
theorem lk43 : EntOk cx lib 43 := .inl ⟨Tryd.f43, Tryd.func43, by rw [tr_internal_strconv_numDigits]; kernel_rfl⟩
theorem at_internal_strconv_numDigits : lib n_internal_strconv_numDigits = some (.code pf_internal_strconv_numDigits) := by kernel_rfl
theorem lk44 : EntOk cx lib 44 := .inl ⟨Tryd.f44, Tryd.func44, by rw [tr_internal_strconv_formatBase10]; kernel_rfl⟩
theorem at_internal_strconv_formatBase10 : lib n_internal_strconv_formatBase10 = some (.code pf_internal_strconv_formatBase10) := by kernel_rfl
theorem lk45 : EntOk cx lib 45 := .inl ⟨Tryd.f45, Tryd.func45, by rw [tr_internal_strconv_formatBits]; kernel_rfl⟩
theorem at_internal_strconv_formatBits : lib n_internal_strconv_formatBits = some (.code pf_internal_strconv_formatBits) := by kernel_rfl
theorem lk49 : EntOk cx lib 49 := .inl ⟨Tryd.f49, Tryd.func49, by rw [tr_internal_strconv_FormatInt]; kernel_rfl⟩
theorem at_internal_strconv_FormatInt : lib n_internal_strconv_FormatInt = some (.code pf_internal_strconv_FormatInt) := by kernel_rfl
theorem lk56 : EntOk cx lib 56 := .inl ⟨Tryd.f56, Tryd.func56, by rw [tr_strings_Builder_copyCheck]; kernel_rfl⟩
theorem at_strings_Builder_copyCheck : lib n_strings_Builder_copyCheck = some (.code pf_strings_Builder_copyCheck) := by kernel_rfl
theorem lk57 : EntOk cx lib 57 := .inl ⟨Tryd.f57, Tryd.func57, by rw [tr_strings_Builder_Grow]; kernel_rfl⟩
theorem at_strings_Builder_Grow : lib n_strings_Builder_Grow = some (.code pf_strings_Builder_Grow) := by kernel_rfl
theorem lk58 : EntOk cx lib 58 := .inl ⟨Tryd.f58, Tryd.func58, by rw [tr_internal_strconv_log10Pow2]; kernel_rfl⟩
theorem at_internal_strconv_log10Pow2 : lib n_internal_strconv_log10Pow2 = some (.code pf_internal_strconv_log10Pow2) := by kernel_rfl
theorem lk59 : EntOk cx lib 59 := .inl ⟨Tryd.f59, Tryd.func59, by rw [tr_math_bits_Len64]; kernel_rfl⟩
theorem at_math_bits_Len64 : lib n_math_bits_Len64 = some (.code pf_math_bits_Len64) := by kernel_rfl
theorem lk60 : EntOk cx lib 60 := .inl ⟨Tryd.f60, Tryd.func60, by rw [tr_internal_strconv_bool2_int]; kernel_rfl⟩
theorem at_internal_strconv_bool2_int : lib n_internal_strconv_bool2_int = some (.code pf_internal_strconv_bool2_int) := by kernel_rfl
theorem lk61 : EntOk cx lib 61 := .inl ⟨Tryd.f61, Tryd.func61, by rw [tr_internal_strconv_isPowerOfTwo]; kernel_rfl⟩
theorem at_internal_strconv_isPowerOfTwo : lib n_internal_strconv_isPowerOfTwo = some (.code pf_internal_strconv_isPowerOfTwo) := by kernel_rfl
theorem lk62 : EntOk cx lib 62 := .inl ⟨Tryd.f62, Tryd.func62, by rw [tr_math_bits_TrailingZeros]; kernel_rfl⟩
theorem at_math_bits_TrailingZeros : lib n_math_bits_TrailingZeros = some (.code pf_math_bits_TrailingZeros) := by kernel_rfl
theorem lk70 : EntOk cx lib 70 := .inl ⟨Tryd.f70, Tryd.func70, by rw [tr_strings_Builder_grow]; kernel_rfl⟩
theorem at_strings_Builder_grow : lib n_strings_Builder_grow = some (.code pf_strings_Builder_grow) := by kernel_rfl
theorem lk71 : EntOk cx lib 71 := .inl ⟨Tryd.f71, Tryd.func71, by rw [tr_math_bits_TrailingZeros32]; kernel_rfl⟩
theorem at_math_bits_TrailingZeros32 : lib n_math_bits_TrailingZeros32 = some (.code pf_math_bits_TrailingZeros32) := by kernel_rfl
theorem lk72 : EntOk cx lib 72 := .inl ⟨Tryd.f72, Tryd.func72, by rw [tr_math_bits_TrailingZeros64]; kernel_rfl⟩
theorem at_math_bits_TrailingZeros64 : lib n_math_bits_TrailingZeros64 = some (.code pf_math_bits_TrailingZeros64) := by kernel_rfl
theorem lks : AllOf (EntOk cx lib) nums := ⟨lk3, lk4, lk5, lk6, lk10, lk11, lk12, lk13, lk14, lk19, lk24, lk25, lk26, lk27, lk28, lk32, lk38, lk39, lk40, lk41, lk42, lk43, lk44, lk45, lk49, lk56, lk57, lk58, lk59, lk60, lk61, lk62, lk70, lk71, lk72, trivial⟩
theorem lib_ok : LibOk cx lib := lib_ok2 rfl lks
-- roots [3, 4, 5, 6]
end Go.Proofs.YtkjmelfgopammaaDoor
