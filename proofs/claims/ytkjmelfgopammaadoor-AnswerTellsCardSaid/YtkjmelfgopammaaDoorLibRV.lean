/- The functions that this seat's laws reach, for the clean machine; each is what the translation makes of the given text. Conditions: none. Printed by program. -/
import Derived.Test.YtkjmelfgopammaaDoorLibRVA
namespace Go.Proofs.YtkjmelfgopammaaDoor.R
open Go.Dp
def tree0 : Tr LF := (.node (.node (.node (.node .leaf none (.node (.node (.node .leaf (some (.code pf_math_bits_TrailingZeros32)) .leaf) (some (.code pf_strings_Builder_WriteString)) .leaf) none .leaf)) (some (.code pf_depotlaw14_AnswerRuns)) (.node (.node .leaf (some (.code pf_strconv_Itoa)) .leaf) none (.node (.node .leaf (some (.code pf_internal_strconv_numDigits)) .leaf) none (.node .leaf (some (.code pf_math_bits_Len64)) .leaf)))) none (.node (.node (.node .leaf none (.node .leaf (some (.code pf_internal_strconv_FormatInt)) .leaf)) none (.node (.node .leaf (some (.code pf_strings_Builder_String)) .leaf) (some (.code pf_answer_stats)) (.node .leaf (some (.code pf_strings_Builder_Grow)) .leaf))) none (.node .leaf none (.node (.node .leaf (some (.code pf_internal_strconv_formatBits)) .leaf) none (.node .leaf (some (.code pf_internal_strconv_isPowerOfTwo)) .leaf))))) none (.node (.node (.node (.node (.node .leaf (some (.code pf_internal_strconv_Itoa)) .leaf) none .leaf) none (.node (.node (.node .leaf (some (.code pf_math_bits_TrailingZeros64)) .leaf) (some (.code pf_strings_Join)) .leaf) (some (.code pf_answer_values)) (.node .leaf (some (.code pf_strings_Builder_copyCheck)) .leaf))) none (.node .leaf none (.node (.node .leaf (some (.code pf_internal_strconv_formatBase10)) .leaf) (some (.code pf_internal_strconv_FormatUint)) (.node .leaf (some (.code pf_internal_strconv_bool2_int)) .leaf)))) none (.node (.node .leaf (some (.code pf_answer_Text)) (.node (.node .leaf (some (.code pf_internal_strconv_small)) .leaf) (some (.code pf_answer_plain)) (.node .leaf (some (.code pf_internal_strconv_log10Pow2)) .leaf))) none (.node (.node (.node (.node .leaf (some (.code pf_strings_Builder_grow)) .leaf) (some (.code pf_answer_number)) .leaf) none .leaf) (some (.code pf_strconv_FormatUint)) (.node .leaf none (.node .leaf (some (.code pf_math_bits_TrailingZeros)) .leaf))))))
theorem bd3 : BodyOk cx 3 := ⟨Tryd.f3, Tryd.func3, by kernel_rfl, by kernel_rfl⟩
theorem bd10 : BodyOk cx 10 := ⟨Tryd.f10, Tryd.func10, by kernel_rfl, by kernel_rfl⟩
theorem bd14 : BodyOk cx 14 := ⟨Tryd.f14, Tryd.func14, by kernel_rfl, by kernel_rfl⟩
theorem bd19 : BodyOk cx 19 := ⟨Tryd.f19, Tryd.func19, by kernel_rfl, by kernel_rfl⟩
theorem bd24 : BodyOk cx 24 := ⟨Tryd.f24, Tryd.func24, by kernel_rfl, by kernel_rfl⟩
theorem bd25 : BodyOk cx 25 := ⟨Tryd.f25, Tryd.func25, by kernel_rfl, by kernel_rfl⟩
theorem bd26 : BodyOk cx 26 := ⟨Tryd.f26, Tryd.func26, by kernel_rfl, by kernel_rfl⟩
theorem bd28 : BodyOk cx 28 := ⟨Tryd.f28, Tryd.func28, by kernel_rfl, by kernel_rfl⟩
theorem bd32 : BodyOk cx 32 := ⟨Tryd.f32, Tryd.func32, by kernel_rfl, by kernel_rfl⟩
theorem bd38 : BodyOk cx 38 := ⟨Tryd.f38, Tryd.func38, by kernel_rfl, by kernel_rfl⟩
theorem bd39 : BodyOk cx 39 := ⟨Tryd.f39, Tryd.func39, by kernel_rfl, by kernel_rfl⟩
theorem bd40 : BodyOk cx 40 := ⟨Tryd.f40, Tryd.func40, by kernel_rfl, by kernel_rfl⟩
theorem bd41 : BodyOk cx 41 := ⟨Tryd.f41, Tryd.func41, by kernel_rfl, by kernel_rfl⟩
theorem bd42 : BodyOk cx 42 := ⟨Tryd.f42, Tryd.func42, by kernel_rfl, by kernel_rfl⟩
theorem bd43 : BodyOk cx 43 := ⟨Tryd.f43, Tryd.func43, by kernel_rfl, by kernel_rfl⟩
theorem bd44 : BodyOk cx 44 := ⟨Tryd.f44, Tryd.func44, by kernel_rfl, by kernel_rfl⟩
theorem bd45 : BodyOk cx 45 := ⟨Tryd.f45, Tryd.func45, by kernel_rfl, by kernel_rfl⟩
theorem bd49 : BodyOk cx 49 := ⟨Tryd.f49, Tryd.func49, by kernel_rfl, by kernel_rfl⟩
theorem bd56 : BodyOk cx 56 := ⟨Tryd.f56, Tryd.func56, by kernel_rfl, by kernel_rfl⟩
theorem bd57 : BodyOk cx 57 := ⟨Tryd.f57, Tryd.func57, by kernel_rfl, by kernel_rfl⟩
theorem bd58 : BodyOk cx 58 := ⟨Tryd.f58, Tryd.func58, by kernel_rfl, by kernel_rfl⟩
theorem bd59 : BodyOk cx 59 := ⟨Tryd.f59, Tryd.func59, by kernel_rfl, by kernel_rfl⟩
theorem bd60 : BodyOk cx 60 := ⟨Tryd.f60, Tryd.func60, by kernel_rfl, by kernel_rfl⟩
theorem bd61 : BodyOk cx 61 := ⟨Tryd.f61, Tryd.func61, by kernel_rfl, by kernel_rfl⟩
theorem bd62 : BodyOk cx 62 := ⟨Tryd.f62, Tryd.func62, by kernel_rfl, by kernel_rfl⟩
theorem bd70 : BodyOk cx 70 := ⟨Tryd.f70, Tryd.func70, by kernel_rfl, by kernel_rfl⟩
theorem bd71 : BodyOk cx 71 := ⟨Tryd.f71, Tryd.func71, by kernel_rfl, by kernel_rfl⟩
theorem bd72 : BodyOk cx 72 := ⟨Tryd.f72, Tryd.func72, by kernel_rfl, by kernel_rfl⟩
theorem bds : AllOf (BodyOk cx) nums := ⟨bd3, bd10, bd14, bd19, bd24, bd25, bd26, bd28, bd32, bd38, bd39, bd40, bd41, bd42, bd43, bd44, bd45, bd49, bd56, bd57, bd58, bd59, bd60, bd61, bd62, bd70, bd71, bd72, trivial⟩
theorem ext_ok : ExtOk cx := by
  refine ext_table (l := [(69, 2), (74, 1), (76, 3)]) rfl fun p hp => ?_
  rcases List.mem_cons.1 hp with rfl | hp
  · exact item_same Tryd.func69 (by kernel_rfl) (by kernel_rfl) (by kernel_rfl) (by kernel_rfl)
  rcases List.mem_cons.1 hp with rfl | hp
  · exact item_index Tryd.func74 (by kernel_rfl) (by kernel_rfl) (by kernel_rfl) (by kernel_rfl)
  rcases List.mem_cons.1 hp with rfl | hp
  · exact item_nozero (ps := #[3]) (t := 54) (e := 5) Tryd.func76 (by kernel_rfl) (by kernel_rfl) (by kernel_rfl) (by kernel_rfl) Tryd.underlying54 (show cx.P.info? 5 = some (cx.P.info? 5).get! from (by kernel_rfl)) (by kernel_rfl) (by kernel_rfl)
  cases hp
theorem prog_ok : ProgOk cx := ⟨by kernel_rfl, ext_ok, fm_ok2 rfl bds⟩
theorem ok3 : EntOk cx tree0.get 3 := .inl ⟨Tryd.f3, Tryd.func3, by rw [tr_depotlaw14_AnswerRuns]; kernel_rfl⟩
theorem ok10 : EntOk cx tree0.get 10 := .inl ⟨Tryd.f10, Tryd.func10, by rw [tr_answer_Text]; kernel_rfl⟩
theorem ok14 : EntOk cx tree0.get 14 := .inl ⟨Tryd.f14, Tryd.func14, by rw [tr_strconv_FormatUint]; kernel_rfl⟩
theorem ok19 : EntOk cx tree0.get 19 := .inl ⟨Tryd.f19, Tryd.func19, by rw [tr_strconv_Itoa]; kernel_rfl⟩
theorem ok24 : EntOk cx tree0.get 24 := .inl ⟨Tryd.f24, Tryd.func24, by rw [tr_answer_values]; kernel_rfl⟩
theorem ok25 : EntOk cx tree0.get 25 := .inl ⟨Tryd.f25, Tryd.func25, by rw [tr_answer_stats]; kernel_rfl⟩
theorem ok26 : EntOk cx tree0.get 26 := .inl ⟨Tryd.f26, Tryd.func26, by rw [tr_answer_plain]; kernel_rfl⟩
theorem ok28 : EntOk cx tree0.get 28 := .inl ⟨Tryd.f28, Tryd.func28, by rw [tr_internal_strconv_FormatUint]; kernel_rfl⟩
theorem ok32 : EntOk cx tree0.get 32 := .inl ⟨Tryd.f32, Tryd.func32, by rw [tr_internal_strconv_Itoa]; kernel_rfl⟩
theorem ok38 : EntOk cx tree0.get 38 := .inl ⟨Tryd.f38, Tryd.func38, by rw [tr_answer_number]; kernel_rfl⟩
theorem ok39 : EntOk cx tree0.get 39 := .inl ⟨Tryd.f39, Tryd.func39, by rw [tr_strings_Builder_WriteString]; kernel_rfl⟩
theorem ok40 : EntOk cx tree0.get 40 := .inl ⟨Tryd.f40, Tryd.func40, by rw [tr_strings_Join]; kernel_rfl⟩
theorem ok41 : EntOk cx tree0.get 41 := .inl ⟨Tryd.f41, Tryd.func41, by rw [tr_strings_Builder_String]; kernel_rfl⟩
theorem ok42 : EntOk cx tree0.get 42 := .inl ⟨Tryd.f42, Tryd.func42, by rw [tr_internal_strconv_small]; kernel_rfl⟩
theorem ok43 : EntOk cx tree0.get 43 := .inl ⟨Tryd.f43, Tryd.func43, by rw [tr_internal_strconv_numDigits]; kernel_rfl⟩
theorem ok44 : EntOk cx tree0.get 44 := .inl ⟨Tryd.f44, Tryd.func44, by rw [tr_internal_strconv_formatBase10]; kernel_rfl⟩
theorem ok45 : EntOk cx tree0.get 45 := .inl ⟨Tryd.f45, Tryd.func45, by rw [tr_internal_strconv_formatBits]; kernel_rfl⟩
theorem ok49 : EntOk cx tree0.get 49 := .inl ⟨Tryd.f49, Tryd.func49, by rw [tr_internal_strconv_FormatInt]; kernel_rfl⟩
theorem ok56 : EntOk cx tree0.get 56 := .inl ⟨Tryd.f56, Tryd.func56, by rw [tr_strings_Builder_copyCheck]; kernel_rfl⟩
theorem ok57 : EntOk cx tree0.get 57 := .inl ⟨Tryd.f57, Tryd.func57, by rw [tr_strings_Builder_Grow]; kernel_rfl⟩
theorem ok58 : EntOk cx tree0.get 58 := .inl ⟨Tryd.f58, Tryd.func58, by rw [tr_internal_strconv_log10Pow2]; kernel_rfl⟩
theorem ok59 : EntOk cx tree0.get 59 := .inl ⟨Tryd.f59, Tryd.func59, by rw [tr_math_bits_Len64]; kernel_rfl⟩
theorem ok60 : EntOk cx tree0.get 60 := .inl ⟨Tryd.f60, Tryd.func60, by rw [tr_internal_strconv_bool2_int]; kernel_rfl⟩
theorem ok61 : EntOk cx tree0.get 61 := .inl ⟨Tryd.f61, Tryd.func61, by rw [tr_internal_strconv_isPowerOfTwo]; kernel_rfl⟩
theorem ok62 : EntOk cx tree0.get 62 := .inl ⟨Tryd.f62, Tryd.func62, by rw [tr_math_bits_TrailingZeros]; kernel_rfl⟩
theorem ok70 : EntOk cx tree0.get 70 := .inl ⟨Tryd.f70, Tryd.func70, by rw [tr_strings_Builder_grow]; kernel_rfl⟩
theorem ok71 : EntOk cx tree0.get 71 := .inl ⟨Tryd.f71, Tryd.func71, by rw [tr_math_bits_TrailingZeros32]; kernel_rfl⟩
theorem ok72 : EntOk cx tree0.get 72 := .inl ⟨Tryd.f72, Tryd.func72, by rw [tr_math_bits_TrailingZeros64]; kernel_rfl⟩
theorem oks : AllOf (EntOk cx tree0.get) nums := ⟨ok3, ok10, ok14, ok19, ok24, ok25, ok26, ok28, ok32, ok38, ok39, ok40, ok41, ok42, ok43, ok44, ok45, ok49, ok56, ok57, ok58, ok59, ok60, ok61, ok62, ok70, ok71, ok72, trivial⟩
theorem lib_ok0 : LibOk cx tree0.get := lib_ok2 rfl oks
theorem run_depotlaw14_AnswerRuns : isTrue (call tree0.get 900 3 [] noHeap) = true := by decide +kernel
theorem walk_depotlaw14_AnswerRuns (w : World) : Calls cx.P 3 #[] w fun e w' => e = .returned (.bool true) ∧ Go.RowKit.Below w.heap.size w w' :=
  run_closed prog_ok lib_ok0 (fun _ => rfl) (g := 3) (f := 3) rfl run_depotlaw14_AnswerRuns w
-- roots [3]
end Go.Proofs.YtkjmelfgopammaaDoor.R
