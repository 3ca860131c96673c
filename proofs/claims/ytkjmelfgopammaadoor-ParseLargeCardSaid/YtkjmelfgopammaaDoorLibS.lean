/- The functions that this seat's laws reach, for the clean machine; each is what the translation makes of the given text. Conditions: none. Printed by program. -/
import Derived.Test.YtkjmelfgopammaaDoorLibRP
import Derived.Test.YtkjmelfgopammaaDoorLibSA
namespace Go.Proofs.YtkjmelfgopammaaDoor
open Go.Dp
def tree0 : Tr LF := (.node (.node (.node (.node (.node (.node (.node .leaf (some (.code pf_words_Key)) .leaf) none .leaf) (some (.code pf_words_Number)) (.node .leaf (some (.code pf_words_shapeOf)) .leaf)) none (.node (.node (.node .leaf (some (.code pf_math_bits_TrailingZeros32)) .leaf) none .leaf) none (.node .leaf (some (.code pf_strings_HasPrefix)) .leaf))) none (.node (.node (.node (.node .leaf (some (.code pf_internal_stringslite_TrimSuffix)) .leaf) (some (.code pf_parse_Parser_past)) .leaf) (some (.code pf_strconv_Itoa)) (.node .leaf (some (.code pf_parse_Parser_end)) .leaf)) none (.node (.node (.node .leaf (some (.code pf_internal_stringslite_HasSuffix)) .leaf) (some (.code pf_internal_strconv_numDigits)) .leaf) none (.node .leaf (some (.code pf_math_bits_Len64)) .leaf)))) none (.node (.node (.node (.node (.node .leaf (some (.code pf_words_signed)) .leaf) (some (.code pf_parse_Parser_line)) .leaf) none (.node .leaf (some (.code pf_internal_strconv_FormatInt)) .leaf)) (some (.code pf_depotlaw13_ParseLarge)) (.node (.node (.node .leaf (some (.code pf_strings_CutPrefix)) .leaf) none .leaf) none .leaf)) none (.node (.node (.node .leaf (some (.code pf_parse_Parser_Shut)) .leaf) (some (.code pf_parse_Parser_Feed)) (.node .leaf (some (.code pf_parse_Parser_say)) .leaf)) none (.node (.node (.node .leaf (some (.code pf_internal_stringslite_CutPrefix)) .leaf) (some (.code pf_internal_strconv_formatBits)) .leaf) (some (.code pf_words_Line)) (.node .leaf (some (.code pf_internal_strconv_isPowerOfTwo)) .leaf))))) none (.node (.node (.node (.node (.node (.node .leaf (some (.code pf_words_store)) .leaf) (some (.code pf_internal_strconv_Itoa)) .leaf) (some (.code pf_depotbook_Within)) (.node .leaf (some (.code pf_words_fill)) .leaf)) (some (.code pf_depotlaw13_ParseStores)) (.node (.node (.node .leaf (some (.code pf_math_bits_TrailingZeros64)) .leaf) none .leaf) none .leaf)) none (.node (.node (.node (.node .leaf (some (.code pf_internal_stringslite_HasPrefix)) .leaf) (some (.code pf_parse_Parser_broken)) .leaf) (some (.code pf_parse_New)) (.node .leaf (some (.code pf_strings_TrimSuffix)) .leaf)) none (.node (.node .leaf (some (.code pf_internal_strconv_formatBase10)) .leaf) (some (.code pf_internal_strconv_FormatUint)) (.node .leaf (some (.code pf_internal_strconv_bool2_int)) .leaf)))) none (.node (.node (.node (.node (.node .leaf (some (.code pf_internal_stringslite_IndexByte)) .leaf) (some (.code pf_parse_Parser_data)) .leaf) (some (.code pf_depotref9_Key)) (.node .leaf (some (.code pf_strings_IndexByte)) .leaf)) none (.node (.node .leaf (some (.code pf_internal_strconv_small)) .leaf) none (.node .leaf (some (.code pf_internal_strconv_log10Pow2)) .leaf))) none (.node (.node .leaf (some (.code pf_parse_Parser_Left)) (.node .leaf (some (.code pf_words_Storing)) .leaf)) (some (.code pf_strconv_FormatUint)) (.node (.node .leaf (some (.code pf_words_Split)) .leaf) none (.node .leaf (some (.code pf_math_bits_TrailingZeros)) .leaf))))))
theorem bd8 : BodyOk cx 8 := ⟨Tryd.f8, Tryd.func8, by kernel_rfl, by kernel_rfl⟩
theorem bd9 : BodyOk cx 9 := ⟨Tryd.f9, Tryd.func9, by kernel_rfl, by kernel_rfl⟩
theorem bd14 : BodyOk cx 14 := ⟨Tryd.f14, Tryd.func14, by kernel_rfl, by kernel_rfl⟩
theorem bd15 : BodyOk cx 15 := ⟨Tryd.f15, Tryd.func15, by kernel_rfl, by kernel_rfl⟩
theorem bd16 : BodyOk cx 16 := ⟨Tryd.f16, Tryd.func16, by kernel_rfl, by kernel_rfl⟩
theorem bd18 : BodyOk cx 18 := ⟨Tryd.f18, Tryd.func18, by kernel_rfl, by kernel_rfl⟩
theorem bd19 : BodyOk cx 19 := ⟨Tryd.f19, Tryd.func19, by kernel_rfl, by kernel_rfl⟩
theorem bd20 : BodyOk cx 20 := ⟨Tryd.f20, Tryd.func20, by kernel_rfl, by kernel_rfl⟩
theorem bd21 : BodyOk cx 21 := ⟨Tryd.f21, Tryd.func21, by kernel_rfl, by kernel_rfl⟩
theorem bd22 : BodyOk cx 22 := ⟨Tryd.f22, Tryd.func22, by kernel_rfl, by kernel_rfl⟩
theorem bd23 : BodyOk cx 23 := ⟨Tryd.f23, Tryd.func23, by kernel_rfl, by kernel_rfl⟩
theorem bd28 : BodyOk cx 28 := ⟨Tryd.f28, Tryd.func28, by kernel_rfl, by kernel_rfl⟩
theorem bd29 : BodyOk cx 29 := ⟨Tryd.f29, Tryd.func29, by kernel_rfl, by kernel_rfl⟩
theorem bd32 : BodyOk cx 32 := ⟨Tryd.f32, Tryd.func32, by kernel_rfl, by kernel_rfl⟩
theorem bd33 : BodyOk cx 33 := ⟨Tryd.f33, Tryd.func33, by kernel_rfl, by kernel_rfl⟩
theorem bd34 : BodyOk cx 34 := ⟨Tryd.f34, Tryd.func34, by kernel_rfl, by kernel_rfl⟩
theorem bd35 : BodyOk cx 35 := ⟨Tryd.f35, Tryd.func35, by kernel_rfl, by kernel_rfl⟩
theorem bd36 : BodyOk cx 36 := ⟨Tryd.f36, Tryd.func36, by kernel_rfl, by kernel_rfl⟩
theorem bd37 : BodyOk cx 37 := ⟨Tryd.f37, Tryd.func37, by kernel_rfl, by kernel_rfl⟩
theorem bd42 : BodyOk cx 42 := ⟨Tryd.f42, Tryd.func42, by kernel_rfl, by kernel_rfl⟩
theorem bd43 : BodyOk cx 43 := ⟨Tryd.f43, Tryd.func43, by kernel_rfl, by kernel_rfl⟩
theorem bd44 : BodyOk cx 44 := ⟨Tryd.f44, Tryd.func44, by kernel_rfl, by kernel_rfl⟩
theorem bd45 : BodyOk cx 45 := ⟨Tryd.f45, Tryd.func45, by kernel_rfl, by kernel_rfl⟩
theorem bd46 : BodyOk cx 46 := ⟨Tryd.f46, Tryd.func46, by kernel_rfl, by kernel_rfl⟩
theorem bd47 : BodyOk cx 47 := ⟨Tryd.f47, Tryd.func47, by kernel_rfl, by kernel_rfl⟩
theorem bd48 : BodyOk cx 48 := ⟨Tryd.f48, Tryd.func48, by kernel_rfl, by kernel_rfl⟩
theorem bd49 : BodyOk cx 49 := ⟨Tryd.f49, Tryd.func49, by kernel_rfl, by kernel_rfl⟩
theorem bd50 : BodyOk cx 50 := ⟨Tryd.f50, Tryd.func50, by kernel_rfl, by kernel_rfl⟩
theorem bd51 : BodyOk cx 51 := ⟨Tryd.f51, Tryd.func51, by kernel_rfl, by kernel_rfl⟩
theorem bd52 : BodyOk cx 52 := ⟨Tryd.f52, Tryd.func52, by kernel_rfl, by kernel_rfl⟩
theorem bd53 : BodyOk cx 53 := ⟨Tryd.f53, Tryd.func53, by kernel_rfl, by kernel_rfl⟩
theorem bd54 : BodyOk cx 54 := ⟨Tryd.f54, Tryd.func54, by kernel_rfl, by kernel_rfl⟩
theorem bd55 : BodyOk cx 55 := ⟨Tryd.f55, Tryd.func55, by kernel_rfl, by kernel_rfl⟩
theorem bd58 : BodyOk cx 58 := ⟨Tryd.f58, Tryd.func58, by kernel_rfl, by kernel_rfl⟩
theorem bd59 : BodyOk cx 59 := ⟨Tryd.f59, Tryd.func59, by kernel_rfl, by kernel_rfl⟩
theorem bd60 : BodyOk cx 60 := ⟨Tryd.f60, Tryd.func60, by kernel_rfl, by kernel_rfl⟩
theorem bd61 : BodyOk cx 61 := ⟨Tryd.f61, Tryd.func61, by kernel_rfl, by kernel_rfl⟩
theorem bd62 : BodyOk cx 62 := ⟨Tryd.f62, Tryd.func62, by kernel_rfl, by kernel_rfl⟩
theorem bd63 : BodyOk cx 63 := ⟨Tryd.f63, Tryd.func63, by kernel_rfl, by kernel_rfl⟩
theorem bd64 : BodyOk cx 64 := ⟨Tryd.f64, Tryd.func64, by kernel_rfl, by kernel_rfl⟩
theorem bd65 : BodyOk cx 65 := ⟨Tryd.f65, Tryd.func65, by kernel_rfl, by kernel_rfl⟩
theorem bd66 : BodyOk cx 66 := ⟨Tryd.f66, Tryd.func66, by kernel_rfl, by kernel_rfl⟩
theorem bd67 : BodyOk cx 67 := ⟨Tryd.f67, Tryd.func67, by kernel_rfl, by kernel_rfl⟩
theorem bd68 : BodyOk cx 68 := ⟨Tryd.f68, Tryd.func68, by kernel_rfl, by kernel_rfl⟩
theorem bd71 : BodyOk cx 71 := ⟨Tryd.f71, Tryd.func71, by kernel_rfl, by kernel_rfl⟩
theorem bd72 : BodyOk cx 72 := ⟨Tryd.f72, Tryd.func72, by kernel_rfl, by kernel_rfl⟩
theorem bd73 : BodyOk cx 73 := ⟨Tryd.f73, Tryd.func73, by kernel_rfl, by kernel_rfl⟩
theorem bd75 : BodyOk cx 75 := ⟨Tryd.f75, Tryd.func75, by kernel_rfl, by kernel_rfl⟩
theorem bd77 : BodyOk cx 77 := ⟨Tryd.f77, Tryd.func77, by kernel_rfl, by kernel_rfl⟩
theorem bds : AllOf (BodyOk cx) nums := ⟨bd8, bd9, bd14, bd15, bd16, bd18, bd19, bd20, bd21, bd22, bd23, bd28, bd29, bd32, bd33, bd34, bd35, bd36, bd37, bd42, bd43, bd44, bd45, bd46, bd47, bd48, bd49, bd50, bd51, bd52, bd53, bd54, bd55, bd58, bd59, bd60, bd61, bd62, bd63, bd64, bd65, bd66, bd67, bd68, bd71, bd72, bd73, bd75, bd77, trivial⟩
theorem ext_ok : ExtOk cx := by
  refine ext_table (l := [(69, 2), (74, 1), (76, 3)]) rfl fun p hp => ?_
  rcases List.mem_cons.1 hp with rfl | hp
  · exact item_same Tryd.func69 (by kernel_rfl) (by kernel_rfl) (by kernel_rfl) (by kernel_rfl)
  rcases List.mem_cons.1 hp with rfl | hp
  · exact item_index Tryd.func74 (by kernel_rfl) (by kernel_rfl) (by kernel_rfl) (by kernel_rfl)
  rcases List.mem_cons.1 hp with rfl | hp
  · exact item_nozero (ps := #[3]) (t := 54) (e := 5) Tryd.func76 (by kernel_rfl) (by kernel_rfl) (by kernel_rfl) (by kernel_rfl) Tryd.underlying54 (show cx.P.info? 5 = some (cx.P.info? 5).get! from (by kernel_rfl)) (by kernel_rfl) (by kernel_rfl)
  cases hp
theorem prog_ok : ProgOk cx := ⟨by kernel_rfl, ext_ok, fm_ok2 rfl bds⟩
def lib : Lib := fun f => bif Nat.beq f 23 then some (.prim runsPrim) else tree0.get f
theorem lk8 : EntOk cx lib 8 := .inl ⟨Tryd.f8, Tryd.func8, by rw [tr_depotlaw13_ParseStores]; kernel_rfl⟩
theorem at_depotlaw13_ParseStores : lib n_depotlaw13_ParseStores = some (.code pf_depotlaw13_ParseStores) := by kernel_rfl
theorem lk9 : EntOk cx lib 9 := .inl ⟨Tryd.f9, Tryd.func9, by rw [tr_depotlaw13_ParseLarge]; kernel_rfl⟩
theorem at_depotlaw13_ParseLarge : lib n_depotlaw13_ParseLarge = some (.code pf_depotlaw13_ParseLarge) := by kernel_rfl
theorem lk14 : EntOk cx lib 14 := .inl ⟨Tryd.f14, Tryd.func14, by rw [tr_strconv_FormatUint]; kernel_rfl⟩
theorem at_strconv_FormatUint : lib n_strconv_FormatUint = some (.code pf_strconv_FormatUint) := by kernel_rfl
theorem lk15 : EntOk cx lib 15 := .inl ⟨Tryd.f15, Tryd.func15, by rw [tr_words_Number]; kernel_rfl⟩
theorem at_words_Number : lib n_words_Number = some (.code pf_words_Number) := by kernel_rfl
theorem lk16 : EntOk cx lib 16 := .inl ⟨Tryd.f16, Tryd.func16, by rw [tr_depotbook_Within]; kernel_rfl⟩
theorem at_depotbook_Within : lib n_depotbook_Within = some (.code pf_depotbook_Within) := by kernel_rfl
theorem lk18 : EntOk cx lib 18 := .inl ⟨Tryd.f18, Tryd.func18, by rw [tr_depotref9_Key]; kernel_rfl⟩
theorem at_depotref9_Key : lib n_depotref9_Key = some (.code pf_depotref9_Key) := by kernel_rfl
theorem lk19 : EntOk cx lib 19 := .inl ⟨Tryd.f19, Tryd.func19, by rw [tr_strconv_Itoa]; kernel_rfl⟩
theorem at_strconv_Itoa : lib n_strconv_Itoa = some (.code pf_strconv_Itoa) := by kernel_rfl
theorem lk20 : EntOk cx lib 20 := .inl ⟨Tryd.f20, Tryd.func20, by rw [tr_parse_New]; kernel_rfl⟩
theorem at_parse_New : lib n_parse_New = some (.code pf_parse_New) := by kernel_rfl
theorem lk21 : EntOk cx lib 21 := .inl ⟨Tryd.f21, Tryd.func21, by rw [tr_parse_Parser_Feed]; kernel_rfl⟩
theorem at_parse_Parser_Feed : lib n_parse_Parser_Feed = some (.code pf_parse_Parser_Feed) := by kernel_rfl
theorem lk22 : EntOk cx lib 22 := .inl ⟨Tryd.f22, Tryd.func22, by rw [tr_parse_Parser_Left]; kernel_rfl⟩
theorem at_parse_Parser_Left : lib n_parse_Parser_Left = some (.code pf_parse_Parser_Left) := by kernel_rfl
theorem lk23 : EntOk cx lib 23 := ent_runs (fun w => R.walk_depotlaw13_ParseRuns w) rfl
theorem lk28 : EntOk cx lib 28 := .inl ⟨Tryd.f28, Tryd.func28, by rw [tr_internal_strconv_FormatUint]; kernel_rfl⟩
theorem at_internal_strconv_FormatUint : lib n_internal_strconv_FormatUint = some (.code pf_internal_strconv_FormatUint) := by kernel_rfl
theorem lk29 : EntOk cx lib 29 := .inl ⟨Tryd.f29, Tryd.func29, by rw [tr_words_Line]; kernel_rfl⟩
theorem at_words_Line : lib n_words_Line = some (.code pf_words_Line) := by kernel_rfl
theorem lk32 : EntOk cx lib 32 := .inl ⟨Tryd.f32, Tryd.func32, by rw [tr_internal_strconv_Itoa]; kernel_rfl⟩
theorem at_internal_strconv_Itoa : lib n_internal_strconv_Itoa = some (.code pf_internal_strconv_Itoa) := by kernel_rfl
theorem lk33 : EntOk cx lib 33 := .inl ⟨Tryd.f33, Tryd.func33, by rw [tr_parse_Parser_line]; kernel_rfl⟩
theorem at_parse_Parser_line : lib n_parse_Parser_line = some (.code pf_parse_Parser_line) := by kernel_rfl
theorem lk34 : EntOk cx lib 34 := .inl ⟨Tryd.f34, Tryd.func34, by rw [tr_parse_Parser_data]; kernel_rfl⟩
theorem at_parse_Parser_data : lib n_parse_Parser_data = some (.code pf_parse_Parser_data) := by kernel_rfl
theorem lk35 : EntOk cx lib 35 := .inl ⟨Tryd.f35, Tryd.func35, by rw [tr_parse_Parser_past]; kernel_rfl⟩
theorem at_parse_Parser_past : lib n_parse_Parser_past = some (.code pf_parse_Parser_past) := by kernel_rfl
theorem lk36 : EntOk cx lib 36 := .inl ⟨Tryd.f36, Tryd.func36, by rw [tr_parse_Parser_broken]; kernel_rfl⟩
theorem at_parse_Parser_broken : lib n_parse_Parser_broken = some (.code pf_parse_Parser_broken) := by kernel_rfl
theorem lk37 : EntOk cx lib 37 := .inl ⟨Tryd.f37, Tryd.func37, by rw [tr_parse_Parser_Shut]; kernel_rfl⟩
theorem at_parse_Parser_Shut : lib n_parse_Parser_Shut = some (.code pf_parse_Parser_Shut) := by kernel_rfl
theorem lk42 : EntOk cx lib 42 := .inl ⟨Tryd.f42, Tryd.func42, by rw [tr_internal_strconv_small]; kernel_rfl⟩
theorem at_internal_strconv_small : lib n_internal_strconv_small = some (.code pf_internal_strconv_small) := by kernel_rfl
theorem lk43 : EntOk cx lib 43 := .inl ⟨Tryd.f43, Tryd.func43, by rw [tr_internal_strconv_numDigits]; kernel_rfl⟩
theorem at_internal_strconv_numDigits : lib n_internal_strconv_numDigits = some (.code pf_internal_strconv_numDigits) := by kernel_rfl
theorem lk44 : EntOk cx lib 44 := .inl ⟨Tryd.f44, Tryd.func44, by rw [tr_internal_strconv_formatBase10]; kernel_rfl⟩
theorem at_internal_strconv_formatBase10 : lib n_internal_strconv_formatBase10 = some (.code pf_internal_strconv_formatBase10) := by kernel_rfl
theorem lk45 : EntOk cx lib 45 := .inl ⟨Tryd.f45, Tryd.func45, by rw [tr_internal_strconv_formatBits]; kernel_rfl⟩
theorem at_internal_strconv_formatBits : lib n_internal_strconv_formatBits = some (.code pf_internal_strconv_formatBits) := by kernel_rfl
theorem lk46 : EntOk cx lib 46 := .inl ⟨Tryd.f46, Tryd.func46, by rw [tr_words_Split]; kernel_rfl⟩
theorem at_words_Split : lib n_words_Split = some (.code pf_words_Split) := by kernel_rfl
theorem lk47 : EntOk cx lib 47 := .inl ⟨Tryd.f47, Tryd.func47, by rw [tr_words_shapeOf]; kernel_rfl⟩
theorem at_words_shapeOf : lib n_words_shapeOf = some (.code pf_words_shapeOf) := by kernel_rfl
theorem lk48 : EntOk cx lib 48 := .inl ⟨Tryd.f48, Tryd.func48, by rw [tr_words_fill]; kernel_rfl⟩
theorem at_words_fill : lib n_words_fill = some (.code pf_words_fill) := by kernel_rfl
theorem lk49 : EntOk cx lib 49 := .inl ⟨Tryd.f49, Tryd.func49, by rw [tr_internal_strconv_FormatInt]; kernel_rfl⟩
theorem at_internal_strconv_FormatInt : lib n_internal_strconv_FormatInt = some (.code pf_internal_strconv_FormatInt) := by kernel_rfl
theorem lk50 : EntOk cx lib 50 := .inl ⟨Tryd.f50, Tryd.func50, by rw [tr_strings_IndexByte]; kernel_rfl⟩
theorem at_strings_IndexByte : lib n_strings_IndexByte = some (.code pf_strings_IndexByte) := by kernel_rfl
theorem lk51 : EntOk cx lib 51 := .inl ⟨Tryd.f51, Tryd.func51, by rw [tr_parse_Parser_end]; kernel_rfl⟩
theorem at_parse_Parser_end : lib n_parse_Parser_end = some (.code pf_parse_Parser_end) := by kernel_rfl
theorem lk52 : EntOk cx lib 52 := .inl ⟨Tryd.f52, Tryd.func52, by rw [tr_strings_TrimSuffix]; kernel_rfl⟩
theorem at_strings_TrimSuffix : lib n_strings_TrimSuffix = some (.code pf_strings_TrimSuffix) := by kernel_rfl
theorem lk53 : EntOk cx lib 53 := .inl ⟨Tryd.f53, Tryd.func53, by rw [tr_parse_Parser_say]; kernel_rfl⟩
theorem at_parse_Parser_say : lib n_parse_Parser_say = some (.code pf_parse_Parser_say) := by kernel_rfl
theorem lk54 : EntOk cx lib 54 := .inl ⟨Tryd.f54, Tryd.func54, by rw [tr_words_Storing]; kernel_rfl⟩
theorem at_words_Storing : lib n_words_Storing = some (.code pf_words_Storing) := by kernel_rfl
theorem lk55 : EntOk cx lib 55 := .inl ⟨Tryd.f55, Tryd.func55, by rw [tr_strings_HasPrefix]; kernel_rfl⟩
theorem at_strings_HasPrefix : lib n_strings_HasPrefix = some (.code pf_strings_HasPrefix) := by kernel_rfl
theorem lk58 : EntOk cx lib 58 := .inl ⟨Tryd.f58, Tryd.func58, by rw [tr_internal_strconv_log10Pow2]; kernel_rfl⟩
theorem at_internal_strconv_log10Pow2 : lib n_internal_strconv_log10Pow2 = some (.code pf_internal_strconv_log10Pow2) := by kernel_rfl
theorem lk59 : EntOk cx lib 59 := .inl ⟨Tryd.f59, Tryd.func59, by rw [tr_math_bits_Len64]; kernel_rfl⟩
theorem at_math_bits_Len64 : lib n_math_bits_Len64 = some (.code pf_math_bits_Len64) := by kernel_rfl
theorem lk60 : EntOk cx lib 60 := .inl ⟨Tryd.f60, Tryd.func60, by rw [tr_internal_strconv_bool2_int]; kernel_rfl⟩
theorem at_internal_strconv_bool2_int : lib n_internal_strconv_bool2_int = some (.code pf_internal_strconv_bool2_int) := by kernel_rfl
theorem lk61 : EntOk cx lib 61 := .inl ⟨Tryd.f61, Tryd.func61, by rw [tr_internal_strconv_isPowerOfTwo]; kernel_rfl⟩
theorem at_internal_strconv_isPowerOfTwo : lib n_internal_strconv_isPowerOfTwo = some (.code pf_internal_strconv_isPowerOfTwo) := by kernel_rfl
theorem lk62 : EntOk cx lib 62 := .inl ⟨Tryd.f62, Tryd.func62, by rw [tr_math_bits_TrailingZeros]; kernel_rfl⟩
theorem at_math_bits_TrailingZeros : lib n_math_bits_TrailingZeros = some (.code pf_math_bits_TrailingZeros) := by kernel_rfl
theorem lk63 : EntOk cx lib 63 := .inl ⟨Tryd.f63, Tryd.func63, by rw [tr_words_Key]; kernel_rfl⟩
theorem at_words_Key : lib n_words_Key = some (.code pf_words_Key) := by kernel_rfl
theorem lk64 : EntOk cx lib 64 := .inl ⟨Tryd.f64, Tryd.func64, by rw [tr_words_store]; kernel_rfl⟩
theorem at_words_store : lib n_words_store = some (.code pf_words_store) := by kernel_rfl
theorem lk65 : EntOk cx lib 65 := .inl ⟨Tryd.f65, Tryd.func65, by rw [tr_words_signed]; kernel_rfl⟩
theorem at_words_signed : lib n_words_signed = some (.code pf_words_signed) := by kernel_rfl
theorem lk66 : EntOk cx lib 66 := .inl ⟨Tryd.f66, Tryd.func66, by rw [tr_internal_stringslite_IndexByte]; kernel_rfl⟩
theorem at_internal_stringslite_IndexByte : lib n_internal_stringslite_IndexByte = some (.code pf_internal_stringslite_IndexByte) := by kernel_rfl
theorem lk67 : EntOk cx lib 67 := .inl ⟨Tryd.f67, Tryd.func67, by rw [tr_internal_stringslite_TrimSuffix]; kernel_rfl⟩
theorem at_internal_stringslite_TrimSuffix : lib n_internal_stringslite_TrimSuffix = some (.code pf_internal_stringslite_TrimSuffix) := by kernel_rfl
theorem lk68 : EntOk cx lib 68 := .inl ⟨Tryd.f68, Tryd.func68, by rw [tr_internal_stringslite_HasPrefix]; kernel_rfl⟩
theorem at_internal_stringslite_HasPrefix : lib n_internal_stringslite_HasPrefix = some (.code pf_internal_stringslite_HasPrefix) := by kernel_rfl
theorem lk71 : EntOk cx lib 71 := .inl ⟨Tryd.f71, Tryd.func71, by rw [tr_math_bits_TrailingZeros32]; kernel_rfl⟩
theorem at_math_bits_TrailingZeros32 : lib n_math_bits_TrailingZeros32 = some (.code pf_math_bits_TrailingZeros32) := by kernel_rfl
theorem lk72 : EntOk cx lib 72 := .inl ⟨Tryd.f72, Tryd.func72, by rw [tr_math_bits_TrailingZeros64]; kernel_rfl⟩
theorem at_math_bits_TrailingZeros64 : lib n_math_bits_TrailingZeros64 = some (.code pf_math_bits_TrailingZeros64) := by kernel_rfl
theorem lk73 : EntOk cx lib 73 := .inl ⟨Tryd.f73, Tryd.func73, by rw [tr_strings_CutPrefix]; kernel_rfl⟩
theorem at_strings_CutPrefix : lib n_strings_CutPrefix = some (.code pf_strings_CutPrefix) := by kernel_rfl
theorem lk75 : EntOk cx lib 75 := .inl ⟨Tryd.f75, Tryd.func75, by rw [tr_internal_stringslite_HasSuffix]; kernel_rfl⟩
theorem at_internal_stringslite_HasSuffix : lib n_internal_stringslite_HasSuffix = some (.code pf_internal_stringslite_HasSuffix) := by kernel_rfl
theorem lk77 : EntOk cx lib 77 := .inl ⟨Tryd.f77, Tryd.func77, by rw [tr_internal_stringslite_CutPrefix]; kernel_rfl⟩
theorem at_internal_stringslite_CutPrefix : lib n_internal_stringslite_CutPrefix = some (.code pf_internal_stringslite_CutPrefix) := by kernel_rfl
theorem lks : AllOf (EntOk cx lib) nums := ⟨lk8, lk9, lk14, lk15, lk16, lk18, lk19, lk20, lk21, lk22, lk23, lk28, lk29, lk32, lk33, lk34, lk35, lk36, lk37, lk42, lk43, lk44, lk45, lk46, lk47, lk48, lk49, lk50, lk51, lk52, lk53, lk54, lk55, lk58, lk59, lk60, lk61, lk62, lk63, lk64, lk65, lk66, lk67, lk68, lk71, lk72, lk73, lk75, lk77, trivial⟩
theorem lib_ok : LibOk cx lib := lib_ok2 rfl lks
-- roots [8, 9, 14, 23, 28, 37]
end Go.Proofs.YtkjmelfgopammaaDoor
