/- The functions that this seat's laws reach, for the clean machine; each is what the translation makes of the given text. Conditions: none. Printed by program. -/
import Derived.Test.YtkjmelfgopammaaDoorLibRPA
namespace Go.Proofs.YtkjmelfgopammaaDoor.R
open Go.Dp
def tree0 : Tr LF := (.node (.node (.node (.node (.node (.node (.node .leaf (some (.code pf_words_Key)) .leaf) none .leaf) (some (.code pf_words_Number)) (.node .leaf (some (.code pf_words_shapeOf)) .leaf)) none (.node .leaf (some (.code pf_depotlaw13_ParseRuns)) (.node .leaf (some (.code pf_strings_HasPrefix)) .leaf))) none (.node (.node (.node (.node .leaf (some (.code pf_internal_stringslite_TrimSuffix)) .leaf) (some (.code pf_parse_Parser_past)) .leaf) none (.node .leaf (some (.code pf_parse_Parser_end)) .leaf)) none (.node (.node (.node .leaf (some (.code pf_internal_stringslite_HasSuffix)) .leaf) none .leaf) none .leaf))) none (.node (.node (.node (.node (.node .leaf (some (.code pf_words_signed)) .leaf) (some (.code pf_parse_Parser_line)) .leaf) none .leaf) none (.node (.node (.node .leaf (some (.code pf_strings_CutPrefix)) .leaf) none .leaf) none .leaf)) none (.node (.node (.node .leaf (some (.code pf_parse_Parser_Shut)) .leaf) (some (.code pf_parse_Parser_Feed)) (.node .leaf (some (.code pf_parse_Parser_say)) .leaf)) none (.node (.node (.node .leaf (some (.code pf_internal_stringslite_CutPrefix)) .leaf) none .leaf) (some (.code pf_words_Line)) .leaf)))) none (.node (.node (.node (.node (.node (.node .leaf (some (.code pf_words_store)) .leaf) none .leaf) none (.node .leaf (some (.code pf_words_fill)) .leaf)) none .leaf) none (.node (.node (.node (.node .leaf (some (.code pf_internal_stringslite_HasPrefix)) .leaf) (some (.code pf_parse_Parser_broken)) .leaf) (some (.code pf_parse_New)) (.node .leaf (some (.code pf_strings_TrimSuffix)) .leaf)) none .leaf)) none (.node (.node (.node (.node (.node .leaf (some (.code pf_internal_stringslite_IndexByte)) .leaf) (some (.code pf_parse_Parser_data)) .leaf) none (.node .leaf (some (.code pf_strings_IndexByte)) .leaf)) none .leaf) none (.node (.node .leaf (some (.code pf_parse_Parser_Left)) (.node .leaf (some (.code pf_words_Storing)) .leaf)) none (.node (.node .leaf (some (.code pf_words_Split)) .leaf) none .leaf)))))
theorem bd15 : BodyOk cx 15 := ⟨Tryd.f15, Tryd.func15, by kernel_rfl, by kernel_rfl⟩
theorem bd20 : BodyOk cx 20 := ⟨Tryd.f20, Tryd.func20, by kernel_rfl, by kernel_rfl⟩
theorem bd21 : BodyOk cx 21 := ⟨Tryd.f21, Tryd.func21, by kernel_rfl, by kernel_rfl⟩
theorem bd22 : BodyOk cx 22 := ⟨Tryd.f22, Tryd.func22, by kernel_rfl, by kernel_rfl⟩
theorem bd23 : BodyOk cx 23 := ⟨Tryd.f23, Tryd.func23, by kernel_rfl, by kernel_rfl⟩
theorem bd29 : BodyOk cx 29 := ⟨Tryd.f29, Tryd.func29, by kernel_rfl, by kernel_rfl⟩
theorem bd33 : BodyOk cx 33 := ⟨Tryd.f33, Tryd.func33, by kernel_rfl, by kernel_rfl⟩
theorem bd34 : BodyOk cx 34 := ⟨Tryd.f34, Tryd.func34, by kernel_rfl, by kernel_rfl⟩
theorem bd35 : BodyOk cx 35 := ⟨Tryd.f35, Tryd.func35, by kernel_rfl, by kernel_rfl⟩
theorem bd36 : BodyOk cx 36 := ⟨Tryd.f36, Tryd.func36, by kernel_rfl, by kernel_rfl⟩
theorem bd37 : BodyOk cx 37 := ⟨Tryd.f37, Tryd.func37, by kernel_rfl, by kernel_rfl⟩
theorem bd46 : BodyOk cx 46 := ⟨Tryd.f46, Tryd.func46, by kernel_rfl, by kernel_rfl⟩
theorem bd47 : BodyOk cx 47 := ⟨Tryd.f47, Tryd.func47, by kernel_rfl, by kernel_rfl⟩
theorem bd48 : BodyOk cx 48 := ⟨Tryd.f48, Tryd.func48, by kernel_rfl, by kernel_rfl⟩
theorem bd50 : BodyOk cx 50 := ⟨Tryd.f50, Tryd.func50, by kernel_rfl, by kernel_rfl⟩
theorem bd51 : BodyOk cx 51 := ⟨Tryd.f51, Tryd.func51, by kernel_rfl, by kernel_rfl⟩
theorem bd52 : BodyOk cx 52 := ⟨Tryd.f52, Tryd.func52, by kernel_rfl, by kernel_rfl⟩
theorem bd53 : BodyOk cx 53 := ⟨Tryd.f53, Tryd.func53, by kernel_rfl, by kernel_rfl⟩
theorem bd54 : BodyOk cx 54 := ⟨Tryd.f54, Tryd.func54, by kernel_rfl, by kernel_rfl⟩
theorem bd55 : BodyOk cx 55 := ⟨Tryd.f55, Tryd.func55, by kernel_rfl, by kernel_rfl⟩
theorem bd63 : BodyOk cx 63 := ⟨Tryd.f63, Tryd.func63, by kernel_rfl, by kernel_rfl⟩
theorem bd64 : BodyOk cx 64 := ⟨Tryd.f64, Tryd.func64, by kernel_rfl, by kernel_rfl⟩
theorem bd65 : BodyOk cx 65 := ⟨Tryd.f65, Tryd.func65, by kernel_rfl, by kernel_rfl⟩
theorem bd66 : BodyOk cx 66 := ⟨Tryd.f66, Tryd.func66, by kernel_rfl, by kernel_rfl⟩
theorem bd67 : BodyOk cx 67 := ⟨Tryd.f67, Tryd.func67, by kernel_rfl, by kernel_rfl⟩
theorem bd68 : BodyOk cx 68 := ⟨Tryd.f68, Tryd.func68, by kernel_rfl, by kernel_rfl⟩
theorem bd73 : BodyOk cx 73 := ⟨Tryd.f73, Tryd.func73, by kernel_rfl, by kernel_rfl⟩
theorem bd75 : BodyOk cx 75 := ⟨Tryd.f75, Tryd.func75, by kernel_rfl, by kernel_rfl⟩
theorem bd77 : BodyOk cx 77 := ⟨Tryd.f77, Tryd.func77, by kernel_rfl, by kernel_rfl⟩
theorem bds : AllOf (BodyOk cx) nums := ⟨bd15, bd20, bd21, bd22, bd23, bd29, bd33, bd34, bd35, bd36, bd37, bd46, bd47, bd48, bd50, bd51, bd52, bd53, bd54, bd55, bd63, bd64, bd65, bd66, bd67, bd68, bd73, bd75, bd77, trivial⟩
theorem ext_ok : ExtOk cx := by
  refine ext_table (l := [(69, 2), (74, 1), (76, 3)]) rfl fun p hp => ?_
  rcases List.mem_cons.1 hp with rfl | hp
  · exact item_same Tryd.func69 (by kernel_rfl) (by kernel_rfl) (by kernel_rfl) (by kernel_rfl)
  rcases List.mem_cons.1 hp with rfl | hp
  · exact item_index Tryd.func74 (by kernel_rfl) (by kernel_rfl) (by kernel_rfl) (by kernel_rfl)
  rcases List.mem_cons.1 hp with rfl | hp
  · exact item_nozero (ps := #[3]) (t := 54) (e := 5) Tryd.func76 (by kernel_rfl) (by kernel_rfl) (by kernel_rfl) (by kernel_rfl) Tryd.underlying54 (show cx.P.info? 5 = some (cx.P.info? 5).get! from (by kernel_rfl)) (by kernel_rfl) (by kernel_rfl)
  cases hp
theorem prog_ok : ProgOk cx := ⟨by kernel_rfl, ext_ok, fm_ok2 rfl bds⟩
theorem ok15 : EntOk cx tree0.get 15 := .inl ⟨Tryd.f15, Tryd.func15, by rw [tr_words_Number]; kernel_rfl⟩
theorem ok20 : EntOk cx tree0.get 20 := .inl ⟨Tryd.f20, Tryd.func20, by rw [tr_parse_New]; kernel_rfl⟩
theorem ok21 : EntOk cx tree0.get 21 := .inl ⟨Tryd.f21, Tryd.func21, by rw [tr_parse_Parser_Feed]; kernel_rfl⟩
theorem ok22 : EntOk cx tree0.get 22 := .inl ⟨Tryd.f22, Tryd.func22, by rw [tr_parse_Parser_Left]; kernel_rfl⟩
theorem ok23 : EntOk cx tree0.get 23 := .inl ⟨Tryd.f23, Tryd.func23, by rw [tr_depotlaw13_ParseRuns]; kernel_rfl⟩
theorem ok29 : EntOk cx tree0.get 29 := .inl ⟨Tryd.f29, Tryd.func29, by rw [tr_words_Line]; kernel_rfl⟩
theorem ok33 : EntOk cx tree0.get 33 := .inl ⟨Tryd.f33, Tryd.func33, by rw [tr_parse_Parser_line]; kernel_rfl⟩
theorem ok34 : EntOk cx tree0.get 34 := .inl ⟨Tryd.f34, Tryd.func34, by rw [tr_parse_Parser_data]; kernel_rfl⟩
theorem ok35 : EntOk cx tree0.get 35 := .inl ⟨Tryd.f35, Tryd.func35, by rw [tr_parse_Parser_past]; kernel_rfl⟩
theorem ok36 : EntOk cx tree0.get 36 := .inl ⟨Tryd.f36, Tryd.func36, by rw [tr_parse_Parser_broken]; kernel_rfl⟩
theorem ok37 : EntOk cx tree0.get 37 := .inl ⟨Tryd.f37, Tryd.func37, by rw [tr_parse_Parser_Shut]; kernel_rfl⟩
theorem ok46 : EntOk cx tree0.get 46 := .inl ⟨Tryd.f46, Tryd.func46, by rw [tr_words_Split]; kernel_rfl⟩
theorem ok47 : EntOk cx tree0.get 47 := .inl ⟨Tryd.f47, Tryd.func47, by rw [tr_words_shapeOf]; kernel_rfl⟩
theorem ok48 : EntOk cx tree0.get 48 := .inl ⟨Tryd.f48, Tryd.func48, by rw [tr_words_fill]; kernel_rfl⟩
theorem ok50 : EntOk cx tree0.get 50 := .inl ⟨Tryd.f50, Tryd.func50, by rw [tr_strings_IndexByte]; kernel_rfl⟩
theorem ok51 : EntOk cx tree0.get 51 := .inl ⟨Tryd.f51, Tryd.func51, by rw [tr_parse_Parser_end]; kernel_rfl⟩
theorem ok52 : EntOk cx tree0.get 52 := .inl ⟨Tryd.f52, Tryd.func52, by rw [tr_strings_TrimSuffix]; kernel_rfl⟩
theorem ok53 : EntOk cx tree0.get 53 := .inl ⟨Tryd.f53, Tryd.func53, by rw [tr_parse_Parser_say]; kernel_rfl⟩
theorem ok54 : EntOk cx tree0.get 54 := .inl ⟨Tryd.f54, Tryd.func54, by rw [tr_words_Storing]; kernel_rfl⟩
theorem ok55 : EntOk cx tree0.get 55 := .inl ⟨Tryd.f55, Tryd.func55, by rw [tr_strings_HasPrefix]; kernel_rfl⟩
theorem ok63 : EntOk cx tree0.get 63 := .inl ⟨Tryd.f63, Tryd.func63, by rw [tr_words_Key]; kernel_rfl⟩
theorem ok64 : EntOk cx tree0.get 64 := .inl ⟨Tryd.f64, Tryd.func64, by rw [tr_words_store]; kernel_rfl⟩
theorem ok65 : EntOk cx tree0.get 65 := .inl ⟨Tryd.f65, Tryd.func65, by rw [tr_words_signed]; kernel_rfl⟩
theorem ok66 : EntOk cx tree0.get 66 := .inl ⟨Tryd.f66, Tryd.func66, by rw [tr_internal_stringslite_IndexByte]; kernel_rfl⟩
theorem ok67 : EntOk cx tree0.get 67 := .inl ⟨Tryd.f67, Tryd.func67, by rw [tr_internal_stringslite_TrimSuffix]; kernel_rfl⟩
theorem ok68 : EntOk cx tree0.get 68 := .inl ⟨Tryd.f68, Tryd.func68, by rw [tr_internal_stringslite_HasPrefix]; kernel_rfl⟩
theorem ok73 : EntOk cx tree0.get 73 := .inl ⟨Tryd.f73, Tryd.func73, by rw [tr_strings_CutPrefix]; kernel_rfl⟩
theorem ok75 : EntOk cx tree0.get 75 := .inl ⟨Tryd.f75, Tryd.func75, by rw [tr_internal_stringslite_HasSuffix]; kernel_rfl⟩
theorem ok77 : EntOk cx tree0.get 77 := .inl ⟨Tryd.f77, Tryd.func77, by rw [tr_internal_stringslite_CutPrefix]; kernel_rfl⟩
theorem oks : AllOf (EntOk cx tree0.get) nums := ⟨ok15, ok20, ok21, ok22, ok23, ok29, ok33, ok34, ok35, ok36, ok37, ok46, ok47, ok48, ok50, ok51, ok52, ok53, ok54, ok55, ok63, ok64, ok65, ok66, ok67, ok68, ok73, ok75, ok77, trivial⟩
theorem lib_ok0 : LibOk cx tree0.get := lib_ok2 rfl oks
theorem run_depotlaw13_ParseRuns : isTrue (call tree0.get 900 23 [] noHeap) = true := by decide +kernel
theorem walk_depotlaw13_ParseRuns (w : World) : Calls cx.P 23 #[] w fun e w' => e = .returned (.bool true) ∧ Go.RowKit.Below w.heap.size w w' :=
  run_closed prog_ok lib_ok0 (fun _ => rfl) (g := 23) (f := 23) rfl run_depotlaw13_ParseRuns w
-- roots [23]
end Go.Proofs.YtkjmelfgopammaaDoor.R
