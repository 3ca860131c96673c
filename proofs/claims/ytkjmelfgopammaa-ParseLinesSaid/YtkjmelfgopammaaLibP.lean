/- The functions that this seat's laws reach, for the clean machine; each is what the translation makes of the given text. Conditions: none. Printed by program. -/
import Derived.Test.YtkjmelfgopammaaLibPA
import Derived.Test.YtkjmelfgopammaaLibPB
namespace Go.Proofs.Ytkjmelfgopammaa
open Go.Dp
def tree0 : Tr LF := (.node (.node (.node (.node (.node (.node .leaf (some (.code pf_words_shapeOf)) .leaf) none (.node .leaf (some (.code pf_strings_TrimSuffix)) .leaf)) none (.node (.node .leaf (some (.code pf_parse_Parser_broken)) .leaf) (some (.code pf_words_Split)) (.node .leaf (some (.code pf_internal_stringslite_TrimSuffix)) .leaf))) none (.node (.node (.node .leaf (some (.code pf_depotref9_args)) .leaf) (some (.code pf_depotkeep_Requests)) (.node .leaf (some (.code pf_depotref9_Parser_line)) .leaf)) (some (.code pf_depotlaw13_ParseLines)) (.node (.node .leaf (some (.code pf_words_signed)) .leaf) (some (.code pf_parse_Parser_Shut)) (.node .leaf (some (.code pf_internal_stringslite_CutPrefix)) .leaf)))) none (.node (.node (.node (.node .leaf (some (.code pf_depotref9_words)) .leaf) (some (.code pf_words_Number)) (.node .leaf (some (.code pf_strings_HasPrefix)) .leaf)) (some (.code pf_depotlaw13_ParseTells)) (.node (.node .leaf (some (.code pf_depotkeep_Answers)) .leaf) (some (.code pf_parse_New)) (.node .leaf (some (.code pf_depotref9_client)) .leaf))) none (.node (.node (.node .leaf (some (.code pf_parse_Parser_data)) .leaf) (some (.code pf_depotref9_Key)) (.node .leaf (some (.code pf_strings_CutPrefix)) .leaf)) (some (.code pf_depotbook_Same_string)) (.node (.node .leaf (some (.code pf_strings_IndexByte)) .leaf) (some (.code pf_depotref9_Parser_Feed)) (.node .leaf (some (.code pf_internal_stringslite_HasSuffix)) .leaf))))) none (.node (.node (.node (.node (.node .leaf (some (.code pf_words_fill)) .leaf) (some (.code pf_depotref9_Line)) (.node .leaf (some (.code pf_parse_Parser_say)) .leaf)) (some (.code pf_depotlaw13_ParseRuns)) (.node (.node .leaf (some (.code pf_depotref9_Parser_step)) .leaf) (some (.code pf_depotbook_Within)) (.node .leaf (some (.code pf_internal_stringslite_HasPrefix)) .leaf))) none (.node (.node (.node .leaf (some (.code pf_parse_Parser_line)) .leaf) (some (.code pf_words_Key)) (.node .leaf (some (.code pf_depotbook_Same_api_Found)) .leaf)) (some (.code pf_words_Line)) (.node (.node .leaf (some (.code pf_depotref9_Signed)) .leaf) (some (.code pf_parse_Parser_Left)) .leaf))) none (.node (.node (.node (.node .leaf (some (.code pf_depotref9_verb)) .leaf) (some (.code pf_depotref9_Number)) (.node .leaf (some (.code pf_depotref9_Parser_data)) .leaf)) (some (.code pf_depotlaw13_ParseCuts)) (.node (.node .leaf (some (.code pf_words_store)) .leaf) (some (.code pf_parse_Parser_Feed)) (.node .leaf (some (.code pf_depotref9_Storing)) .leaf))) none (.node (.node (.node .leaf (some (.code pf_parse_Parser_past)) .leaf) (some (.code pf_words_Storing)) (.node .leaf (some (.code pf_internal_stringslite_IndexByte)) .leaf)) none (.node (.node .leaf (some (.code pf_parse_Parser_end)) .leaf) (some (.code pf_depotlaw13_same)) .leaf)))))
theorem bd8 : BodyOk cx 8 := ⟨Try.f8, Try.func8, by kernel_rfl, by kernel_rfl⟩
theorem bd9 : BodyOk cx 9 := ⟨Try.f9, Try.func9, by kernel_rfl, by kernel_rfl⟩
theorem bd10 : BodyOk cx 10 := ⟨Try.f10, Try.func10, by kernel_rfl, by kernel_rfl⟩
theorem bd11 : BodyOk cx 11 := ⟨Try.f11, Try.func11, by kernel_rfl, by kernel_rfl⟩
theorem bd12 : BodyOk cx 12 := ⟨Try.f12, Try.func12, by kernel_rfl, by kernel_rfl⟩
theorem bd13 : BodyOk cx 13 := ⟨Try.f13, Try.func13, by kernel_rfl, by kernel_rfl⟩
theorem bd16 : BodyOk cx 16 := ⟨Try.f16, Try.func16, by kernel_rfl, by kernel_rfl⟩
theorem bd17 : BodyOk cx 17 := ⟨Try.f17, Try.func17, by kernel_rfl, by kernel_rfl⟩
theorem bd18 : BodyOk cx 18 := ⟨Try.f18, Try.func18, by kernel_rfl, by kernel_rfl⟩
theorem bd19 : BodyOk cx 19 := ⟨Try.f19, Try.func19, by kernel_rfl, by kernel_rfl⟩
theorem bd20 : BodyOk cx 20 := ⟨Try.f20, Try.func20, by kernel_rfl, by kernel_rfl⟩
theorem bd21 : BodyOk cx 21 := ⟨Try.f21, Try.func21, by kernel_rfl, by kernel_rfl⟩
theorem bd22 : BodyOk cx 22 := ⟨Try.f22, Try.func22, by kernel_rfl, by kernel_rfl⟩
theorem bd23 : BodyOk cx 23 := ⟨Try.f23, Try.func23, by kernel_rfl, by kernel_rfl⟩
theorem bd24 : BodyOk cx 24 := ⟨Try.f24, Try.func24, by kernel_rfl, by kernel_rfl⟩
theorem bd25 : BodyOk cx 25 := ⟨Try.f25, Try.func25, by kernel_rfl, by kernel_rfl⟩
theorem bd26 : BodyOk cx 26 := ⟨Try.f26, Try.func26, by kernel_rfl, by kernel_rfl⟩
theorem bd27 : BodyOk cx 27 := ⟨Try.f27, Try.func27, by kernel_rfl, by kernel_rfl⟩
theorem bd28 : BodyOk cx 28 := ⟨Try.f28, Try.func28, by kernel_rfl, by kernel_rfl⟩
theorem bd29 : BodyOk cx 29 := ⟨Try.f29, Try.func29, by kernel_rfl, by kernel_rfl⟩
theorem bd30 : BodyOk cx 30 := ⟨Try.f30, Try.func30, by kernel_rfl, by kernel_rfl⟩
theorem bd31 : BodyOk cx 31 := ⟨Try.f31, Try.func31, by kernel_rfl, by kernel_rfl⟩
theorem bd32 : BodyOk cx 32 := ⟨Try.f32, Try.func32, by kernel_rfl, by kernel_rfl⟩
theorem bd33 : BodyOk cx 33 := ⟨Try.f33, Try.func33, by kernel_rfl, by kernel_rfl⟩
theorem bd34 : BodyOk cx 34 := ⟨Try.f34, Try.func34, by kernel_rfl, by kernel_rfl⟩
theorem bd35 : BodyOk cx 35 := ⟨Try.f35, Try.func35, by kernel_rfl, by kernel_rfl⟩
theorem bd36 : BodyOk cx 36 := ⟨Try.f36, Try.func36, by kernel_rfl, by kernel_rfl⟩
theorem bd37 : BodyOk cx 37 := ⟨Try.f37, Try.func37, by kernel_rfl, by kernel_rfl⟩
theorem bd38 : BodyOk cx 38 := ⟨Try.f38, Try.func38, by kernel_rfl, by kernel_rfl⟩
theorem bd39 : BodyOk cx 39 := ⟨Try.f39, Try.func39, by kernel_rfl, by kernel_rfl⟩
theorem bd40 : BodyOk cx 40 := ⟨Try.f40, Try.func40, by kernel_rfl, by kernel_rfl⟩
theorem bd41 : BodyOk cx 41 := ⟨Try.f41, Try.func41, by kernel_rfl, by kernel_rfl⟩
theorem bd42 : BodyOk cx 42 := ⟨Try.f42, Try.func42, by kernel_rfl, by kernel_rfl⟩
theorem bd43 : BodyOk cx 43 := ⟨Try.f43, Try.func43, by kernel_rfl, by kernel_rfl⟩
theorem bd44 : BodyOk cx 44 := ⟨Try.f44, Try.func44, by kernel_rfl, by kernel_rfl⟩
theorem bd45 : BodyOk cx 45 := ⟨Try.f45, Try.func45, by kernel_rfl, by kernel_rfl⟩
theorem bd46 : BodyOk cx 46 := ⟨Try.f46, Try.func46, by kernel_rfl, by kernel_rfl⟩
theorem bd47 : BodyOk cx 47 := ⟨Try.f47, Try.func47, by kernel_rfl, by kernel_rfl⟩
theorem bd48 : BodyOk cx 48 := ⟨Try.f48, Try.func48, by kernel_rfl, by kernel_rfl⟩
theorem bd49 : BodyOk cx 49 := ⟨Try.f49, Try.func49, by kernel_rfl, by kernel_rfl⟩
theorem bd50 : BodyOk cx 50 := ⟨Try.f50, Try.func50, by kernel_rfl, by kernel_rfl⟩
theorem bd51 : BodyOk cx 51 := ⟨Try.f51, Try.func51, by kernel_rfl, by kernel_rfl⟩
theorem bd52 : BodyOk cx 52 := ⟨Try.f52, Try.func52, by kernel_rfl, by kernel_rfl⟩
theorem bd53 : BodyOk cx 53 := ⟨Try.f53, Try.func53, by kernel_rfl, by kernel_rfl⟩
theorem bd54 : BodyOk cx 54 := ⟨Try.f54, Try.func54, by kernel_rfl, by kernel_rfl⟩
theorem bd55 : BodyOk cx 55 := ⟨Try.f55, Try.func55, by kernel_rfl, by kernel_rfl⟩
theorem bd56 : BodyOk cx 56 := ⟨Try.f56, Try.func56, by kernel_rfl, by kernel_rfl⟩
theorem bd57 : BodyOk cx 57 := ⟨Try.f57, Try.func57, by kernel_rfl, by kernel_rfl⟩
theorem bd58 : BodyOk cx 58 := ⟨Try.f58, Try.func58, by kernel_rfl, by kernel_rfl⟩
theorem bd59 : BodyOk cx 59 := ⟨Try.f59, Try.func59, by kernel_rfl, by kernel_rfl⟩
theorem bd61 : BodyOk cx 61 := ⟨Try.f61, Try.func61, by kernel_rfl, by kernel_rfl⟩
theorem bds : AllOf (BodyOk cx) nums := ⟨bd8, bd9, bd10, bd11, bd12, bd13, bd16, bd17, bd18, bd19, bd20, bd21, bd22, bd23, bd24, bd25, bd26, bd27, bd28, bd29, bd30, bd31, bd32, bd33, bd34, bd35, bd36, bd37, bd38, bd39, bd40, bd41, bd42, bd43, bd44, bd45, bd46, bd47, bd48, bd49, bd50, bd51, bd52, bd53, bd54, bd55, bd56, bd57, bd58, bd59, bd61, trivial⟩
theorem ext_ok : ExtOk cx := by
  refine ext_table (l := [(60, 1)]) rfl fun p hp => ?_
  rcases List.mem_cons.1 hp with rfl | hp
  · exact item_index Try.func60 (by kernel_rfl) (by kernel_rfl) (by kernel_rfl) (by kernel_rfl)
  cases hp
theorem prog_ok : ProgOk cx := ⟨by kernel_rfl, ext_ok, fm_ok2 rfl bds⟩
theorem ok8 : EntOk cx tree0.get 8 := .inl ⟨Try.f8, Try.func8, by rw [tr_depotlaw13_ParseRuns]; kernel_rfl⟩
theorem ok9 : EntOk cx tree0.get 9 := .inl ⟨Try.f9, Try.func9, by rw [tr_depotlaw13_ParseTells]; kernel_rfl⟩
theorem ok10 : EntOk cx tree0.get 10 := .inl ⟨Try.f10, Try.func10, by rw [tr_depotlaw13_ParseCuts]; kernel_rfl⟩
theorem ok11 : EntOk cx tree0.get 11 := .inl ⟨Try.f11, Try.func11, by rw [tr_depotlaw13_ParseLines]; kernel_rfl⟩
theorem ok12 : EntOk cx tree0.get 12 := .inl ⟨Try.f12, Try.func12, by rw [tr_words_Line]; kernel_rfl⟩
theorem ok13 : EntOk cx tree0.get 13 := .inl ⟨Try.f13, Try.func13, by rw [tr_depotbook_Same_string]; kernel_rfl⟩
theorem ok16 : EntOk cx tree0.get 16 := .inl ⟨Try.f16, Try.func16, by rw [tr_depotref9_Line]; kernel_rfl⟩
theorem ok17 : EntOk cx tree0.get 17 := .inl ⟨Try.f17, Try.func17, by rw [tr_words_Number]; kernel_rfl⟩
theorem ok18 : EntOk cx tree0.get 18 := .inl ⟨Try.f18, Try.func18, by rw [tr_depotref9_Number]; kernel_rfl⟩
theorem ok19 : EntOk cx tree0.get 19 := .inl ⟨Try.f19, Try.func19, by rw [tr_depotkeep_Requests]; kernel_rfl⟩
theorem ok20 : EntOk cx tree0.get 20 := .inl ⟨Try.f20, Try.func20, by rw [tr_words_Key]; kernel_rfl⟩
theorem ok21 : EntOk cx tree0.get 21 := .inl ⟨Try.f21, Try.func21, by rw [tr_depotref9_Key]; kernel_rfl⟩
theorem ok22 : EntOk cx tree0.get 22 := .inl ⟨Try.f22, Try.func22, by rw [tr_words_Storing]; kernel_rfl⟩
theorem ok23 : EntOk cx tree0.get 23 := .inl ⟨Try.f23, Try.func23, by rw [tr_words_Split]; kernel_rfl⟩
theorem ok24 : EntOk cx tree0.get 24 := .inl ⟨Try.f24, Try.func24, by rw [tr_depotbook_Within]; kernel_rfl⟩
theorem ok25 : EntOk cx tree0.get 25 := .inl ⟨Try.f25, Try.func25, by rw [tr_parse_New]; kernel_rfl⟩
theorem ok26 : EntOk cx tree0.get 26 := .inl ⟨Try.f26, Try.func26, by rw [tr_parse_Parser_Feed]; kernel_rfl⟩
theorem ok27 : EntOk cx tree0.get 27 := .inl ⟨Try.f27, Try.func27, by rw [tr_parse_Parser_Shut]; kernel_rfl⟩
theorem ok28 : EntOk cx tree0.get 28 := .inl ⟨Try.f28, Try.func28, by rw [tr_parse_Parser_Left]; kernel_rfl⟩
theorem ok29 : EntOk cx tree0.get 29 := .inl ⟨Try.f29, Try.func29, by rw [tr_depotref9_Parser_Feed]; kernel_rfl⟩
theorem ok30 : EntOk cx tree0.get 30 := .inl ⟨Try.f30, Try.func30, by rw [tr_depotlaw13_same]; kernel_rfl⟩
theorem ok31 : EntOk cx tree0.get 31 := .inl ⟨Try.f31, Try.func31, by rw [tr_words_shapeOf]; kernel_rfl⟩
theorem ok32 : EntOk cx tree0.get 32 := .inl ⟨Try.f32, Try.func32, by rw [tr_words_fill]; kernel_rfl⟩
theorem ok33 : EntOk cx tree0.get 33 := .inl ⟨Try.f33, Try.func33, by rw [tr_depotref9_words]; kernel_rfl⟩
theorem ok34 : EntOk cx tree0.get 34 := .inl ⟨Try.f34, Try.func34, by rw [tr_depotref9_verb]; kernel_rfl⟩
theorem ok35 : EntOk cx tree0.get 35 := .inl ⟨Try.f35, Try.func35, by rw [tr_depotref9_args]; kernel_rfl⟩
theorem ok36 : EntOk cx tree0.get 36 := .inl ⟨Try.f36, Try.func36, by rw [tr_parse_Parser_line]; kernel_rfl⟩
theorem ok37 : EntOk cx tree0.get 37 := .inl ⟨Try.f37, Try.func37, by rw [tr_parse_Parser_data]; kernel_rfl⟩
theorem ok38 : EntOk cx tree0.get 38 := .inl ⟨Try.f38, Try.func38, by rw [tr_parse_Parser_past]; kernel_rfl⟩
theorem ok39 : EntOk cx tree0.get 39 := .inl ⟨Try.f39, Try.func39, by rw [tr_parse_Parser_broken]; kernel_rfl⟩
theorem ok40 : EntOk cx tree0.get 40 := .inl ⟨Try.f40, Try.func40, by rw [tr_depotref9_Parser_step]; kernel_rfl⟩
theorem ok41 : EntOk cx tree0.get 41 := .inl ⟨Try.f41, Try.func41, by rw [tr_depotkeep_Answers]; kernel_rfl⟩
theorem ok42 : EntOk cx tree0.get 42 := .inl ⟨Try.f42, Try.func42, by rw [tr_words_store]; kernel_rfl⟩
theorem ok43 : EntOk cx tree0.get 43 := .inl ⟨Try.f43, Try.func43, by rw [tr_words_signed]; kernel_rfl⟩
theorem ok44 : EntOk cx tree0.get 44 := .inl ⟨Try.f44, Try.func44, by rw [tr_depotref9_Signed]; kernel_rfl⟩
theorem ok45 : EntOk cx tree0.get 45 := .inl ⟨Try.f45, Try.func45, by rw [tr_strings_IndexByte]; kernel_rfl⟩
theorem ok46 : EntOk cx tree0.get 46 := .inl ⟨Try.f46, Try.func46, by rw [tr_parse_Parser_end]; kernel_rfl⟩
theorem ok47 : EntOk cx tree0.get 47 := .inl ⟨Try.f47, Try.func47, by rw [tr_strings_TrimSuffix]; kernel_rfl⟩
theorem ok48 : EntOk cx tree0.get 48 := .inl ⟨Try.f48, Try.func48, by rw [tr_parse_Parser_say]; kernel_rfl⟩
theorem ok49 : EntOk cx tree0.get 49 := .inl ⟨Try.f49, Try.func49, by rw [tr_strings_HasPrefix]; kernel_rfl⟩
theorem ok50 : EntOk cx tree0.get 50 := .inl ⟨Try.f50, Try.func50, by rw [tr_depotref9_Parser_data]; kernel_rfl⟩
theorem ok51 : EntOk cx tree0.get 51 := .inl ⟨Try.f51, Try.func51, by rw [tr_depotref9_Parser_line]; kernel_rfl⟩
theorem ok52 : EntOk cx tree0.get 52 := .inl ⟨Try.f52, Try.func52, by rw [tr_depotbook_Same_api_Found]; kernel_rfl⟩
theorem ok53 : EntOk cx tree0.get 53 := .inl ⟨Try.f53, Try.func53, by rw [tr_strings_CutPrefix]; kernel_rfl⟩
theorem ok54 : EntOk cx tree0.get 54 := .inl ⟨Try.f54, Try.func54, by rw [tr_internal_stringslite_IndexByte]; kernel_rfl⟩
theorem ok55 : EntOk cx tree0.get 55 := .inl ⟨Try.f55, Try.func55, by rw [tr_internal_stringslite_TrimSuffix]; kernel_rfl⟩
theorem ok56 : EntOk cx tree0.get 56 := .inl ⟨Try.f56, Try.func56, by rw [tr_internal_stringslite_HasPrefix]; kernel_rfl⟩
theorem ok57 : EntOk cx tree0.get 57 := .inl ⟨Try.f57, Try.func57, by rw [tr_depotref9_client]; kernel_rfl⟩
theorem ok58 : EntOk cx tree0.get 58 := .inl ⟨Try.f58, Try.func58, by rw [tr_depotref9_Storing]; kernel_rfl⟩
theorem ok59 : EntOk cx tree0.get 59 := .inl ⟨Try.f59, Try.func59, by rw [tr_internal_stringslite_CutPrefix]; kernel_rfl⟩
theorem ok61 : EntOk cx tree0.get 61 := .inl ⟨Try.f61, Try.func61, by rw [tr_internal_stringslite_HasSuffix]; kernel_rfl⟩
theorem oks : AllOf (EntOk cx tree0.get) nums := ⟨ok8, ok9, ok10, ok11, ok12, ok13, ok16, ok17, ok18, ok19, ok20, ok21, ok22, ok23, ok24, ok25, ok26, ok27, ok28, ok29, ok30, ok31, ok32, ok33, ok34, ok35, ok36, ok37, ok38, ok39, ok40, ok41, ok42, ok43, ok44, ok45, ok46, ok47, ok48, ok49, ok50, ok51, ok52, ok53, ok54, ok55, ok56, ok57, ok58, ok59, ok61, trivial⟩
theorem lib_ok0 : LibOk cx tree0.get := lib_ok2 rfl oks
theorem run_depotlaw13_ParseRuns : isTrue (call tree0.get 900 8 [] noHeap) = true := by decide +kernel
theorem walk_depotlaw13_ParseRuns (w : World) : Calls cx.P 8 #[] w fun e w' => e = .returned (.bool true) ∧ Go.RowKit.Below w.heap.size w w' :=
  run_closed prog_ok lib_ok0 (fun _ => rfl) (g := 8) (f := 8) rfl run_depotlaw13_ParseRuns w
def lib : Lib := fun f => bif Nat.beq f 8 then some (.prim runsPrim) else tree0.get f
theorem lk8 : EntOk cx lib 8 := ent_runs walk_depotlaw13_ParseRuns rfl
theorem lk9 : EntOk cx lib 9 := .inl ⟨Try.f9, Try.func9, by rw [tr_depotlaw13_ParseTells]; kernel_rfl⟩
theorem at_depotlaw13_ParseTells : lib n_depotlaw13_ParseTells = some (.code pf_depotlaw13_ParseTells) := by kernel_rfl
theorem lk10 : EntOk cx lib 10 := .inl ⟨Try.f10, Try.func10, by rw [tr_depotlaw13_ParseCuts]; kernel_rfl⟩
theorem at_depotlaw13_ParseCuts : lib n_depotlaw13_ParseCuts = some (.code pf_depotlaw13_ParseCuts) := by kernel_rfl
theorem lk11 : EntOk cx lib 11 := .inl ⟨Try.f11, Try.func11, by rw [tr_depotlaw13_ParseLines]; kernel_rfl⟩
theorem at_depotlaw13_ParseLines : lib n_depotlaw13_ParseLines = some (.code pf_depotlaw13_ParseLines) := by kernel_rfl
theorem lk12 : EntOk cx lib 12 := .inl ⟨Try.f12, Try.func12, by rw [tr_words_Line]; kernel_rfl⟩
theorem at_words_Line : lib n_words_Line = some (.code pf_words_Line) := by kernel_rfl
theorem lk13 : EntOk cx lib 13 := .inl ⟨Try.f13, Try.func13, by rw [tr_depotbook_Same_string]; kernel_rfl⟩
theorem at_depotbook_Same_string : lib n_depotbook_Same_string = some (.code pf_depotbook_Same_string) := by kernel_rfl
theorem lk16 : EntOk cx lib 16 := .inl ⟨Try.f16, Try.func16, by rw [tr_depotref9_Line]; kernel_rfl⟩
theorem at_depotref9_Line : lib n_depotref9_Line = some (.code pf_depotref9_Line) := by kernel_rfl
theorem lk17 : EntOk cx lib 17 := .inl ⟨Try.f17, Try.func17, by rw [tr_words_Number]; kernel_rfl⟩
theorem at_words_Number : lib n_words_Number = some (.code pf_words_Number) := by kernel_rfl
theorem lk18 : EntOk cx lib 18 := .inl ⟨Try.f18, Try.func18, by rw [tr_depotref9_Number]; kernel_rfl⟩
theorem at_depotref9_Number : lib n_depotref9_Number = some (.code pf_depotref9_Number) := by kernel_rfl
theorem lk19 : EntOk cx lib 19 := .inl ⟨Try.f19, Try.func19, by rw [tr_depotkeep_Requests]; kernel_rfl⟩
theorem at_depotkeep_Requests : lib n_depotkeep_Requests = some (.code pf_depotkeep_Requests) := by kernel_rfl
theorem lk20 : EntOk cx lib 20 := .inl ⟨Try.f20, Try.func20, by rw [tr_words_Key]; kernel_rfl⟩
theorem at_words_Key : lib n_words_Key = some (.code pf_words_Key) := by kernel_rfl
theorem lk21 : EntOk cx lib 21 := .inl ⟨Try.f21, Try.func21, by rw [tr_depotref9_Key]; kernel_rfl⟩
theorem at_depotref9_Key : lib n_depotref9_Key = some (.code pf_depotref9_Key) := by kernel_rfl
theorem lk22 : EntOk cx lib 22 := .inl ⟨Try.f22, Try.func22, by rw [tr_words_Storing]; kernel_rfl⟩
theorem at_words_Storing : lib n_words_Storing = some (.code pf_words_Storing) := by kernel_rfl
theorem lk23 : EntOk cx lib 23 := .inl ⟨Try.f23, Try.func23, by rw [tr_words_Split]; kernel_rfl⟩
theorem at_words_Split : lib n_words_Split = some (.code pf_words_Split) := by kernel_rfl
theorem lk24 : EntOk cx lib 24 := .inl ⟨Try.f24, Try.func24, by rw [tr_depotbook_Within]; kernel_rfl⟩
theorem at_depotbook_Within : lib n_depotbook_Within = some (.code pf_depotbook_Within) := by kernel_rfl
theorem lk25 : EntOk cx lib 25 := .inl ⟨Try.f25, Try.func25, by rw [tr_parse_New]; kernel_rfl⟩
theorem at_parse_New : lib n_parse_New = some (.code pf_parse_New) := by kernel_rfl
theorem lk26 : EntOk cx lib 26 := .inl ⟨Try.f26, Try.func26, by rw [tr_parse_Parser_Feed]; kernel_rfl⟩
theorem at_parse_Parser_Feed : lib n_parse_Parser_Feed = some (.code pf_parse_Parser_Feed) := by kernel_rfl
theorem lk27 : EntOk cx lib 27 := .inl ⟨Try.f27, Try.func27, by rw [tr_parse_Parser_Shut]; kernel_rfl⟩
theorem at_parse_Parser_Shut : lib n_parse_Parser_Shut = some (.code pf_parse_Parser_Shut) := by kernel_rfl
theorem lk28 : EntOk cx lib 28 := .inl ⟨Try.f28, Try.func28, by rw [tr_parse_Parser_Left]; kernel_rfl⟩
theorem at_parse_Parser_Left : lib n_parse_Parser_Left = some (.code pf_parse_Parser_Left) := by kernel_rfl
theorem lk29 : EntOk cx lib 29 := .inl ⟨Try.f29, Try.func29, by rw [tr_depotref9_Parser_Feed]; kernel_rfl⟩
theorem at_depotref9_Parser_Feed : lib n_depotref9_Parser_Feed = some (.code pf_depotref9_Parser_Feed) := by kernel_rfl
theorem lk30 : EntOk cx lib 30 := .inl ⟨Try.f30, Try.func30, by rw [tr_depotlaw13_same]; kernel_rfl⟩
theorem at_depotlaw13_same : lib n_depotlaw13_same = some (.code pf_depotlaw13_same) := by kernel_rfl
theorem lk31 : EntOk cx lib 31 := .inl ⟨Try.f31, Try.func31, by rw [tr_words_shapeOf]; kernel_rfl⟩
theorem at_words_shapeOf : lib n_words_shapeOf = some (.code pf_words_shapeOf) := by kernel_rfl
theorem lk32 : EntOk cx lib 32 := .inl ⟨Try.f32, Try.func32, by rw [tr_words_fill]; kernel_rfl⟩
theorem at_words_fill : lib n_words_fill = some (.code pf_words_fill) := by kernel_rfl
theorem lk33 : EntOk cx lib 33 := .inl ⟨Try.f33, Try.func33, by rw [tr_depotref9_words]; kernel_rfl⟩
theorem at_depotref9_words : lib n_depotref9_words = some (.code pf_depotref9_words) := by kernel_rfl
theorem lk34 : EntOk cx lib 34 := .inl ⟨Try.f34, Try.func34, by rw [tr_depotref9_verb]; kernel_rfl⟩
theorem at_depotref9_verb : lib n_depotref9_verb = some (.code pf_depotref9_verb) := by kernel_rfl
theorem lk35 : EntOk cx lib 35 := .inl ⟨Try.f35, Try.func35, by rw [tr_depotref9_args]; kernel_rfl⟩
theorem at_depotref9_args : lib n_depotref9_args = some (.code pf_depotref9_args) := by kernel_rfl
theorem lk36 : EntOk cx lib 36 := .inl ⟨Try.f36, Try.func36, by rw [tr_parse_Parser_line]; kernel_rfl⟩
theorem at_parse_Parser_line : lib n_parse_Parser_line = some (.code pf_parse_Parser_line) := by kernel_rfl
theorem lk37 : EntOk cx lib 37 := .inl ⟨Try.f37, Try.func37, by rw [tr_parse_Parser_data]; kernel_rfl⟩
theorem at_parse_Parser_data : lib n_parse_Parser_data = some (.code pf_parse_Parser_data) := by kernel_rfl
theorem lk38 : EntOk cx lib 38 := .inl ⟨Try.f38, Try.func38, by rw [tr_parse_Parser_past]; kernel_rfl⟩
theorem at_parse_Parser_past : lib n_parse_Parser_past = some (.code pf_parse_Parser_past) := by kernel_rfl
theorem lk39 : EntOk cx lib 39 := .inl ⟨Try.f39, Try.func39, by rw [tr_parse_Parser_broken]; kernel_rfl⟩
theorem at_parse_Parser_broken : lib n_parse_Parser_broken = some (.code pf_parse_Parser_broken) := by kernel_rfl
theorem lk40 : EntOk cx lib 40 := .inl ⟨Try.f40, Try.func40, by rw [tr_depotref9_Parser_step]; kernel_rfl⟩
theorem at_depotref9_Parser_step : lib n_depotref9_Parser_step = some (.code pf_depotref9_Parser_step) := by kernel_rfl
theorem lk41 : EntOk cx lib 41 := .inl ⟨Try.f41, Try.func41, by rw [tr_depotkeep_Answers]; kernel_rfl⟩
theorem at_depotkeep_Answers : lib n_depotkeep_Answers = some (.code pf_depotkeep_Answers) := by kernel_rfl
theorem lk42 : EntOk cx lib 42 := .inl ⟨Try.f42, Try.func42, by rw [tr_words_store]; kernel_rfl⟩
theorem at_words_store : lib n_words_store = some (.code pf_words_store) := by kernel_rfl
theorem lk43 : EntOk cx lib 43 := .inl ⟨Try.f43, Try.func43, by rw [tr_words_signed]; kernel_rfl⟩
theorem at_words_signed : lib n_words_signed = some (.code pf_words_signed) := by kernel_rfl
theorem lk44 : EntOk cx lib 44 := .inl ⟨Try.f44, Try.func44, by rw [tr_depotref9_Signed]; kernel_rfl⟩
theorem at_depotref9_Signed : lib n_depotref9_Signed = some (.code pf_depotref9_Signed) := by kernel_rfl
theorem lk45 : EntOk cx lib 45 := .inl ⟨Try.f45, Try.func45, by rw [tr_strings_IndexByte]; kernel_rfl⟩
theorem at_strings_IndexByte : lib n_strings_IndexByte = some (.code pf_strings_IndexByte) := by kernel_rfl
theorem lk46 : EntOk cx lib 46 := .inl ⟨Try.f46, Try.func46, by rw [tr_parse_Parser_end]; kernel_rfl⟩
theorem at_parse_Parser_end : lib n_parse_Parser_end = some (.code pf_parse_Parser_end) := by kernel_rfl
theorem lk47 : EntOk cx lib 47 := .inl ⟨Try.f47, Try.func47, by rw [tr_strings_TrimSuffix]; kernel_rfl⟩
theorem at_strings_TrimSuffix : lib n_strings_TrimSuffix = some (.code pf_strings_TrimSuffix) := by kernel_rfl
theorem lk48 : EntOk cx lib 48 := .inl ⟨Try.f48, Try.func48, by rw [tr_parse_Parser_say]; kernel_rfl⟩
theorem at_parse_Parser_say : lib n_parse_Parser_say = some (.code pf_parse_Parser_say) := by kernel_rfl
theorem lk49 : EntOk cx lib 49 := .inl ⟨Try.f49, Try.func49, by rw [tr_strings_HasPrefix]; kernel_rfl⟩
theorem at_strings_HasPrefix : lib n_strings_HasPrefix = some (.code pf_strings_HasPrefix) := by kernel_rfl
theorem lk50 : EntOk cx lib 50 := .inl ⟨Try.f50, Try.func50, by rw [tr_depotref9_Parser_data]; kernel_rfl⟩
theorem at_depotref9_Parser_data : lib n_depotref9_Parser_data = some (.code pf_depotref9_Parser_data) := by kernel_rfl
theorem lk51 : EntOk cx lib 51 := .inl ⟨Try.f51, Try.func51, by rw [tr_depotref9_Parser_line]; kernel_rfl⟩
theorem at_depotref9_Parser_line : lib n_depotref9_Parser_line = some (.code pf_depotref9_Parser_line) := by kernel_rfl
theorem lk52 : EntOk cx lib 52 := .inl ⟨Try.f52, Try.func52, by rw [tr_depotbook_Same_api_Found]; kernel_rfl⟩
theorem at_depotbook_Same_api_Found : lib n_depotbook_Same_api_Found = some (.code pf_depotbook_Same_api_Found) := by kernel_rfl
theorem lk53 : EntOk cx lib 53 := .inl ⟨Try.f53, Try.func53, by rw [tr_strings_CutPrefix]; kernel_rfl⟩
theorem at_strings_CutPrefix : lib n_strings_CutPrefix = some (.code pf_strings_CutPrefix) := by kernel_rfl
theorem lk54 : EntOk cx lib 54 := .inl ⟨Try.f54, Try.func54, by rw [tr_internal_stringslite_IndexByte]; kernel_rfl⟩
theorem at_internal_stringslite_IndexByte : lib n_internal_stringslite_IndexByte = some (.code pf_internal_stringslite_IndexByte) := by kernel_rfl
theorem lk55 : EntOk cx lib 55 := .inl ⟨Try.f55, Try.func55, by rw [tr_internal_stringslite_TrimSuffix]; kernel_rfl⟩
theorem at_internal_stringslite_TrimSuffix : lib n_internal_stringslite_TrimSuffix = some (.code pf_internal_stringslite_TrimSuffix) := by kernel_rfl
theorem lk56 : EntOk cx lib 56 := .inl ⟨Try.f56, Try.func56, by rw [tr_internal_stringslite_HasPrefix]; kernel_rfl⟩
theorem at_internal_stringslite_HasPrefix : lib n_internal_stringslite_HasPrefix = some (.code pf_internal_stringslite_HasPrefix) := by kernel_rfl
theorem lk57 : EntOk cx lib 57 := .inl ⟨Try.f57, Try.func57, by rw [tr_depotref9_client]; kernel_rfl⟩
theorem at_depotref9_client : lib n_depotref9_client = some (.code pf_depotref9_client) := by kernel_rfl
theorem lk58 : EntOk cx lib 58 := .inl ⟨Try.f58, Try.func58, by rw [tr_depotref9_Storing]; kernel_rfl⟩
theorem at_depotref9_Storing : lib n_depotref9_Storing = some (.code pf_depotref9_Storing) := by kernel_rfl
theorem lk59 : EntOk cx lib 59 := .inl ⟨Try.f59, Try.func59, by rw [tr_internal_stringslite_CutPrefix]; kernel_rfl⟩
theorem at_internal_stringslite_CutPrefix : lib n_internal_stringslite_CutPrefix = some (.code pf_internal_stringslite_CutPrefix) := by kernel_rfl
theorem lk61 : EntOk cx lib 61 := .inl ⟨Try.f61, Try.func61, by rw [tr_internal_stringslite_HasSuffix]; kernel_rfl⟩
theorem at_internal_stringslite_HasSuffix : lib n_internal_stringslite_HasSuffix = some (.code pf_internal_stringslite_HasSuffix) := by kernel_rfl
theorem lks : AllOf (EntOk cx lib) nums := ⟨lk8, lk9, lk10, lk11, lk12, lk13, lk16, lk17, lk18, lk19, lk20, lk21, lk22, lk23, lk24, lk25, lk26, lk27, lk28, lk29, lk30, lk31, lk32, lk33, lk34, lk35, lk36, lk37, lk38, lk39, lk40, lk41, lk42, lk43, lk44, lk45, lk46, lk47, lk48, lk49, lk50, lk51, lk52, lk53, lk54, lk55, lk56, lk57, lk58, lk59, lk61, trivial⟩
theorem lib_ok : LibOk cx lib := lib_ok2 rfl lks
-- roots [8, 9, 10, 11]
end Go.Proofs.Ytkjmelfgopammaa
