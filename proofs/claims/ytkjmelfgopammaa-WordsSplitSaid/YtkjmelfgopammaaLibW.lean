/- The functions that this seat's laws reach, for the clean machine; each is what the translation makes of the given text. Conditions: none. Printed by program. -/
import Derived.Test.YtkjmelfgopammaaLibWA
namespace Go.Proofs.Ytkjmelfgopammaa
open Go.Dp
def tree0 : Tr LF := (.node (.node (.node (.node (.node (.node .leaf (some (.code pf_words_shapeOf)) .leaf) (some (.code pf_depotlaw12_short)) .leaf) (some (.code pf_depotlaw12_WordsKeys)) (.node .leaf (some (.code pf_words_Split)) .leaf)) (some (.code pf_depotlaw12_WordsRuns)) (.node (.node (.node .leaf (some (.code pf_depotref9_args)) .leaf) (some (.code pf_depotkeep_Requests)) .leaf) none (.node (.node .leaf (some (.code pf_words_signed)) .leaf) none (.node .leaf (some (.code pf_internal_stringslite_CutPrefix)) .leaf)))) none (.node (.node (.node (.node .leaf (some (.code pf_depotref9_words)) .leaf) (some (.code pf_words_Number)) .leaf) none .leaf) (some (.code pf_depotlaw12_WordsSplit)) (.node (.node .leaf (some (.code pf_depotref9_Key)) (.node .leaf (some (.code pf_strings_CutPrefix)) .leaf)) (some (.code pf_depotbook_Same_string)) .leaf))) none (.node (.node (.node (.node (.node .leaf (some (.code pf_words_fill)) .leaf) (some (.code pf_depotref9_Line)) .leaf) none (.node .leaf (some (.code pf_depotbook_Within)) (.node .leaf (some (.code pf_internal_stringslite_HasPrefix)) .leaf))) (some (.code pf_depotlaw12_WordsTells)) (.node (.node .leaf (some (.code pf_words_Key)) .leaf) (some (.code pf_words_Line)) (.node (.node .leaf (some (.code pf_depotref9_Signed)) .leaf) none .leaf))) none (.node (.node (.node (.node .leaf (some (.code pf_depotref9_verb)) .leaf) (some (.code pf_depotref9_Number)) .leaf) none (.node (.node .leaf (some (.code pf_words_store)) .leaf) none .leaf)) (some (.code pf_depotlaw12_WordsQuiet)) (.node (.node .leaf (some (.code pf_words_Storing)) .leaf) (some (.code pf_depotlaw12_wrong)) .leaf))))
theorem bd3 : BodyOk cx 3 := ⟨Try.f3, Try.func3, by kernel_rfl, by kernel_rfl⟩
theorem bd4 : BodyOk cx 4 := ⟨Try.f4, Try.func4, by kernel_rfl, by kernel_rfl⟩
theorem bd5 : BodyOk cx 5 := ⟨Try.f5, Try.func5, by kernel_rfl, by kernel_rfl⟩
theorem bd6 : BodyOk cx 6 := ⟨Try.f6, Try.func6, by kernel_rfl, by kernel_rfl⟩
theorem bd7 : BodyOk cx 7 := ⟨Try.f7, Try.func7, by kernel_rfl, by kernel_rfl⟩
theorem bd12 : BodyOk cx 12 := ⟨Try.f12, Try.func12, by kernel_rfl, by kernel_rfl⟩
theorem bd13 : BodyOk cx 13 := ⟨Try.f13, Try.func13, by kernel_rfl, by kernel_rfl⟩
theorem bd14 : BodyOk cx 14 := ⟨Try.f14, Try.func14, by kernel_rfl, by kernel_rfl⟩
theorem bd15 : BodyOk cx 15 := ⟨Try.f15, Try.func15, by kernel_rfl, by kernel_rfl⟩
theorem bd16 : BodyOk cx 16 := ⟨Try.f16, Try.func16, by kernel_rfl, by kernel_rfl⟩
theorem bd17 : BodyOk cx 17 := ⟨Try.f17, Try.func17, by kernel_rfl, by kernel_rfl⟩
theorem bd18 : BodyOk cx 18 := ⟨Try.f18, Try.func18, by kernel_rfl, by kernel_rfl⟩
theorem bd19 : BodyOk cx 19 := ⟨Try.f19, Try.func19, by kernel_rfl, by kernel_rfl⟩
theorem bd20 : BodyOk cx 20 := ⟨Try.f20, Try.func20, by kernel_rfl, by kernel_rfl⟩
theorem bd21 : BodyOk cx 21 := ⟨Try.f21, Try.func21, by kernel_rfl, by kernel_rfl⟩
theorem bd22 : BodyOk cx 22 := ⟨Try.f22, Try.func22, by kernel_rfl, by kernel_rfl⟩
theorem bd23 : BodyOk cx 23 := ⟨Try.f23, Try.func23, by kernel_rfl, by kernel_rfl⟩
theorem bd24 : BodyOk cx 24 := ⟨Try.f24, Try.func24, by kernel_rfl, by kernel_rfl⟩
theorem bd31 : BodyOk cx 31 := ⟨Try.f31, Try.func31, by kernel_rfl, by kernel_rfl⟩
theorem bd32 : BodyOk cx 32 := ⟨Try.f32, Try.func32, by kernel_rfl, by kernel_rfl⟩
theorem bd33 : BodyOk cx 33 := ⟨Try.f33, Try.func33, by kernel_rfl, by kernel_rfl⟩
theorem bd34 : BodyOk cx 34 := ⟨Try.f34, Try.func34, by kernel_rfl, by kernel_rfl⟩
theorem bd35 : BodyOk cx 35 := ⟨Try.f35, Try.func35, by kernel_rfl, by kernel_rfl⟩
theorem bd42 : BodyOk cx 42 := ⟨Try.f42, Try.func42, by kernel_rfl, by kernel_rfl⟩
theorem bd43 : BodyOk cx 43 := ⟨Try.f43, Try.func43, by kernel_rfl, by kernel_rfl⟩
theorem bd44 : BodyOk cx 44 := ⟨Try.f44, Try.func44, by kernel_rfl, by kernel_rfl⟩
theorem bd53 : BodyOk cx 53 := ⟨Try.f53, Try.func53, by kernel_rfl, by kernel_rfl⟩
theorem bd56 : BodyOk cx 56 := ⟨Try.f56, Try.func56, by kernel_rfl, by kernel_rfl⟩
theorem bd59 : BodyOk cx 59 := ⟨Try.f59, Try.func59, by kernel_rfl, by kernel_rfl⟩
theorem bds : AllOf (BodyOk cx) nums := ⟨bd3, bd4, bd5, bd6, bd7, bd12, bd13, bd14, bd15, bd16, bd17, bd18, bd19, bd20, bd21, bd22, bd23, bd24, bd31, bd32, bd33, bd34, bd35, bd42, bd43, bd44, bd53, bd56, bd59, trivial⟩
theorem ext_ok : ExtOk cx := by
  refine ext_table (l := [(60, 1)]) rfl fun p hp => ?_
  rcases List.mem_cons.1 hp with rfl | hp
  · exact item_index Try.func60 (by kernel_rfl) (by kernel_rfl) (by kernel_rfl) (by kernel_rfl)
  cases hp
theorem prog_ok : ProgOk cx := ⟨by kernel_rfl, ext_ok, fm_ok2 rfl bds⟩
theorem ok3 : EntOk cx tree0.get 3 := .inl ⟨Try.f3, Try.func3, by rw [tr_depotlaw12_WordsRuns]; kernel_rfl⟩
theorem ok4 : EntOk cx tree0.get 4 := .inl ⟨Try.f4, Try.func4, by rw [tr_depotlaw12_WordsTells]; kernel_rfl⟩
theorem ok5 : EntOk cx tree0.get 5 := .inl ⟨Try.f5, Try.func5, by rw [tr_depotlaw12_WordsSplit]; kernel_rfl⟩
theorem ok6 : EntOk cx tree0.get 6 := .inl ⟨Try.f6, Try.func6, by rw [tr_depotlaw12_WordsQuiet]; kernel_rfl⟩
theorem ok7 : EntOk cx tree0.get 7 := .inl ⟨Try.f7, Try.func7, by rw [tr_depotlaw12_WordsKeys]; kernel_rfl⟩
theorem ok12 : EntOk cx tree0.get 12 := .inl ⟨Try.f12, Try.func12, by rw [tr_words_Line]; kernel_rfl⟩
theorem ok13 : EntOk cx tree0.get 13 := .inl ⟨Try.f13, Try.func13, by rw [tr_depotbook_Same_string]; kernel_rfl⟩
theorem ok14 : EntOk cx tree0.get 14 := .inl ⟨Try.f14, Try.func14, by rw [tr_depotlaw12_wrong]; kernel_rfl⟩
theorem ok15 : EntOk cx tree0.get 15 := .inl ⟨Try.f15, Try.func15, by rw [tr_depotlaw12_short]; kernel_rfl⟩
theorem ok16 : EntOk cx tree0.get 16 := .inl ⟨Try.f16, Try.func16, by rw [tr_depotref9_Line]; kernel_rfl⟩
theorem ok17 : EntOk cx tree0.get 17 := .inl ⟨Try.f17, Try.func17, by rw [tr_words_Number]; kernel_rfl⟩
theorem ok18 : EntOk cx tree0.get 18 := .inl ⟨Try.f18, Try.func18, by rw [tr_depotref9_Number]; kernel_rfl⟩
theorem ok19 : EntOk cx tree0.get 19 := .inl ⟨Try.f19, Try.func19, by rw [tr_depotkeep_Requests]; kernel_rfl⟩
theorem ok20 : EntOk cx tree0.get 20 := .inl ⟨Try.f20, Try.func20, by rw [tr_words_Key]; kernel_rfl⟩
theorem ok21 : EntOk cx tree0.get 21 := .inl ⟨Try.f21, Try.func21, by rw [tr_depotref9_Key]; kernel_rfl⟩
theorem ok22 : EntOk cx tree0.get 22 := .inl ⟨Try.f22, Try.func22, by rw [tr_words_Storing]; kernel_rfl⟩
theorem ok23 : EntOk cx tree0.get 23 := .inl ⟨Try.f23, Try.func23, by rw [tr_words_Split]; kernel_rfl⟩
theorem ok24 : EntOk cx tree0.get 24 := .inl ⟨Try.f24, Try.func24, by rw [tr_depotbook_Within]; kernel_rfl⟩
theorem ok31 : EntOk cx tree0.get 31 := .inl ⟨Try.f31, Try.func31, by rw [tr_words_shapeOf]; kernel_rfl⟩
theorem ok32 : EntOk cx tree0.get 32 := .inl ⟨Try.f32, Try.func32, by rw [tr_words_fill]; kernel_rfl⟩
theorem ok33 : EntOk cx tree0.get 33 := .inl ⟨Try.f33, Try.func33, by rw [tr_depotref9_words]; kernel_rfl⟩
theorem ok34 : EntOk cx tree0.get 34 := .inl ⟨Try.f34, Try.func34, by rw [tr_depotref9_verb]; kernel_rfl⟩
theorem ok35 : EntOk cx tree0.get 35 := .inl ⟨Try.f35, Try.func35, by rw [tr_depotref9_args]; kernel_rfl⟩
theorem ok42 : EntOk cx tree0.get 42 := .inl ⟨Try.f42, Try.func42, by rw [tr_words_store]; kernel_rfl⟩
theorem ok43 : EntOk cx tree0.get 43 := .inl ⟨Try.f43, Try.func43, by rw [tr_words_signed]; kernel_rfl⟩
theorem ok44 : EntOk cx tree0.get 44 := .inl ⟨Try.f44, Try.func44, by rw [tr_depotref9_Signed]; kernel_rfl⟩
theorem ok53 : EntOk cx tree0.get 53 := .inl ⟨Try.f53, Try.func53, by rw [tr_strings_CutPrefix]; kernel_rfl⟩
theorem ok56 : EntOk cx tree0.get 56 := .inl ⟨Try.f56, Try.func56, by rw [tr_internal_stringslite_HasPrefix]; kernel_rfl⟩
theorem ok59 : EntOk cx tree0.get 59 := .inl ⟨Try.f59, Try.func59, by rw [tr_internal_stringslite_CutPrefix]; kernel_rfl⟩
theorem oks : AllOf (EntOk cx tree0.get) nums := ⟨ok3, ok4, ok5, ok6, ok7, ok12, ok13, ok14, ok15, ok16, ok17, ok18, ok19, ok20, ok21, ok22, ok23, ok24, ok31, ok32, ok33, ok34, ok35, ok42, ok43, ok44, ok53, ok56, ok59, trivial⟩
theorem lib_ok0 : LibOk cx tree0.get := lib_ok2 rfl oks
theorem run_depotlaw12_WordsRuns : isTrue (call tree0.get 900 3 [] noHeap) = true := by decide +kernel
theorem walk_depotlaw12_WordsRuns (w : World) : Calls cx.P 3 #[] w fun e w' => e = .returned (.bool true) ∧ Go.RowKit.Below w.heap.size w w' :=
  run_closed prog_ok lib_ok0 (fun _ => rfl) (g := 3) (f := 3) rfl run_depotlaw12_WordsRuns w
def lib : Lib := fun f => bif Nat.beq f 3 then some (.prim runsPrim) else tree0.get f
theorem lk3 : EntOk cx lib 3 := ent_runs walk_depotlaw12_WordsRuns rfl
theorem lk4 : EntOk cx lib 4 := .inl ⟨Try.f4, Try.func4, by rw [tr_depotlaw12_WordsTells]; kernel_rfl⟩
theorem at_depotlaw12_WordsTells : lib n_depotlaw12_WordsTells = some (.code pf_depotlaw12_WordsTells) := by kernel_rfl
theorem lk5 : EntOk cx lib 5 := .inl ⟨Try.f5, Try.func5, by rw [tr_depotlaw12_WordsSplit]; kernel_rfl⟩
theorem at_depotlaw12_WordsSplit : lib n_depotlaw12_WordsSplit = some (.code pf_depotlaw12_WordsSplit) := by kernel_rfl
theorem lk6 : EntOk cx lib 6 := .inl ⟨Try.f6, Try.func6, by rw [tr_depotlaw12_WordsQuiet]; kernel_rfl⟩
theorem at_depotlaw12_WordsQuiet : lib n_depotlaw12_WordsQuiet = some (.code pf_depotlaw12_WordsQuiet) := by kernel_rfl
theorem lk7 : EntOk cx lib 7 := .inl ⟨Try.f7, Try.func7, by rw [tr_depotlaw12_WordsKeys]; kernel_rfl⟩
theorem at_depotlaw12_WordsKeys : lib n_depotlaw12_WordsKeys = some (.code pf_depotlaw12_WordsKeys) := by kernel_rfl
theorem lk12 : EntOk cx lib 12 := .inl ⟨Try.f12, Try.func12, by rw [tr_words_Line]; kernel_rfl⟩
theorem at_words_Line : lib n_words_Line = some (.code pf_words_Line) := by kernel_rfl
theorem lk13 : EntOk cx lib 13 := .inl ⟨Try.f13, Try.func13, by rw [tr_depotbook_Same_string]; kernel_rfl⟩
theorem at_depotbook_Same_string : lib n_depotbook_Same_string = some (.code pf_depotbook_Same_string) := by kernel_rfl
theorem lk14 : EntOk cx lib 14 := .inl ⟨Try.f14, Try.func14, by rw [tr_depotlaw12_wrong]; kernel_rfl⟩
theorem at_depotlaw12_wrong : lib n_depotlaw12_wrong = some (.code pf_depotlaw12_wrong) := by kernel_rfl
theorem lk15 : EntOk cx lib 15 := .inl ⟨Try.f15, Try.func15, by rw [tr_depotlaw12_short]; kernel_rfl⟩
theorem at_depotlaw12_short : lib n_depotlaw12_short = some (.code pf_depotlaw12_short) := by kernel_rfl
theorem lk16 : EntOk cx lib 16 := .inl ⟨Try.f16, Try.func16, by rw [tr_depotref9_Line]; kernel_rfl⟩
theorem at_depotref9_Line : lib n_depotref9_Line = some (.code pf_depotref9_Line) := by kernel_rfl
theorem lk17 : EntOk cx lib 17 := .inl ⟨Try.f17, Try.func17, by rw [tr_words_Number]; kernel_rfl⟩
theorem at_words_Number : lib n_words_Number = some (.code pf_words_Number) := by kernel_rfl
theorem lk18 : EntOk cx lib 18 := .inl ⟨Try.f18, Try.func18, by rw [tr_depotref9_Number]; kernel_rfl⟩
theorem at_depotref9_Number : lib n_depotref9_Number = some (.code pf_depotref9_Number) := by kernel_rfl
theorem lk19 : EntOk cx lib 19 := .inl ⟨Try.f19, Try.func19, by rw [tr_depotkeep_Requests]; kernel_rfl⟩
theorem at_depotkeep_Requests : lib n_depotkeep_Requests = some (.code pf_depotkeep_Requests) := by kernel_rfl
theorem lk20 : EntOk cx lib 20 := .inl ⟨Try.f20, Try.func20, by rw [tr_words_Key]; kernel_rfl⟩
theorem at_words_Key : lib n_words_Key = some (.code pf_words_Key) := by kernel_rfl
theorem lk21 : EntOk cx lib 21 := .inl ⟨Try.f21, Try.func21, by rw [tr_depotref9_Key]; kernel_rfl⟩
theorem at_depotref9_Key : lib n_depotref9_Key = some (.code pf_depotref9_Key) := by kernel_rfl
theorem lk22 : EntOk cx lib 22 := .inl ⟨Try.f22, Try.func22, by rw [tr_words_Storing]; kernel_rfl⟩
theorem at_words_Storing : lib n_words_Storing = some (.code pf_words_Storing) := by kernel_rfl
theorem lk23 : EntOk cx lib 23 := .inl ⟨Try.f23, Try.func23, by rw [tr_words_Split]; kernel_rfl⟩
theorem at_words_Split : lib n_words_Split = some (.code pf_words_Split) := by kernel_rfl
theorem lk24 : EntOk cx lib 24 := .inl ⟨Try.f24, Try.func24, by rw [tr_depotbook_Within]; kernel_rfl⟩
theorem at_depotbook_Within : lib n_depotbook_Within = some (.code pf_depotbook_Within) := by kernel_rfl
theorem lk31 : EntOk cx lib 31 := .inl ⟨Try.f31, Try.func31, by rw [tr_words_shapeOf]; kernel_rfl⟩
theorem at_words_shapeOf : lib n_words_shapeOf = some (.code pf_words_shapeOf) := by kernel_rfl
theorem lk32 : EntOk cx lib 32 := .inl ⟨Try.f32, Try.func32, by rw [tr_words_fill]; kernel_rfl⟩
theorem at_words_fill : lib n_words_fill = some (.code pf_words_fill) := by kernel_rfl
theorem lk33 : EntOk cx lib 33 := .inl ⟨Try.f33, Try.func33, by rw [tr_depotref9_words]; kernel_rfl⟩
theorem at_depotref9_words : lib n_depotref9_words = some (.code pf_depotref9_words) := by kernel_rfl
theorem lk34 : EntOk cx lib 34 := .inl ⟨Try.f34, Try.func34, by rw [tr_depotref9_verb]; kernel_rfl⟩
theorem at_depotref9_verb : lib n_depotref9_verb = some (.code pf_depotref9_verb) := by kernel_rfl
theorem lk35 : EntOk cx lib 35 := .inl ⟨Try.f35, Try.func35, by rw [tr_depotref9_args]; kernel_rfl⟩
theorem at_depotref9_args : lib n_depotref9_args = some (.code pf_depotref9_args) := by kernel_rfl
theorem lk42 : EntOk cx lib 42 := .inl ⟨Try.f42, Try.func42, by rw [tr_words_store]; kernel_rfl⟩
theorem at_words_store : lib n_words_store = some (.code pf_words_store) := by kernel_rfl
theorem lk43 : EntOk cx lib 43 := .inl ⟨Try.f43, Try.func43, by rw [tr_words_signed]; kernel_rfl⟩
theorem at_words_signed : lib n_words_signed = some (.code pf_words_signed) := by kernel_rfl
theorem lk44 : EntOk cx lib 44 := .inl ⟨Try.f44, Try.func44, by rw [tr_depotref9_Signed]; kernel_rfl⟩
theorem at_depotref9_Signed : lib n_depotref9_Signed = some (.code pf_depotref9_Signed) := by kernel_rfl
theorem lk53 : EntOk cx lib 53 := .inl ⟨Try.f53, Try.func53, by rw [tr_strings_CutPrefix]; kernel_rfl⟩
theorem at_strings_CutPrefix : lib n_strings_CutPrefix = some (.code pf_strings_CutPrefix) := by kernel_rfl
theorem lk56 : EntOk cx lib 56 := .inl ⟨Try.f56, Try.func56, by rw [tr_internal_stringslite_HasPrefix]; kernel_rfl⟩
theorem at_internal_stringslite_HasPrefix : lib n_internal_stringslite_HasPrefix = some (.code pf_internal_stringslite_HasPrefix) := by kernel_rfl
theorem lk59 : EntOk cx lib 59 := .inl ⟨Try.f59, Try.func59, by rw [tr_internal_stringslite_CutPrefix]; kernel_rfl⟩
theorem at_internal_stringslite_CutPrefix : lib n_internal_stringslite_CutPrefix = some (.code pf_internal_stringslite_CutPrefix) := by kernel_rfl
theorem lks : AllOf (EntOk cx lib) nums := ⟨lk3, lk4, lk5, lk6, lk7, lk12, lk13, lk14, lk15, lk16, lk17, lk18, lk19, lk20, lk21, lk22, lk23, lk24, lk31, lk32, lk33, lk34, lk35, lk42, lk43, lk44, lk53, lk56, lk59, trivial⟩
theorem lib_ok : LibOk cx lib := lib_ok2 rfl lks
-- roots [3, 4, 5, 6, 7]
end Go.Proofs.Ytkjmelfgopammaa
