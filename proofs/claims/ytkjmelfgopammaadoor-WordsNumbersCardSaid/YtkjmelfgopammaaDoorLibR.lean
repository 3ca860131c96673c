/- The functions that this seat's laws reach, for the clean machine; each is what the translation makes of the given text. Conditions: none. Printed by program. -/
import Derived.Test.YtkjmelfgopammaaDoorLibRA
namespace Go.Proofs.YtkjmelfgopammaaDoor.R
open Go.Dp
def tree0 : Tr LF := (.node (.node (.node (.node (.node (.node (.node .leaf (some (.code pf_words_Key)) .leaf) (some (.code pf_depotlaw12_wrong)) .leaf) (some (.code pf_words_Number)) (.node .leaf (some (.code pf_words_shapeOf)) .leaf)) none .leaf) none .leaf) none (.node (.node (.node (.node (.node .leaf (some (.code pf_words_signed)) .leaf) none .leaf) (some (.code pf_depotlaw12_WordsRuns)) .leaf) none (.node (.node (.node .leaf (some (.code pf_strings_CutPrefix)) .leaf) none .leaf) none .leaf)) none (.node .leaf none (.node (.node (.node .leaf (some (.code pf_internal_stringslite_CutPrefix)) .leaf) none .leaf) (some (.code pf_words_Line)) .leaf)))) none (.node (.node (.node (.node (.node (.node .leaf (some (.code pf_words_store)) .leaf) none .leaf) none (.node .leaf (some (.code pf_words_fill)) .leaf)) none .leaf) none (.node (.node (.node (.node .leaf (some (.code pf_internal_stringslite_HasPrefix)) .leaf) none .leaf) none .leaf) none .leaf)) none (.node .leaf none (.node (.node .leaf none (.node .leaf (some (.code pf_words_Storing)) .leaf)) none (.node (.node .leaf (some (.code pf_words_Split)) .leaf) (some (.code pf_depotbook_Same_string)) .leaf)))))
theorem bd15 : BodyOk cx 15 := ⟨Tryd.f15, Tryd.func15, by kernel_rfl, by kernel_rfl⟩
theorem bd17 : BodyOk cx 17 := ⟨Tryd.f17, Tryd.func17, by kernel_rfl, by kernel_rfl⟩
theorem bd29 : BodyOk cx 29 := ⟨Tryd.f29, Tryd.func29, by kernel_rfl, by kernel_rfl⟩
theorem bd30 : BodyOk cx 30 := ⟨Tryd.f30, Tryd.func30, by kernel_rfl, by kernel_rfl⟩
theorem bd31 : BodyOk cx 31 := ⟨Tryd.f31, Tryd.func31, by kernel_rfl, by kernel_rfl⟩
theorem bd46 : BodyOk cx 46 := ⟨Tryd.f46, Tryd.func46, by kernel_rfl, by kernel_rfl⟩
theorem bd47 : BodyOk cx 47 := ⟨Tryd.f47, Tryd.func47, by kernel_rfl, by kernel_rfl⟩
theorem bd48 : BodyOk cx 48 := ⟨Tryd.f48, Tryd.func48, by kernel_rfl, by kernel_rfl⟩
theorem bd54 : BodyOk cx 54 := ⟨Tryd.f54, Tryd.func54, by kernel_rfl, by kernel_rfl⟩
theorem bd63 : BodyOk cx 63 := ⟨Tryd.f63, Tryd.func63, by kernel_rfl, by kernel_rfl⟩
theorem bd64 : BodyOk cx 64 := ⟨Tryd.f64, Tryd.func64, by kernel_rfl, by kernel_rfl⟩
theorem bd65 : BodyOk cx 65 := ⟨Tryd.f65, Tryd.func65, by kernel_rfl, by kernel_rfl⟩
theorem bd68 : BodyOk cx 68 := ⟨Tryd.f68, Tryd.func68, by kernel_rfl, by kernel_rfl⟩
theorem bd73 : BodyOk cx 73 := ⟨Tryd.f73, Tryd.func73, by kernel_rfl, by kernel_rfl⟩
theorem bd77 : BodyOk cx 77 := ⟨Tryd.f77, Tryd.func77, by kernel_rfl, by kernel_rfl⟩
theorem bds : AllOf (BodyOk cx) nums := ⟨bd15, bd17, bd29, bd30, bd31, bd46, bd47, bd48, bd54, bd63, bd64, bd65, bd68, bd73, bd77, trivial⟩
theorem ext_ok : ExtOk cx := by
  refine ext_table (l := [(69, 2), (74, 1), (76, 3)]) rfl fun p hp => ?_
  rcases List.mem_cons.1 hp with rfl | hp
  · exact item_same Tryd.func69 (by kernel_rfl) (by kernel_rfl) (by kernel_rfl) (by kernel_rfl)
  rcases List.mem_cons.1 hp with rfl | hp
  · exact item_index Tryd.func74 (by kernel_rfl) (by kernel_rfl) (by kernel_rfl) (by kernel_rfl)
  rcases List.mem_cons.1 hp with rfl | hp
  · exact item_nozero (ps := #[3]) (t := 54) (e := 5) Tryd.func76 (by kernel_rfl) (by kernel_rfl) (by kernel_rfl) (by kernel_rfl) Tryd.underlying54 (show cx.P.info? 5 = some (cx.P.info? 5).get! from (by kernel_rfl)) (by kernel_rfl) (by kernel_rfl)
  cases hp
theorem prog_ok : ProgOk cx := ⟨by kernel_rfl, ext_ok, fm_ok2 rfl bds⟩
theorem ok15 : EntOk cx tree0.get 15 := .inl ⟨Tryd.f15, Tryd.func15, by rw [tr_words_Number]; kernel_rfl⟩
theorem ok17 : EntOk cx tree0.get 17 := .inl ⟨Tryd.f17, Tryd.func17, by rw [tr_depotlaw12_WordsRuns]; kernel_rfl⟩
theorem ok29 : EntOk cx tree0.get 29 := .inl ⟨Tryd.f29, Tryd.func29, by rw [tr_words_Line]; kernel_rfl⟩
theorem ok30 : EntOk cx tree0.get 30 := .inl ⟨Tryd.f30, Tryd.func30, by rw [tr_depotbook_Same_string]; kernel_rfl⟩
theorem ok31 : EntOk cx tree0.get 31 := .inl ⟨Tryd.f31, Tryd.func31, by rw [tr_depotlaw12_wrong]; kernel_rfl⟩
theorem ok46 : EntOk cx tree0.get 46 := .inl ⟨Tryd.f46, Tryd.func46, by rw [tr_words_Split]; kernel_rfl⟩
theorem ok47 : EntOk cx tree0.get 47 := .inl ⟨Tryd.f47, Tryd.func47, by rw [tr_words_shapeOf]; kernel_rfl⟩
theorem ok48 : EntOk cx tree0.get 48 := .inl ⟨Tryd.f48, Tryd.func48, by rw [tr_words_fill]; kernel_rfl⟩
theorem ok54 : EntOk cx tree0.get 54 := .inl ⟨Tryd.f54, Tryd.func54, by rw [tr_words_Storing]; kernel_rfl⟩
theorem ok63 : EntOk cx tree0.get 63 := .inl ⟨Tryd.f63, Tryd.func63, by rw [tr_words_Key]; kernel_rfl⟩
theorem ok64 : EntOk cx tree0.get 64 := .inl ⟨Tryd.f64, Tryd.func64, by rw [tr_words_store]; kernel_rfl⟩
theorem ok65 : EntOk cx tree0.get 65 := .inl ⟨Tryd.f65, Tryd.func65, by rw [tr_words_signed]; kernel_rfl⟩
theorem ok68 : EntOk cx tree0.get 68 := .inl ⟨Tryd.f68, Tryd.func68, by rw [tr_internal_stringslite_HasPrefix]; kernel_rfl⟩
theorem ok73 : EntOk cx tree0.get 73 := .inl ⟨Tryd.f73, Tryd.func73, by rw [tr_strings_CutPrefix]; kernel_rfl⟩
theorem ok77 : EntOk cx tree0.get 77 := .inl ⟨Tryd.f77, Tryd.func77, by rw [tr_internal_stringslite_CutPrefix]; kernel_rfl⟩
theorem oks : AllOf (EntOk cx tree0.get) nums := ⟨ok15, ok17, ok29, ok30, ok31, ok46, ok47, ok48, ok54, ok63, ok64, ok65, ok68, ok73, ok77, trivial⟩
theorem lib_ok0 : LibOk cx tree0.get := lib_ok2 rfl oks
theorem run_depotlaw12_WordsRuns : isTrue (call tree0.get 900 17 [] noHeap) = true := by decide +kernel
theorem walk_depotlaw12_WordsRuns (w : World) : Calls cx.P 17 #[] w fun e w' => e = .returned (.bool true) ∧ Go.RowKit.Below w.heap.size w w' :=
  run_closed prog_ok lib_ok0 (fun _ => rfl) (g := 17) (f := 17) rfl run_depotlaw12_WordsRuns w
-- roots [17]
end Go.Proofs.YtkjmelfgopammaaDoor.R
