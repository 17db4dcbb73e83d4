/- The row of FnExactParseShort: whatever the text, the program's ParseShort returns what the reference's returns. No condition beyond the row's own: the listed package-level variables hold what the program's text lays into them. -/
import Derived.Test.YtajjinfjfiacbaaGreatDoorZX0
import Derived.Test.YtajjinfjfiacbaaGreatDoorZT0
import Derived.Test.YtajjinfjfiacbaaGreatDoorTie
import Derived.Test.YtajjinfjfiacbaaGreatDoorCards
import Derived.SevenTiedAt
set_option linter.unusedSectionVars false
set_option linter.unusedVariables false
set_option linter.unusedSimpArgs false
set_option linter.unnecessarySimpa false
set_option linter.unusedVariables false
namespace Go.Proofs.YtajjinfjfiacbaaGreatDoor
open Go Go.Evp Go.ChangeShapes Go.WideShapes Go.ChangeAt Go.RowKit

theorem parseShort_calls (s : ByteArray) (w : World) (t : Tabs w) :
    Calls Tryz.prog 4 #[.string s] w fun e w' => e = .returned (.bool true) ∧ Below w.heap.size w w' := by
  have hc : CallOK Tryz.prog ⟨[.val], [.flat]⟩ 4 [Sg (bs s.data.toList)] [B true] := call_ok (m := 0 + 31) (by kernel_rfl) (law_ParseShort 0 s.data.toList)
  exact law_calls hc (show Globs.ok w from t) t.lt (.val (.v rfl) .nil)

set_option maxRecDepth 100000 in
theorem parseShort_lifted (os : Os) (started : os.Started) (H : Type) (enc : TypeId × Value → H) (F : Stop.Interp) :
    ReturnsInHanded {} Tryz.checked os 4 .any ((OpenSpec.ofChange Rows.fnExactParseShortSpec).preRow enc Tryz.prog Tryz.f4 [] false Rows.fnExactParseShortRow.laid)
      (((OpenSpec.ofChange Rows.fnExactParseShortSpec).at F).post enc Tryz.prog Tryz.f4 false true false false) := by
  refine returnsInHanded_of_row (C := Tryz.checked) own started (by kernel_rfl) Tryz.func4
    (ChangeSpec.witness_shaped (enc := enc) (C := Tryz.checked) (os := os) (X := fun w _ => laidMetH Tryz.prog Rows.fnExactParseShortRow.laid w) false (World.laidAll Tryz.prog os Rows.fnExactParseShortRow.laid) #[.string ⟨#[]⟩] 8 (World.laidAll_os _ _ _)
      (World.shaped_of_ZipB (by kernel_rfl) (by kernel_rfl)) (by kernel_rfl) (by kernel_rfl) (by kernel_rfl)
      (by rw [MakeChecks.laidMetH_plain _ _ _ (by kernel_rfl)]; exact laidMet_laidAll _ (by kernel_rfl) (by kernel_rfl))) ?_
  intro W base args ds gs before hval0 hW _ _ _ hL hsh _
  have hval : ∀ (j : Nat) t v, Tryz.f4.params[j]? = some t → args[j]? = some v → Value.okWide Tryz.prog W .any base t v := hval0
  have hW' := hW
  obtain ⟨p, q, hA0, hV, rfl, _, _⟩ := hW
  have hA : DataW.TrodAll enc Tryz.prog W 0 (fun _ => true) true Tryz.f4.params.toList args.toList ds p := hA0
  rw [Tryz.params4] at hA hval
  obtain ⟨v0, d0, rfl, rfl, h0⟩ := trodAll_one hA
  obtain ⟨rfl, rfl⟩ := trodVars_none hV
  obtain ⟨s, rfl⟩ := okWide_string Tryz.underlying9 (hval 0 9 v0 rfl rfl)
  have hL' : laidMet Tryz.prog Rows.fnExactParseShortRow.laid W := by
    have := hL
    rwa [MakeChecks.laidMetH_plain _ _ _ (by kernel_rfl)] at this
  have t := tabs_of_laid hL' hsh (by simp [Rows.fnExactParseShortRow]) (by simp [Rows.fnExactParseShortRow]) (by simp [Rows.fnExactParseShortRow])
  clear hA0 hval0
  simp only [List.append_nil] at hW'
  have hlt : ∀ x ∈ p, x.block < W.heap.size := fun x hx => by simpa using hW'.lt x hx
  refine (parseShort_calls s W t).mono ?_
  rintro e W' ⟨rfl, hb⟩
  refine ⟨_, rfl, _, _, _, [], p, [], hW', ?_, ?_, ?_, hb.frame _, fun h => by cases h⟩
  · exact trodAll_mk1 (shut_bool Tryz.underlying4 true)
  · exact trodAll_mk1 (Below.trod laidOut (by kernel_rfl) (of_decide_eq_true (by kernel_rfl)) h0 hb hlt)
  · rfl

theorem parseShort_holds : Rows.FnExactParseShortSaid :=
  OpenClaim.holds_of_cond 4 Tryz.f4 rfl rfl rfl rfl rfl rfl rfl ⟨rfl, rfl, rfl, rfl, rfl⟩ rfl rfl rfl rfl rfl (by kernel_rfl) Tryz.func4 (by kernel_rfl)
    (of_decide_eq_true (by kernel_rfl)) (by unfold Func.isWrapper; first | (rw [if_pos (by decide +kernel)]; kernel_rfl) | (rw [if_neg (by decide +kernel)]; exact ⟨rfl, rfl⟩))
    (fun os started H enc _ F => by rw [OpenClaim.pre_eq_preRow]; exact parseShort_lifted os started H enc F)

/-- THE CARD OF FnExactParseShort. -/
theorem parseShort_card : Rows.FnExactParseShortCardSaid :=
  Claim7.holds_tied_plain_at .later [] Rows.fnExactParseShortCard.laidKinds true Rows.fnExactParseShortCard.stood.harness true parseShort_holds (fun _ h => by cases h) (by kernel_rfl) (fun _ h => by cases h) fnExactParseShort_row_tie rfl ⟨rfl, rfl⟩ (by kernel_rfl) rfl
    (fun f fn hf hfn => by
      obtain rfl : f = 4 := Option.some.inj ((show Tryz.prog.funcNamed "loop.example/g01008/laws.FnExactParseShort" = some 4 by kernel_rfl).symm.trans hf) |>.symm
      obtain rfl : fn = Tryz.f4 := (Option.some.inj (Tryz.func4.symm.trans hfn)).symm
      exact ⟨by kernel_rfl, fun j t ht => by
        rw [Tryz.params4] at ht
        have hm : t ∈ [9] := by simpa using Array.mem_of_getElem? ht
        have hall : ([9].all fun u => !Tryz.prog.wantsStandIn u) = true := by kernel_rfl
        exact (show Tryz.prog.wantsStandIn t = false by simpa using List.all_eq_true.1 hall t hm)⟩)
    (by kernel_rfl)
#print axioms parseShort_card
end Go.Proofs.YtajjinfjfiacbaaGreatDoor
