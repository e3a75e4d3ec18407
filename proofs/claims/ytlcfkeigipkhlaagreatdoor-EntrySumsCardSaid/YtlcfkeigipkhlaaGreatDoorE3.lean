/- EntrySums: what is left of the row and of the tied card, once the call is known to come back with true: closed facts of the program. -/
import Derived.Test.YtlcfkeigipkhlaaGreatDoorRows
import Derived.Test.YtlcfkeigipkhlaaGreatDoorTie
import Derived.Test.YtlcfkeigipkhlaaGreatDoorCards
import Derived.JoinedOf
import Derived.SevenTiedAt
import Derived.ProofKit
namespace Go.Proofs.YtlcfkeigipkhlaaGreatDoor
open Go Go.Proofs Go.ChangeShapes Go.WideShapes Go.ChangeAt Go.RowKit
set_option maxRecDepth 100000
theorem and2_3 {a b : Bool} (h : a = true) (k : b = true) : (a && b) = true := by rw [h, k]; rfl
theorem jo3_0 : (Rows.entrySumsRow.wf (OpenSpec.ofChange Rows.entrySumsSpec)) = true := by kernel_rfl
theorem jo3_1 : (laidOutB Tryz.prog) = true := by kernel_rfl
theorem jo3_2 : (mapsRowed Tryz.prog) = true := by kernel_rfl
theorem jo3_3 : (Tryz.f3.params.all (Tryz.prog.readableRec ·)) = true := by kernel_rfl
theorem jo3_4 : (namedTie Tryz.prog Rows.entrySumsRow.named Rows.entrySumsSpec.vars) = true := by kernel_rfl
theorem jo3_5 : ((Rows.entrySumsRow.stops == [])) = true := by kernel_rfl
theorem jo3_6 : ((Tryz.prog.stops == [])) = true := by kernel_rfl
theorem jo3_7 : ((Rows.entrySumsRow.knobs == [])) = true := by kernel_rfl
theorem jo3_8 : ((Tryz.prog.stopKnobs == [])) = true := by kernel_rfl
theorem jo3_9 : ((Rows.entrySumsRow.inPlace == Tryz.prog.inPlace 3)) = true := by kernel_rfl
theorem jo3_10 : ((Rows.entrySumsRow.unfollowed == Tryz.prog.unfollowed 3)) = true := by kernel_rfl
theorem jo3_11 : ((Rows.entrySumsRow.recurses == Tryz.prog.recurses 3)) = true := by kernel_rfl
theorem jo3_12 : ((Rows.entrySumsRow.named == Tryz.prog.varsNamed 3)) = true := by kernel_rfl
theorem jo3_13 : ((Rows.entrySumsRow.maps == (Tryz.f3.params.toList ++ Rows.entrySumsSpec.plain.varTypes Tryz.prog).any (Tryz.prog.mapsRec ·))) = true := by kernel_rfl
theorem jo3_14 : ((Rows.entrySumsRow.ifaces == (Tryz.f3.params.toList ++ Rows.entrySumsSpec.plain.varTypes Tryz.prog).any (Tryz.prog.ifacesRec ·))) = true := by kernel_rfl
theorem jo3_15 : ((Rows.entrySumsRow.mapsOut == Tryz.prog.mapsAmong Tryz.f3.resultTypes.toList)) = true := by kernel_rfl
theorem jo3_16 : ((Rows.entrySumsRow.loops == (Tryz.f3.params.toList ++ Rows.entrySumsSpec.plain.varTypes Tryz.prog).any (Tryz.prog.loopsFrom ·))) = true := by kernel_rfl
theorem jo3_17 : ((Rows.entrySumsRow.wideKeys == (Tryz.f3.params.toList ++ Rows.entrySumsSpec.plain.varTypes Tryz.prog ++ Tryz.f3.resultTypes.toList).any (Tryz.prog.wideKeysFrom ·))) = true := by kernel_rfl
theorem jo3_18 : (Rows.entrySumsSpec.vars.all (Tryz.prog.varReadable ·)) = true := by kernel_rfl
theorem jo3_19 : (Tryz.f3.resultTypes.all (fun t => Tryz.prog.readableRec t && decide (t < Tryz.prog.types.size))) = true := by kernel_rfl
theorem jo3_20 : ((Rows.entrySumsRow.ifacesOut == Tryz.f3.resultTypes.toList.any (Tryz.prog.ifacesRec ·))) = true := by kernel_rfl
theorem jo3_21 : ((Rows.entrySumsRow.loopsOut == Tryz.f3.resultTypes.toList.any (Tryz.prog.loopsFrom ·))) = true := by kernel_rfl
theorem jo3_22 : ((Rows.entrySumsRow.plainKeys == Tryz.prog.plainKeys)) = true := by kernel_rfl
theorem jo3_23 : (Rows.entrySumsRow.shortTexts.isNone) = true := by kernel_rfl
theorem jo3_24 : (Tryz.prog.stopsHeard) = true := by kernel_rfl
theorem jo3_25 : (Tryz.prog.mayEnter) = true := by kernel_rfl
theorem jo3_26 : ((Rows.entrySumsRow.lifted == Tryz.prog.liftsFinal)) = true := by kernel_rfl
theorem jo3_27 : ((Tryz.prog.make == some Rows.entrySumsRow.make)) = true := by kernel_rfl
theorem jo3_29 : ((Rows.entrySumsRow.pinned == Rows.entrySumsRow.pinnedBy)) = true := by kernel_rfl
theorem jo3_30 : ((Rows.entrySumsRow.veiled == (Tryz.f3.params.toList ++ Rows.entrySumsSpec.plain.varTypes Tryz.prog ++ Tryz.f3.resultTypes.toList).any (Tryz.prog.veiledRec ·))) = true := by kernel_rfl
theorem jo3_31 : (Rows.entrySumsRow.veiledFits Tryz.prog Tryz.f3.params.toList (Tryz.f3.params.toList ++ Rows.entrySumsSpec.plain.varTypes Tryz.prog ++ Tryz.f3.resultTypes.toList)) = true := by kernel_rfl
theorem joined3 : joinedFacts Tryz.prog 3 Tryz.f3 Rows.entrySumsSpec Rows.entrySumsRow = true := by
  unfold joinedFacts
  exact (and2_3 (and2_3 (and2_3 (and2_3 (and2_3 (and2_3 (and2_3 (and2_3 (and2_3 (and2_3 (and2_3 (and2_3 (and2_3 (and2_3 (and2_3 (and2_3 (and2_3 (and2_3 (and2_3 (and2_3 (and2_3 (and2_3 (and2_3 (and2_3 (and2_3 (and2_3 (and2_3 (and2_3 (and2_3 (and2_3 (and2_3 jo3_0 jo3_1) jo3_2) jo3_3) jo3_4) jo3_5) jo3_6) jo3_7) jo3_8) jo3_9) jo3_10) jo3_11) jo3_12) jo3_13) jo3_14) jo3_15) jo3_16) jo3_17) jo3_18) jo3_19) jo3_20) jo3_21) jo3_22) jo3_23) jo3_24) jo3_25) jo3_26) jo3_27) (by kernel_rfl)) jo3_29) jo3_30) jo3_31)
theorem named3 : Tryz.prog.funcNamed "transposal/transposallaw09.EntrySums" = some 3 := by kernel_rfl
theorem inst3 : decide (Tryz.f3.isInstance Tryz.prog Rows.entrySumsRow.origin Rows.entrySumsRow.targs) = true := by kernel_rfl
theorem wrap3 : Tryz.f3.isWrapper Tryz.prog Rows.entrySumsRow.wrapper Rows.entrySumsRow.mainSum := by
  unfold Func.isWrapper; first | (rw [if_pos (by decide +kernel)]; kernel_rfl) | (rw [if_neg (by decide +kernel)]; exact ⟨rfl, rfl⟩)
theorem looks3 : true = Tryz.prog.looks [] := by kernel_rfl
theorem stand3 : ([22, 4].all fun u => !Tryz.prog.wantsStandIn u) = true := by kernel_rfl
theorem text3 : Rows.entrySumsRow.wfByText (OpenSpec.ofChange Rows.entrySumsSpec) = true := by kernel_rfl
theorem main3 : Tryz.prog.mainIs = some (true, "3cfce66e53e9055218cf3f84a9a8c3bb7ff1690ccaa24f4dc29b9507ede0a671".toList) := by kernel_rfl
theorem goes3 : false = Rows.entrySumsRow.goesBy Tryz.prog := by kernel_rfl
theorem entrySums_said (h : ∀ os : Os, os.Started → ∀ (T : Type) (enc : TypeId × Value → T), ReturnsInHanded Rows.entrySumsRow.assume Tryz.checked os 3 .any (Rows.entrySumsRow.pre enc Tryz.prog Tryz.f3 (OpenSpec.ofChange Rows.entrySumsSpec)) (Rows.entrySumsSpec.post enc Tryz.prog Tryz.f3 Rows.entrySumsRow.apart Rows.entrySumsRow.fresh Rows.entrySumsRow.handsOn Rows.entrySumsRow.again)) : Rows.EntrySumsSaid :=
  OpenClaim.holds_of_wide 3 Tryz.f3 rfl rfl rfl rfl rfl rfl rfl ⟨rfl, rfl, rfl, rfl, rfl⟩ rfl rfl rfl rfl rfl named3 Tryz.func3 joined3
    (of_decide_eq_true inst3) wrap3
    (fun os started T enc _ => h os started T enc)
theorem entrySums_asked (f : FuncId) (fn : Func) (hf : Tryz.prog.funcNamed "transposal/transposallaw09.EntrySums" = some f) (hfn : Tryz.prog.funcs[f]? = some fn) : true = Tryz.prog.looks [] ∧ ∀ (j : Nat) t, fn.params[j]? = some t → Tryz.prog.wantsStandIn t = false := by
  obtain rfl : f = 3 := Option.some.inj (named3.symm.trans hf) |>.symm
  obtain rfl : fn = Tryz.f3 := (Option.some.inj (Tryz.func3.symm.trans hfn)).symm
  exact ⟨looks3, fun j t ht => by
    rw [Tryz.params3] at ht
    have hm : t ∈ [22, 4] := by simpa using Array.mem_of_getElem? ht
    exact (show Tryz.prog.wantsStandIn t = false by simpa using List.all_eq_true.1 stand3 t hm)⟩
theorem entrySums_carded (h : Rows.EntrySumsSaid) : Rows.EntrySumsCardSaid :=
  Claim7.holds_tied_plain_at .later [] [.data, .data, .data, .sentinel, .sentinel, .data] true (true, "3cfce66e53e9055218cf3f84a9a8c3bb7ff1690ccaa24f4dc29b9507ede0a671") true
    h (fun _ h => by cases h) text3 (fun _ h => by cases h) entrySums_row_tie rfl ⟨rfl, rfl⟩ main3 rfl entrySums_asked goes3
end Go.Proofs.YtlcfkeigipkhlaaGreatDoor
