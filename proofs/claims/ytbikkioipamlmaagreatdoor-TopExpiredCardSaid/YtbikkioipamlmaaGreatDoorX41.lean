/-
  Laws and contracts for the statement TopExpired.
-/
import Derived.Test.YtbikkioipamlmaaGreatDoorTie
import Derived.JoinedOf
import Derived.SevenTiedAt
open Go.Proofs.Tryz (prog)
set_option linter.unusedVariables false
set_option linter.unusedSimpArgs false
set_option maxRecDepth 100000
set_option maxHeartbeats 20000000
namespace Go.Proofs.YtbikkioipamlmaaGreatDoor
open Go
theorem fY1 : (Rows.topExpiredRow.wf (OpenSpec.ofChange Rows.topExpiredSpec)) = true := by kernel_rfl
theorem fY2 : (laidOutB prog) = true := by kernel_rfl
theorem fY3 : (mapsRowed prog) = true := by kernel_rfl
theorem fY4 : (Tryz.f5.params.all (prog.readableRec ·)) = true := by kernel_rfl
theorem fY5 : (namedTie prog Rows.topExpiredRow.named Rows.topExpiredSpec.vars) = true := by kernel_rfl
theorem fY6 : ((Rows.topExpiredRow.stops == [])) = true := by kernel_rfl
theorem fY7 : ((prog.stops == [])) = true := by kernel_rfl
theorem fY8 : ((Rows.topExpiredRow.knobs == [])) = true := by kernel_rfl
theorem fY9 : ((prog.stopKnobs == [])) = true := by kernel_rfl
theorem fY10 : ((Rows.topExpiredRow.inPlace == prog.inPlace 5)) = true := by kernel_rfl
theorem fY11 : ((Rows.topExpiredRow.unfollowed == prog.unfollowed 5)) = true := by kernel_rfl
theorem fY12 : ((Rows.topExpiredRow.recurses == prog.recurses 5)) = true := by kernel_rfl
theorem fY13 : ((Rows.topExpiredRow.named == prog.varsNamed 5)) = true := by kernel_rfl
theorem fY14 : ((Rows.topExpiredRow.maps == (Tryz.f5.params.toList ++ Rows.topExpiredSpec.plain.varTypes prog).any (prog.mapsRec ·))) = true := by kernel_rfl
theorem fY15 : ((Rows.topExpiredRow.ifaces == (Tryz.f5.params.toList ++ Rows.topExpiredSpec.plain.varTypes prog).any (prog.ifacesRec ·))) = true := by kernel_rfl
theorem fY16 : ((Rows.topExpiredRow.mapsOut == prog.mapsAmong Tryz.f5.resultTypes.toList)) = true := by kernel_rfl
theorem fY17 : ((Rows.topExpiredRow.loops == (Tryz.f5.params.toList ++ Rows.topExpiredSpec.plain.varTypes prog).any (prog.loopsFrom ·))) = true := by kernel_rfl
theorem fY18 : ((Rows.topExpiredRow.wideKeys == (Tryz.f5.params.toList ++ Rows.topExpiredSpec.plain.varTypes prog ++ Tryz.f5.resultTypes.toList).any (prog.wideKeysFrom ·))) = true := by kernel_rfl
theorem fY19 : (Rows.topExpiredSpec.vars.all (prog.varReadable ·)) = true := by kernel_rfl
theorem fY20 : (Tryz.f5.resultTypes.all (fun t => prog.readableRec t && decide (t < prog.types.size))) = true := by kernel_rfl
theorem fY21 : ((Rows.topExpiredRow.ifacesOut == Tryz.f5.resultTypes.toList.any (prog.ifacesRec ·))) = true := by kernel_rfl
theorem fY22 : ((Rows.topExpiredRow.loopsOut == Tryz.f5.resultTypes.toList.any (prog.loopsFrom ·))) = true := by kernel_rfl
theorem fY23 : ((Rows.topExpiredRow.plainKeys == prog.plainKeys)) = true := by kernel_rfl
theorem fY24 : (Rows.topExpiredRow.shortTexts.isNone) = true := by kernel_rfl
theorem fY25 : (prog.stopsHeard) = true := by kernel_rfl
theorem fY26 : (prog.mayEnter) = true := by kernel_rfl
theorem fY27 : ((Rows.topExpiredRow.lifted == prog.liftsFinal)) = true := by kernel_rfl
theorem fY28 : ((prog.make == some Rows.topExpiredRow.make)) = true := by kernel_rfl
theorem fY29 : ((Rows.topExpiredRow.kinds == (if Rows.topExpiredRow.domain.isEmpty then [] else Tryz.f5.params.toList.map fun t => match prog.underlying t with | some (.int k) => some k | _ => none))) = true := by kernel_rfl
theorem fY30 : ((Rows.topExpiredRow.pinned == Rows.topExpiredRow.pinnedBy)) = true := by kernel_rfl
theorem fY31 : ((Rows.topExpiredRow.veiled == (Tryz.f5.params.toList ++ Rows.topExpiredSpec.plain.varTypes prog ++ Tryz.f5.resultTypes.toList).any (prog.veiledRec ·))) = true := by kernel_rfl
theorem fY32 : (Rows.topExpiredRow.veiledFits prog Tryz.f5.params.toList (Tryz.f5.params.toList ++ Rows.topExpiredSpec.plain.varTypes prog ++ Tryz.f5.resultTypes.toList)) = true := by kernel_rfl
theorem aM {a b : Bool} (h : a = true) (k : b = true) : (a && b) = true := by rw [h, k]; rfl
theorem factsTopExpired : joinedFacts prog 5 Tryz.f5 Rows.topExpiredSpec Rows.topExpiredRow = true := (aM (aM (aM (aM (aM (aM (aM (aM (aM (aM (aM (aM (aM (aM (aM (aM (aM (aM (aM (aM (aM (aM (aM (aM (aM (aM (aM (aM (aM (aM (aM fY1 fY2) fY3) fY4) fY5) fY6) fY7) fY8) fY9) fY10) fY11) fY12) fY13) fY14) fY15) fY16) fY17) fY18) fY19) fY20) fY21) fY22) fY23) fY24) fY25) fY26) fY27) fY28) fY29) fY30) fY31) fY32)
theorem nameTopExpired : prog.funcNamed Rows.topExpiredRow.func = some 5 := by kernel_rfl
theorem instTopExpired : Tryz.f5.isInstance prog Rows.topExpiredRow.origin Rows.topExpiredRow.targs := of_decide_eq_true (by kernel_rfl)
theorem wrapTopExpired : Tryz.f5.isWrapper prog Rows.topExpiredRow.wrapper Rows.topExpiredRow.mainSum := by unfold Func.isWrapper; first | (rw [if_pos (by decide +kernel)]; kernel_rfl) | (rw [if_neg (by decide +kernel)]; exact ⟨rfl, rfl⟩)
theorem wftTopExpired : Rows.topExpiredRow.wfByText (OpenSpec.ofChange Rows.topExpiredSpec) = true := by kernel_rfl
theorem mainTopExpired : prog.mainIs = some (true, "8f5fbeeac87b69f7df12349dc6bb13f0cb6c049d6dffd2ae6469f8140c665469".toList) := by kernel_rfl
theorem looksTopExpired : false = prog.looks [] := by kernel_rfl
theorem goesTopExpired : false = Rows.topExpiredRow.goesBy prog := by kernel_rfl
theorem standTopExpired : ([75].all fun u => !prog.wantsStandIn u) = true := by kernel_rfl
end Go.Proofs.YtbikkioipamlmaaGreatDoor
