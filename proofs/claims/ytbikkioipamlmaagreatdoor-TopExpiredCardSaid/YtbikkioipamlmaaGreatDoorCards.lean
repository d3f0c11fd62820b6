/-
  DERIVED. GIVEN WITH THE SEED: THE CARDS: each row of YtbikkioipamlmaaGreatDoorRows.lean that lists a variable, with what it lists TIED to the program's text (the seventh form; the later family's looks); each row that meets fmt, with fmt's text TOLD by the authors' own Lean function (tested against real Go, not proved from fmt's source: count such statements apart). THE CARD IS WHAT COUNTS. Prove the row's statement (the work); the ties are given (YtbikkioipamlmaaGreatDoorTie.lean); close each card by the builder's one call (the guide's Derived/Test/ToyasCard.lean, 'card_holds'). Laid BY PROGRAM, IN A SANDBOX (cutbox-door.mjs). By AI agents, Wed Nov 11 2026. No macro, syntax, notation, axiom, sorry.
-/
import Derived.Test.YtbikkioipamlmaaGreatDoorRows
import GoSem.ClaimSeven
namespace Go.Proofs.YtbikkioipamlmaaGreatDoor
namespace Rows

/-- THE TIED CARD OF 'flashcachetop.TopGrow'. -/
def topGrowCard : Claim7 := { stood := { row := topGrowRow, standIns := [], harness := (true, "8f5fbeeac87b69f7df12349dc6bb13f0cb6c049d6dffd2ae6469f8140c665469"), looks := false }, kinds := [], alts := [], laidByText := true, laidKinds := [.data], laidTests := true, laidLooks := .later }
def TopGrowCardSaid : Prop := Claim7.holds Tryz.pinned (.plain (OpenSpec.ofChange topGrowSpec)) topGrowCard

/-- THE TIED CARD OF 'flashcachetop.TopUpgraded'. -/
def topUpgradedCard : Claim7 := { stood := { row := topUpgradedRow, standIns := [], harness := (true, "8f5fbeeac87b69f7df12349dc6bb13f0cb6c049d6dffd2ae6469f8140c665469"), looks := false }, kinds := [], alts := [], laidByText := true, laidKinds := [.data], laidTests := true, laidLooks := .later }
def TopUpgradedCardSaid : Prop := Claim7.holds Tryz.pinned (.plain (OpenSpec.ofChange topUpgradedSpec)) topUpgradedCard

/-- THE TIED CARD OF 'flashcachetop.TopExpired'. -/
def topExpiredCard : Claim7 := { stood := { row := topExpiredRow, standIns := [], harness := (true, "8f5fbeeac87b69f7df12349dc6bb13f0cb6c049d6dffd2ae6469f8140c665469"), looks := false }, kinds := [], alts := [], laidByText := true, laidKinds := [.data], laidTests := true, laidLooks := .later }
def TopExpiredCardSaid : Prop := Claim7.holds Tryz.pinned (.plain (OpenSpec.ofChange topExpiredSpec)) topExpiredCard

/-- THE TIED CARD OF 'flashcachetop.TopProgress'. -/
def topProgressCard : Claim7 := { stood := { row := topProgressRow, standIns := [], harness := (true, "8f5fbeeac87b69f7df12349dc6bb13f0cb6c049d6dffd2ae6469f8140c665469"), looks := false }, kinds := [], alts := [], laidByText := true, laidKinds := [.data], laidTests := true, laidLooks := .later }
def TopProgressCardSaid : Prop := Claim7.holds Tryz.pinned (.plain (OpenSpec.ofChange topProgressSpec)) topProgressCard

/-- THE TIED CARD OF 'flashcachetop.TopSeqs'. -/
def topSeqsCard : Claim7 := { stood := { row := topSeqsRow, standIns := [], harness := (true, "8f5fbeeac87b69f7df12349dc6bb13f0cb6c049d6dffd2ae6469f8140c665469"), looks := false }, kinds := [], alts := [], laidByText := true, laidKinds := [.data], laidTests := true, laidLooks := .later }
def TopSeqsCardSaid : Prop := Claim7.holds Tryz.pinned (.plain (OpenSpec.ofChange topSeqsSpec)) topSeqsCard

/-- THE SECOND FORM's CARD OF 'flashcachetop.TopGrow'. -/
def topGrowUptoCard : Claim7 := { stood := { row := topGrowUptoRow, standIns := [], harness := (true, "8f5fbeeac87b69f7df12349dc6bb13f0cb6c049d6dffd2ae6469f8140c665469"), looks := false }, kinds := [], alts := [], laidByText := true, laidKinds := [.data], laidTests := true, laidLooks := .later }
def TopGrowUptoCardSaid : Prop := Claim7.holds Tryz.pinned (.plain (OpenSpec.upto topGrowSpec)) topGrowUptoCard

/-- THE SECOND FORM's CARD OF 'flashcachetop.TopUpgraded'. -/
def topUpgradedUptoCard : Claim7 := { stood := { row := topUpgradedUptoRow, standIns := [], harness := (true, "8f5fbeeac87b69f7df12349dc6bb13f0cb6c049d6dffd2ae6469f8140c665469"), looks := false }, kinds := [], alts := [], laidByText := true, laidKinds := [.data], laidTests := true, laidLooks := .later }
def TopUpgradedUptoCardSaid : Prop := Claim7.holds Tryz.pinned (.plain (OpenSpec.upto topUpgradedSpec)) topUpgradedUptoCard

/-- THE SECOND FORM's CARD OF 'flashcachetop.TopExpired'. -/
def topExpiredUptoCard : Claim7 := { stood := { row := topExpiredUptoRow, standIns := [], harness := (true, "8f5fbeeac87b69f7df12349dc6bb13f0cb6c049d6dffd2ae6469f8140c665469"), looks := false }, kinds := [], alts := [], laidByText := true, laidKinds := [.data], laidTests := true, laidLooks := .later }
def TopExpiredUptoCardSaid : Prop := Claim7.holds Tryz.pinned (.plain (OpenSpec.upto topExpiredSpec)) topExpiredUptoCard

/-- THE SECOND FORM's CARD OF 'flashcachetop.TopProgress'. -/
def topProgressUptoCard : Claim7 := { stood := { row := topProgressUptoRow, standIns := [], harness := (true, "8f5fbeeac87b69f7df12349dc6bb13f0cb6c049d6dffd2ae6469f8140c665469"), looks := false }, kinds := [], alts := [], laidByText := true, laidKinds := [.data], laidTests := true, laidLooks := .later }
def TopProgressUptoCardSaid : Prop := Claim7.holds Tryz.pinned (.plain (OpenSpec.upto topProgressSpec)) topProgressUptoCard

/-- THE SECOND FORM's CARD OF 'flashcachetop.TopSeqs'. -/
def topSeqsUptoCard : Claim7 := { stood := { row := topSeqsUptoRow, standIns := [], harness := (true, "8f5fbeeac87b69f7df12349dc6bb13f0cb6c049d6dffd2ae6469f8140c665469"), looks := false }, kinds := [], alts := [], laidByText := true, laidKinds := [.data], laidTests := true, laidLooks := .later }
def TopSeqsUptoCardSaid : Prop := Claim7.holds Tryz.pinned (.plain (OpenSpec.upto topSeqsSpec)) topSeqsUptoCard
end Rows
end Go.Proofs.YtbikkioipamlmaaGreatDoor
