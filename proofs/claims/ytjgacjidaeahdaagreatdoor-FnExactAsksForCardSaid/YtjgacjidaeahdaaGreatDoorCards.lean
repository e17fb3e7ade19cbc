/-
  DERIVED. GIVEN WITH THE SEED: THE CARDS: each row of YtjgacjidaeahdaaGreatDoorRows.lean that lists a variable, with what it lists TIED to the program's text (the seventh form; the later family's looks); each row that meets fmt, with fmt's text TOLD by the authors' own Lean function (tested against real Go, not proved from fmt's source: count such statements apart). THE CARD IS WHAT COUNTS. Prove the row's statement (the work); the ties are given (YtjgacjidaeahdaaGreatDoorTie.lean); close each card by the builder's one call (the guide's Derived/Test/ToyasCard.lean, 'card_holds'). Laid BY PROGRAM, IN A SANDBOX (cutbox-door.mjs). By AI agents, Wed Nov 11 2026. No macro, syntax, notation, axiom, sorry.
-/
import Derived.Test.YtjgacjidaeahdaaGreatDoorRows
import GoSem.ClaimSeven
namespace Go.Proofs.YtjgacjidaeahdaaGreatDoor
namespace Rows

/-- THE TIED CARD OF 'laws.FnExactStateOk'. -/
def fnExactStateOkCard : Claim7 := { stood := { row := fnExactStateOkRow, standIns := [], harness := (true, "08d4d13bd9da8fb1e6c8b9b3740c327acab1fb3c7b9209bf41c04072cf5bbc16"), looks := true }, kinds := [], alts := [], laidByText := true, laidKinds := [.data, .data, .data, .sentinel, .sentinel], laidTests := true, laidLooks := .later }
def FnExactStateOkCardSaid : Prop := Claim7.holds Tryz.pinned (.plain (OpenSpec.ofChange fnExactStateOkSpec)) fnExactStateOkCard

/-- THE TIED CARD OF 'laws.FnExactTurn'. -/
def fnExactTurnCard : Claim7 := { stood := { row := fnExactTurnRow, standIns := [], harness := (true, "08d4d13bd9da8fb1e6c8b9b3740c327acab1fb3c7b9209bf41c04072cf5bbc16"), looks := true }, kinds := [], alts := [], laidByText := true, laidKinds := [.data, .data, .data, .sentinel, .sentinel], laidTests := true, laidLooks := .later }
def FnExactTurnCardSaid : Prop := Claim7.holds Tryz.pinned (.plain (OpenSpec.ofChange fnExactTurnSpec)) fnExactTurnCard

/-- THE TIED CARD OF 'laws.FnExactShowRound'. -/
def fnExactShowRoundCard : Claim7 := { stood := { row := fnExactShowRoundRow, standIns := [], harness := (true, "08d4d13bd9da8fb1e6c8b9b3740c327acab1fb3c7b9209bf41c04072cf5bbc16"), looks := true }, kinds := [], alts := [], laidByText := true, laidKinds := [.data, .data, .data, .sentinel, .sentinel], laidTests := true, laidLooks := .later }
def FnExactShowRoundCardSaid : Prop := Claim7.holds Tryz.pinned (.plain (OpenSpec.ofChange fnExactShowRoundSpec)) fnExactShowRoundCard

/-- THE TIED CARD OF 'laws.FnExactWhoWith'. -/
def fnExactWhoWithCard : Claim7 := { stood := { row := fnExactWhoWithRow, standIns := [], harness := (true, "08d4d13bd9da8fb1e6c8b9b3740c327acab1fb3c7b9209bf41c04072cf5bbc16"), looks := true }, kinds := [], alts := [], laidByText := true, laidKinds := [.data, .data, .data, .sentinel, .sentinel], laidTests := true, laidLooks := .later }
def FnExactWhoWithCardSaid : Prop := Claim7.holds Tryz.pinned (.plain (OpenSpec.ofChange fnExactWhoWithSpec)) fnExactWhoWithCard

/-- THE TIED CARD OF 'laws.FnExactActive'. -/
def fnExactActiveCard : Claim7 := { stood := { row := fnExactActiveRow, standIns := [], harness := (true, "08d4d13bd9da8fb1e6c8b9b3740c327acab1fb3c7b9209bf41c04072cf5bbc16"), looks := true }, kinds := [], alts := [], laidByText := true, laidKinds := [.data, .data, .data, .sentinel, .sentinel], laidTests := true, laidLooks := .later }
def FnExactActiveCardSaid : Prop := Claim7.holds Tryz.pinned (.plain (OpenSpec.ofChange fnExactActiveSpec)) fnExactActiveCard

/-- THE TIED CARD OF 'laws.FnExactIds'. -/
def fnExactIdsCard : Claim7 := { stood := { row := fnExactIdsRow, standIns := [], harness := (true, "08d4d13bd9da8fb1e6c8b9b3740c327acab1fb3c7b9209bf41c04072cf5bbc16"), looks := true }, kinds := [], alts := [], laidByText := true, laidKinds := [.data, .data, .data, .sentinel, .sentinel], laidTests := true, laidLooks := .later }
def FnExactIdsCardSaid : Prop := Claim7.holds Tryz.pinned (.plain (OpenSpec.ofChange fnExactIdsSpec)) fnExactIdsCard

/-- THE TIED CARD OF 'laws.FnExactCouplesOf'. -/
def fnExactCouplesOfCard : Claim7 := { stood := { row := fnExactCouplesOfRow, standIns := [], harness := (true, "08d4d13bd9da8fb1e6c8b9b3740c327acab1fb3c7b9209bf41c04072cf5bbc16"), looks := true }, kinds := [], alts := [], laidByText := true, laidKinds := [.data, .data, .data, .sentinel, .sentinel], laidTests := true, laidLooks := .later }
def FnExactCouplesOfCardSaid : Prop := Claim7.holds Tryz.pinned (.plain (OpenSpec.ofChange fnExactCouplesOfSpec)) fnExactCouplesOfCard

/-- THE TIED CARD OF 'laws.FnExactTotals'. -/
def fnExactTotalsCard : Claim7 := { stood := { row := fnExactTotalsRow, standIns := [], harness := (true, "08d4d13bd9da8fb1e6c8b9b3740c327acab1fb3c7b9209bf41c04072cf5bbc16"), looks := true }, kinds := [], alts := [], laidByText := true, laidKinds := [.data, .data, .data, .sentinel, .sentinel], laidTests := true, laidLooks := .later }
def FnExactTotalsCardSaid : Prop := Claim7.holds Tryz.pinned (.plain (OpenSpec.ofChange fnExactTotalsSpec)) fnExactTotalsCard

/-- THE TIED CARD OF 'laws.FnExactAsksFor'. -/
def fnExactAsksForCard : Claim7 := { stood := { row := fnExactAsksForRow, standIns := [], harness := (true, "08d4d13bd9da8fb1e6c8b9b3740c327acab1fb3c7b9209bf41c04072cf5bbc16"), looks := true }, kinds := [], alts := [], laidByText := true, laidKinds := [.data, .data, .data, .sentinel, .sentinel], laidTests := true, laidLooks := .later }
def FnExactAsksForCardSaid : Prop := Claim7.holds Tryz.pinned (.plain (OpenSpec.ofChange fnExactAsksForSpec)) fnExactAsksForCard

/-- THE TIED CARD OF 'laws.FnExactPoolOf'. -/
def fnExactPoolOfCard : Claim7 := { stood := { row := fnExactPoolOfRow, standIns := [], harness := (true, "08d4d13bd9da8fb1e6c8b9b3740c327acab1fb3c7b9209bf41c04072cf5bbc16"), looks := true }, kinds := [], alts := [], laidByText := true, laidKinds := [.data, .data, .data, .sentinel, .sentinel], laidTests := true, laidLooks := .later }
def FnExactPoolOfCardSaid : Prop := Claim7.holds Tryz.pinned (.plain (OpenSpec.ofChange fnExactPoolOfSpec)) fnExactPoolOfCard

/-- THE TIED CARD OF 'laws.FnExactAudited'. -/
def fnExactAuditedCard : Claim7 := { stood := { row := fnExactAuditedRow, standIns := [], harness := (true, "08d4d13bd9da8fb1e6c8b9b3740c327acab1fb3c7b9209bf41c04072cf5bbc16"), looks := true }, kinds := [], alts := [], laidByText := true, laidKinds := [.data, .data, .data, .sentinel, .sentinel], laidTests := true, laidLooks := .later }
def FnExactAuditedCardSaid : Prop := Claim7.holds Tryz.pinned (.plain (OpenSpec.ofChange fnExactAuditedSpec)) fnExactAuditedCard

/-- THE TIED CARD OF 'laws.FnExactRoundOf'. -/
def fnExactRoundOfCard : Claim7 := { stood := { row := fnExactRoundOfRow, standIns := [], harness := (true, "08d4d13bd9da8fb1e6c8b9b3740c327acab1fb3c7b9209bf41c04072cf5bbc16"), looks := true }, kinds := [], alts := [], laidByText := true, laidKinds := [.data, .data, .data, .sentinel, .sentinel], laidTests := true, laidLooks := .later }
def FnExactRoundOfCardSaid : Prop := Claim7.holds Tryz.pinned (.plain (OpenSpec.ofChange fnExactRoundOfSpec)) fnExactRoundOfCard

/-- THE SECOND FORM's CARD OF 'laws.FnExactStateOk'. -/
def fnExactStateOkUptoCard : Claim7 := { stood := { row := fnExactStateOkUptoRow, standIns := [], harness := (true, "08d4d13bd9da8fb1e6c8b9b3740c327acab1fb3c7b9209bf41c04072cf5bbc16"), looks := true }, kinds := [], alts := [], laidByText := true, laidKinds := [.data, .data, .data, .sentinel, .sentinel], laidTests := true, laidLooks := .later }
def FnExactStateOkUptoCardSaid : Prop := Claim7.holds Tryz.pinned (.plain (OpenSpec.upto fnExactStateOkSpec)) fnExactStateOkUptoCard

/-- THE SECOND FORM's CARD OF 'laws.FnExactTurn'. -/
def fnExactTurnUptoCard : Claim7 := { stood := { row := fnExactTurnUptoRow, standIns := [], harness := (true, "08d4d13bd9da8fb1e6c8b9b3740c327acab1fb3c7b9209bf41c04072cf5bbc16"), looks := true }, kinds := [], alts := [], laidByText := true, laidKinds := [.data, .data, .data, .sentinel, .sentinel], laidTests := true, laidLooks := .later }
def FnExactTurnUptoCardSaid : Prop := Claim7.holds Tryz.pinned (.plain (OpenSpec.upto fnExactTurnSpec)) fnExactTurnUptoCard

/-- THE SECOND FORM's CARD OF 'laws.FnExactShowRound'. -/
def fnExactShowRoundUptoCard : Claim7 := { stood := { row := fnExactShowRoundUptoRow, standIns := [], harness := (true, "08d4d13bd9da8fb1e6c8b9b3740c327acab1fb3c7b9209bf41c04072cf5bbc16"), looks := true }, kinds := [], alts := [], laidByText := true, laidKinds := [.data, .data, .data, .sentinel, .sentinel], laidTests := true, laidLooks := .later }
def FnExactShowRoundUptoCardSaid : Prop := Claim7.holds Tryz.pinned (.plain (OpenSpec.upto fnExactShowRoundSpec)) fnExactShowRoundUptoCard

/-- THE SECOND FORM's CARD OF 'laws.FnExactWhoWith'. -/
def fnExactWhoWithUptoCard : Claim7 := { stood := { row := fnExactWhoWithUptoRow, standIns := [], harness := (true, "08d4d13bd9da8fb1e6c8b9b3740c327acab1fb3c7b9209bf41c04072cf5bbc16"), looks := true }, kinds := [], alts := [], laidByText := true, laidKinds := [.data, .data, .data, .sentinel, .sentinel], laidTests := true, laidLooks := .later }
def FnExactWhoWithUptoCardSaid : Prop := Claim7.holds Tryz.pinned (.plain (OpenSpec.upto fnExactWhoWithSpec)) fnExactWhoWithUptoCard

/-- THE SECOND FORM's CARD OF 'laws.FnExactActive'. -/
def fnExactActiveUptoCard : Claim7 := { stood := { row := fnExactActiveUptoRow, standIns := [], harness := (true, "08d4d13bd9da8fb1e6c8b9b3740c327acab1fb3c7b9209bf41c04072cf5bbc16"), looks := true }, kinds := [], alts := [], laidByText := true, laidKinds := [.data, .data, .data, .sentinel, .sentinel], laidTests := true, laidLooks := .later }
def FnExactActiveUptoCardSaid : Prop := Claim7.holds Tryz.pinned (.plain (OpenSpec.upto fnExactActiveSpec)) fnExactActiveUptoCard

/-- THE SECOND FORM's CARD OF 'laws.FnExactIds'. -/
def fnExactIdsUptoCard : Claim7 := { stood := { row := fnExactIdsUptoRow, standIns := [], harness := (true, "08d4d13bd9da8fb1e6c8b9b3740c327acab1fb3c7b9209bf41c04072cf5bbc16"), looks := true }, kinds := [], alts := [], laidByText := true, laidKinds := [.data, .data, .data, .sentinel, .sentinel], laidTests := true, laidLooks := .later }
def FnExactIdsUptoCardSaid : Prop := Claim7.holds Tryz.pinned (.plain (OpenSpec.upto fnExactIdsSpec)) fnExactIdsUptoCard

/-- THE SECOND FORM's CARD OF 'laws.FnExactCouplesOf'. -/
def fnExactCouplesOfUptoCard : Claim7 := { stood := { row := fnExactCouplesOfUptoRow, standIns := [], harness := (true, "08d4d13bd9da8fb1e6c8b9b3740c327acab1fb3c7b9209bf41c04072cf5bbc16"), looks := true }, kinds := [], alts := [], laidByText := true, laidKinds := [.data, .data, .data, .sentinel, .sentinel], laidTests := true, laidLooks := .later }
def FnExactCouplesOfUptoCardSaid : Prop := Claim7.holds Tryz.pinned (.plain (OpenSpec.upto fnExactCouplesOfSpec)) fnExactCouplesOfUptoCard

/-- THE SECOND FORM's CARD OF 'laws.FnExactTotals'. -/
def fnExactTotalsUptoCard : Claim7 := { stood := { row := fnExactTotalsUptoRow, standIns := [], harness := (true, "08d4d13bd9da8fb1e6c8b9b3740c327acab1fb3c7b9209bf41c04072cf5bbc16"), looks := true }, kinds := [], alts := [], laidByText := true, laidKinds := [.data, .data, .data, .sentinel, .sentinel], laidTests := true, laidLooks := .later }
def FnExactTotalsUptoCardSaid : Prop := Claim7.holds Tryz.pinned (.plain (OpenSpec.upto fnExactTotalsSpec)) fnExactTotalsUptoCard

/-- THE SECOND FORM's CARD OF 'laws.FnExactAsksFor'. -/
def fnExactAsksForUptoCard : Claim7 := { stood := { row := fnExactAsksForUptoRow, standIns := [], harness := (true, "08d4d13bd9da8fb1e6c8b9b3740c327acab1fb3c7b9209bf41c04072cf5bbc16"), looks := true }, kinds := [], alts := [], laidByText := true, laidKinds := [.data, .data, .data, .sentinel, .sentinel], laidTests := true, laidLooks := .later }
def FnExactAsksForUptoCardSaid : Prop := Claim7.holds Tryz.pinned (.plain (OpenSpec.upto fnExactAsksForSpec)) fnExactAsksForUptoCard

/-- THE SECOND FORM's CARD OF 'laws.FnExactPoolOf'. -/
def fnExactPoolOfUptoCard : Claim7 := { stood := { row := fnExactPoolOfUptoRow, standIns := [], harness := (true, "08d4d13bd9da8fb1e6c8b9b3740c327acab1fb3c7b9209bf41c04072cf5bbc16"), looks := true }, kinds := [], alts := [], laidByText := true, laidKinds := [.data, .data, .data, .sentinel, .sentinel], laidTests := true, laidLooks := .later }
def FnExactPoolOfUptoCardSaid : Prop := Claim7.holds Tryz.pinned (.plain (OpenSpec.upto fnExactPoolOfSpec)) fnExactPoolOfUptoCard

/-- THE SECOND FORM's CARD OF 'laws.FnExactAudited'. -/
def fnExactAuditedUptoCard : Claim7 := { stood := { row := fnExactAuditedUptoRow, standIns := [], harness := (true, "08d4d13bd9da8fb1e6c8b9b3740c327acab1fb3c7b9209bf41c04072cf5bbc16"), looks := true }, kinds := [], alts := [], laidByText := true, laidKinds := [.data, .data, .data, .sentinel, .sentinel], laidTests := true, laidLooks := .later }
def FnExactAuditedUptoCardSaid : Prop := Claim7.holds Tryz.pinned (.plain (OpenSpec.upto fnExactAuditedSpec)) fnExactAuditedUptoCard

/-- THE SECOND FORM's CARD OF 'laws.FnExactRoundOf'. -/
def fnExactRoundOfUptoCard : Claim7 := { stood := { row := fnExactRoundOfUptoRow, standIns := [], harness := (true, "08d4d13bd9da8fb1e6c8b9b3740c327acab1fb3c7b9209bf41c04072cf5bbc16"), looks := true }, kinds := [], alts := [], laidByText := true, laidKinds := [.data, .data, .data, .sentinel, .sentinel], laidTests := true, laidLooks := .later }
def FnExactRoundOfUptoCardSaid : Prop := Claim7.holds Tryz.pinned (.plain (OpenSpec.upto fnExactRoundOfSpec)) fnExactRoundOfUptoCard
end Rows
end Go.Proofs.YtjgacjidaeahdaaGreatDoor
