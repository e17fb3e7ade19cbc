/-
  DERIVED. GIVEN WITH THE SEED: THE CARDS: each row of YtgmljppiiighmaaGreatDoorRows.lean that lists a variable, with what it lists TIED to the program's text (the seventh form; the later family's looks); each row that meets fmt, with fmt's text TOLD by the authors' own Lean function (tested against real Go, not proved from fmt's source: count such statements apart). THE CARD IS WHAT COUNTS. Prove the row's statement (the work); the ties are given (YtgmljppiiighmaaGreatDoorTie.lean); close each card by the builder's one call (the guide's Derived/Test/ToyasCard.lean, 'card_holds'). Laid BY PROGRAM, IN A SANDBOX (cutbox-door.mjs). By AI agents, Wed Nov 11 2026. No macro, syntax, notation, axiom, sorry.
-/
import Derived.Test.YtgmljppiiighmaaGreatDoorRows
import GoSem.ClaimSeven
namespace Go.Proofs.YtgmljppiiighmaaGreatDoor
namespace Rows

/-- THE TIED CARD OF 'laws.FnExactShowRound'. -/
def fnExactShowRoundCard : Claim7 := { stood := { row := fnExactShowRoundRow, standIns := [], harness := (true, "877b525deb360c29a8466a12d7e617f1cb2fb2ef1bd18d5f7237d30fcfaba503"), looks := true }, kinds := [], alts := [], laidByText := true, laidKinds := [.data, .data, .data, .sentinel, .sentinel], laidTests := true, laidLooks := .later }
def FnExactShowRoundCardSaid : Prop := Claim7.holds Tryz.pinned (.plain (OpenSpec.ofChange fnExactShowRoundSpec)) fnExactShowRoundCard

/-- THE TIED CARD OF 'laws.FnExactWhoWith'. -/
def fnExactWhoWithCard : Claim7 := { stood := { row := fnExactWhoWithRow, standIns := [], harness := (true, "877b525deb360c29a8466a12d7e617f1cb2fb2ef1bd18d5f7237d30fcfaba503"), looks := true }, kinds := [], alts := [], laidByText := true, laidKinds := [.data, .data, .data, .sentinel, .sentinel], laidTests := true, laidLooks := .later }
def FnExactWhoWithCardSaid : Prop := Claim7.holds Tryz.pinned (.plain (OpenSpec.ofChange fnExactWhoWithSpec)) fnExactWhoWithCard

/-- THE TIED CARD OF 'laws.FnExactStateText'. -/
def fnExactStateTextCard : Claim7 := { stood := { row := fnExactStateTextRow, standIns := [], harness := (true, "877b525deb360c29a8466a12d7e617f1cb2fb2ef1bd18d5f7237d30fcfaba503"), looks := true }, kinds := [], alts := [], laidByText := true, laidKinds := [.data, .data, .data, .sentinel, .sentinel], laidTests := true, laidLooks := .later }
def FnExactStateTextCardSaid : Prop := Claim7.holds Tryz.pinned (.plain (OpenSpec.ofChange fnExactStateTextSpec)) fnExactStateTextCard

/-- THE TIED CARD OF 'laws.FnExactReadState'. -/
def fnExactReadStateCard : Claim7 := { stood := { row := fnExactReadStateRow, standIns := [], harness := (true, "877b525deb360c29a8466a12d7e617f1cb2fb2ef1bd18d5f7237d30fcfaba503"), looks := true }, kinds := [], alts := [], laidByText := true, laidKinds := [.data, .data, .data, .sentinel, .sentinel], laidTests := true, laidLooks := .later }
def FnExactReadStateCardSaid : Prop := Claim7.holds Tryz.pinned (.plain (OpenSpec.ofChange fnExactReadStateSpec)) fnExactReadStateCard

/-- THE TIED CARD OF 'laws.FnExactAudited'. -/
def fnExactAuditedCard : Claim7 := { stood := { row := fnExactAuditedRow, standIns := [], harness := (true, "877b525deb360c29a8466a12d7e617f1cb2fb2ef1bd18d5f7237d30fcfaba503"), looks := true }, kinds := [], alts := [], laidByText := true, laidKinds := [.data, .data, .data, .sentinel, .sentinel], laidTests := true, laidLooks := .later }
def FnExactAuditedCardSaid : Prop := Claim7.holds Tryz.pinned (.plain (OpenSpec.ofChange fnExactAuditedSpec)) fnExactAuditedCard

/-- THE SECOND FORM's CARD OF 'laws.FnExactShowRound'. -/
def fnExactShowRoundUptoCard : Claim7 := { stood := { row := fnExactShowRoundUptoRow, standIns := [], harness := (true, "877b525deb360c29a8466a12d7e617f1cb2fb2ef1bd18d5f7237d30fcfaba503"), looks := true }, kinds := [], alts := [], laidByText := true, laidKinds := [.data, .data, .data, .sentinel, .sentinel], laidTests := true, laidLooks := .later }
def FnExactShowRoundUptoCardSaid : Prop := Claim7.holds Tryz.pinned (.plain (OpenSpec.upto fnExactShowRoundSpec)) fnExactShowRoundUptoCard

/-- THE SECOND FORM's CARD OF 'laws.FnExactWhoWith'. -/
def fnExactWhoWithUptoCard : Claim7 := { stood := { row := fnExactWhoWithUptoRow, standIns := [], harness := (true, "877b525deb360c29a8466a12d7e617f1cb2fb2ef1bd18d5f7237d30fcfaba503"), looks := true }, kinds := [], alts := [], laidByText := true, laidKinds := [.data, .data, .data, .sentinel, .sentinel], laidTests := true, laidLooks := .later }
def FnExactWhoWithUptoCardSaid : Prop := Claim7.holds Tryz.pinned (.plain (OpenSpec.upto fnExactWhoWithSpec)) fnExactWhoWithUptoCard

/-- THE SECOND FORM's CARD OF 'laws.FnExactStateText'. -/
def fnExactStateTextUptoCard : Claim7 := { stood := { row := fnExactStateTextUptoRow, standIns := [], harness := (true, "877b525deb360c29a8466a12d7e617f1cb2fb2ef1bd18d5f7237d30fcfaba503"), looks := true }, kinds := [], alts := [], laidByText := true, laidKinds := [.data, .data, .data, .sentinel, .sentinel], laidTests := true, laidLooks := .later }
def FnExactStateTextUptoCardSaid : Prop := Claim7.holds Tryz.pinned (.plain (OpenSpec.upto fnExactStateTextSpec)) fnExactStateTextUptoCard

/-- THE SECOND FORM's CARD OF 'laws.FnExactReadState'. -/
def fnExactReadStateUptoCard : Claim7 := { stood := { row := fnExactReadStateUptoRow, standIns := [], harness := (true, "877b525deb360c29a8466a12d7e617f1cb2fb2ef1bd18d5f7237d30fcfaba503"), looks := true }, kinds := [], alts := [], laidByText := true, laidKinds := [.data, .data, .data, .sentinel, .sentinel], laidTests := true, laidLooks := .later }
def FnExactReadStateUptoCardSaid : Prop := Claim7.holds Tryz.pinned (.plain (OpenSpec.upto fnExactReadStateSpec)) fnExactReadStateUptoCard

/-- THE SECOND FORM's CARD OF 'laws.FnExactAudited'. -/
def fnExactAuditedUptoCard : Claim7 := { stood := { row := fnExactAuditedUptoRow, standIns := [], harness := (true, "877b525deb360c29a8466a12d7e617f1cb2fb2ef1bd18d5f7237d30fcfaba503"), looks := true }, kinds := [], alts := [], laidByText := true, laidKinds := [.data, .data, .data, .sentinel, .sentinel], laidTests := true, laidLooks := .later }
def FnExactAuditedUptoCardSaid : Prop := Claim7.holds Tryz.pinned (.plain (OpenSpec.upto fnExactAuditedSpec)) fnExactAuditedUptoCard
end Rows
end Go.Proofs.YtgmljppiiighmaaGreatDoor
