/-
  DERIVED. GIVEN WITH THE SEED: THE CARDS: each row of YtmghibfeeibcmaaGreatDoorRows.lean that lists a variable, with what it lists TIED to the program's text (the seventh form; the later family's looks); each row that meets fmt, with fmt's text TOLD by the authors' own Lean function (tested against real Go, not proved from fmt's source: count such statements apart). THE CARD IS WHAT COUNTS. Prove the row's statement (the work); the ties are given (YtmghibfeeibcmaaGreatDoorTie.lean); close each card by the builder's one call (the guide's Derived/Test/ToyasCard.lean, 'card_holds'). Laid BY PROGRAM, IN A SANDBOX (cutbox-door.mjs). By AI agents, Wed Nov 11 2026. No macro, syntax, notation, axiom, sorry.
-/
import Derived.Test.YtmghibfeeibcmaaGreatDoorRows
import GoSem.ClaimSeven
namespace Go.Proofs.YtmghibfeeibcmaaGreatDoor
namespace Rows

/-- THE TIED CARD OF 'apostillelaw30.AuditWays'. -/
def auditWaysCard : Claim7 := { stood := { row := auditWaysRow, standIns := [], harness := (true, "b1a92ad6cbf5a1775dbc9eb9e46ca64875e5f0759380a35354d217ba2fd02306"), looks := false }, kinds := [], alts := [], laidByText := true, laidKinds := [.data, .pinned], laidTests := true, laidLooks := .later }
def AuditWaysCardSaid : Prop := Claim7.holds Tryz.pinned (.plain (OpenSpec.ofChange auditWaysSpec)) auditWaysCard

/-- THE TIED CARD OF 'apostillelaw30.AuditWhole'. -/
def auditWholeCard : Claim7 := { stood := { row := auditWholeRow, standIns := [], harness := (true, "b1a92ad6cbf5a1775dbc9eb9e46ca64875e5f0759380a35354d217ba2fd02306"), looks := false }, kinds := [], alts := [], laidByText := true, laidKinds := [.data, .pinned], laidTests := true, laidLooks := .later }
def AuditWholeCardSaid : Prop := Claim7.holds Tryz.pinned (.plain (OpenSpec.ofChange auditWholeSpec)) auditWholeCard

/-- THE TIED CARD OF 'apostillelaw30.AuditRow'. -/
def auditRowCard : Claim7 := { stood := { row := auditRowRow, standIns := [], harness := (true, "b1a92ad6cbf5a1775dbc9eb9e46ca64875e5f0759380a35354d217ba2fd02306"), looks := false }, kinds := [], alts := [], laidByText := true, laidKinds := [.data, .pinned], laidTests := true, laidLooks := .later }
def AuditRowCardSaid : Prop := Claim7.holds Tryz.pinned (.plain (OpenSpec.ofChange auditRowSpec)) auditRowCard

/-- THE SECOND FORM's CARD OF 'apostillelaw30.AuditWays'. -/
def auditWaysUptoCard : Claim7 := { stood := { row := auditWaysUptoRow, standIns := [], harness := (true, "b1a92ad6cbf5a1775dbc9eb9e46ca64875e5f0759380a35354d217ba2fd02306"), looks := false }, kinds := [], alts := [], laidByText := true, laidKinds := [.data, .pinned], laidTests := true, laidLooks := .later }
def AuditWaysUptoCardSaid : Prop := Claim7.holds Tryz.pinned (.plain (OpenSpec.upto auditWaysSpec)) auditWaysUptoCard

/-- THE SECOND FORM's CARD OF 'apostillelaw30.AuditWhole'. -/
def auditWholeUptoCard : Claim7 := { stood := { row := auditWholeUptoRow, standIns := [], harness := (true, "b1a92ad6cbf5a1775dbc9eb9e46ca64875e5f0759380a35354d217ba2fd02306"), looks := false }, kinds := [], alts := [], laidByText := true, laidKinds := [.data, .pinned], laidTests := true, laidLooks := .later }
def AuditWholeUptoCardSaid : Prop := Claim7.holds Tryz.pinned (.plain (OpenSpec.upto auditWholeSpec)) auditWholeUptoCard

/-- THE SECOND FORM's CARD OF 'apostillelaw30.AuditRow'. -/
def auditRowUptoCard : Claim7 := { stood := { row := auditRowUptoRow, standIns := [], harness := (true, "b1a92ad6cbf5a1775dbc9eb9e46ca64875e5f0759380a35354d217ba2fd02306"), looks := false }, kinds := [], alts := [], laidByText := true, laidKinds := [.data, .pinned], laidTests := true, laidLooks := .later }
def AuditRowUptoCardSaid : Prop := Claim7.holds Tryz.pinned (.plain (OpenSpec.upto auditRowSpec)) auditRowUptoCard
end Rows
end Go.Proofs.YtmghibfeeibcmaaGreatDoor
