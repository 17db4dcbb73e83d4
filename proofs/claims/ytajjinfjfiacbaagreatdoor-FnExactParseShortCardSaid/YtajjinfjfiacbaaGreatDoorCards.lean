/-
  DERIVED. GIVEN WITH THE SEED: THE CARDS: each row of YtajjinfjfiacbaaGreatDoorRows.lean that lists a variable, with what it lists TIED to the program's text (the seventh form; the later family's looks); each row that meets fmt, with fmt's text TOLD by the authors' own Lean function (tested against real Go, not proved from fmt's source: count such statements apart). THE CARD IS WHAT COUNTS. Prove the row's statement (the work); the ties are given (YtajjinfjfiacbaaGreatDoorTie.lean); close each card by the builder's one call (the guide's Derived/Test/ToyasCard.lean, 'card_holds'). Laid BY PROGRAM, IN A SANDBOX (cutbox-door.mjs). By AI agents, Wed Nov 11 2026. No macro, syntax, notation, axiom, sorry.
-/
import Derived.Test.YtajjinfjfiacbaaGreatDoorRows
import GoSem.ClaimSeven
namespace Go.Proofs.YtajjinfjfiacbaaGreatDoor
namespace Rows

/-- THE TIED CARD OF 'laws.FnExactImportSign'. -/
def fnExactImportSignCard : Claim7 := { stood := { row := fnExactImportSignRow, standIns := [], harness := (true, "ec4d39a64986c9e04b2bc7b49b48f81a3bcc87b7601fa6ef971a88da3604f075"), looks := true }, kinds := [], alts := [], laidByText := true, laidKinds := [.data, .data, .data, .data, .sentinel, .sentinel, .pinned], laidTests := true, laidLooks := .later }
def FnExactImportSignCardSaid : Prop := Claim7.holds Tryz.pinned (.plain (OpenSpec.ofChange fnExactImportSignSpec)) fnExactImportSignCard

/-- THE TIED CARD OF 'laws.FnExactParseShort'. -/
def fnExactParseShortCard : Claim7 := { stood := { row := fnExactParseShortRow, standIns := [], harness := (true, "ec4d39a64986c9e04b2bc7b49b48f81a3bcc87b7601fa6ef971a88da3604f075"), looks := true }, kinds := [], alts := [], laidByText := true, laidKinds := [.data, .data, .data, .data, .sentinel, .sentinel, .pinned], laidTests := true, laidLooks := .later }
def FnExactParseShortCardSaid : Prop := Claim7.holds Tryz.pinned (.plain (OpenSpec.ofChange fnExactParseShortSpec)) fnExactParseShortCard

/-- THE TIED CARD OF 'laws.FnExactParseSigns'. -/
def fnExactParseSignsCard : Claim7 := { stood := { row := fnExactParseSignsRow, standIns := [], harness := (true, "ec4d39a64986c9e04b2bc7b49b48f81a3bcc87b7601fa6ef971a88da3604f075"), looks := true }, kinds := [], alts := [], laidByText := true, laidKinds := [.data, .data, .data, .data, .sentinel, .sentinel, .pinned], laidTests := true, laidLooks := .later }
def FnExactParseSignsCardSaid : Prop := Claim7.holds Tryz.pinned (.plain (OpenSpec.ofChange fnExactParseSignsSpec)) fnExactParseSignsCard

/-- THE SECOND FORM's CARD OF 'laws.FnExactImportSign'. -/
def fnExactImportSignUptoCard : Claim7 := { stood := { row := fnExactImportSignUptoRow, standIns := [], harness := (true, "ec4d39a64986c9e04b2bc7b49b48f81a3bcc87b7601fa6ef971a88da3604f075"), looks := true }, kinds := [], alts := [], laidByText := true, laidKinds := [.data, .data, .data, .data, .sentinel, .sentinel, .pinned], laidTests := true, laidLooks := .later }
def FnExactImportSignUptoCardSaid : Prop := Claim7.holds Tryz.pinned (.plain (OpenSpec.upto fnExactImportSignSpec)) fnExactImportSignUptoCard

/-- THE SECOND FORM's CARD OF 'laws.FnExactParseShort'. -/
def fnExactParseShortUptoCard : Claim7 := { stood := { row := fnExactParseShortUptoRow, standIns := [], harness := (true, "ec4d39a64986c9e04b2bc7b49b48f81a3bcc87b7601fa6ef971a88da3604f075"), looks := true }, kinds := [], alts := [], laidByText := true, laidKinds := [.data, .data, .data, .data, .sentinel, .sentinel, .pinned], laidTests := true, laidLooks := .later }
def FnExactParseShortUptoCardSaid : Prop := Claim7.holds Tryz.pinned (.plain (OpenSpec.upto fnExactParseShortSpec)) fnExactParseShortUptoCard

/-- THE SECOND FORM's CARD OF 'laws.FnExactParseSigns'. -/
def fnExactParseSignsUptoCard : Claim7 := { stood := { row := fnExactParseSignsUptoRow, standIns := [], harness := (true, "ec4d39a64986c9e04b2bc7b49b48f81a3bcc87b7601fa6ef971a88da3604f075"), looks := true }, kinds := [], alts := [], laidByText := true, laidKinds := [.data, .data, .data, .data, .sentinel, .sentinel, .pinned], laidTests := true, laidLooks := .later }
def FnExactParseSignsUptoCardSaid : Prop := Claim7.holds Tryz.pinned (.plain (OpenSpec.upto fnExactParseSignsSpec)) fnExactParseSignsUptoCard
end Rows
end Go.Proofs.YtajjinfjfiacbaaGreatDoor
