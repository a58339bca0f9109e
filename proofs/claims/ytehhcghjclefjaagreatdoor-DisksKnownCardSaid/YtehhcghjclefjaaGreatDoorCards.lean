/-
  DERIVED. GIVEN WITH THE SEED: THE CARDS: each row of YtehhcghjclefjaaGreatDoorRows.lean that lists a variable, with what it lists TIED to the program's text (the seventh form; the later family's looks); each row that meets fmt, with fmt's text TOLD by the authors' own Lean function (tested against real Go, not proved from fmt's source: count such statements apart). THE CARD IS WHAT COUNTS. Prove the row's statement (the work); the ties are given (YtehhcghjclefjaaGreatDoorTie.lean); close each card by the builder's one call (the guide's Derived/Test/ToyasCard.lean, 'card_holds'). Laid BY PROGRAM, IN A SANDBOX (cutbox-door.mjs). By AI agents, Wed Nov 11 2026. No macro, syntax, notation, axiom, sorry.
-/
import Derived.Test.YtehhcghjclefjaaGreatDoorRows
import GoSem.ClaimSeven
namespace Go.Proofs.YtehhcghjclefjaaGreatDoor
namespace Rows

/-- THE TIED CARD OF 'plugboardlaw39.DisksErrors'. -/
def disksErrorsCard : Claim7 := { stood := { row := disksErrorsRow, standIns := [], harness := (true, "13410324919aeee95825ce558ff52b7862426e8af88f004f4f19eed8d603e97f"), looks := false }, kinds := [], alts := [], laidByText := true, laidKinds := [.data, .widerDeep, .pinned], laidTests := true, laidLooks := .later }
def DisksErrorsCardSaid : Prop := Claim7.holds Tryz.pinned (.plain (OpenSpec.ofChange disksErrorsSpec)) disksErrorsCard

/-- THE TIED CARD OF 'plugboardlaw39.DisksKnown'. -/
def disksKnownCard : Claim7 := { stood := { row := disksKnownRow, standIns := [], harness := (true, "13410324919aeee95825ce558ff52b7862426e8af88f004f4f19eed8d603e97f"), looks := false }, kinds := [], alts := [], laidByText := true, laidKinds := [.data, .widerDeep, .pinned], laidTests := true, laidLooks := .later }
def DisksKnownCardSaid : Prop := Claim7.holds Tryz.pinned (.plain (OpenSpec.ofChange disksKnownSpec)) disksKnownCard

/-- THE SECOND FORM's CARD OF 'plugboardlaw39.DisksErrors'. -/
def disksErrorsUptoCard : Claim7 := { stood := { row := disksErrorsUptoRow, standIns := [], harness := (true, "13410324919aeee95825ce558ff52b7862426e8af88f004f4f19eed8d603e97f"), looks := false }, kinds := [], alts := [], laidByText := true, laidKinds := [.data, .widerDeep, .pinned], laidTests := true, laidLooks := .later }
def DisksErrorsUptoCardSaid : Prop := Claim7.holds Tryz.pinned (.plain (OpenSpec.upto disksErrorsSpec)) disksErrorsUptoCard

/-- THE SECOND FORM's CARD OF 'plugboardlaw39.DisksKnown'. -/
def disksKnownUptoCard : Claim7 := { stood := { row := disksKnownUptoRow, standIns := [], harness := (true, "13410324919aeee95825ce558ff52b7862426e8af88f004f4f19eed8d603e97f"), looks := false }, kinds := [], alts := [], laidByText := true, laidKinds := [.data, .widerDeep, .pinned], laidTests := true, laidLooks := .later }
def DisksKnownUptoCardSaid : Prop := Claim7.holds Tryz.pinned (.plain (OpenSpec.upto disksKnownSpec)) disksKnownUptoCard
end Rows
end Go.Proofs.YtehhcghjclefjaaGreatDoor
