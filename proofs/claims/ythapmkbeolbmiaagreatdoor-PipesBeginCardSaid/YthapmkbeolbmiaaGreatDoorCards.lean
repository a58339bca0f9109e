/-
  DERIVED. GIVEN WITH THE SEED: THE CARDS: each row of YthapmkbeolbmiaaGreatDoorRows.lean that lists a variable, with what it lists TIED to the program's text (the seventh form; the later family's looks); each row that meets fmt, with fmt's text TOLD by the authors' own Lean function (tested against real Go, not proved from fmt's source: count such statements apart). THE CARD IS WHAT COUNTS. Prove the row's statement (the work); the ties are given (YthapmkbeolbmiaaGreatDoorTie.lean); close each card by the builder's one call (the guide's Derived/Test/ToyasCard.lean, 'card_holds'). Laid BY PROGRAM, IN A SANDBOX (cutbox-door.mjs). By AI agents, Wed Nov 11 2026. No macro, syntax, notation, axiom, sorry.
-/
import Derived.Test.YthapmkbeolbmiaaGreatDoorRows
import GoSem.ClaimSeven
namespace Go.Proofs.YthapmkbeolbmiaaGreatDoor
namespace Rows

/-- THE TIED CARD OF 'plugboardlaw39.DisksErrors'. -/
def disksErrorsCard : Claim7 := { stood := { row := disksErrorsRow, standIns := [], harness := (true, "d4c746dfe8ef4122fe88c999f1a5a00d338591a50c0b1c536345a85831607a44"), looks := false }, kinds := [], alts := [], laidByText := true, laidKinds := [.data, .widerDeep, .pinned], laidTests := true, laidLooks := .later }
def DisksErrorsCardSaid : Prop := Claim7.holds Tryz.pinned (.plain (OpenSpec.ofChange disksErrorsSpec)) disksErrorsCard

/-- THE TIED CARD OF 'plugboardlaw23.PipesBegin'. -/
def pipesBeginCard : Claim7 := { stood := { row := pipesBeginRow, standIns := [], harness := (true, "d4c746dfe8ef4122fe88c999f1a5a00d338591a50c0b1c536345a85831607a44"), looks := false }, kinds := [], alts := [], laidByText := true, laidKinds := [.mapped], laidTests := true, laidLooks := .later }
def PipesBeginCardSaid : Prop := Claim7.holds Tryz.pinned (.plain (OpenSpec.ofChange pipesBeginSpec)) pipesBeginCard

/-- THE SECOND FORM's CARD OF 'plugboardlaw39.DisksErrors'. -/
def disksErrorsUptoCard : Claim7 := { stood := { row := disksErrorsUptoRow, standIns := [], harness := (true, "d4c746dfe8ef4122fe88c999f1a5a00d338591a50c0b1c536345a85831607a44"), looks := false }, kinds := [], alts := [], laidByText := true, laidKinds := [.data, .widerDeep, .pinned], laidTests := true, laidLooks := .later }
def DisksErrorsUptoCardSaid : Prop := Claim7.holds Tryz.pinned (.plain (OpenSpec.upto disksErrorsSpec)) disksErrorsUptoCard

/-- THE SECOND FORM's CARD OF 'plugboardlaw23.PipesBegin'. -/
def pipesBeginUptoCard : Claim7 := { stood := { row := pipesBeginUptoRow, standIns := [], harness := (true, "d4c746dfe8ef4122fe88c999f1a5a00d338591a50c0b1c536345a85831607a44"), looks := false }, kinds := [], alts := [], laidByText := true, laidKinds := [.mapped], laidTests := true, laidLooks := .later }
def PipesBeginUptoCardSaid : Prop := Claim7.holds Tryz.pinned (.plain (OpenSpec.upto pipesBeginSpec)) pipesBeginUptoCard
end Rows
end Go.Proofs.YthapmkbeolbmiaaGreatDoor
