/-
  DERIVED. GIVEN WITH THE SEED: THE CARDS: each row of YtdiameckiihppaaDoorRows.lean that lists a variable, with what it lists TIED to the program's text (the seventh form; the later family's looks); each row that meets fmt, with fmt's text TOLD by the authors' own Lean function (tested against real Go, not proved from fmt's source: count such statements apart). THE CARD IS WHAT COUNTS. Prove the row's statement (the work); the ties are given (YtdiameckiihppaaDoorTie.lean); close each card by the builder's one call (the guide's Derived/Test/ToyasCard.lean, 'card_holds'). Laid BY PROGRAM, IN A SANDBOX (cutbox-door.mjs). By AI agents, Wed Nov 11 2026. No macro, syntax, notation, axiom, sorry.
-/
import Derived.Test.YtdiameckiihppaaDoorRows
import GoSem.ClaimSeven
namespace Go.Proofs.YtdiameckiihppaaDoor
namespace Rows

/-- THE TIED CARD OF 'plugboardlaw39.DisksSurvive'. -/
def disksSurviveCard : Claim7 := { stood := { row := disksSurviveRow, standIns := [], harness := (true, "01c0c59c01de4d0c2d9d1d89b91e8a607fc05bb4953952b19581c521faf6f67d"), looks := false }, kinds := [], alts := [], laidByText := true, laidKinds := [.data, .widerDeep, .pinned], laidTests := true, laidLooks := .later }
def DisksSurviveCardSaid : Prop := Claim7.holds Tryd.pinned (.plain (OpenSpec.ofChange disksSurviveSpec)) disksSurviveCard

/-- THE SECOND FORM's CARD OF 'plugboardlaw39.DisksSurvive'. -/
def disksSurviveUptoCard : Claim7 := { stood := { row := disksSurviveUptoRow, standIns := [], harness := (true, "01c0c59c01de4d0c2d9d1d89b91e8a607fc05bb4953952b19581c521faf6f67d"), looks := false }, kinds := [], alts := [], laidByText := true, laidKinds := [.data, .widerDeep, .pinned], laidTests := true, laidLooks := .later }
def DisksSurviveUptoCardSaid : Prop := Claim7.holds Tryd.pinned (.plain (OpenSpec.upto disksSurviveSpec)) disksSurviveUptoCard
end Rows
end Go.Proofs.YtdiameckiihppaaDoor
