/-
  DERIVED. GIVEN WITH THE SEED: THE CARDS: each row of YtfliaagohfoipaaGreatDoorRows.lean that lists a variable, with what it lists TIED to the program's text (the seventh form; the later family's looks); each row that meets fmt, with fmt's text TOLD by the authors' own Lean function (tested against real Go, not proved from fmt's source: count such statements apart). THE CARD IS WHAT COUNTS. Prove the row's statement (the work); the ties are given (YtfliaagohfoipaaGreatDoorTie.lean); close each card by the builder's one call (the guide's Derived/Test/ToyasCard.lean, 'card_holds'). Laid BY PROGRAM, IN A SANDBOX (cutbox-door.mjs). By AI agents, Wed Nov 11 2026. No macro, syntax, notation, axiom, sorry.
-/
import Derived.Test.YtfliaagohfoipaaGreatDoorRows
import GoSem.ClaimSeven
namespace Go.Proofs.YtfliaagohfoipaaGreatDoor
namespace Rows

/-- THE TIED CARD OF 'plugboardlaw23.PipesNone'. -/
def pipesNoneCard : Claim7 := { stood := { row := pipesNoneRow, standIns := [], harness := (true, "6c725a2264610c270a4135a240d9256e874977163e4acbc40bd27e0b28abba6a"), looks := false }, kinds := [], alts := [], laidByText := true, laidKinds := [.mapped], laidTests := true, laidLooks := .later }
def PipesNoneCardSaid : Prop := Claim7.holds Tryz.pinned (.plain (OpenSpec.ofChange pipesNoneSpec)) pipesNoneCard

/-- THE TIED CARD OF 'plugboardlaw23.PipesBegin'. -/
def pipesBeginCard : Claim7 := { stood := { row := pipesBeginRow, standIns := [], harness := (true, "6c725a2264610c270a4135a240d9256e874977163e4acbc40bd27e0b28abba6a"), looks := false }, kinds := [], alts := [], laidByText := true, laidKinds := [.mapped], laidTests := true, laidLooks := .later }
def PipesBeginCardSaid : Prop := Claim7.holds Tryz.pinned (.plain (OpenSpec.ofChange pipesBeginSpec)) pipesBeginCard

/-- THE TIED CARD OF 'plugboardlaw23.PipesOf'. -/
def pipesOfCard : Claim7 := { stood := { row := pipesOfRow, standIns := [], harness := (true, "6c725a2264610c270a4135a240d9256e874977163e4acbc40bd27e0b28abba6a"), looks := false }, kinds := [], alts := [], laidByText := true, laidKinds := [.mapped], laidTests := true, laidLooks := .later }
def PipesOfCardSaid : Prop := Claim7.holds Tryz.pinned (.plain (OpenSpec.ofChange pipesOfSpec)) pipesOfCard

/-- THE SECOND FORM's CARD OF 'plugboardlaw23.PipesNone'. -/
def pipesNoneUptoCard : Claim7 := { stood := { row := pipesNoneUptoRow, standIns := [], harness := (true, "6c725a2264610c270a4135a240d9256e874977163e4acbc40bd27e0b28abba6a"), looks := false }, kinds := [], alts := [], laidByText := true, laidKinds := [.mapped], laidTests := true, laidLooks := .later }
def PipesNoneUptoCardSaid : Prop := Claim7.holds Tryz.pinned (.plain (OpenSpec.upto pipesNoneSpec)) pipesNoneUptoCard

/-- THE SECOND FORM's CARD OF 'plugboardlaw23.PipesBegin'. -/
def pipesBeginUptoCard : Claim7 := { stood := { row := pipesBeginUptoRow, standIns := [], harness := (true, "6c725a2264610c270a4135a240d9256e874977163e4acbc40bd27e0b28abba6a"), looks := false }, kinds := [], alts := [], laidByText := true, laidKinds := [.mapped], laidTests := true, laidLooks := .later }
def PipesBeginUptoCardSaid : Prop := Claim7.holds Tryz.pinned (.plain (OpenSpec.upto pipesBeginSpec)) pipesBeginUptoCard

/-- THE SECOND FORM's CARD OF 'plugboardlaw23.PipesOf'. -/
def pipesOfUptoCard : Claim7 := { stood := { row := pipesOfUptoRow, standIns := [], harness := (true, "6c725a2264610c270a4135a240d9256e874977163e4acbc40bd27e0b28abba6a"), looks := false }, kinds := [], alts := [], laidByText := true, laidKinds := [.mapped], laidTests := true, laidLooks := .later }
def PipesOfUptoCardSaid : Prop := Claim7.holds Tryz.pinned (.plain (OpenSpec.upto pipesOfSpec)) pipesOfUptoCard
end Rows
end Go.Proofs.YtfliaagohfoipaaGreatDoor
