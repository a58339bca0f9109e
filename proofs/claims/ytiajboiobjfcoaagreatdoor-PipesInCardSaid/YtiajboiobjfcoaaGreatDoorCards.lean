/-
  DERIVED. GIVEN WITH THE SEED: THE CARDS: each row of YtiajboiobjfcoaaGreatDoorRows.lean that lists a variable, with what it lists TIED to the program's text (the seventh form; the later family's looks); each row that meets fmt, with fmt's text TOLD by the authors' own Lean function (tested against real Go, not proved from fmt's source: count such statements apart). THE CARD IS WHAT COUNTS. Prove the row's statement (the work); the ties are given (YtiajboiobjfcoaaGreatDoorTie.lean); close each card by the builder's one call (the guide's Derived/Test/ToyasCard.lean, 'card_holds'). Laid BY PROGRAM, IN A SANDBOX (cutbox-door.mjs). By AI agents, Wed Nov 11 2026. No macro, syntax, notation, axiom, sorry.
-/
import Derived.Test.YtiajboiobjfcoaaGreatDoorRows
import GoSem.ClaimSeven
namespace Go.Proofs.YtiajboiobjfcoaaGreatDoor
namespace Rows

/-- THE TIED CARD OF 'plugboardlaw23.PipesOut'. -/
def pipesOutCard : Claim7 := { stood := { row := pipesOutRow, standIns := [], harness := (true, "e5d0991f66154cdb8a03560b6733912a8a8200e27cd698db35fa218a3fb52765"), looks := false }, kinds := [], alts := [], laidByText := true, laidKinds := [.mapped], laidTests := true, laidLooks := .later }
def PipesOutCardSaid : Prop := Claim7.holds Tryz.pinned (.plain (OpenSpec.ofChange pipesOutSpec)) pipesOutCard

/-- THE TIED CARD OF 'plugboardlaw23.PipesIn'. -/
def pipesInCard : Claim7 := { stood := { row := pipesInRow, standIns := [], harness := (true, "e5d0991f66154cdb8a03560b6733912a8a8200e27cd698db35fa218a3fb52765"), looks := false }, kinds := [], alts := [], laidByText := true, laidKinds := [.mapped], laidTests := true, laidLooks := .later }
def PipesInCardSaid : Prop := Claim7.holds Tryz.pinned (.plain (OpenSpec.ofChange pipesInSpec)) pipesInCard

/-- THE TIED CARD OF 'plugboardlaw23.PipesIso'. -/
def pipesIsoCard : Claim7 := { stood := { row := pipesIsoRow, standIns := [], harness := (true, "e5d0991f66154cdb8a03560b6733912a8a8200e27cd698db35fa218a3fb52765"), looks := false }, kinds := [], alts := [], laidByText := true, laidKinds := [.mapped], laidTests := true, laidLooks := .later }
def PipesIsoCardSaid : Prop := Claim7.holds Tryz.pinned (.plain (OpenSpec.ofChange pipesIsoSpec)) pipesIsoCard

/-- THE SECOND FORM's CARD OF 'plugboardlaw23.PipesOut'. -/
def pipesOutUptoCard : Claim7 := { stood := { row := pipesOutUptoRow, standIns := [], harness := (true, "e5d0991f66154cdb8a03560b6733912a8a8200e27cd698db35fa218a3fb52765"), looks := false }, kinds := [], alts := [], laidByText := true, laidKinds := [.mapped], laidTests := true, laidLooks := .later }
def PipesOutUptoCardSaid : Prop := Claim7.holds Tryz.pinned (.plain (OpenSpec.upto pipesOutSpec)) pipesOutUptoCard

/-- THE SECOND FORM's CARD OF 'plugboardlaw23.PipesIn'. -/
def pipesInUptoCard : Claim7 := { stood := { row := pipesInUptoRow, standIns := [], harness := (true, "e5d0991f66154cdb8a03560b6733912a8a8200e27cd698db35fa218a3fb52765"), looks := false }, kinds := [], alts := [], laidByText := true, laidKinds := [.mapped], laidTests := true, laidLooks := .later }
def PipesInUptoCardSaid : Prop := Claim7.holds Tryz.pinned (.plain (OpenSpec.upto pipesInSpec)) pipesInUptoCard

/-- THE SECOND FORM's CARD OF 'plugboardlaw23.PipesIso'. -/
def pipesIsoUptoCard : Claim7 := { stood := { row := pipesIsoUptoRow, standIns := [], harness := (true, "e5d0991f66154cdb8a03560b6733912a8a8200e27cd698db35fa218a3fb52765"), looks := false }, kinds := [], alts := [], laidByText := true, laidKinds := [.mapped], laidTests := true, laidLooks := .later }
def PipesIsoUptoCardSaid : Prop := Claim7.holds Tryz.pinned (.plain (OpenSpec.upto pipesIsoSpec)) pipesIsoUptoCard
end Rows
end Go.Proofs.YtiajboiobjfcoaaGreatDoor
