/-
  DERIVED. GIVEN WITH THE SEED: THE CARDS: each row of YtfnbkmddkahajaaDoorRows.lean that lists a variable, with what it lists TIED to the program's text (the seventh form; the later family's looks); each row that meets fmt, with fmt's text TOLD by the authors' own Lean function (tested against real Go, not proved from fmt's source: count such statements apart). THE CARD IS WHAT COUNTS. Prove the row's statement (the work); the ties are given (YtfnbkmddkahajaaDoorTie.lean); close each card by the builder's one call (the guide's Derived/Test/ToyasCard.lean, 'card_holds'). Laid BY PROGRAM, IN A SANDBOX (cutbox-door.mjs). By AI agents, Wed Nov 11 2026. No macro, syntax, notation, axiom, sorry.
-/
import Derived.Test.YtfnbkmddkahajaaDoorRows
import GoSem.ClaimSeven
namespace Go.Proofs.YtfnbkmddkahajaaDoor
namespace Rows

/-- THE TIED CARD OF 'plugboardlaw20.TopologiesOrder'. -/
def topologiesOrderCard : Claim7 := { stood := { row := topologiesOrderRow, standIns := [], harness := (true, "3a9266afe3188931ddfc3c2672779122137226f960552785bbeb522f3f956643"), looks := false }, kinds := [], alts := [], laidByText := true, laidKinds := [.data, .pinned], laidTests := true, laidLooks := .later }
def TopologiesOrderCardSaid : Prop := Claim7.holds Tryd.pinned (.plain (OpenSpec.ofChange topologiesOrderSpec)) topologiesOrderCard

/-- THE SECOND FORM's CARD OF 'plugboardlaw20.TopologiesOrder'. -/
def topologiesOrderUptoCard : Claim7 := { stood := { row := topologiesOrderUptoRow, standIns := [], harness := (true, "3a9266afe3188931ddfc3c2672779122137226f960552785bbeb522f3f956643"), looks := false }, kinds := [], alts := [], laidByText := true, laidKinds := [.data, .pinned], laidTests := true, laidLooks := .later }
def TopologiesOrderUptoCardSaid : Prop := Claim7.holds Tryd.pinned (.plain (OpenSpec.upto topologiesOrderSpec)) topologiesOrderUptoCard
end Rows
end Go.Proofs.YtfnbkmddkahajaaDoor
