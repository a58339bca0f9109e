/-
  DERIVED. GIVEN WITH THE SEED: THE CARDS: each row of YthlpiijglhifmaaDoorRows.lean that lists a variable, with what it lists TIED to the program's text (the seventh form; the later family's looks); each row that meets fmt, with fmt's text TOLD by the authors' own Lean function (tested against real Go, not proved from fmt's source: count such statements apart). THE CARD IS WHAT COUNTS. Prove the row's statement (the work); the ties are given (YthlpiijglhifmaaDoorTie.lean); close each card by the builder's one call (the guide's Derived/Test/ToyasCard.lean, 'card_holds'). Laid BY PROGRAM, IN A SANDBOX (cutbox-door.mjs). By AI agents, Wed Nov 11 2026. No macro, syntax, notation, axiom, sorry.
-/
import Derived.Test.YthlpiijglhifmaaDoorRows
import GoSem.ClaimSeven
namespace Go.Proofs.YthlpiijglhifmaaDoor
namespace Rows

/-- THE TIED CARD OF 'plugboardlaw20.TopologiesRoute'. -/
def topologiesRouteCard : Claim7 := { stood := { row := topologiesRouteRow, standIns := [], harness := (true, "3f21503484afaa1b60f5c58a029647d6514b0d2b5be7d8af00600eaa8802c000"), looks := false }, kinds := [], alts := [], laidByText := true, laidKinds := [.data, .pinned], laidTests := true, laidLooks := .later }
def TopologiesRouteCardSaid : Prop := Claim7.holds Tryd.pinned (.plain (OpenSpec.ofChange topologiesRouteSpec)) topologiesRouteCard

/-- THE TIED CARD OF 'plugboardlaw20.TopologiesOrder'. -/
def topologiesOrderCard : Claim7 := { stood := { row := topologiesOrderRow, standIns := [], harness := (true, "3f21503484afaa1b60f5c58a029647d6514b0d2b5be7d8af00600eaa8802c000"), looks := false }, kinds := [], alts := [], laidByText := true, laidKinds := [.data, .pinned], laidTests := true, laidLooks := .later }
def TopologiesOrderCardSaid : Prop := Claim7.holds Tryd.pinned (.plain (OpenSpec.ofChange topologiesOrderSpec)) topologiesOrderCard

/-- THE TIED CARD OF 'plugboardlaw20.TopologiesPaths'. -/
def topologiesPathsCard : Claim7 := { stood := { row := topologiesPathsRow, standIns := [], harness := (true, "3f21503484afaa1b60f5c58a029647d6514b0d2b5be7d8af00600eaa8802c000"), looks := false }, kinds := [], alts := [], laidByText := true, laidKinds := [.data, .data, .data, .data, .pinned], laidTests := true, laidLooks := .later }
def TopologiesPathsCardSaid : Prop := Claim7.holds Tryd.pinned (.plain (OpenSpec.ofChange topologiesPathsSpec)) topologiesPathsCard

/-- THE SECOND FORM's CARD OF 'plugboardlaw20.TopologiesRoute'. -/
def topologiesRouteUptoCard : Claim7 := { stood := { row := topologiesRouteUptoRow, standIns := [], harness := (true, "3f21503484afaa1b60f5c58a029647d6514b0d2b5be7d8af00600eaa8802c000"), looks := false }, kinds := [], alts := [], laidByText := true, laidKinds := [.data, .pinned], laidTests := true, laidLooks := .later }
def TopologiesRouteUptoCardSaid : Prop := Claim7.holds Tryd.pinned (.plain (OpenSpec.upto topologiesRouteSpec)) topologiesRouteUptoCard

/-- THE SECOND FORM's CARD OF 'plugboardlaw20.TopologiesOrder'. -/
def topologiesOrderUptoCard : Claim7 := { stood := { row := topologiesOrderUptoRow, standIns := [], harness := (true, "3f21503484afaa1b60f5c58a029647d6514b0d2b5be7d8af00600eaa8802c000"), looks := false }, kinds := [], alts := [], laidByText := true, laidKinds := [.data, .pinned], laidTests := true, laidLooks := .later }
def TopologiesOrderUptoCardSaid : Prop := Claim7.holds Tryd.pinned (.plain (OpenSpec.upto topologiesOrderSpec)) topologiesOrderUptoCard

/-- THE SECOND FORM's CARD OF 'plugboardlaw20.TopologiesPaths'. -/
def topologiesPathsUptoCard : Claim7 := { stood := { row := topologiesPathsUptoRow, standIns := [], harness := (true, "3f21503484afaa1b60f5c58a029647d6514b0d2b5be7d8af00600eaa8802c000"), looks := false }, kinds := [], alts := [], laidByText := true, laidKinds := [.data, .data, .data, .data, .pinned], laidTests := true, laidLooks := .later }
def TopologiesPathsUptoCardSaid : Prop := Claim7.holds Tryd.pinned (.plain (OpenSpec.upto topologiesPathsSpec)) topologiesPathsUptoCard
end Rows
end Go.Proofs.YthlpiijglhifmaaDoor
