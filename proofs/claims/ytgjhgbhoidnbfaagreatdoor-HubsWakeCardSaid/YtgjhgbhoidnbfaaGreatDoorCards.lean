/-
  DERIVED. GIVEN WITH THE SEED: THE CARDS: each row of YtgjhgbhoidnbfaaGreatDoorRows.lean that lists a variable, with what it lists TIED to the program's text (the seventh form; the later family's looks); each row that meets fmt, with fmt's text TOLD by the authors' own Lean function (tested against real Go, not proved from fmt's source: count such statements apart). THE CARD IS WHAT COUNTS. Prove the row's statement (the work); the ties are given (YtgjhgbhoidnbfaaGreatDoorTie.lean); close each card by the builder's one call (the guide's Derived/Test/ToyasCard.lean, 'card_holds'). Laid BY PROGRAM, IN A SANDBOX (cutbox-door.mjs). By AI agents, Wed Nov 11 2026. No macro, syntax, notation, axiom, sorry.
-/
import Derived.Test.YtgjhgbhoidnbfaaGreatDoorRows
import GoSem.ClaimSeven
namespace Go.Proofs.YtgjhgbhoidnbfaaGreatDoor
namespace Rows

/-- THE TIED CARD OF 'plugboardlaw18.HubsErrors'. -/
def hubsErrorsCard : Claim7 := { stood := { row := hubsErrorsRow, standIns := [], harness := (true, "272caa82ea8cf00cbbcc3273161424ed2b72c446829e8f80baf873d44b2033e9"), looks := true }, kinds := [], alts := [], laidByText := true, laidKinds := [.data, .pinned], laidTests := true, laidLooks := .later }
def HubsErrorsCardSaid : Prop := Claim7.holds Tryz.pinned (.plain (OpenSpec.ofChange hubsErrorsSpec)) hubsErrorsCard

/-- THE TIED CARD OF 'plugboardlaw18.HubsWake'. -/
def hubsWakeCard : Claim7 := { stood := { row := hubsWakeRow, standIns := [], harness := (true, "272caa82ea8cf00cbbcc3273161424ed2b72c446829e8f80baf873d44b2033e9"), looks := true }, kinds := [], alts := [], laidByText := true, laidKinds := [.data, .pinned], laidTests := true, laidLooks := .later }
def HubsWakeCardSaid : Prop := Claim7.holds Tryz.pinned (.plain (OpenSpec.ofChange hubsWakeSpec)) hubsWakeCard

/-- THE TIED CARD OF 'plugboardlaw20.TopologiesErrors'. -/
def topologiesErrorsCard : Claim7 := { stood := { row := topologiesErrorsRow, standIns := [], harness := (true, "272caa82ea8cf00cbbcc3273161424ed2b72c446829e8f80baf873d44b2033e9"), looks := true }, kinds := [], alts := [], laidByText := true, laidKinds := [.data, .pinned], laidTests := true, laidLooks := .later }
def TopologiesErrorsCardSaid : Prop := Claim7.holds Tryz.pinned (.plain (OpenSpec.ofChange topologiesErrorsSpec)) topologiesErrorsCard

/-- THE SECOND FORM's CARD OF 'plugboardlaw18.HubsErrors'. -/
def hubsErrorsUptoCard : Claim7 := { stood := { row := hubsErrorsUptoRow, standIns := [], harness := (true, "272caa82ea8cf00cbbcc3273161424ed2b72c446829e8f80baf873d44b2033e9"), looks := true }, kinds := [], alts := [], laidByText := true, laidKinds := [.data, .pinned], laidTests := true, laidLooks := .later }
def HubsErrorsUptoCardSaid : Prop := Claim7.holds Tryz.pinned (.plain (OpenSpec.upto hubsErrorsSpec)) hubsErrorsUptoCard

/-- THE SECOND FORM's CARD OF 'plugboardlaw18.HubsWake'. -/
def hubsWakeUptoCard : Claim7 := { stood := { row := hubsWakeUptoRow, standIns := [], harness := (true, "272caa82ea8cf00cbbcc3273161424ed2b72c446829e8f80baf873d44b2033e9"), looks := true }, kinds := [], alts := [], laidByText := true, laidKinds := [.data, .pinned], laidTests := true, laidLooks := .later }
def HubsWakeUptoCardSaid : Prop := Claim7.holds Tryz.pinned (.plain (OpenSpec.upto hubsWakeSpec)) hubsWakeUptoCard

/-- THE SECOND FORM's CARD OF 'plugboardlaw20.TopologiesErrors'. -/
def topologiesErrorsUptoCard : Claim7 := { stood := { row := topologiesErrorsUptoRow, standIns := [], harness := (true, "272caa82ea8cf00cbbcc3273161424ed2b72c446829e8f80baf873d44b2033e9"), looks := true }, kinds := [], alts := [], laidByText := true, laidKinds := [.data, .pinned], laidTests := true, laidLooks := .later }
def TopologiesErrorsUptoCardSaid : Prop := Claim7.holds Tryz.pinned (.plain (OpenSpec.upto topologiesErrorsSpec)) topologiesErrorsUptoCard
end Rows
end Go.Proofs.YtgjhgbhoidnbfaaGreatDoor
