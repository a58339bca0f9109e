/-
  DERIVED. GIVEN WITH THE SEED: THE CARDS: each row of YtafkokkcnnfnlaaGreatDoorRows.lean that lists a variable, with what it lists TIED to the program's text (the seventh form; the later family's looks); each row that meets fmt, with fmt's text TOLD by the authors' own Lean function (tested against real Go, not proved from fmt's source: count such statements apart). THE CARD IS WHAT COUNTS. Prove the row's statement (the work); the ties are given (YtafkokkcnnfnlaaGreatDoorTie.lean); close each card by the builder's one call (the guide's Derived/Test/ToyasCard.lean, 'card_holds'). Laid BY PROGRAM, IN A SANDBOX (cutbox-door.mjs). By AI agents, Wed Nov 11 2026. No macro, syntax, notation, axiom, sorry.
-/
import Derived.Test.YtafkokkcnnfnlaaGreatDoorRows
import GoSem.ClaimSeven
namespace Go.Proofs.YtafkokkcnnfnlaaGreatDoor
namespace Rows

/-- THE TIED CARD OF 'plugboardlaw18.HubsDevice'. -/
def hubsDeviceCard : Claim7 := { stood := { row := hubsDeviceRow, standIns := [], harness := (true, "75a790aaf3a4542bb34ef3ee32452b1630513ef21e2093feda86a2bfda5a4539"), looks := true }, kinds := [], alts := [], laidByText := true, laidKinds := [.data, .pinned], laidTests := true, laidLooks := .later }
def HubsDeviceCardSaid : Prop := Claim7.holds Tryz.pinned (.plain (OpenSpec.ofChange hubsDeviceSpec)) hubsDeviceCard

/-- THE TIED CARD OF 'plugboardlaw18.HubsSplit'. -/
def hubsSplitCard : Claim7 := { stood := { row := hubsSplitRow, standIns := [], harness := (true, "75a790aaf3a4542bb34ef3ee32452b1630513ef21e2093feda86a2bfda5a4539"), looks := true }, kinds := [], alts := [], laidByText := true, laidKinds := [.data, .pinned], laidTests := true, laidLooks := .later }
def HubsSplitCardSaid : Prop := Claim7.holds Tryz.pinned (.plain (OpenSpec.ofChange hubsSplitSpec)) hubsSplitCard

/-- THE TIED CARD OF 'plugboardlaw22.SplitsErrors'. -/
def splitsErrorsCard : Claim7 := { stood := { row := splitsErrorsRow, standIns := [], harness := (true, "75a790aaf3a4542bb34ef3ee32452b1630513ef21e2093feda86a2bfda5a4539"), looks := true }, kinds := [], alts := [], laidByText := true, laidKinds := [.data, .pinned], laidTests := true, laidLooks := .later }
def SplitsErrorsCardSaid : Prop := Claim7.holds Tryz.pinned (.plain (OpenSpec.ofChange splitsErrorsSpec)) splitsErrorsCard

/-- THE SECOND FORM's CARD OF 'plugboardlaw18.HubsDevice'. -/
def hubsDeviceUptoCard : Claim7 := { stood := { row := hubsDeviceUptoRow, standIns := [], harness := (true, "75a790aaf3a4542bb34ef3ee32452b1630513ef21e2093feda86a2bfda5a4539"), looks := true }, kinds := [], alts := [], laidByText := true, laidKinds := [.data, .pinned], laidTests := true, laidLooks := .later }
def HubsDeviceUptoCardSaid : Prop := Claim7.holds Tryz.pinned (.plain (OpenSpec.upto hubsDeviceSpec)) hubsDeviceUptoCard

/-- THE SECOND FORM's CARD OF 'plugboardlaw18.HubsSplit'. -/
def hubsSplitUptoCard : Claim7 := { stood := { row := hubsSplitUptoRow, standIns := [], harness := (true, "75a790aaf3a4542bb34ef3ee32452b1630513ef21e2093feda86a2bfda5a4539"), looks := true }, kinds := [], alts := [], laidByText := true, laidKinds := [.data, .pinned], laidTests := true, laidLooks := .later }
def HubsSplitUptoCardSaid : Prop := Claim7.holds Tryz.pinned (.plain (OpenSpec.upto hubsSplitSpec)) hubsSplitUptoCard

/-- THE SECOND FORM's CARD OF 'plugboardlaw22.SplitsErrors'. -/
def splitsErrorsUptoCard : Claim7 := { stood := { row := splitsErrorsUptoRow, standIns := [], harness := (true, "75a790aaf3a4542bb34ef3ee32452b1630513ef21e2093feda86a2bfda5a4539"), looks := true }, kinds := [], alts := [], laidByText := true, laidKinds := [.data, .pinned], laidTests := true, laidLooks := .later }
def SplitsErrorsUptoCardSaid : Prop := Claim7.holds Tryz.pinned (.plain (OpenSpec.upto splitsErrorsSpec)) splitsErrorsUptoCard
end Rows
end Go.Proofs.YtafkokkcnnfnlaaGreatDoor
