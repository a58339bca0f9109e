/-
  DERIVED. GIVEN WITH THE SEED: THE CARDS: each row of YtcipfcbaclfnhaaDoorRows.lean that lists a variable, with what it lists TIED to the program's text (the seventh form; the later family's looks); each row that meets fmt, with fmt's text TOLD by the authors' own Lean function (tested against real Go, not proved from fmt's source: count such statements apart). THE CARD IS WHAT COUNTS. Prove the row's statement (the work); the ties are given (YtcipfcbaclfnhaaDoorTie.lean); close each card by the builder's one call (the guide's Derived/Test/ToyasCard.lean, 'card_holds'). Laid BY PROGRAM, IN A SANDBOX (cutbox-door.mjs). By AI agents, Wed Nov 11 2026. No macro, syntax, notation, axiom, sorry.
-/
import Derived.Test.YtcipfcbaclfnhaaDoorRows
import GoSem.ClaimSeven
namespace Go.Proofs.YtcipfcbaclfnhaaDoor
namespace Rows

/-- THE TIED CARD OF 'plugboardlaw29.RecoveriesEnds'. -/
def recoveriesEndsCard : Claim7 := { stood := { row := recoveriesEndsRow, standIns := [], harness := (true, "80b4cedac525617e33e55bb46d32322e56a10a64844434ad8a43f47857804ffd"), looks := false }, kinds := [], alts := [], laidByText := true, laidKinds := [.data], laidTests := true, laidLooks := .later }
def RecoveriesEndsCardSaid : Prop := Claim7.holds Tryd.pinned (.plain (OpenSpec.ofChange recoveriesEndsSpec)) recoveriesEndsCard

/-- THE TIED CARD OF 'plugboardlaw29.RecoveriesWait'. -/
def recoveriesWaitCard : Claim7 := { stood := { row := recoveriesWaitRow, standIns := [], harness := (true, "80b4cedac525617e33e55bb46d32322e56a10a64844434ad8a43f47857804ffd"), looks := false }, kinds := [], alts := [], laidByText := true, laidKinds := [.data], laidTests := true, laidLooks := .later }
def RecoveriesWaitCardSaid : Prop := Claim7.holds Tryd.pinned (.plain (OpenSpec.ofChange recoveriesWaitSpec)) recoveriesWaitCard

/-- THE TIED CARD OF 'plugboardlaw29.RecoveriesMarks'. -/
def recoveriesMarksCard : Claim7 := { stood := { row := recoveriesMarksRow, standIns := [], harness := (true, "80b4cedac525617e33e55bb46d32322e56a10a64844434ad8a43f47857804ffd"), looks := false }, kinds := [], alts := [], laidByText := true, laidKinds := [.data], laidTests := true, laidLooks := .later }
def RecoveriesMarksCardSaid : Prop := Claim7.holds Tryd.pinned (.plain (OpenSpec.ofChange recoveriesMarksSpec)) recoveriesMarksCard

/-- THE TIED CARD OF 'plugboardlaw29.RecoveriesCalm'. -/
def recoveriesCalmCard : Claim7 := { stood := { row := recoveriesCalmRow, standIns := [], harness := (true, "80b4cedac525617e33e55bb46d32322e56a10a64844434ad8a43f47857804ffd"), looks := false }, kinds := [], alts := [], laidByText := true, laidKinds := [.data], laidTests := true, laidLooks := .later }
def RecoveriesCalmCardSaid : Prop := Claim7.holds Tryd.pinned (.plain (OpenSpec.ofChange recoveriesCalmSpec)) recoveriesCalmCard

/-- THE TIED CARD OF 'plugboardlaw29.RecoveriesGiven'. -/
def recoveriesGivenCard : Claim7 := { stood := { row := recoveriesGivenRow, standIns := [], harness := (true, "80b4cedac525617e33e55bb46d32322e56a10a64844434ad8a43f47857804ffd"), looks := false }, kinds := [], alts := [], laidByText := true, laidKinds := [.data], laidTests := true, laidLooks := .later }
def RecoveriesGivenCardSaid : Prop := Claim7.holds Tryd.pinned (.plain (OpenSpec.ofChange recoveriesGivenSpec)) recoveriesGivenCard

/-- THE SECOND FORM's CARD OF 'plugboardlaw29.RecoveriesEnds'. -/
def recoveriesEndsUptoCard : Claim7 := { stood := { row := recoveriesEndsUptoRow, standIns := [], harness := (true, "80b4cedac525617e33e55bb46d32322e56a10a64844434ad8a43f47857804ffd"), looks := false }, kinds := [], alts := [], laidByText := true, laidKinds := [.data], laidTests := true, laidLooks := .later }
def RecoveriesEndsUptoCardSaid : Prop := Claim7.holds Tryd.pinned (.plain (OpenSpec.upto recoveriesEndsSpec)) recoveriesEndsUptoCard

/-- THE SECOND FORM's CARD OF 'plugboardlaw29.RecoveriesWait'. -/
def recoveriesWaitUptoCard : Claim7 := { stood := { row := recoveriesWaitUptoRow, standIns := [], harness := (true, "80b4cedac525617e33e55bb46d32322e56a10a64844434ad8a43f47857804ffd"), looks := false }, kinds := [], alts := [], laidByText := true, laidKinds := [.data], laidTests := true, laidLooks := .later }
def RecoveriesWaitUptoCardSaid : Prop := Claim7.holds Tryd.pinned (.plain (OpenSpec.upto recoveriesWaitSpec)) recoveriesWaitUptoCard

/-- THE SECOND FORM's CARD OF 'plugboardlaw29.RecoveriesMarks'. -/
def recoveriesMarksUptoCard : Claim7 := { stood := { row := recoveriesMarksUptoRow, standIns := [], harness := (true, "80b4cedac525617e33e55bb46d32322e56a10a64844434ad8a43f47857804ffd"), looks := false }, kinds := [], alts := [], laidByText := true, laidKinds := [.data], laidTests := true, laidLooks := .later }
def RecoveriesMarksUptoCardSaid : Prop := Claim7.holds Tryd.pinned (.plain (OpenSpec.upto recoveriesMarksSpec)) recoveriesMarksUptoCard

/-- THE SECOND FORM's CARD OF 'plugboardlaw29.RecoveriesCalm'. -/
def recoveriesCalmUptoCard : Claim7 := { stood := { row := recoveriesCalmUptoRow, standIns := [], harness := (true, "80b4cedac525617e33e55bb46d32322e56a10a64844434ad8a43f47857804ffd"), looks := false }, kinds := [], alts := [], laidByText := true, laidKinds := [.data], laidTests := true, laidLooks := .later }
def RecoveriesCalmUptoCardSaid : Prop := Claim7.holds Tryd.pinned (.plain (OpenSpec.upto recoveriesCalmSpec)) recoveriesCalmUptoCard

/-- THE SECOND FORM's CARD OF 'plugboardlaw29.RecoveriesGiven'. -/
def recoveriesGivenUptoCard : Claim7 := { stood := { row := recoveriesGivenUptoRow, standIns := [], harness := (true, "80b4cedac525617e33e55bb46d32322e56a10a64844434ad8a43f47857804ffd"), looks := false }, kinds := [], alts := [], laidByText := true, laidKinds := [.data], laidTests := true, laidLooks := .later }
def RecoveriesGivenUptoCardSaid : Prop := Claim7.holds Tryd.pinned (.plain (OpenSpec.upto recoveriesGivenSpec)) recoveriesGivenUptoCard
end Rows
end Go.Proofs.YtcipfcbaclfnhaaDoor
