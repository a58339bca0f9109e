/-
  NARROWER THAN 'FOR EVERY INPUT', by the rows' own cells (each row's printed sentence says how): PipesOut: laid · PipesIn: laid · PipesIso: laid.
  DERIVED. THE GIVEN ROWS OF THIS SEAT. 3 by the template 'for every input the law returns true; each argument reads behind the call as it read before'; 0 by the template 'total and deterministic' (their statements: YtiajboiobjfcoaaGreatDoorTotals.lean).
  GIVEN WITH THE SEED: the statements are not yours to turn. If you find one false, say at which input.
  Laid BY PROGRAM, IN A SANDBOX (cutbox-rows.mjs): the forced cells as the released guide's own fill.sh prints them over the translation c509995bddf8aa27… (all of the seat's roots in one cut). By AI agents, Wed Nov 11 2026. No macro, syntax, notation, axiom, sorry.
-/
import Derived.Test.YtiajboiobjfcoaaGreatDoorChecked
import GoSem.Claim
import GoSem.ClaimJoined
import GoSem.ClaimMapViews
import Derived.JoinedTies
import Derived.KernelRfl
namespace Go.Proofs.YtiajboiobjfcoaaGreatDoor
/- THE CELL 'sum', in the pinned program and in every row, IS THE sha256 OF THE DUMP (.gsa) THAT YtiajboiobjfcoaaGreatDoorProg.lean LOADS. Nothing in Lean hashes anything: it is a label: what it is worth is what the hold of that sum in a sandbox is worth. -/
noncomputable def Tryz.pinned : Pinned := { name := "ytiajboiobjfcoaagreatdoor", sum := "c509995bddf8aa2710c437aecb190b243587a4660e7a8f23d5c1743096a3c08c", checked := Tryz.checked }
namespace Rows
def none {H : Type} : Left H := { results := [], args := [] }

/- WHAT THE LISTED PACKAGE-LEVEL VARIABLES READ AS WHEN THE CALL BEGINS. Each datum BY PROGRAM (the guide's laid-datum.mjs) off the statement by which the dump's own 'gosem.cut.vars' lays the variable. In a bare row this is a premise. The card (YtiajboiobjfcoaaGreatDoorCards.lean) ties it to the program's text. -/
def laid_plugboard_pipes_halts {H : Type} : DataW H := .map [(.int .i64 11, .lit (.bool true)), (.int .i64 12, .lit (.bool true)), (.int .i64 13, .lit (.bool true))]

/-- 'plugboardlaw23.PipesOut': WHATEVER THE INPUT: true; the input reads as it did. -/
def pipesOutSpec : ChangeSpec := { name := "pipesOut", fn := fun _ => fun
  | [d] => { results := [.lit (.bool true)], args := [d] }
  | _ => none }
def pipesOutRow : OpenClaim := { program := "ytiajboiobjfcoaagreatdoor", sum := "c509995bddf8aa2710c437aecb190b243587a4660e7a8f23d5c1743096a3c08c", func := "plugboard/plugboardlaw23.PipesOut", spec := "pipesOut", unfollowed := true, recurses := true, named := ["plugboard/pipes.halts"], apart := false, laid := [("plugboard/pipes.halts", laid_plugboard_pipes_halts)] }
def PipesOutSaid : Prop := pipesOutRow.holds Tryz.pinned (OpenSpec.ofChange pipesOutSpec)

/-- ITS FALSE NEIGHBOUR: 'it returns false'. Refute it at one input. -/
def pipesOutWrong : ChangeSpec := { name := "pipesOut", fn := fun _ => fun
  | [d] => { results := [.lit (.bool false)], args := [d] }
  | _ => none }
def PipesOutWrongFalsely : Prop := pipesOutRow.holds Tryz.pinned (OpenSpec.ofChange pipesOutWrong)

/-- 'plugboardlaw23.PipesIn': WHATEVER THE INPUT: true; the input reads as it did. -/
def pipesInSpec : ChangeSpec := { name := "pipesIn", fn := fun _ => fun
  | [d] => { results := [.lit (.bool true)], args := [d] }
  | _ => none }
def pipesInRow : OpenClaim := { program := "ytiajboiobjfcoaagreatdoor", sum := "c509995bddf8aa2710c437aecb190b243587a4660e7a8f23d5c1743096a3c08c", func := "plugboard/plugboardlaw23.PipesIn", spec := "pipesIn", unfollowed := true, recurses := true, named := ["plugboard/pipes.halts"], apart := false, laid := [("plugboard/pipes.halts", laid_plugboard_pipes_halts)] }
def PipesInSaid : Prop := pipesInRow.holds Tryz.pinned (OpenSpec.ofChange pipesInSpec)

/-- ITS FALSE NEIGHBOUR: 'it returns false'. Refute it at one input. -/
def pipesInWrong : ChangeSpec := { name := "pipesIn", fn := fun _ => fun
  | [d] => { results := [.lit (.bool false)], args := [d] }
  | _ => none }
def PipesInWrongFalsely : Prop := pipesInRow.holds Tryz.pinned (OpenSpec.ofChange pipesInWrong)

/-- 'plugboardlaw23.PipesIso': WHATEVER THE INPUT: true; the input reads as it did. -/
def pipesIsoSpec : ChangeSpec := { name := "pipesIso", fn := fun _ => fun
  | [d1, d2, d3] => { results := [.lit (.bool true)], args := [d1, d2, d3] }
  | _ => none }
def pipesIsoRow : OpenClaim := { program := "ytiajboiobjfcoaagreatdoor", sum := "c509995bddf8aa2710c437aecb190b243587a4660e7a8f23d5c1743096a3c08c", func := "plugboard/plugboardlaw23.PipesIso", spec := "pipesIso", unfollowed := true, recurses := true, named := ["plugboard/pipes.halts"], apart := false, laid := [("plugboard/pipes.halts", laid_plugboard_pipes_halts)] }
def PipesIsoSaid : Prop := pipesIsoRow.holds Tryz.pinned (OpenSpec.ofChange pipesIsoSpec)

/-- ITS FALSE NEIGHBOUR: 'it returns false'. Refute it at one input. -/
def pipesIsoWrong : ChangeSpec := { name := "pipesIso", fn := fun _ => fun
  | [d1, d2, d3] => { results := [.lit (.bool false)], args := [d1, d2, d3] }
  | _ => none }
def PipesIsoWrongFalsely : Prop := pipesIsoRow.holds Tryz.pinned (OpenSpec.ofChange pipesIsoWrong)

/- THE SECOND FORM. 'bulk': how many values and letters a reading holds, each counted each time it is reached (what is shared counts as often as it is met; a slice's spare places count too). A statement '..UptoSaid' is the law's where the arguments, and the package variables that the reading takes, are together of bulk at most 1048576: NARROWER than '..Said'. Prove '..Said' where nothing that the law and all that it calls make is longer than what came in: it says more and counts as full. Else prove '..UptoSaid'. A law counts once. -/
mutual
def uptoBulk {H : Type} : DataW H → Nat
  | .lit (.string bytes) => bytes.length + 1
  | .lit _ => 1
  | .nil => 1
  | .ptr d => uptoBulk d + 1
  | .slice elems spare => uptoBulkAll elems + uptoBulkAll spare + 1
  | .agg parts => uptoBulkAll parts + 1
  | .iface _ d => uptoBulk d + 1
  | .map entries => uptoBulkEntries entries + 1
  | .held _ => 1
def uptoBulkAll {H : Type} : List (DataW H) → Nat
  | [] => 0
  | d :: r => uptoBulk d + uptoBulkAll r
def uptoBulkEntries {H : Type} : List (Lit × DataW H) → Nat
  | [] => 0
  | x :: r => uptoBulkEntry x + uptoBulkEntries r
def uptoBulkEntry {H : Type} : Lit × DataW H → Nat
  | (.string bytes, d) => bytes.length + uptoBulk d + 1
  | (_, d) => uptoBulk d + 1
 end
def uptoSmall : (H : Type) → List (DataW H) → Bool := fun _ ds => decide (uptoBulkAll ds ≤ 1048576)
def OpenSpec.upto (s : _root_.Go.ChangeSpec) : _root_.Go.OpenSpec := { _root_.Go.OpenSpec.ofChange s with cond := some uptoSmall }

/-- 'plugboardlaw23.PipesOut', WHERE WHAT IT READS IS OF BULK AT MOST 1048576: true; the input reads as it did. -/
def pipesOutUptoRow : OpenClaim := { program := "ytiajboiobjfcoaagreatdoor", sum := "c509995bddf8aa2710c437aecb190b243587a4660e7a8f23d5c1743096a3c08c", func := "plugboard/plugboardlaw23.PipesOut", spec := "pipesOut", unfollowed := true, recurses := true, named := ["plugboard/pipes.halts"], apart := false, laid := [("plugboard/pipes.halts", laid_plugboard_pipes_halts)], narrowed := true }
def PipesOutUptoSaid : Prop := pipesOutUptoRow.holds Tryz.pinned (OpenSpec.upto pipesOutSpec)

/-- 'plugboardlaw23.PipesIn', WHERE WHAT IT READS IS OF BULK AT MOST 1048576: true; the input reads as it did. -/
def pipesInUptoRow : OpenClaim := { program := "ytiajboiobjfcoaagreatdoor", sum := "c509995bddf8aa2710c437aecb190b243587a4660e7a8f23d5c1743096a3c08c", func := "plugboard/plugboardlaw23.PipesIn", spec := "pipesIn", unfollowed := true, recurses := true, named := ["plugboard/pipes.halts"], apart := false, laid := [("plugboard/pipes.halts", laid_plugboard_pipes_halts)], narrowed := true }
def PipesInUptoSaid : Prop := pipesInUptoRow.holds Tryz.pinned (OpenSpec.upto pipesInSpec)

/-- 'plugboardlaw23.PipesIso', WHERE WHAT IT READS IS OF BULK AT MOST 1048576: true; the input reads as it did. -/
def pipesIsoUptoRow : OpenClaim := { program := "ytiajboiobjfcoaagreatdoor", sum := "c509995bddf8aa2710c437aecb190b243587a4660e7a8f23d5c1743096a3c08c", func := "plugboard/plugboardlaw23.PipesIso", spec := "pipesIso", unfollowed := true, recurses := true, named := ["plugboard/pipes.halts"], apart := false, laid := [("plugboard/pipes.halts", laid_plugboard_pipes_halts)], narrowed := true }
def PipesIsoUptoSaid : Prop := pipesIsoUptoRow.holds Tryz.pinned (OpenSpec.upto pipesIsoSpec)

end Rows
end Go.Proofs.YtiajboiobjfcoaaGreatDoor
