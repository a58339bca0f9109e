/-
  NARROWER THAN 'FOR EVERY INPUT', by the rows' own cells (each row's printed sentence says how): PipesNone: laid · PipesBegin: laid · PipesOf: laid.
  DERIVED. THE GIVEN ROWS OF THIS SEAT. 3 by the template 'for every input the law returns true; each argument reads behind the call as it read before'; 0 by the template 'total and deterministic' (their statements: YtfliaagohfoipaaGreatDoorTotals.lean).
  GIVEN WITH THE SEED: the statements are not yours to turn. If you find one false, say at which input.
  Laid BY PROGRAM, IN A SANDBOX (cutbox-rows.mjs): the forced cells as the released guide's own fill.sh prints them over the translation a2dc638f2e073b4a… (all of the seat's roots in one cut). By AI agents, Wed Nov 11 2026. No macro, syntax, notation, axiom, sorry.
-/
import Derived.Test.YtfliaagohfoipaaGreatDoorChecked
import GoSem.Claim
import GoSem.ClaimJoined
import GoSem.ClaimMapViews
import Derived.JoinedTies
import Derived.KernelRfl
namespace Go.Proofs.YtfliaagohfoipaaGreatDoor
/- THE CELL 'sum', in the pinned program and in every row, IS THE sha256 OF THE DUMP (.gsa) THAT YtfliaagohfoipaaGreatDoorProg.lean LOADS. Nothing in Lean hashes anything: it is a label: what it is worth is what the hold of that sum in a sandbox is worth. -/
noncomputable def Tryz.pinned : Pinned := { name := "ytfliaagohfoipaagreatdoor", sum := "a2dc638f2e073b4a891f7320b87003ae1cd8e9a35ed2e0b7850c37030e94ec78", checked := Tryz.checked }
namespace Rows
def none {H : Type} : Left H := { results := [], args := [] }

/- WHAT THE LISTED PACKAGE-LEVEL VARIABLES READ AS WHEN THE CALL BEGINS. Each datum BY PROGRAM (the guide's laid-datum.mjs) off the statement by which the dump's own 'gosem.cut.vars' lays the variable. In a bare row this is a premise. The card (YtfliaagohfoipaaGreatDoorCards.lean) ties it to the program's text. -/
def laid_plugboard_pipes_halts {H : Type} : DataW H := .map [(.int .i64 11, .lit (.bool true)), (.int .i64 12, .lit (.bool true)), (.int .i64 13, .lit (.bool true))]

/-- 'plugboardlaw23.PipesNone': WHATEVER THE INPUT: true; the input reads as it did. -/
def pipesNoneSpec : ChangeSpec := { name := "pipesNone", fn := fun _ => fun
  | [d1, d2] => { results := [.lit (.bool true)], args := [d1, d2] }
  | _ => none }
def pipesNoneRow : OpenClaim := { program := "ytfliaagohfoipaagreatdoor", sum := "a2dc638f2e073b4a891f7320b87003ae1cd8e9a35ed2e0b7850c37030e94ec78", func := "plugboard/plugboardlaw23.PipesNone", spec := "pipesNone", unfollowed := true, recurses := true, named := ["plugboard/pipes.halts"], apart := false, laid := [("plugboard/pipes.halts", laid_plugboard_pipes_halts)] }
def PipesNoneSaid : Prop := pipesNoneRow.holds Tryz.pinned (OpenSpec.ofChange pipesNoneSpec)

/-- ITS FALSE NEIGHBOUR: 'it returns false'. Refute it at one input. -/
def pipesNoneWrong : ChangeSpec := { name := "pipesNone", fn := fun _ => fun
  | [d1, d2] => { results := [.lit (.bool false)], args := [d1, d2] }
  | _ => none }
def PipesNoneWrongFalsely : Prop := pipesNoneRow.holds Tryz.pinned (OpenSpec.ofChange pipesNoneWrong)

/-- 'plugboardlaw23.PipesBegin': WHATEVER THE INPUT: true; the input reads as it did. -/
def pipesBeginSpec : ChangeSpec := { name := "pipesBegin", fn := fun _ => fun
  | [d1, d2, d3] => { results := [.lit (.bool true)], args := [d1, d2, d3] }
  | _ => none }
def pipesBeginRow : OpenClaim := { program := "ytfliaagohfoipaagreatdoor", sum := "a2dc638f2e073b4a891f7320b87003ae1cd8e9a35ed2e0b7850c37030e94ec78", func := "plugboard/plugboardlaw23.PipesBegin", spec := "pipesBegin", unfollowed := true, recurses := true, named := ["plugboard/pipes.halts"], apart := false, laid := [("plugboard/pipes.halts", laid_plugboard_pipes_halts)] }
def PipesBeginSaid : Prop := pipesBeginRow.holds Tryz.pinned (OpenSpec.ofChange pipesBeginSpec)

/-- ITS FALSE NEIGHBOUR: 'it returns false'. Refute it at one input. -/
def pipesBeginWrong : ChangeSpec := { name := "pipesBegin", fn := fun _ => fun
  | [d1, d2, d3] => { results := [.lit (.bool false)], args := [d1, d2, d3] }
  | _ => none }
def PipesBeginWrongFalsely : Prop := pipesBeginRow.holds Tryz.pinned (OpenSpec.ofChange pipesBeginWrong)

/-- 'plugboardlaw23.PipesOf': WHATEVER THE INPUT: true; the input reads as it did. -/
def pipesOfSpec : ChangeSpec := { name := "pipesOf", fn := fun _ => fun
  | [d1, d2] => { results := [.lit (.bool true)], args := [d1, d2] }
  | _ => none }
def pipesOfRow : OpenClaim := { program := "ytfliaagohfoipaagreatdoor", sum := "a2dc638f2e073b4a891f7320b87003ae1cd8e9a35ed2e0b7850c37030e94ec78", func := "plugboard/plugboardlaw23.PipesOf", spec := "pipesOf", unfollowed := true, recurses := true, named := ["plugboard/pipes.halts"], apart := false, laid := [("plugboard/pipes.halts", laid_plugboard_pipes_halts)] }
def PipesOfSaid : Prop := pipesOfRow.holds Tryz.pinned (OpenSpec.ofChange pipesOfSpec)

/-- ITS FALSE NEIGHBOUR: 'it returns false'. Refute it at one input. -/
def pipesOfWrong : ChangeSpec := { name := "pipesOf", fn := fun _ => fun
  | [d1, d2] => { results := [.lit (.bool false)], args := [d1, d2] }
  | _ => none }
def PipesOfWrongFalsely : Prop := pipesOfRow.holds Tryz.pinned (OpenSpec.ofChange pipesOfWrong)

/- THE SECOND FORM. 'bulk': how many values and letters a reading holds, each counted each time it is reached (what is shared counts as often as it is met; a slice's spare places count too). A statement '..UptoSaid' is the law's where the arguments, and the package variables that the reading takes, are together of bulk at most 1048576: NARROWER than '..Said'. Prove '..Said' where nothing that the law and all that it calls make is longer than what came in: it says more and counts as full. Else prove '..UptoSaid'. A law counts once. -/
mutual
def uptoBulk {H : Type} : DataW H → Nat
  | .lit (.string bytes) => bytes.length + 1
  | .lit _ => 1
  | .nil => 1
  | .ptr d => uptoBulk d + 1
  | .slice elems spare => uptoBulkAll elems + uptoBulkAll spare + 1
  | .agg parts => uptoBulkAll parts + 1
  | .iface _ d => uptoBulk d + 1
  | .map entries => uptoBulkEntries entries + 1
  | .held _ => 1
def uptoBulkAll {H : Type} : List (DataW H) → Nat
  | [] => 0
  | d :: r => uptoBulk d + uptoBulkAll r
def uptoBulkEntries {H : Type} : List (Lit × DataW H) → Nat
  | [] => 0
  | x :: r => uptoBulkEntry x + uptoBulkEntries r
def uptoBulkEntry {H : Type} : Lit × DataW H → Nat
  | (.string bytes, d) => bytes.length + uptoBulk d + 1
  | (_, d) => uptoBulk d + 1
 end
def uptoSmall : (H : Type) → List (DataW H) → Bool := fun _ ds => decide (uptoBulkAll ds ≤ 1048576)
def OpenSpec.upto (s : _root_.Go.ChangeSpec) : _root_.Go.OpenSpec := { _root_.Go.OpenSpec.ofChange s with cond := some uptoSmall }

/-- 'plugboardlaw23.PipesNone', WHERE WHAT IT READS IS OF BULK AT MOST 1048576: true; the input reads as it did. -/
def pipesNoneUptoRow : OpenClaim := { program := "ytfliaagohfoipaagreatdoor", sum := "a2dc638f2e073b4a891f7320b87003ae1cd8e9a35ed2e0b7850c37030e94ec78", func := "plugboard/plugboardlaw23.PipesNone", spec := "pipesNone", unfollowed := true, recurses := true, named := ["plugboard/pipes.halts"], apart := false, laid := [("plugboard/pipes.halts", laid_plugboard_pipes_halts)], narrowed := true }
def PipesNoneUptoSaid : Prop := pipesNoneUptoRow.holds Tryz.pinned (OpenSpec.upto pipesNoneSpec)

/-- 'plugboardlaw23.PipesBegin', WHERE WHAT IT READS IS OF BULK AT MOST 1048576: true; the input reads as it did. -/
def pipesBeginUptoRow : OpenClaim := { program := "ytfliaagohfoipaagreatdoor", sum := "a2dc638f2e073b4a891f7320b87003ae1cd8e9a35ed2e0b7850c37030e94ec78", func := "plugboard/plugboardlaw23.PipesBegin", spec := "pipesBegin", unfollowed := true, recurses := true, named := ["plugboard/pipes.halts"], apart := false, laid := [("plugboard/pipes.halts", laid_plugboard_pipes_halts)], narrowed := true }
def PipesBeginUptoSaid : Prop := pipesBeginUptoRow.holds Tryz.pinned (OpenSpec.upto pipesBeginSpec)

/-- 'plugboardlaw23.PipesOf', WHERE WHAT IT READS IS OF BULK AT MOST 1048576: true; the input reads as it did. -/
def pipesOfUptoRow : OpenClaim := { program := "ytfliaagohfoipaagreatdoor", sum := "a2dc638f2e073b4a891f7320b87003ae1cd8e9a35ed2e0b7850c37030e94ec78", func := "plugboard/plugboardlaw23.PipesOf", spec := "pipesOf", unfollowed := true, recurses := true, named := ["plugboard/pipes.halts"], apart := false, laid := [("plugboard/pipes.halts", laid_plugboard_pipes_halts)], narrowed := true }
def PipesOfUptoSaid : Prop := pipesOfUptoRow.holds Tryz.pinned (OpenSpec.upto pipesOfSpec)

end Rows
end Go.Proofs.YtfliaagohfoipaaGreatDoor
