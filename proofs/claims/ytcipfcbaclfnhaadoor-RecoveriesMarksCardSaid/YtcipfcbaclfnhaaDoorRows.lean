/-
  NARROWER THAN 'FOR EVERY INPUT', by the rows' own cells (each row's printed sentence says how): RecoveriesEnds: laid · RecoveriesWait: laid · RecoveriesMarks: laid · RecoveriesCalm: laid · RecoveriesGiven: laid.
  DERIVED. THE GIVEN ROWS OF THIS SEAT. 5 by the template 'for every input the law returns true; each argument reads behind the call as it read before'; 0 by the template 'total and deterministic' (their statements: YtcipfcbaclfnhaaDoorTotals.lean).
  GIVEN WITH THE SEED: the statements are not yours to turn. If you find one false, say at which input.
  Laid BY PROGRAM, IN A SANDBOX (cutbox-rows.mjs): the forced cells as the released guide's own fill.sh prints them over the translation 3100e8c5650e5862… (all of the seat's roots in one cut). By AI agents, Wed Nov 11 2026. No macro, syntax, notation, axiom, sorry.
-/
import Derived.Test.YtcipfcbaclfnhaaDoorChecked
import GoSem.Claim
import GoSem.ClaimJoined
import GoSem.ClaimMapViews
import Derived.JoinedTies
import Derived.KernelRfl
namespace Go.Proofs.YtcipfcbaclfnhaaDoor
/- THE CELL 'sum', in the pinned program and in every row, IS THE sha256 OF THE DUMP (.gsa) THAT YtcipfcbaclfnhaaDoorProg.lean LOADS. Nothing in Lean hashes anything: it is a label: what it is worth is what the hold of that sum in a sandbox is worth. -/
noncomputable def Tryd.pinned : Pinned := { name := "ytcipfcbaclfnhaadoor", sum := "3100e8c5650e5862642188d9ee9043b02f7d4f038326f5886cd33d9718928d9f", checked := Tryd.checked }
namespace Rows
def none {H : Type} : Left H := { results := [], args := [] }

/- WHAT THE LISTED PACKAGE-LEVEL VARIABLES READ AS WHEN THE CALL BEGINS. Each datum BY PROGRAM (the guide's laid-datum.mjs) off the statement by which the dump's own 'gosem.cut.vars' lays the variable. In a bare row this is a premise. The card (YtcipfcbaclfnhaaDoorCards.lean) ties it to the program's text. -/
def laid_math_bits_deBruijn32tab {H : Type} : DataW H := .agg [.lit (.int .u8 0), .lit (.int .u8 1), .lit (.int .u8 28), .lit (.int .u8 2), .lit (.int .u8 29), .lit (.int .u8 14), .lit (.int .u8 24), .lit (.int .u8 3), .lit (.int .u8 30), .lit (.int .u8 22), .lit (.int .u8 20), .lit (.int .u8 15), .lit (.int .u8 25), .lit (.int .u8 17), .lit (.int .u8 4), .lit (.int .u8 8), .lit (.int .u8 31), .lit (.int .u8 27), .lit (.int .u8 13), .lit (.int .u8 23), .lit (.int .u8 21), .lit (.int .u8 19), .lit (.int .u8 16), .lit (.int .u8 7), .lit (.int .u8 26), .lit (.int .u8 12), .lit (.int .u8 18), .lit (.int .u8 6), .lit (.int .u8 11), .lit (.int .u8 5), .lit (.int .u8 10), .lit (.int .u8 9)]

/-- 'plugboardlaw29.RecoveriesEnds': WHATEVER THE INPUT: true; the input reads as it did. -/
def recoveriesEndsSpec : ChangeSpec := { name := "recoveriesEnds", fn := fun _ => fun
  | [d] => { results := [.lit (.bool true)], args := [d] }
  | _ => none }
def recoveriesEndsRow : OpenClaim := { program := "ytcipfcbaclfnhaadoor", sum := "3100e8c5650e5862642188d9ee9043b02f7d4f038326f5886cd33d9718928d9f", func := "plugboard/plugboardlaw29.RecoveriesEnds", spec := "recoveriesEnds", unfollowed := true, recurses := true, named := ["math/bits.deBruijn32tab"], apart := false, laid := [("math/bits.deBruijn32tab", laid_math_bits_deBruijn32tab)] }
def RecoveriesEndsSaid : Prop := recoveriesEndsRow.holds Tryd.pinned (OpenSpec.ofChange recoveriesEndsSpec)

/-- ITS FALSE NEIGHBOUR: 'it returns false'. Refute it at one input. -/
def recoveriesEndsWrong : ChangeSpec := { name := "recoveriesEnds", fn := fun _ => fun
  | [d] => { results := [.lit (.bool false)], args := [d] }
  | _ => none }
def RecoveriesEndsWrongFalsely : Prop := recoveriesEndsRow.holds Tryd.pinned (OpenSpec.ofChange recoveriesEndsWrong)

/-- 'plugboardlaw29.RecoveriesWait': WHATEVER THE INPUT: true; the input reads as it did. -/
def recoveriesWaitSpec : ChangeSpec := { name := "recoveriesWait", fn := fun _ => fun
  | [d1, d2] => { results := [.lit (.bool true)], args := [d1, d2] }
  | _ => none }
def recoveriesWaitRow : OpenClaim := { program := "ytcipfcbaclfnhaadoor", sum := "3100e8c5650e5862642188d9ee9043b02f7d4f038326f5886cd33d9718928d9f", func := "plugboard/plugboardlaw29.RecoveriesWait", spec := "recoveriesWait", unfollowed := true, recurses := true, named := ["math/bits.deBruijn32tab"], apart := false, laid := [("math/bits.deBruijn32tab", laid_math_bits_deBruijn32tab)] }
def RecoveriesWaitSaid : Prop := recoveriesWaitRow.holds Tryd.pinned (OpenSpec.ofChange recoveriesWaitSpec)

/-- ITS FALSE NEIGHBOUR: 'it returns false'. Refute it at one input. -/
def recoveriesWaitWrong : ChangeSpec := { name := "recoveriesWait", fn := fun _ => fun
  | [d1, d2] => { results := [.lit (.bool false)], args := [d1, d2] }
  | _ => none }
def RecoveriesWaitWrongFalsely : Prop := recoveriesWaitRow.holds Tryd.pinned (OpenSpec.ofChange recoveriesWaitWrong)

/-- 'plugboardlaw29.RecoveriesMarks': WHATEVER THE INPUT: true; the input reads as it did. -/
def recoveriesMarksSpec : ChangeSpec := { name := "recoveriesMarks", fn := fun _ => fun
  | [d] => { results := [.lit (.bool true)], args := [d] }
  | _ => none }
def recoveriesMarksRow : OpenClaim := { program := "ytcipfcbaclfnhaadoor", sum := "3100e8c5650e5862642188d9ee9043b02f7d4f038326f5886cd33d9718928d9f", func := "plugboard/plugboardlaw29.RecoveriesMarks", spec := "recoveriesMarks", unfollowed := true, recurses := true, named := ["math/bits.deBruijn32tab"], apart := false, laid := [("math/bits.deBruijn32tab", laid_math_bits_deBruijn32tab)] }
def RecoveriesMarksSaid : Prop := recoveriesMarksRow.holds Tryd.pinned (OpenSpec.ofChange recoveriesMarksSpec)

/-- ITS FALSE NEIGHBOUR: 'it returns false'. Refute it at one input. -/
def recoveriesMarksWrong : ChangeSpec := { name := "recoveriesMarks", fn := fun _ => fun
  | [d] => { results := [.lit (.bool false)], args := [d] }
  | _ => none }
def RecoveriesMarksWrongFalsely : Prop := recoveriesMarksRow.holds Tryd.pinned (OpenSpec.ofChange recoveriesMarksWrong)

/-- 'plugboardlaw29.RecoveriesCalm': WHATEVER THE INPUT: true; the input reads as it did. -/
def recoveriesCalmSpec : ChangeSpec := { name := "recoveriesCalm", fn := fun _ => fun
  | [d1, d2] => { results := [.lit (.bool true)], args := [d1, d2] }
  | _ => none }
def recoveriesCalmRow : OpenClaim := { program := "ytcipfcbaclfnhaadoor", sum := "3100e8c5650e5862642188d9ee9043b02f7d4f038326f5886cd33d9718928d9f", func := "plugboard/plugboardlaw29.RecoveriesCalm", spec := "recoveriesCalm", unfollowed := true, recurses := true, named := ["math/bits.deBruijn32tab"], apart := false, laid := [("math/bits.deBruijn32tab", laid_math_bits_deBruijn32tab)] }
def RecoveriesCalmSaid : Prop := recoveriesCalmRow.holds Tryd.pinned (OpenSpec.ofChange recoveriesCalmSpec)

/-- ITS FALSE NEIGHBOUR: 'it returns false'. Refute it at one input. -/
def recoveriesCalmWrong : ChangeSpec := { name := "recoveriesCalm", fn := fun _ => fun
  | [d1, d2] => { results := [.lit (.bool false)], args := [d1, d2] }
  | _ => none }
def RecoveriesCalmWrongFalsely : Prop := recoveriesCalmRow.holds Tryd.pinned (OpenSpec.ofChange recoveriesCalmWrong)

/-- 'plugboardlaw29.RecoveriesGiven': WHATEVER THE INPUT: true; the input reads as it did. -/
def recoveriesGivenSpec : ChangeSpec := { name := "recoveriesGiven", fn := fun _ => fun
  | [d1, d2, d3] => { results := [.lit (.bool true)], args := [d1, d2, d3] }
  | _ => none }
def recoveriesGivenRow : OpenClaim := { program := "ytcipfcbaclfnhaadoor", sum := "3100e8c5650e5862642188d9ee9043b02f7d4f038326f5886cd33d9718928d9f", func := "plugboard/plugboardlaw29.RecoveriesGiven", spec := "recoveriesGiven", unfollowed := true, recurses := true, named := ["math/bits.deBruijn32tab"], apart := false, laid := [("math/bits.deBruijn32tab", laid_math_bits_deBruijn32tab)] }
def RecoveriesGivenSaid : Prop := recoveriesGivenRow.holds Tryd.pinned (OpenSpec.ofChange recoveriesGivenSpec)

/-- ITS FALSE NEIGHBOUR: 'it returns false'. Refute it at one input. -/
def recoveriesGivenWrong : ChangeSpec := { name := "recoveriesGiven", fn := fun _ => fun
  | [d1, d2, d3] => { results := [.lit (.bool false)], args := [d1, d2, d3] }
  | _ => none }
def RecoveriesGivenWrongFalsely : Prop := recoveriesGivenRow.holds Tryd.pinned (OpenSpec.ofChange recoveriesGivenWrong)

/- THE SECOND FORM. 'bulk': how many values and letters a reading holds, each counted each time it is reached (what is shared counts as often as it is met; a slice's spare places count too). A statement '..UptoSaid' is the law's where the arguments, and the package variables that the reading takes, are together of bulk at most 1048576: NARROWER than '..Said'. Prove '..Said' where nothing that the law and all that it calls make is longer than what came in: it says more and counts as full. Else prove '..UptoSaid'. A law counts once. -/
mutual
def uptoBulk {H : Type} : DataW H → Nat
  | .lit (.string bytes) => bytes.length + 1
  | .lit _ => 1
  | .nil => 1
  | .ptr d => uptoBulk d + 1
  | .slice elems spare => uptoBulkAll elems + uptoBulkAll spare + 1
  | .agg parts => uptoBulkAll parts + 1
  | .iface _ d => uptoBulk d + 1
  | .map entries => uptoBulkEntries entries + 1
  | .held _ => 1
def uptoBulkAll {H : Type} : List (DataW H) → Nat
  | [] => 0
  | d :: r => uptoBulk d + uptoBulkAll r
def uptoBulkEntries {H : Type} : List (Lit × DataW H) → Nat
  | [] => 0
  | x :: r => uptoBulkEntry x + uptoBulkEntries r
def uptoBulkEntry {H : Type} : Lit × DataW H → Nat
  | (.string bytes, d) => bytes.length + uptoBulk d + 1
  | (_, d) => uptoBulk d + 1
 end
def uptoSmall : (H : Type) → List (DataW H) → Bool := fun _ ds => decide (uptoBulkAll ds ≤ 1048576)
def OpenSpec.upto (s : _root_.Go.ChangeSpec) : _root_.Go.OpenSpec := { _root_.Go.OpenSpec.ofChange s with cond := some uptoSmall }

/-- 'plugboardlaw29.RecoveriesEnds', WHERE WHAT IT READS IS OF BULK AT MOST 1048576: true; the input reads as it did. -/
def recoveriesEndsUptoRow : OpenClaim := { program := "ytcipfcbaclfnhaadoor", sum := "3100e8c5650e5862642188d9ee9043b02f7d4f038326f5886cd33d9718928d9f", func := "plugboard/plugboardlaw29.RecoveriesEnds", spec := "recoveriesEnds", unfollowed := true, recurses := true, named := ["math/bits.deBruijn32tab"], apart := false, laid := [("math/bits.deBruijn32tab", laid_math_bits_deBruijn32tab)], narrowed := true }
def RecoveriesEndsUptoSaid : Prop := recoveriesEndsUptoRow.holds Tryd.pinned (OpenSpec.upto recoveriesEndsSpec)

/-- 'plugboardlaw29.RecoveriesWait', WHERE WHAT IT READS IS OF BULK AT MOST 1048576: true; the input reads as it did. -/
def recoveriesWaitUptoRow : OpenClaim := { program := "ytcipfcbaclfnhaadoor", sum := "3100e8c5650e5862642188d9ee9043b02f7d4f038326f5886cd33d9718928d9f", func := "plugboard/plugboardlaw29.RecoveriesWait", spec := "recoveriesWait", unfollowed := true, recurses := true, named := ["math/bits.deBruijn32tab"], apart := false, laid := [("math/bits.deBruijn32tab", laid_math_bits_deBruijn32tab)], narrowed := true }
def RecoveriesWaitUptoSaid : Prop := recoveriesWaitUptoRow.holds Tryd.pinned (OpenSpec.upto recoveriesWaitSpec)

/-- 'plugboardlaw29.RecoveriesMarks', WHERE WHAT IT READS IS OF BULK AT MOST 1048576: true; the input reads as it did. -/
def recoveriesMarksUptoRow : OpenClaim := { program := "ytcipfcbaclfnhaadoor", sum := "3100e8c5650e5862642188d9ee9043b02f7d4f038326f5886cd33d9718928d9f", func := "plugboard/plugboardlaw29.RecoveriesMarks", spec := "recoveriesMarks", unfollowed := true, recurses := true, named := ["math/bits.deBruijn32tab"], apart := false, laid := [("math/bits.deBruijn32tab", laid_math_bits_deBruijn32tab)], narrowed := true }
def RecoveriesMarksUptoSaid : Prop := recoveriesMarksUptoRow.holds Tryd.pinned (OpenSpec.upto recoveriesMarksSpec)

/-- 'plugboardlaw29.RecoveriesCalm', WHERE WHAT IT READS IS OF BULK AT MOST 1048576: true; the input reads as it did. -/
def recoveriesCalmUptoRow : OpenClaim := { program := "ytcipfcbaclfnhaadoor", sum := "3100e8c5650e5862642188d9ee9043b02f7d4f038326f5886cd33d9718928d9f", func := "plugboard/plugboardlaw29.RecoveriesCalm", spec := "recoveriesCalm", unfollowed := true, recurses := true, named := ["math/bits.deBruijn32tab"], apart := false, laid := [("math/bits.deBruijn32tab", laid_math_bits_deBruijn32tab)], narrowed := true }
def RecoveriesCalmUptoSaid : Prop := recoveriesCalmUptoRow.holds Tryd.pinned (OpenSpec.upto recoveriesCalmSpec)

/-- 'plugboardlaw29.RecoveriesGiven', WHERE WHAT IT READS IS OF BULK AT MOST 1048576: true; the input reads as it did. -/
def recoveriesGivenUptoRow : OpenClaim := { program := "ytcipfcbaclfnhaadoor", sum := "3100e8c5650e5862642188d9ee9043b02f7d4f038326f5886cd33d9718928d9f", func := "plugboard/plugboardlaw29.RecoveriesGiven", spec := "recoveriesGiven", unfollowed := true, recurses := true, named := ["math/bits.deBruijn32tab"], apart := false, laid := [("math/bits.deBruijn32tab", laid_math_bits_deBruijn32tab)], narrowed := true }
def RecoveriesGivenUptoSaid : Prop := recoveriesGivenUptoRow.holds Tryd.pinned (OpenSpec.upto recoveriesGivenSpec)

end Rows
end Go.Proofs.YtcipfcbaclfnhaaDoor
