/-
  No cell of these rows narrows 'for every input' (looked for: loops, veiled, ifaces, maps, wideKeys, modest, calm, conditions, laid).
  DERIVED. THE GIVEN ROWS OF THIS SEAT. 2 by the template 'for every input the law returns true; each argument reads behind the call as it read before'; 0 by the template 'total and deterministic' (their statements: YtjbkbapndoacpaaTotals.lean).
  GIVEN WITH THE SEED: the statements are not yours to turn. If you find one false, say at which input.
  Laid BY PROGRAM, IN A SANDBOX (cutbox-rows.mjs): the forced cells as the released guide's own fill.sh prints them over the translation 7299343fe00113f4… (all of the seat's roots in one cut). By AI agents, Wed Nov 11 2026. No macro, syntax, notation, axiom, sorry.
-/
import Derived.Test.YtjbkbapndoacpaaChecked
import GoSem.Claim
import GoSem.ClaimJoined
import GoSem.ClaimMapViews
import Derived.JoinedTies
import Derived.KernelRfl
namespace Go.Proofs.Ytjbkbapndoacpaa
/- THE CELL 'sum', in the pinned program and in every row, IS THE sha256 OF THE DUMP (.gsa) THAT YtjbkbapndoacpaaProg.lean LOADS. Nothing in Lean hashes anything: it is a label: what it is worth is what the hold of that sum in a sandbox is worth. -/
noncomputable def Try.pinned : Pinned := { name := "ytjbkbapndoacpaa", sum := "7299343fe00113f423724a3f747fd11b0ad7f0a5e09eed06f10ea92b06a57896", checked := Try.checked }
namespace Rows
def none {H : Type} : Left H := { results := [], args := [] }

/-- 'plugboardlaw41.SerialsNotices': WHATEVER THE INPUT: true; the input reads as it did. -/
def serialsNoticesSpec : ChangeSpec := { name := "serialsNotices", fn := fun _ => fun
  | [d] => { results := [.lit (.bool true)], args := [d] }
  | _ => none }
def serialsNoticesRow : OpenClaim := { program := "ytjbkbapndoacpaa", sum := "7299343fe00113f423724a3f747fd11b0ad7f0a5e09eed06f10ea92b06a57896", func := "plugboard/plugboardlaw41.SerialsNotices", spec := "serialsNotices", unfollowed := true, recurses := true, plainKeys := false, apart := false }
def SerialsNoticesSaid : Prop := serialsNoticesRow.holds Try.pinned (OpenSpec.ofChange serialsNoticesSpec)

/-- ITS FALSE NEIGHBOUR: 'it returns false'. Refute it at one input. -/
def serialsNoticesWrong : ChangeSpec := { name := "serialsNotices", fn := fun _ => fun
  | [d] => { results := [.lit (.bool false)], args := [d] }
  | _ => none }
def SerialsNoticesWrongFalsely : Prop := serialsNoticesRow.holds Try.pinned (OpenSpec.ofChange serialsNoticesWrong)

/-- 'plugboardlaw41.SerialsKnown': WHATEVER THE INPUT: true; the input reads as it did. -/
def serialsKnownSpec : ChangeSpec := { name := "serialsKnown", fn := fun _ => fun
  | [] => { results := [.lit (.bool true)], args := [] }
  | _ => none }
def serialsKnownRow : OpenClaim := { program := "ytjbkbapndoacpaa", sum := "7299343fe00113f423724a3f747fd11b0ad7f0a5e09eed06f10ea92b06a57896", func := "plugboard/plugboardlaw41.SerialsKnown", spec := "serialsKnown", unfollowed := true, recurses := true, plainKeys := false, apart := false }
def SerialsKnownSaid : Prop := serialsKnownRow.holds Try.pinned (OpenSpec.ofChange serialsKnownSpec)

/-- ITS FALSE NEIGHBOUR: 'it returns false'. Refute it at one input. -/
def serialsKnownWrong : ChangeSpec := { name := "serialsKnown", fn := fun _ => fun
  | [] => { results := [.lit (.bool false)], args := [] }
  | _ => none }
def SerialsKnownWrongFalsely : Prop := serialsKnownRow.holds Try.pinned (OpenSpec.ofChange serialsKnownWrong)

/- THE SECOND FORM. 'bulk': how many values and letters a reading holds, each counted each time it is reached (what is shared counts as often as it is met; a slice's spare places count too). A statement '..UptoSaid' is the law's where the arguments, and the package variables that the reading takes, are together of bulk at most 1048576: NARROWER than '..Said'. Prove '..Said' where nothing that the law and all that it calls make is longer than what came in: it says more and counts as full. Else prove '..UptoSaid'. A law counts once. -/
mutual
def uptoBulk {H : Type} : DataW H → Nat
  | .lit (.string bytes) => bytes.length + 1
  | .lit _ => 1
  | .nil => 1
  | .ptr d => uptoBulk d + 1
  | .slice elems spare => uptoBulkAll elems + uptoBulkAll spare + 1
  | .agg parts => uptoBulkAll parts + 1
  | .iface _ d => uptoBulk d + 1
  | .map entries => uptoBulkEntries entries + 1
  | .held _ => 1
def uptoBulkAll {H : Type} : List (DataW H) → Nat
  | [] => 0
  | d :: r => uptoBulk d + uptoBulkAll r
def uptoBulkEntries {H : Type} : List (Lit × DataW H) → Nat
  | [] => 0
  | x :: r => uptoBulkEntry x + uptoBulkEntries r
def uptoBulkEntry {H : Type} : Lit × DataW H → Nat
  | (.string bytes, d) => bytes.length + uptoBulk d + 1
  | (_, d) => uptoBulk d + 1
 end
def uptoSmall : (H : Type) → List (DataW H) → Bool := fun _ ds => decide (uptoBulkAll ds ≤ 1048576)
def OpenSpec.upto (s : _root_.Go.ChangeSpec) : _root_.Go.OpenSpec := { _root_.Go.OpenSpec.ofChange s with cond := some uptoSmall }

/-- 'plugboardlaw41.SerialsNotices', WHERE WHAT IT READS IS OF BULK AT MOST 1048576: true; the input reads as it did. -/
def serialsNoticesUptoRow : OpenClaim := { program := "ytjbkbapndoacpaa", sum := "7299343fe00113f423724a3f747fd11b0ad7f0a5e09eed06f10ea92b06a57896", func := "plugboard/plugboardlaw41.SerialsNotices", spec := "serialsNotices", unfollowed := true, recurses := true, plainKeys := false, apart := false, narrowed := true }
def SerialsNoticesUptoSaid : Prop := serialsNoticesUptoRow.holds Try.pinned (OpenSpec.upto serialsNoticesSpec)

/-- 'plugboardlaw41.SerialsKnown', WHERE WHAT IT READS IS OF BULK AT MOST 1048576: true; the input reads as it did. -/
def serialsKnownUptoRow : OpenClaim := { program := "ytjbkbapndoacpaa", sum := "7299343fe00113f423724a3f747fd11b0ad7f0a5e09eed06f10ea92b06a57896", func := "plugboard/plugboardlaw41.SerialsKnown", spec := "serialsKnown", unfollowed := true, recurses := true, plainKeys := false, apart := false, narrowed := true }
def SerialsKnownUptoSaid : Prop := serialsKnownUptoRow.holds Try.pinned (OpenSpec.upto serialsKnownSpec)

end Rows
end Go.Proofs.Ytjbkbapndoacpaa
