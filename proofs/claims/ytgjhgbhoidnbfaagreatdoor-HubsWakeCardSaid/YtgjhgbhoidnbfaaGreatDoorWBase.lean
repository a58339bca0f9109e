/-
  What is proved here: nothing; defined: the runs of plugboardlaw18.HubsWake, by parts.
  Conditions: none.
-/
import Derived.Test.YtgjhgbhoidnbfaaGreatDoorBase
namespace Go.Proofs.YtgjhgbhoidnbfaaGreatDoor
open Go.Sy Go.RowKit

set_option maxRecDepth 1000000

def wakePa : List Pa := [.leaf (.int .u8), .leaf (.int .u8)]
noncomputable def wrem (k : IntKind) (e : E) (a b : Nat) : B × Bool := (.eq (.bin .rem k e (.n (.ofNat a))) (.n (.ofNat b)), true)
noncomputable def wquo (e : E) (a : Nat) : E := .bin .quo .u64 e (.n (.ofNat a))
/-- by (is the hub self-powered?, is it fast?, its number of ports but one, how) -/
noncomputable def wakePc (q : Nat × Nat × Nat × Nat) : Pc :=
  ⟨[wrem .u64 (wquo (.x 0) 4) 2 q.1, wrem .u64 (wquo (.x 0) 8) 2 q.2.1, wrem (selB (Nat.beq q.1 0) .u64 .u8) (.x 0) (selB (Nat.beq q.1 0) 4 7) q.2.2.1, wrem .u64 (.x 1) 2 (q.2.2.2 % 2), wrem .u64 (wquo (.x 1) 2) 2 (q.2.2.2 / 2 % 2), wrem .u64 (wquo (.x 1) 4) 2 (q.2.2.2 / 4 % 2)], paR wakePa⟩
noncomputable def wakeRun (q : Nat × Nat × Nat × Nat) : Bool := allTrue (evFn Tryz.prog kwH 10 30 4 (paV wakePa 0 0) (mem1 [] wakePa) (wakePc q))
def wakeBoxesH (h w : Nat) : List (Nat × Nat × Nat × Nat) := (List.range 4).map (fun r => (0, h, r, w)) ++ (List.range 7).map fun r => (1, h, r, w)
def wakeBoxes (w : Nat) : List (Nat × Nat × Nat × Nat) := (List.range 2).flatMap fun h => wakeBoxesH h w

end Go.Proofs.YtgjhgbhoidnbfaaGreatDoor
