/-
  What is defined here: the runs of plugboardlaw41.SerialsKnown: its rounds, and the calls of SerialsCarry and SerialsRequests in them.
  Conditions: none (definitions only).
-/
import Derived.Test.YtjbkbapndoacpaaKBase
namespace Go.Proofs.Ytjbkbapndoacpaa
open Go.Sy Go.RowKit

set_option maxRecDepth 1000000

noncomputable def knCode : Code := Try.f4.body.getD .skip
theorem kn_body : Try.f4.body = some knCode := by kernel_rfl
noncomputable def caCode : Code := Try.f11.body.getD .skip
theorem ca_body : Try.f11.body = some caCode := by kernel_rfl
noncomputable def rqCode : Code := Try.f12.body.getD .skip
theorem rq_body : Try.f12.body = some rqCode := by kernel_rfl
theorem ca_nt : Try.f11.ntmps = 301 := by kernel_rfl
theorem rq_nt : Try.f12.ntmps = 204 := by kernel_rfl

noncomputable def k8 (n : Nat) : V := .int .u8 (.n (.ofNat (n % 256)))
noncomputable def k16 (n : Nat) : V := .int .u16 (.n (.ofNat n))
noncomputable def k64 (n : Nat) : V := .int .i64 (.n (.ofNat n))
/-- the counter at step t (twelve steps a round) -/
noncomputable def kAt (t : Nat) : Nat := Nat.rec (motive := fun _ => Nat) 1 (fun i k => (k * 31 + 7 * (i % 12) + 11) % 100003) t
noncomputable def kNext (k i : Nat) : Nat := (k * 31 + 7 * i + 11) % 100003
/-- the counter from k on, before the steps i, i + 1, .. -/
noncomputable def kList (c : Nat) : Nat → Nat → List Nat := Nat.rec (motive := fun _ => Nat → Nat → List Nat) (fun _ _ => []) (fun _ ih k i => k :: ih (kNext k i) (i + 1)) c
/-- the counter at the start of a round -/
def starts : List Nat := [1, 9255, 83484, 11997, 87799, 59890, 69692, 60244, 85348, 56580, 22177, 66254, 60742, 34489, 29391, 99416, 39184, 87875, 22007, 37831, 39902]
noncomputable def kL (n : Nat) : List Nat := kList 12 (starts.getD n 0) 0
noncomputable def bytesK (k : Nat) : List V := (List.range (k % 70)).map fun j => k8 (k + j)
noncomputable def actV (x : Nat × Nat) : List V := [k8 x.1, k8 (x.1 / 3), .slice (4097 + x.2) 0 (x.1 % 70) (.n (x.1 % 70))]
noncomputable def askV (x : Nat × Nat) : List V := [k8 (selB (Nat.beq (x.1 % 2) 0) 33 161), k8 (32 + x.1 / 2 % 4), k16 (x.1 / 8 % 3), k16 0, k16 (selB (Nat.beq (x.1 / 3 % 2) 0) 0 7), .slice (4097 + x.2) 0 7 (.n 7), k8 (x.1 / 9)]
noncomputable def outK (k : Nat) : List V := [k8 k, k8 1, k8 0, k8 0, k8 (k % 3), k8 (k % 5), k8 8]
noncomputable def numK (l : List Nat) : List (Nat × Nat) := l.zip (List.range 12)
/-- the arguments of SerialsCarry in round n, and what they point to -/
noncomputable def pnC (n : Nat) : Pn := ⟨0, 0, [(0, k8 n), (1, .slice 4096 0 12 (.t 0 0))],
  (4096, .cells ((numK (kL n)).flatMap actV) false true (some (0, 3))) :: (numK (kL n)).map (fun x => (4097 + x.2, .cells (bytesK x.1) false true none)), 4109, 1, [(0, 12)], [], []⟩
/-- the arguments of SerialsRequests in round n, and what they point to -/
noncomputable def pnA (n : Nat) : Pn := ⟨0, 0, [(0, k16 0), (1, .slice 4096 0 12 (.t 0 0))],
  (4096, .cells ((numK (kL n)).flatMap askV) false true (some (0, 7))) :: (numK (kL n)).map (fun x => (4097 + x.2, .cells (outK x.1) false true none)), 4109, 1, [(0, 12)], [], []⟩
noncomputable def cellV (m : Mem) (i k : Nat) : V := onCells (m.tr.get i) (fun l _ _ _ => (nth k l).getD .bad) .bad
noncomputable def blkOf (v : V) : Nat := match v with | .slice i _ _ _ => i | _ => 0
noncomputable def hdC : Hds := ⟨pnC, fun n => Nat.blt n 20, fun _ => 0, fun env _ => natV (env 0)⟩
/-- the round, by the first request -/
noncomputable def pickA (env : Env) (m : Mem) : Nat := starts.findIdx fun k => andB (Nat.beq (k / 9 % 256) (natV (cellV m (blkOf (env 1)) 6))) (Nat.beq (k % 256) (natV (cellV m (blkOf (cellV m (blkOf (env 1)) 5)) 0)))
noncomputable def hdA : Hds := ⟨pnA, fun n => Nat.blt n 20, fun _ => 0, pickA⟩
def caPath : List Dir := [.r, .r, .r, .r, .r, .r, .r, .r]
noncomputable def caRest : Code := place caPath caCode
noncomputable def asks (n : Nat) : Bool := goodT (leafR 4) (evCode rqCode Try.prog cfQ 300 204 (pnA n).env (pnA n).mem (pnA n).pc)

end Go.Proofs.Ytjbkbapndoacpaa
