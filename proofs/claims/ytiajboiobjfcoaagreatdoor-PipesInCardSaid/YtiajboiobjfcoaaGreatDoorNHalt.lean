/-
  What is proved here: what pipes.Stop returns for a stream OUT.
  Conditions: the laid map.
  What is proved here: the calls of the law's region 14, OUT, in any world that has what they need.
  Conditions: what the device's, the packets' and the faults' cells hold at the beginning.
  What is proved here: what a look-up in the table of the errors that halt a pipe returns.
  Conditions: the table is laid.
-/
import Derived.Test.YtiajboiobjfcoaaGreatDoorNBeg
import Derived.Test.YtiajboiobjfcoaaGreatDoorRows
import Derived.Test.YtiajboiobjfcoaaGreatDoorNWords
import Derived.Test.YtiajboiobjfcoaaGreatDoorOR14
namespace Go.Proofs.YtiajboiobjfcoaaGreatDoor
open Go.Proofs Go.RowKit Go.Sy
set_option maxRecDepth 1000000
def stLaid : List (String × DataW Unit) := Rows.pipesOutRow.laid
noncomputable def stG : List (Nat × List V) := (laidG Tryz.prog 0 stLaid).getD []
end Go.Proofs.YtiajboiobjfcoaaGreatDoor

namespace Go.Proofs.YtiajboiobjfcoaaGreatDoor
open Go.Proofs Go.RowKit Go.Sy
theorem exists_stop (p : Nat → Bool) (n : Nat) : ∃ m, m ≤ n ∧ (∀ k, k < m → p k = false) ∧ (m < n → p m = true) := by
 induction n with
 | zero => exact ⟨0, Nat.le_refl _, fun k hk => by omega, fun h => by omega⟩
 | succ n ih =>
  obtain ⟨m, h1, h2, h3⟩ := ih
  by_cases hm : m < n
  ·exact ⟨m, by omega, h2, fun _ => h3 hm⟩
  ·obtain rfl : m = n := by omega
   cases hp : p m with
   | true => exact ⟨m, by omega, h2, fun _ => hp⟩
   | false => exact ⟨m + 1, by omega, fun k hk => by
     by_cases e : k = m
     ·rw [e]; exact hp
     ·exact h2 k (by omega), fun h => by omega⟩
section
variable (ws : List Int) (aA : Option Addr) (an ac G B0 B1 L R : Nat) (h1 : B0 ≤ B1) (h2 : G < B1) (h3 : ∀ i, (i = L ∨ i = R) → B0 ≤ i ∧ i < B1 ∧ i ≠ G)
 (wC : World) (S : Nat → Prop) (kind per : Int) (tg z : Bool) (job : List Int) (st0 : List Int × GrS) (n : Nat)
end
end Go.Proofs.YtiajboiobjfcoaaGreatDoor

namespace Go.Proofs.YtiajboiobjfcoaaGreatDoor
open Go.Proofs Go.RowKit Go.Sy
set_option maxRecDepth 1000000
theorem st_glob : stG[0]? = some (0, [V.map 3072]) := by kernel_rfl
theorem look_run (e : Int) (b : Bool) (hrun : lookupR Tryz.prog 116 false (V.map 3072) (V.int .i64 (E.n e)) (mem0 stG) pc0 = .ret ⟨V.bool (.lit b), pc0⟩) (he : kMin .i64 ≤ e ∧ e ≤ kMax .i64) {w : World} {bs : Nat → Nat} (hl : LaidAs bs w stG) {X : Value} (hX : VR (cx0 bs (fun _ => 0)) (V.map 3072) X) :
  (Instr.lookup 116 X (.int .i64 e) false).run Tryz.prog w = .ok (.bool b) w := by
 have hm : MemR (cx0 bs (fun _ => 0)) (mem0 stG) w := mem0_ok hl
 have hp : PcR (cx0 bs (fun _ => 0)).ρ pc0 := pc0_ok
 obtain ⟨_, z, h1, h2⟩ := lookupR_ok (P := Tryz.prog) (v := V.bool (.lit b)) (q := pc0) hm hp (t := 116) (ok := false) hX (VR.int.2 ⟨rfl, he⟩ : VR (cx0 bs (fun _ => 0)) (V.int .i64 (E.n e)) (.int .i64 e)) (by unfold R.gives; rw [hrun]; rfl)
 rw [h1, VR.bool.1 h2]
 rfl
theorem look0 : lookupR Tryz.prog 116 false (V.map 3072) (V.int .i64 (E.n 0)) (mem0 stG) pc0 = .ret ⟨V.bool (.lit false), pc0⟩ := by kernel_rfl
theorem look11 : lookupR Tryz.prog 116 false (V.map 3072) (V.int .i64 (E.n 11)) (mem0 stG) pc0 = .ret ⟨V.bool (.lit true), pc0⟩ := by kernel_rfl
theorem look12 : lookupR Tryz.prog 116 false (V.map 3072) (V.int .i64 (E.n 12)) (mem0 stG) pc0 = .ret ⟨V.bool (.lit true), pc0⟩ := by kernel_rfl
theorem look13 : lookupR Tryz.prog 116 false (V.map 3072) (V.int .i64 (E.n 13)) (mem0 stG) pc0 = .ret ⟨V.bool (.lit true), pc0⟩ := by kernel_rfl
theorem halts_look {w : World} (hl : LaidW w stG) : ∃ mb, w.cell? ⟨0, 0, none⟩ = some (.map mb) ∧ ∀ e : Int, (e = 0 ∨ e = 11 ∨ e = 12 ∨ e = 13) → (Instr.lookup 116 (.map mb) (.int .i64 e) false).run Tryz.prog w = .ok (.bool (decide (e ≠ 0))) w := by
 obtain ⟨bs, h⟩ := hl
 have h0 := (h (fun _ => 0) (0, [V.map 3072]) (List.mem_of_getElem? st_glob)).2
 rcases lyB_cases (0, [V.map 3072]) with ⟨_, e⟩ | ⟨h1, _⟩
 ·rw [e] at h0
  obtain ⟨cs, t, fr, h1, h2, _⟩ := h0
  obtain ⟨X, h3, h4⟩ := h2 0 (V.map 3072) rfl
  have hβ : (cx0 bs (fun _ => 0)).β 0 = (0, 0) := rfl
  dsimp only at h1 h3
  rw [hβ] at h1 h3
  dsimp only at h1 h3
  obtain ⟨mb, rfl⟩ : ∃ mb, X = Value.map mb := by
   obtain ⟨mb, hm⟩ := VR.map.1 h4
   exact ⟨_, hm⟩
  refine ⟨mb, ?_, fun e he => ?_⟩
  ·rw [cell_of_row w 0 0 cs t fr h1]; simpa using h3
  ·rcases he with rfl | rfl | rfl | rfl
   ·exact look_run 0 false look0 (by decide) h h4
   ·exact look_run 11 true look11 (by decide) h h4
   ·exact look_run 12 true look12 (by decide) h h4
   ·exact look_run 13 true look13 (by decide) h h4
 ·exact absurd h1 (by decide)
end Go.Proofs.YtiajboiobjfcoaaGreatDoor
