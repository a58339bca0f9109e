/-
  What is proved here: what enumerations.Free returns.
  Conditions: what the slice's cells hold.
-/
import Derived.Test.YtfnbkmddkahajaaGreatFHas
import Derived.Below
namespace Go.Proofs.YtfnbkmddkahajaaGreat
open Go.Proofs Go.RowKit

/-- what Free is to return: the number and the error -/
def FreeIs (l : List Int) (e : Ending) : Prop :=
  (∃ k : Nat, 1 ≤ k ∧ k ≤ 127 ∧ (k : Int) ∉ l ∧ (∀ j : Nat, 1 ≤ j → j < k → (j : Int) ∈ l) ∧ e = .returned (.tuple #[.int .u8 k, .int .i64 0])) ∨
    ((∀ j : Nat, 1 ≤ j → j < 128 → (j : Int) ∈ l) ∧ e = .returned (.tuple #[.int .u8 0, .int .i64 9]))

set_option maxHeartbeats 1000000 in
theorem free_u8 (b off n c : Nat) (zs : List Int) (w : World) (hz : n ≤ zs.length) (hbig : n ≤ 9223372036854775807) (hc : ∀ j, j < zs.length → w.cell? ⟨b, off + j, none⟩ = some (.int .u8 (zs.getD j 0))) :
    Calls Tryz.prog 5 #[.slice (some ⟨b, off, none⟩) n c] w fun e w' => w' = w ∧ FreeIs (zs.take n) e := by
  go_enter Tryz.func5, Tryz.ntmps5
  go_wp2
  go_loop [4] (fun v => ∃ k : Nat, 1 ≤ k ∧ k ≤ 128 ∧ v = .int .u8 k ∧ ∀ j : Nat, 1 ≤ j → j < k → (j : Int) ∈ zs.take n) (fun v => 128 - (intOf v).toNat)
  case atStart => exact ⟨1, by omega, by omega, rfl, fun j h1 h2 => by omega⟩
  case round =>
    obtain ⟨k, h1, h2, rfl, hall⟩ := hrel
    have hcon := has_u8 b off n c zs (k : Int) w hz hbig hc
    have hrr : (zs.take n).contains (k : Int) = true ↔ (k : Int) ∈ zs.take n := by simp
    generalize (zs.take n).contains (k : Int) = r at hcon hrr
    go_wp2_with (go_at_call 12; refine (hcon).mono ?_; rintro e w' ⟨rfl, rfl⟩)
    · have hk : (k : Int) ≤ 127 := by assumption
      have hn : (!r) = true := by assumption
      have hrf : ¬ (k : Int) ∈ zs.take n := fun h => by
        rw [hrr.2 h] at hn; exact Bool.false_ne_true hn
      go_ret2
      exact ⟨rfl, .inl ⟨k, h1, by omega, hrf, hall, rfl⟩⟩
    · have hk : (k : Int) ≤ 127 := by assumption
      have hn : (!r) = false := by assumption
      have hrt : r = true := by cases r <;> first | rfl | exact absurd hn (by simp)
      have hin := hrr.1 hrt
      have e1 : ((k : Int) + 1) % 256 = ((k + 1 : Nat) : Int) := by omega
      refine ⟨⟨trivial, _, _, _, _, _, _, _, _, _, _, _, _, ⟨k + 1, by omega, by omega, by rw [e1], fun j h3 h4 => ?_⟩, rfl⟩, ?_⟩
      · by_cases e : j = k
        · subst e; exact hin
        · exact hall j h3 (by omega)
      · simp [intOf]; omega
    · have hk : 127 < (k : Int) := by assumption
      go_ret2
      exact ⟨rfl, .inr ⟨fun j h3 h4 => hall j h3 (by omega), rfl⟩⟩

set_option maxHeartbeats 1000000 in
/-- the same at a slice without elements, a nil one too -/
theorem free_none (a : Option Addr) (c : Nat) (w : World) : Calls Tryz.prog 5 #[.slice a 0 c] w fun e w' => w' = w ∧ FreeIs [] e := by
  go_enter Tryz.func5, Tryz.ntmps5
  go_wp2
  go_loop [4] (fun v => v = .int .u8 1) (fun _ => 0)
  case atStart => rfl
  case round =>
    subst hrel
    go_wp2_with (go_at_call 12; refine (has_u8_empty a c 1 w).mono ?_; rintro e w' ⟨rfl, rfl⟩)
    go_ret2
    exact ⟨rfl, .inl ⟨1, by omega, by omega, by simp, fun j h1 h2 => by omega, rfl⟩⟩
end Go.Proofs.YtfnbkmddkahajaaGreat
