/-
  What is proved here: what the law's begun returns for a job of packets; periodics.Start for packets that are received.
  Conditions: what the packets' slices hold.
-/
import Derived.Test.YthapmkbeolbmiaaGreatDoorQGr
namespace Go.Proofs.YthapmkbeolbmiaaGreatDoor
open Go.Proofs Go.RowKit

attribute [local go_sem] lt2 lt3 lt4 lt5

/-- the error of packets that are too long -/
def lim3 (b : Bool) : Int := if b then 3 else 0

set_option maxHeartbeats 4000000 in
set_option maxRecDepth 1000000 in
theorem begun_bare (ad en mx per sp hu po : Int) (tg : Bool) (D : Option Addr) (dc : Nat) (A : Option Addr) (n cap : Nat) (vs : List Value) (bs : List (List Int)) (w : World)
    (hv : ∀ w, Calls Tryz.prog 22 #[.agg #[.int .u8 ad, .int .u8 en, .bool false, .int .u8 1, .int .i64 mx, .int .i64 per, .int .u8 sp, .int .u8 hu, .int .u8 po, .bool tg, .bool false]] w fun e w' => e = .returned (.bool true) ∧ Below w.heap.size w w')
    (hA : Sls w A n cap vs) (hb : B8s w vs bs) (h1 : 1 ≤ n) (hn : n ≤ 256) :
    Calls Tryz.prog 24 #[.agg #[.int .u8 ad, .int .u8 en, .bool false, .int .u8 1, .int .i64 mx, .int .i64 per, .int .u8 sp, .int .u8 hu, .int .u8 po, .bool tg, .bool false],
      .agg #[.int .u8 0, .int .u8 0, .int .u16 0, .int .u16 0, .int .u16 0, .slice D 0 dc, .int .i64 0, .bool false, .slice A n cap, .int .i64 0]] w fun e w' => e = .returned (.int .i64 (lim3 (longB mx bs))) ∧ Below w.heap.size w w' := by
  have d6 : decide ((256 : Int) < (n : Int)) = false := by simp; omega
  have d7 : decide ((0 : Int) < (n : Int)) = true := by simp; omega
  go_enter Tryz.func24, Tryz.ntmps24
  go_wp2_with fail
  refine (hv _).mono ?_
  rintro e w1 ⟨rfl, hb1⟩
  have hX0 := heap_below (alloc2_0 w _ _) hb1
  have hX1 := heap_below (alloc2_1 w _ _) hb1
  have hw1 := (((Below.refl w.heap.size w).alloc (Nat.le_refl _) _).alloc (by simp) _).trans (hb1.mono (by simp; omega))
  clear hb1
  have hp := cell_of hX0
  have hj := cell_of hX1
  have p2 := hp 2
  have p3 := hp 3
  have p4 := hp 4
  have p10 := hp 10
  have j0 := hj 0
  have j1 := hj 1
  have j2 := hj 2
  have j3 := hj 3
  have j4 := hj 4
  have j5 := hj 5
  have j6 := hj 6
  have j7 := hj 7
  have j8 := hj 8
  have j9 := hj 9
  clear hp hj hX0 hX1
  go_wp2_with fail
  go_quiet (fail)
  go_wp2_with fail
  go_loopw [9] (fun i wr => ∃ k q : Nat, k ≤ n ∧ i = .int .i64 k ∧ wr = w1.drewN q ∧ Hid (∀ (j : Nat) b, j < k → bs[j]? = some b → decide (mx < (b.length : Int)) = false)) (fun i _ => n - (intOf i).toNat)
  case atStart => exact ⟨0, _, by omega, rfl, rfl, Lib.hid fun j x h => by omega⟩
  case round =>
    obtain ⟨k, q, h3, rfl, rfl, HE⟩ := hrel
    by_cases hk : k < n
    · obtain ⟨a, Ak, nk, ck, b, rfl, eb, hck, huk, hnk, hnc⟩ := (hA.below hw1).elem (hb.below hw1) hk
      have EX := Lib.hid eb
      have HL := Lib.hid huk.1
      clear eb huk
      have q1 : (k : Int) < (n : Int) := by omega
      by_cases hd : decide (mx < (nk : Int)) = true
      · have HD : Hid (longB mx bs = true) := Lib.hid (long_hit EX.out (by rw [HL.out]; exact hd))
        go_wp2_with fail
        go_quiet (fail)
        go_wp2_with fail
        go_ret
        exact ⟨by rw [HD.out]; rfl, below_drewN (below_drewN hw1 _) _⟩
      · have hd : decide (mx < (nk : Int)) = false := by simpa using hd
        have HD := Lib.hid hd
        go_wp2_with fail
        go_quiet (fail)
        go_wp2_with fail
        go_roundw
        case rel =>
          refine ⟨k + 1, _, by omega, by go_num, rfl, Lib.hid fun j y hj hy => ?_⟩
          by_cases e : j = k
          · subst e
            have := EX.out
            rw [this] at hy
            injection hy with hy
            subst hy
            rw [HL.out]
            exact HD.out
          · exact HE.out j y (by omega) hy
        case measure => simp [intOf]; omega
    · have HF : Hid (longB mx bs = false) := Lib.hid (long_miss fun j x h => HE.out j x (by have := (List.getElem?_eq_some_iff.1 h).1; have := hA.1; have := hb.1; omega) h)
      clear HE
      go_wp2_with fail
      go_ret
      exact ⟨by rw [HF.out]; rfl, below_drewN hw1 _⟩
end Go.Proofs.YthapmkbeolbmiaaGreatDoor
