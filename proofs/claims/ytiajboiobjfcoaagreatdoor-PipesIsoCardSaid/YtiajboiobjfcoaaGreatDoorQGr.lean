/-
  What is proved here: what great returns for a job of packets.
  Conditions: what the packets' slices hold.
-/
import Derived.Test.YtiajboiobjfcoaaGreatDoorQStart
import Derived.Test.YtiajboiobjfcoaaGreatDoorQBegOk
namespace Go.Proofs.YtiajboiobjfcoaaGreatDoor
open Go.Proofs Go.RowKit
attribute [local go_sem] lt2 lt3 lt4 lt5
def longB (mx : Int) (bs : List (List Int)) : Bool := bs.any fun b => decide (mx < (b.length : Int))
set_option maxHeartbeats 1000000 in
set_option maxRecDepth 100000 in
theorem gfn (g : Nat) (mx : Int) (A : Option Addr) (n c : Nat) (w : World) (hc : w.cell? ⟨g, 4, none⟩ = some (.int .i64 mx)) :
  Calls Tryz.prog 51 #[.slice A n c, .pointer (some ⟨g, 0, none⟩)] w fun e w' => e = .returned (.bool (decide (mx < (n : Int)))) ∧ w' = w := by
 go_enter Tryz.func51, Tryz.ntmps51
 go_wp2_with fail
 go_ret
 exact ⟨rfl, rfl⟩
def FoundIs (b : Bool) (w : World) (e : Ending) (w' : World) : Prop := ∃ i : Int, e = .returned (.int .i64 i) ∧ decide (0 ≤ i) = b ∧ w' = w
theorem long_hit {mx : Int} {bs : List (List Int)} {k : Nat} {b : List Int} (hx : bs[k]? = some b) (h : decide (mx < (b.length : Int)) = true) : longB mx bs = true :=
 List.any_eq_true.2 ⟨b, List.mem_of_getElem? hx, h⟩
theorem long_miss {mx : Int} {bs : List (List Int)} (h : ∀ (j : Nat) b, bs[j]? = some b → decide (mx < (b.length : Int)) = false) : longB mx bs = false := by
 unfold longB
 rw [List.any_eq_false]
 intro x hx
 obtain ⟨j, hj⟩ := List.getElem?_of_mem hx
 simp [h j x hj]
set_option maxHeartbeats 2000000 in
set_option maxRecDepth 100000 in
theorem gix (g : Nat) (mx : Int) (A : Option Addr) (n c : Nat) (vs : List Value) (bs : List (List Int)) (w : World) (hc : w.cell? ⟨g, 4, none⟩ = some (.int .i64 mx)) (hA : Sls w A n c vs) (hb : B8s w vs bs) (hn : n ≤ 65536) :
  Calls Tryz.prog 78 #[.slice A n c, .func (Fn.func 51) #[] #[.pointer (some ⟨g, 0, none⟩)]] w (FoundIs (longB mx bs) w) := by
 go_enter Tryz.func78, Tryz.ntmps78
 go_wp2_with fail
 go_loop [8] (fun i => ∃ k : Nat, k ≤ n ∧ i = .int .i64 k ∧ Hid (∀ (j : Nat) b, j < k → bs[j]? = some b → decide (mx < (b.length : Int)) = false)) (fun i => n - (intOf i).toNat)
 case atStart => exact ⟨0, by omega, rfl, Lib.hid fun j x h => by omega⟩
 case round =>
  obtain ⟨k, h1, rfl, HE⟩ := hrel
  by_cases hk : k < n
  ·obtain ⟨a, Ak, nk, ck, b, rfl, eb, hck, huk, hnk, hnc⟩ := hA.elem hb hk
   have EX := Lib.hid eb
   have HL := Lib.hid huk.1
   clear eb
   have q1 : (k : Int) < (n : Int) := by omega
   have hfn := gfn g mx Ak nk ck w hc
   by_cases hd : decide (mx < (nk : Int)) = true
   ·rw [hd] at hfn
    have HD := Lib.hid hd
    clear hd
    go_wp2_with fail
    refine hfn.mono ?_
    rintro e w' ⟨rfl, rfl⟩
    go_wp2_with fail
    go_ret
    exact ⟨k, rfl, by rw [long_hit EX.out (by rw [HL.out]; exact HD.out)]; simp, rfl⟩
   ·have hd : decide (mx < (nk : Int)) = false := by simpa using hd
    rw [hd] at hfn
    have HD := Lib.hid hd
    clear hd
    go_wp2_with fail
    refine hfn.mono ?_
    rintro e w' ⟨rfl, rfl⟩
    go_wp2_with fail
    go_round
    case rel =>
     refine ⟨k + 1, by omega, by go_num, Lib.hid fun j y hj hy => ?_⟩
     by_cases e : j = k
     ·subst e
      have := EX.out
      rw [this] at hy
      injection hy with hy
      subst hy
      rw [HL.out]
      exact HD.out
     ·exact HE.out j y (by omega) hy
    case measure => simp [intOf]; omega
  ·have HF : Hid (longB mx bs = false) := Lib.hid (long_miss fun j x h => HE.out j x (by have := (List.getElem?_eq_some_iff.1 h).1; have := hA.1; have := hb.1; omega) h)
   clear HE
   go_wp2_with fail
   go_ret
   exact ⟨-1, rfl, by rw [HF.out]; rfl, rfl⟩
set_option maxHeartbeats 2000000 in
set_option maxRecDepth 100000 in
theorem gcf (g : Nat) (mx : Int) (A : Option Addr) (n c : Nat) (vs : List Value) (bs : List (List Int)) (w : World) (hc : w.cell? ⟨g, 4, none⟩ = some (.int .i64 mx)) (hA : Sls w A n c vs) (hb : B8s w vs bs) (hn : n ≤ 65536) :
  Calls Tryz.prog 50 #[.slice A n c, .func (Fn.func 51) #[] #[.pointer (some ⟨g, 0, none⟩)]] w fun e w' => e = .returned (.bool (longB mx bs)) ∧ w' = w := by
 have hf := gix g mx A n c vs bs w hc hA hb hn
 generalize longB mx bs = b at hf
 go_enter Tryz.func50, Tryz.ntmps50
 go_wp2_with fail
 refine hf.mono ?_
 rintro e w' ⟨i, rfl, hq, rfl⟩
 have HB := Lib.hid hq
 clear hq hf
 go_wp2_with fail
 go_ret
 exact ⟨by rw [← HB.out]; rfl, rfl⟩
set_option maxHeartbeats 4000000 in
set_option maxRecDepth 1000000 in
theorem great_bare (ad en : Int) (inn : Bool) (k mx per sp hu po : Int) (tg ha : Bool) (t c v i l : Int) (D : Option Addr) (dc : Nat) (z : Bool) (A : Option Addr) (n cap : Nat) (vs : List Value) (bs : List (List Int)) (w : World)
  (hA : Sls w A n cap vs) (hb : B8s w vs bs) (hn : n ≤ 256) :
  Calls Tryz.prog 23 #[.agg #[.int .u8 t, .int .u8 c, .int .u16 v, .int .u16 i, .int .u16 l, .slice D 0 dc, .int .i64 0, .bool z, .slice A n cap, .int .i64 0],
   .agg #[.int .u8 ad, .int .u8 en, .bool inn, .int .u8 k, .int .i64 mx, .int .i64 per, .int .u8 sp, .int .u8 hu, .int .u8 po, .bool tg, .bool ha]] w fun e w' => e = .returned (.bool (longB mx bs)) ∧ Below w.heap.size w w' := by
 have d6 : decide ((256 : Int) < (n : Int)) = false := by simp; omega
 have hbb : ∀ a b, Below w.heap.size w ((w.alloc a).alloc b) := fun a b => ((Below.refl w.heap.size w).alloc (Nat.le_refl _) a).alloc (by simp) b
 have hcf := fun (w' : World) (h1 : Below w.heap.size w w') (h2 : w'.cell? ⟨w.heap.size + 1, 4, none⟩ = some (.int .i64 mx)) => gcf (w.heap.size + 1) mx A n cap vs bs w' h2 (hA.below h1) (hb.below h1) (by omega)
 generalize longB mx bs = q at hcf
 go_enter Tryz.func23, Tryz.ntmps23
 go_wp2_with fail
 refine (hcf _ (hbb _ _) (cell_of (alloc2_1 w _ _) 4)).mono ?_
 rintro e w' ⟨rfl, rfl⟩
 go_wp2_with fail
 go_ret
 exact ⟨rfl, hbb _ _⟩
end Go.Proofs.YtiajboiobjfcoaaGreatDoor
