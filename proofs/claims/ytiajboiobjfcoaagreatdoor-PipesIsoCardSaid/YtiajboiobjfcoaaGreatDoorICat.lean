/-
  What is proved here: what slices.Concat of two slices of bytes returns.
  Conditions: what the slices' cells hold.
-/
import Derived.Test.YtiajboiobjfcoaaGreatDoorITake
import Derived.Test.YtiajboiobjfcoaaGreatDoorSyM5
namespace Go.Proofs.YtiajboiobjfcoaaGreatDoor
open Go.Proofs Go.RowKit
attribute [local go_sem] lt2 lt3 lt4 lt5
attribute [-go_sem] Builtin.append_
theorem own_slice' {w : World} {B size n : Nat} {e : TypeId} {v : Value} {xs : List Value} (h : w.ownsRow B e size v n xs) : ∃ A m c, v = .slice A m c ∧ m ≤ c := by
 rcases h.2 with ⟨rfl, _⟩ | ⟨g, cap, cur, rfl, hg, _, hc, _⟩
 ·exact ⟨none, 0, 0, rfl, Nat.le_refl _⟩
 ·exact ⟨_, n, cap, rfl, hc⟩
set_option maxHeartbeats 2000000 in
set_option maxRecDepth 1000000 in
theorem grow_ret (n : Nat) (hn : n ≤ 1000000) (w : World) : Calls Tryz.prog 74 #[.slice none 0 0, .int .i64 (n : Int)] w fun e w' => Below w.heap.size w w' ∧ ∃ A m c, e = .returned (.slice A m c) ∧ w'.ownsRow w.heap.size 5 1 (.slice A m c) 0 [] := by
 obtain ⟨i0, hi, hz0, hz1, hz2⟩ := info_parts info5
 rcases Nat.eq_zero_or_pos n with rfl | h0
 ·go_enter Tryz.func74, Tryz.ntmps74
  go_wp2
  go_ret
  exact ⟨Below.refl _ _, _, _, _, rfl, World.ownsRow_nil _ _ _ _⟩
 ·have hrun := Go.Sy.run_append_made (P := Tryz.prog) (w := w) (t := 23) (ty := 23) (e := 5) (u := 3) (k := .i64) (k' := .i64) (ts := #[23, 3]) (xs := #[.slice none 0 0, .int .i64 (n : Int)]) rfl rfl (by rfl) rfl rfl Tryz.underlying23 hi hz0 h0 (by rw [hz1]; decide) (by rw [hz2]; decide) (by rw [hz2]; omega)
  have hcm : grownCap w n 0 5 ≤ maxLen := grownCap_le_maxLen w n 0 5 (by unfold maxLen; omega)
  have hcg : n ≤ grownCap w n 0 5 := grownCap_ge w n 0 5
  generalize grownCap w n 0 5 = cap at hrun hcm hcg
  have hsz : (#[] ++ Builtin.zeroCells (Value.int .u8 0).cells n ++ Builtin.zeroCells (Value.int .u8 0).cells (cap - n)).size = cap * 1 := by
   have hz : ∀ k, (Builtin.zeroCells (Value.int .u8 0).cells k).size = k := fun k => by
    rw [show (Value.int .u8 0).cells = #[Value.int .u8 0] from rfl]
    simp [Builtin.zeroCells]
   rw [Array.size_append, Array.size_append, hz, hz]
   simp; omega
  have hown := World.ownsRow_made (e := 5) (base := w.heap.size) w.drew (#[] ++ Builtin.zeroCells (Value.int .u8 0).cells n ++ Builtin.zeroCells (Value.int .u8 0).cells (cap - n)) cap (Nat.le_refl _) hcm hsz
  generalize #[] ++ Builtin.zeroCells (Value.int .u8 0).cells n ++ Builtin.zeroCells (Value.int .u8 0).cells (cap - n) = cur at hrun hown
  clear hsz
  have q1 : (0 : Int) < (n : Int) := by omega
  have q2 : IntKind.i64.wrap (n : Int) = (n : Int) := IntWalk.i64_in _ (by omega)
  go_enter Tryz.func74, Tryz.ntmps74
  go_wp2
  go_ret
  exact ⟨((Below.refl _ w).drew).alloc (by simp) _, _, _, _, rfl, hown⟩
theorem app8s {w : World} {B1 : Nat} {T : Option Addr} {tm tc : Nat} {ys xs : List Int} {A : Option Addr} {n c : Nat} (hown : w.ownsRow B1 5 1 (.slice T tm tc) ys.length (ys.map (Value.int .u8))) (hu : U8 w A n c xs) (hn : n ≤ 1024) (hy : ys.length ≤ 1000000) (hB : B1 ≤ w.heap.size) :
  ∃ T' tm' tc' w', (Builtin.append_ #[23, 23] 23 #[.slice T tm tc, .slice A n c]).run Tryz.prog w = .ok (.slice T' tm' tc') w' ∧ w'.ownsRow B1 5 1 (.slice T' tm' tc') (ys ++ xs).length ((ys ++ xs).map (Value.int .u8)) ∧ Below B1 w w' := by
 obtain ⟨tv', w', hr, ho, hg, _⟩ := app8 hown hu hn hy hB
 obtain ⟨T', tm', tc', rfl, _⟩ := own_slice' ho
 refine ⟨T', tm', tc', w', hr, ho, (Below.refl _ _).grown hg hB (fun k hk => (hown.lt k hk).1)⟩
set_option maxHeartbeats 4000000 in
set_option maxRecDepth 1000000 in
theorem concat_ret (L : Nat) (A B : Option Addr) (n ca m cb : Nat) (xs ys : List Int) (w : World) (hL : w.heap[L]? = some (.cells #[.slice A n ca, .slice B m cb] 23 (0, 0)))
  (hA : U8 w A n ca xs) (hB : U8 w B m cb ys) (hn : n ≤ 1024) (hm : m ≤ 1024) :
  Calls Tryz.prog 41 #[.slice (some ⟨L, 0, none⟩) 2 2] w fun e w' => Below w.heap.size w w' ∧ ∃ T tm tc, e = .returned (.slice T tm tc) ∧ w'.ownsRow w.heap.size 5 1 (.slice T tm tc) (n + m) ((xs ++ ys).map (Value.int .u8)) := by
 have c0 := cell_of hL 0
 have c1 := cell_of hL 1
 have hxl := hA.1
 have hyl := hB.1
 have w1 : IntKind.i64.wrap (0 + (n : Int)) = (n : Int) := by rw [IntWalk.i64_in _ (by omega)]; omega
 have w2 : IntKind.i64.wrap ((n : Int) + (m : Int)) = ((n + m : Nat) : Int) := by rw [IntWalk.i64_in _ (by omega)]; omega
 have hgr := grow_ret (n + m) (by omega) w
 go_enter Tryz.func41, Tryz.ntmps41
 go_wp2_with fail
 go_loop [3, 11] (fun z i => (i = .int .i64 0 ∧ z = .int .i64 0) ∨ (i = .int .i64 1 ∧ z = .int .i64 n) ∨ (i = .int .i64 2 ∧ z = .int .i64 ((n + m : Nat) : Int))) (fun z i => 2 - (intOf i).toNat)
 case atStart => exact .inl ⟨rfl, rfl⟩
 case round =>
  rcases hrel with ⟨rfl, rfl⟩ | ⟨rfl, rfl⟩ | ⟨rfl, rfl⟩
  ·have q1 : ¬ (n : Int) < 0 := by omega
   go_wp2_with fail
   go_round
   case rel => exact .inr (.inl ⟨rfl, by first | rfl | rw [w1]⟩)
   case measure => simp [intOf]
  ·have q1 : ¬ ((n + m : Nat) : Int) < 0 := by omega
   go_wp2_with fail
   go_round
   case rel => exact .inr (.inr ⟨rfl, by first | rfl | rw [w2]⟩)
   case measure => simp [intOf]
  ·go_wp2_with fail
   refine hgr.mono ?_
   rintro e wg ⟨hbg, T, tm, tc, rfl, hown⟩
   go_wp2_with fail
   go_loopw [6, 27] (fun v i wr => Below w.heap.size w wr ∧ ∃ T tm tc, v = .slice T tm tc ∧ ((i = .int .i64 0 ∧ wr.ownsRow w.heap.size 5 1 v 0 []) ∨ (i = .int .i64 1 ∧ wr.ownsRow w.heap.size 5 1 v n (xs.map (Value.int .u8))) ∨ (i = .int .i64 2 ∧ wr.ownsRow w.heap.size 5 1 v (n + m) ((xs ++ ys).map (Value.int .u8))))) (fun v i _ => 2 - (intOf i).toNat)
   case atStart => exact ⟨hbg, T, tm, tc, rfl, .inl ⟨rfl, hown⟩⟩
   case round =>
    obtain ⟨hbr, T1, tm1, tc1, rfl, ⟨rfl, ho⟩ | ⟨rfl, ho⟩ | ⟨rfl, ho⟩⟩ := hrel
    ·obtain ⟨T2, tm2, tc2, w2', hrun, ho2, hb2⟩ := app8s (ys := []) (by simpa using ho) (hA.below hbr) hn (by simp) hbr.size
     have e0 := hbr.cell (World.block_lt_of_cell? _ _ c0)
     rw [c0] at e0
     go_wp2_with fail
     go_round
     case rel => exact ⟨hbr.trans hb2, _, _, _, rfl, .inr (.inl ⟨rfl, by simpa [hxl] using ho2⟩)⟩
     case measure => simp [intOf]
    ·obtain ⟨T2, tm2, tc2, w2', hrun, ho2, hb2⟩ := app8s (ys := xs) (by simpa [hxl] using ho) (hB.below hbr) hm (by omega) hbr.size
     have e1 := hbr.cell (World.block_lt_of_cell? _ _ c1)
     rw [c1] at e1
     go_wp2_with fail
     go_round
     case rel => exact ⟨hbr.trans hb2, _, _, _, rfl, .inr (.inr ⟨rfl, by simpa [hxl, hyl] using ho2⟩)⟩
     case measure => simp [intOf]
    ·go_wp2_with fail
     go_ret
     exact ⟨hbr, _, _, _, rfl, ho⟩
end Go.Proofs.YtiajboiobjfcoaaGreatDoor
