/-
  What is proved here: what slices.Concat of two slices of bytes returns.
  Conditions: what the slices' cells hold.
  What is proved here: what the law's wire and transactions.NewLine return.
  Conditions: what the list's cells hold.
-/
import Derived.Test.YtiajboiobjfcoaaGreatDoorOAns
import Derived.Test.YtiajboiobjfcoaaGreatDoorSyM5
import Derived.Test.YtiajboiobjfcoaaGreatDoorILine
namespace Go.Proofs.YtiajboiobjfcoaaGreatDoor
open Go.Proofs Go.RowKit
attribute [local go_sem] lt2 lt3 lt4 lt5
attribute [-go_sem] Builtin.append_
theorem own_slice' {w : World} {B size n : Nat} {e : TypeId} {v : Value} {xs : List Value} (h : w.ownsRow B e size v n xs) : ∃ A m c, v = .slice A m c ∧ m ≤ c := by
 rcases h.2 with ⟨rfl, _⟩ | ⟨g, cap, cur, rfl, hg, _, hc, _⟩
 ·exact ⟨none, 0, 0, rfl, Nat.le_refl _⟩
 ·exact ⟨_, n, cap, rfl, hc⟩
set_option maxHeartbeats 2000000 in
set_option maxRecDepth 1000000 in
theorem grow_ret (n : Nat) (hn : n ≤ 1000000) (w : World) : Calls Tryz.prog 74 #[.slice none 0 0, .int .i64 (n : Int)] w fun e w' => Below w.heap.size w w' ∧ ∃ A m c, e = .returned (.slice A m c) ∧ w'.ownsRow w.heap.size 5 1 (.slice A m c) 0 [] := by
 obtain ⟨i0, hi, hz0, hz1, hz2⟩ := info_parts info5
 rcases Nat.eq_zero_or_pos n with rfl | h0
 ·go_enter Tryz.func74, Tryz.ntmps74
  go_wp2
  go_ret
  exact ⟨Below.refl _ _, _, _, _, rfl, World.ownsRow_nil _ _ _ _⟩
 ·have hrun := Go.Sy.run_append_made (P := Tryz.prog) (w := w) (t := 23) (ty := 23) (e := 5) (u := 3) (k := .i64) (k' := .i64) (ts := #[23, 3]) (xs := #[.slice none 0 0, .int .i64 (n : Int)]) rfl rfl (by rfl) rfl rfl Tryz.underlying23 hi hz0 h0 (by rw [hz1]; decide) (by rw [hz2]; decide) (by rw [hz2]; omega)
  have hcm : grownCap w n 0 5 ≤ maxLen := grownCap_le_maxLen w n 0 5 (by unfold maxLen; omega)
  have hcg : n ≤ grownCap w n 0 5 := grownCap_ge w n 0 5
  generalize grownCap w n 0 5 = cap at hrun hcm hcg
  have hsz : (#[] ++ Builtin.zeroCells (Value.int .u8 0).cells n ++ Builtin.zeroCells (Value.int .u8 0).cells (cap - n)).size = cap * 1 := by
   have hz : ∀ k, (Builtin.zeroCells (Value.int .u8 0).cells k).size = k := fun k => by
    rw [show (Value.int .u8 0).cells = #[Value.int .u8 0] from rfl]
    simp [Builtin.zeroCells]
   rw [Array.size_append, Array.size_append, hz, hz]
   simp; omega
  have hown := World.ownsRow_made (e := 5) (base := w.heap.size) w.drew (#[] ++ Builtin.zeroCells (Value.int .u8 0).cells n ++ Builtin.zeroCells (Value.int .u8 0).cells (cap - n)) cap (Nat.le_refl _) hcm hsz
  generalize #[] ++ Builtin.zeroCells (Value.int .u8 0).cells n ++ Builtin.zeroCells (Value.int .u8 0).cells (cap - n) = cur at hrun hown
  clear hsz
  have q1 : (0 : Int) < (n : Int) := by omega
  have q2 : IntKind.i64.wrap (n : Int) = (n : Int) := IntWalk.i64_in _ (by omega)
  go_enter Tryz.func74, Tryz.ntmps74
  go_wp2
  go_ret
  exact ⟨((Below.refl _ w).drew).alloc (by simp) _, _, _, _, rfl, hown⟩
theorem app8s {w : World} {B1 : Nat} {T : Option Addr} {tm tc : Nat} {ys xs : List Int} {A : Option Addr} {n c : Nat} (hown : w.ownsRow B1 5 1 (.slice T tm tc) ys.length (ys.map (Value.int .u8))) (hu : U8 w A n c xs) (hn : n ≤ 1024) (hy : ys.length ≤ 1000000) (hB : B1 ≤ w.heap.size) :
  ∃ T' tm' tc' w', (Builtin.append_ #[23, 23] 23 #[.slice T tm tc, .slice A n c]).run Tryz.prog w = .ok (.slice T' tm' tc') w' ∧ w'.ownsRow B1 5 1 (.slice T' tm' tc') (ys ++ xs).length ((ys ++ xs).map (Value.int .u8)) ∧ Below B1 w w' := by
 obtain ⟨tv', w', hr, ho, hg, _⟩ := app8 hown hu hn hy hB
 obtain ⟨T', tm', tc', rfl, _⟩ := own_slice' ho
 refine ⟨T', tm', tc', w', hr, ho, (Below.refl _ _).grown hg hB (fun k hk => (hown.lt k hk).1)⟩
set_option maxHeartbeats 4000000 in
set_option maxRecDepth 1000000 in
theorem concat_ret (L : Nat) (A B : Option Addr) (n ca m cb : Nat) (xs ys : List Int) (w : World) (hL : w.heap[L]? = some (.cells #[.slice A n ca, .slice B m cb] 23 (0, 0)))
  (hA : U8 w A n ca xs) (hB : U8 w B m cb ys) (hn : n ≤ 1024) (hm : m ≤ 1024) :
  Calls Tryz.prog 41 #[.slice (some ⟨L, 0, none⟩) 2 2] w fun e w' => Below w.heap.size w w' ∧ ∃ T tm tc, e = .returned (.slice T tm tc) ∧ w'.ownsRow w.heap.size 5 1 (.slice T tm tc) (n + m) ((xs ++ ys).map (Value.int .u8)) := by
 have c0 := cell_of hL 0
 have c1 := cell_of hL 1
 have hxl := hA.1
 have hyl := hB.1
 have w1 : IntKind.i64.wrap (0 + (n : Int)) = (n : Int) := by rw [IntWalk.i64_in _ (by omega)]; omega
 have w2 : IntKind.i64.wrap ((n : Int) + (m : Int)) = ((n + m : Nat) : Int) := by rw [IntWalk.i64_in _ (by omega)]; omega
 have hgr := grow_ret (n + m) (by omega) w
 go_enter Tryz.func41, Tryz.ntmps41
 go_wp2_with fail
 go_loop [3, 11] (fun z i => (i = .int .i64 0 ∧ z = .int .i64 0) ∨ (i = .int .i64 1 ∧ z = .int .i64 n) ∨ (i = .int .i64 2 ∧ z = .int .i64 ((n + m : Nat) : Int))) (fun z i => 2 - (intOf i).toNat)
 case atStart => exact .inl ⟨rfl, rfl⟩
 case round =>
  rcases hrel with ⟨rfl, rfl⟩ | ⟨rfl, rfl⟩ | ⟨rfl, rfl⟩
  ·have q1 : ¬ (n : Int) < 0 := by omega
   go_wp2_with fail
   go_round
   case rel => exact .inr (.inl ⟨rfl, by first | rfl | rw [w1]⟩)
   case measure => simp [intOf]
  ·have q1 : ¬ ((n + m : Nat) : Int) < 0 := by omega
   go_wp2_with fail
   go_round
   case rel => exact .inr (.inr ⟨rfl, by first | rfl | rw [w2]⟩)
   case measure => simp [intOf]
  ·go_wp2_with fail
   refine hgr.mono ?_
   rintro e wg ⟨hbg, T, tm, tc, rfl, hown⟩
   go_wp2_with fail
   go_loopw [6, 27] (fun v i wr => Below w.heap.size w wr ∧ ∃ T tm tc, v = .slice T tm tc ∧ ((i = .int .i64 0 ∧ wr.ownsRow w.heap.size 5 1 v 0 []) ∨ (i = .int .i64 1 ∧ wr.ownsRow w.heap.size 5 1 v n (xs.map (Value.int .u8))) ∨ (i = .int .i64 2 ∧ wr.ownsRow w.heap.size 5 1 v (n + m) ((xs ++ ys).map (Value.int .u8))))) (fun v i _ => 2 - (intOf i).toNat)
   case atStart => exact ⟨hbg, T, tm, tc, rfl, .inl ⟨rfl, hown⟩⟩
   case round =>
    obtain ⟨hbr, T1, tm1, tc1, rfl, ⟨rfl, ho⟩ | ⟨rfl, ho⟩ | ⟨rfl, ho⟩⟩ := hrel
    ·obtain ⟨T2, tm2, tc2, w2', hrun, ho2, hb2⟩ := app8s (ys := []) (by simpa using ho) (hA.below hbr) hn (by simp) hbr.size
     have e0 := hbr.cell (World.block_lt_of_cell? _ _ c0)
     rw [c0] at e0
     go_wp2_with fail
     go_round
     case rel => exact ⟨hbr.trans hb2, _, _, _, rfl, .inr (.inl ⟨rfl, by simpa [hxl] using ho2⟩)⟩
     case measure => simp [intOf]
    ·obtain ⟨T2, tm2, tc2, w2', hrun, ho2, hb2⟩ := app8s (ys := xs) (by simpa [hxl] using ho) (hB.below hbr) hm (by omega) hbr.size
     have e1 := hbr.cell (World.block_lt_of_cell? _ _ c1)
     rw [c1] at e1
     go_wp2_with fail
     go_round
     case rel => exact ⟨hbr.trans hb2, _, _, _, rfl, .inr (.inr ⟨rfl, by simpa [hxl, hyl] using ho2⟩)⟩
     case measure => simp [intOf]
    ·go_wp2_with fail
     go_ret
     exact ⟨hbr, _, _, _, rfl, ho⟩
end Go.Proofs.YtiajboiobjfcoaaGreatDoor

namespace Go.Proofs.YtiajboiobjfcoaaGreatDoor
open Go.Proofs Go.RowKit
attribute [local go_sem] lt2 lt3 lt4 lt5
theorem infoF : (Tryz.prog.info? 88).map (fun i => (i.zero, i.size, i.bytes)) = some (some (.int .u8 0), 1, 1) := by kernel_rfl
theorem u8_row {w : World} {B n : Nat} {e : TypeId} {v : Value} {xs : List Int} (hr : ∀ x ∈ xs, 0 ≤ x ∧ x ≤ 255) (h : w.ownsRow B e 1 v n (xs.map (Value.int .u8))) :
  ∃ A c, v = .slice A n c ∧ U8 w A n c xs ∧ (n = 0 ∨ ∃ a, A = some a ∧ B ≤ a.block ∧ a.block < w.heap.size) := by
 have hn : n = xs.length := by have := h.1; simp at this; omega
 subst hn
 rcases id h.2 with ⟨rfl, h0⟩ | ⟨g, cap, cur, rfl, hg, hh, hcap, _⟩
 ·exact ⟨none, 0, by rw [h0], by rw [h0]; exact ⟨h0, hr, Nat.le_refl _, .inl ⟨rfl, rfl, rfl⟩⟩, .inl h0⟩
 ·refine ⟨_, cap, rfl, ⟨rfl, hr, hcap, .inr ⟨_, rfl, fun j hj => ?_⟩⟩, .inr ⟨_, rfl, hg, (Array.getElem?_eq_some_iff.1 hh).1⟩⟩
  have hc := h.cellAt j (by simpa using hj)
  rw [show (⟨g, 0, none⟩ : Addr).add j = ⟨g, j, none⟩ by unfold Addr.add; split <;> simp_all]
  simpa [List.getElem?_eq_getElem hj] using hc
set_option maxHeartbeats 2000000 in
theorem fclone (A : Option Addr) (n c : Nat) (xs : List Int) (w : World) (hx : U8 w A n c xs) (hn : n ≤ 65536) :
  Calls Tryz.prog 42 #[.slice A n c] w fun e w' => Below w.heap.size w w' ∧ ∃ A' c', e = .returned (.slice A' n c') ∧ U8 w' A' n c' xs ∧ (n = 0 ∨ ∃ a, A' = some a ∧ w.heap.size ≤ a.block ∧ a.block < w'.heap.size) := by
 obtain ⟨i0, hi, hz0, hz1, hz2⟩ := info_parts infoF
 obtain ⟨h1, h2, h3, ⟨rfl, rfl, rfl⟩ | ⟨a, rfl, h5⟩⟩ := hx
 ·have hnil := fun (w : World) => Lib.run_eql_slice_nil (P := Tryz.prog) w 87 88 none 0 0 0 0 Tryz.underlying87
  go_enter Tryz.func42, Tryz.ntmps42
  go_wp2
  go_ret
  refine ⟨Below.refl _ _, none, 0, rfl, ⟨h1, h2, Nat.le_refl _, ?_⟩, by simp⟩
  exact .inl ⟨rfl, rfl, rfl⟩
 have hnil := fun (w : World) => Lib.run_eql_slice_nil (P := Tryz.prog) w 87 88 (some a) n c 0 0 Tryz.underlying87
 go_enter Tryz.func42, Tryz.ntmps42
 go_wp2_with (at_builtin; refine wpList_append_own _ rfl (.tmp 5) (.tmp 6) 87 rfl w.heap.size 88 i0 (.int .u8 0) 1 1 Tryz.underlying87 hi hz0 hz1 hz2 rfl (by decide) _ 0 [] rfl ?own a n c (xs.map (Value.int .u8)) rfl ?c1 ?c2 ?c3 ?c4 ?c5 ?c6 ?_)
 case own => exact World.ownsRow_made w #[] 0 (Nat.le_refl _) (by decide) rfl
 case c1 => simp [h1]
 case c2 =>
  intro j u hj
  rw [List.getElem?_map, Option.map_eq_some_iff] at hj
  obtain ⟨x, hx, rfl⟩ := hj
  have hjn : j < n := by rw [← h1]; exact (List.getElem?_eq_some_iff.1 hx).1
  have hcx := h5 j hjn
  rw [hx] at hcx
  rw [World.cell?_alloc_lt _ _ _ (World.block_lt_of_cell? _ _ hcx)]
  exact hcx
 case c3 =>
  intro u hu
  obtain ⟨x, _, rfl⟩ := List.mem_map.1 hu
  rfl
 case c4 => unfold maxLen; omega
 case c5 => omega
 case c6 => simp
 intro v' w1 hown hgrow hnn
 have hb1 : Below w.heap.size w w1 := ((Below.refl _ _).alloc (Nat.le_refl _) _).grown hgrow (by simp) (fun k hk => by simp [Value.ownBlock] at hk; omega)
 obtain ⟨A', c', rfl, hu, hf⟩ := u8_row h2 (by simpa using hown)
 clear hown hgrow hnn hnil
 go_wp2
 go_ret
 exact ⟨hb1, A', c', rfl, hu, hf⟩
def faultOf (x : Int) : Int := if x % 8 = 1 then 1 else if x % 8 = 2 then 2 else 0
theorem fault_rng (x : Int) : 0 ≤ faultOf x ∧ faultOf x ≤ 255 := by unfold faultOf; split; omega; split <;> omega
def LineNew (w : World) (t : List Int) (e : Ending) (w' : World) : Prop := ∃ L R, e = .returned (.pointer (some ⟨L, 0, none⟩)) ∧ LineAt L R w' t ∧ Below w.heap.size w w' ∧ w.heap.size ≤ L ∧ w.heap.size ≤ R
set_option maxHeartbeats 2000000 in
theorem newline_ret (A : Option Addr) (n c : Nat) (xs : List Int) (w : World) (hx : U8 w A n c xs) (hn : n ≤ 1000) :
  Calls Tryz.prog 20 #[.slice A n c] w (LineNew w xs) := by
 have hc := fclone A n c xs w hx (by omega)
 clear hx
 go_enter Tryz.func20, Tryz.ntmps20
 go_wp2_with fail
 refine hc.mono ?_
 rintro e w1 ⟨hb, A', c', rfl, hu, hf⟩
 go_wp2
 go_ret
 have hb2 : Below w1.heap.size w1 (w1.alloc (.cells #[.slice A' n c'] 126)) := (Below.refl _ _).alloc (Nat.le_refl _) _
 have hs := hb.size
 rcases hf with h0 | ⟨a, rfl, h1, h2⟩
 ·subst h0
  exact ⟨w1.heap.size, w1.heap.size, rfl, ⟨A', 0, c', heap_alloc_new w1 _, hu.below hb2, by omega, .inl rfl, by simp, .inl rfl⟩, hb.trans (hb2.mono hs), hs, hs⟩
 ·exact ⟨w1.heap.size, a.block, rfl, ⟨some a, n, c', heap_alloc_new w1 _, hu.below hb2, by omega, .inr ⟨a, rfl, rfl⟩, by simp; omega, .inr (by omega)⟩, hb.trans (hb2.mono hs), hs, h1⟩
attribute [-go_sem] Builtin.append_
theorem app1F {w : World} {B1 g : Nat} {T : Option Addr} {tm tc : Nat} {ys : List Int} (y : Int) (hown : w.ownsRow B1 88 1 (.slice T tm tc) tm (ys.map (Value.int .u8))) (hg : w.heap[g]? = some (.cells #[.int .u8 y] 88 (0, 0))) (hy : tm ≤ 1000000) (hB : B1 ≤ w.heap.size) :
  ∃ T' tc' w', (Builtin.append_ #[87, 87] 87 #[.slice T tm tc, .slice (some ⟨g, 0, none⟩) 1 1]).run Tryz.prog w = .ok (.slice T' (tm + 1) tc') w' ∧ w'.ownsRow B1 88 1 (.slice T' (tm + 1) tc') (tm + 1) ((ys ++ [y]).map (Value.int .u8)) ∧ Below B1 w w' := by
 obtain ⟨i0, hi, hz0, hz1, hz2⟩ := info_parts infoF
 obtain ⟨tv', w', hr, ho, hgr, _⟩ := run_append_own_at (P := Tryz.prog) w B1 87 87 88 i0 (.int .u8 0) 1 1 Tryz.underlying87 hi hz0 hz1 hz2 rfl (by decide) (.slice T tm tc) _ _ hown ⟨g, 0, none⟩ 1 1 [.int .u8 y] rfl (World.news_of_block hg) (fun u hu => by obtain rfl := List.mem_singleton.1 hu; rfl) (by unfold maxLen; omega) (by omega) hB
 obtain ⟨A', m', c', rfl, _⟩ := own_slice' ho
 obtain rfl : m' = tm + 1 := by
  rcases ho.2 with ⟨h, h0⟩ | ⟨_, _, _, h, _⟩
  ·omega
  ·injection h
 exact ⟨A', c', w', hr, by rw [List.map_append]; exact ho, (Below.refl _ _).grown hgr hB (fun k hk => (hown.lt k hk).1)⟩
set_option maxHeartbeats 4000000 in
set_option maxRecDepth 1000000 in
theorem wire_ret (A : Option Addr) (n c : Nat) (xs : List Int) (w : World) (hx : U8 w A n c xs) (hn : n ≤ 1000) :
  Calls Tryz.prog 9 #[.slice A n c] w (LineNew w (xs.map faultOf)) := by
 obtain ⟨i0, hi, hz0, hz1, hz2⟩ := info_parts infoF
 have hxl := Lib.hid hx.1
 have hxr := Lib.hid hx.2.1
 have hnl := fun (w1 : World) (h : Below w.heap.size w w1) A' c' (hu : U8 w1 A' n c' (xs.map faultOf)) => newline_ret A' n c' (xs.map faultOf) w1 hu hn
 go_enter Tryz.func9, Tryz.ntmps9
 go_wp2_with fail
 go_loopw [3, 4] (fun o i wr => ∃ (k : Nat) (T : Option Addr) (tc : Nat), i = .int .i64 k ∧ o = .slice T k tc ∧ k ≤ n ∧ Below w.heap.size w wr ∧ wr.ownsRow w.heap.size 88 1 (.slice T k tc) k (((xs.take k).map faultOf).map (Value.int .u8))) (fun _ i _ => n - (intOf i).toNat)
 case atStart => exact ⟨0, none, 0, rfl, rfl, by omega, Below.refl _ _, World.ownsRow_nil _ _ _ _⟩
 case round =>
  obtain ⟨k, T, tc, rfl, rfl, hk, hbr, ho⟩ := hrel
  by_cases hlt : k < n
  ·have q1 : (k : Int) < (n : Int) := by omega
   obtain ⟨_, _, hcc, ⟨_, h0, _⟩ | ⟨a, rfl, h5⟩⟩ := hx
   ·omega
   have hck := hbr.cell (World.block_lt_of_cell? _ _ (h5 k hlt))
   rw [h5 k hlt] at hck
   have hkx : k < xs.length := by rw [hxl.out]; exact hlt
   obtain ⟨x, hxk⟩ : ∃ x, xs[k]? = some x := ⟨_, List.getElem?_eq_getElem hkx⟩
   have hxr' := hxr.out x (List.mem_of_getElem? hxk)
   rw [hxk, Option.getD_some] at hck
   have HX := Lib.hid hxk
   clear hxk h5
   have hrow : ∀ y : Int, (wr.alloc (.cells #[.int .u8 y] 88)).heap[wr.heap.size]? = some (.cells #[.int .u8 y] 88 (0, 0)) := fun y => heap_alloc_new wr _
   have hob : ∀ y : Int, Below w.heap.size wr (wr.alloc (.cells #[.int .u8 y] 88)) := fun y => ((Below.refl _ wr).alloc (Nat.le_refl _) _).mono hbr.size
   obtain ⟨T2, tc2, w2, hrun, ho2, hb2⟩ := app1F (w := wr.alloc (.cells #[.int .u8 (faultOf x)] 88)) (faultOf x) (own_below ho ((Below.refl _ wr).alloc (Nat.le_refl _) _)) (hrow _) (by omega) (Nat.le_trans hbr.size (by simp))
   have hend : (((xs.take k).map faultOf) ++ [faultOf x]) = ((xs.take (k + 1)).map faultOf) := by rw [List.take_add_one, HX.out]; simp
   rw [hend] at ho2
   clear hend
   by_cases h1 : x % 8 = 1
   ·have hf : faultOf x = 1 := by unfold faultOf; rw [if_pos h1]
    have b1 : (x % 8 == 1) = true := by simp [h1]
    have b2 : (x % 8 == 2) = false := by simp [h1]
    rw [hf] at hrun
    clear hf h1
    go_wp2_with fail
    go_round
    case rel => exact ⟨k + 1, T2, tc2, by go_num, rfl, by omega, (hbr.trans (hob _)).trans hb2, ho2⟩
    case measure => simp [intOf]; omega
   ·by_cases h2 : x % 8 = 2
    ·have hf : faultOf x = 2 := by unfold faultOf; rw [if_neg h1, if_pos h2]
     have b1 : (x % 8 == 1) = false := by simp [h1]
     have b2 : (x % 8 == 2) = true := by simp [h2]
     rw [hf] at hrun
     clear hf h1 h2
     go_wp2_with fail
     go_round
     case rel => exact ⟨k + 1, T2, tc2, by go_num, rfl, by omega, (hbr.trans (hob _)).trans hb2, ho2⟩
     case measure => simp [intOf]; omega
    ·have hf : faultOf x = 0 := by unfold faultOf; rw [if_neg h1, if_neg h2]
     have b1 : (x % 8 == 1) = false := by simp [h1]
     have b2 : (x % 8 == 2) = false := by simp [h2]
     rw [hf] at hrun
     clear hf h1 h2
     go_wp2_with fail
     go_round
     case rel => exact ⟨k + 1, T2, tc2, by go_num, rfl, by omega, (hbr.trans (hob _)).trans hb2, ho2⟩
     case measure => simp [intOf]; omega
  ·obtain rfl : k = n := by omega
   have e0 : xs.take k = xs := List.take_of_length_le (by rw [hxl.out]; omega)
   rw [e0] at ho
   obtain ⟨A', c', e1, hu, _⟩ := u8_row (fun y hy => by obtain ⟨x, _, rfl⟩ := List.mem_map.1 hy; exact fault_rng x) ho
   injection e1 with e1 e2 e3
   subst e1 e3
   have hl := hnl wr hbr T tc hu
   clear ho hx e0 hu e2 hnl
   go_wp2_with fail
   refine hl.mono ?_
   rintro e w2 ⟨L, R, rfl, hLA, hb2, h1, h2⟩
   go_wp2
   go_ret
   have := hbr.size
   exact ⟨L, R, rfl, hLA, hbr.trans (hb2.mono this), by omega, by omega⟩
end Go.Proofs.YtiajboiobjfcoaaGreatDoor
