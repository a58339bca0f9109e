/-
  What is proved here: what pipes.Begin returns where there is no error, by what the transfers' Start return.
  Conditions: what these return.
-/
import Derived.Test.YtiajboiobjfcoaaGreatDoorQStore
import Derived.Test.YtiajboiobjfcoaaGreatDoorQWant
namespace Go.Proofs.YtiajboiobjfcoaaGreatDoor
open Go.Proofs Go.RowKit
attribute [local go_sem] lt2 lt3 lt4 lt5
def noWorkV : Value := .agg #[.bool false, .int .u8 0, .int .u8 0, .bool false, .int .u8 0, .int .i64 0, .int .i64 0, .int .u8 0, .int .u8 0, .int .u8 0, .bool false, .bool false, .int .u8 0, .int .u8 0, .int .u8 0, .int .u16 0, .int .u16 0, .int .u16 0, .slice none 0 0, .int .i64 0, .bool false, .int .i64 0, .slice none 0 0, .int .i64 0, .int .i64 0, .bool false, .int .u8 0, .int .i64 0, .bool false, .slice none 0 0, .bool false, .int .i64 0, .slice none 0 0, .slice none 0 0, .int .i64 0, .int .i64 0, .bool false, .int .i64 0, .bool false, .int .u8 0, .int .i64 0, .slice none 0 0, .int .i64 0, .int .i64 0, .slice none 0 0, .slice none 0 0, .int .i64 0]
set_option maxHeartbeats 8000000 in
set_option maxRecDepth 1000000 in
theorem begin_blk (ad en : Int) (inn : Bool) (k : Int) (mx per sp hu po : Int) (tg : Bool) (t c v i l : Int) (dA : Option Addr) (dn dc : Nat) (len : Int) (z : Bool) (pA : Option Addr) (pn pc : Nat) (m : Int) (w : World) (k0 : (k == 0) = false) (k1 : (k == 1) = false) (Good : World → Bool → Int → Int → Bool → Bool → Int → Option Addr → Nat → Nat → Bool → Prop)
    (hkeep : ∀ (W W' : World) (g : Nat) (cs : Array Value), Wrote g W W' → W.heap[g]? = some (.cells cs 54 (0, 0)) → ∀ (s0 : Bool) (s1 s2 : Int) (s3 s4 : Bool) (s5 : Int) (sA : Option Addr) (sn sc : Nat) (s6 : Bool), Good W s0 s1 s2 s3 s4 s5 sA sn sc s6 → Good W' s0 s1 s2 s3 s4 s5 sA sn sc s6)
    (Bad : Prop) (R : Ending → World → Prop) (hR1 : ∀ w2 er, Below w.heap.size w w2 → er ≠ 0 → Bad → R (.returned (.tuple #[noWorkV, .int .i64 er])) w2) (hR2 : ∀ w2 (s0 : Bool) (s1 s2 : Int) (s3 s4 : Bool) (s5 : Int) (sA : Option Addr) (sn sc : Nat) (s6 : Bool), Below w.heap.size w w2 → Good w2 s0 s1 s2 s3 s4 s5 sA sn sc s6 → R (.returned (.tuple #[.agg #[.bool true, .int .u8 ad, .int .u8 en, .bool inn, .int .u8 k, .int .i64 mx, .int .i64 per, .int .u8 sp, .int .u8 hu, .int .u8 po, .bool tg, .bool false, .int .u8 0, .int .u8 0, .int .u8 0, .int .u16 0, .int .u16 0, .int .u16 0, .slice none 0 0, .int .i64 0, .bool false, .int .i64 0, .slice none 0 0, .int .i64 0, .int .i64 0, .bool s0, .int .u8 s1, .int .i64 s2, .bool s3, .slice none 0 0, .bool s4, .int .i64 s5, .slice sA sn sc, .slice none 0 0, .int .i64 0, .int .i64 0, .bool s6, .int .i64 0, .bool false, .int .u8 0, .int .i64 0, .slice none 0 0, .int .i64 0, .int .i64 0, .slice none 0 0, .slice none 0 0, .int .i64 0], .int .i64 0])) w2)
    (hchk : Ret 21 #[.agg #[.int .u8 ad, .int .u8 en, .bool inn, .int .u8 k, .int .i64 mx, .int .i64 per, .int .u8 sp, .int .u8 hu, .int .u8 po, .bool tg, .bool false]] (.int .i64 0))
    (hstr : Ret 22 #[.agg #[.int .u8 t, .int .u8 c, .int .u16 v, .int .u16 i, .int .u16 l, .slice dA dn dc, .int .i64 len, .bool z, .slice pA pn pc, .int .i64 m], .agg #[.int .u8 ad, .int .u8 en, .bool inn, .int .u8 k, .int .i64 mx, .int .i64 per, .int .u8 sp, .int .u8 hu, .int .u8 po, .bool tg, .bool false]] (.bool false))
    (hgr : ∀ w', Below w.heap.size w w' → Calls Tryz.prog 23 #[.agg #[.int .u8 t, .int .u8 c, .int .u16 v, .int .u16 i, .int .u16 l, .slice dA dn dc, .int .i64 len, .bool z, .slice pA pn pc, .int .i64 m], .agg #[.int .u8 ad, .int .u8 en, .bool inn, .int .u8 k, .int .i64 mx, .int .i64 per, .int .u8 sp, .int .u8 hu, .int .u8 po, .bool tg, .bool false]] w' fun e w2 => e = .returned (.bool false) ∧ Below w'.heap.size w' w2)
    (hsta : ∀ w', Below w.heap.size w w' → Calls Tryz.prog 26 #[.agg #[.bool inn, .int .u8 en, .int .i64 mx, .bool tg, .slice dA dn dc, .bool z, .int .i64 len]] w' fun e w2 => Below w'.heap.size w' w2 ∧ ∃ (er : Int) (s0 : Bool) (s1 s2 : Int) (s3 s4 : Bool) (s5 : Int) (sA : Option Addr) (sn sc : Nat) (s6 : Bool), e = .returned (.tuple #[.agg #[.bool s0, .int .u8 s1, .int .i64 s2, .bool s3, .slice none 0 0, .bool s4, .int .i64 s5, .slice sA sn sc, .slice none 0 0, .int .i64 0, .int .i64 0, .bool s6, .int .i64 0], .int .i64 er]) ∧ (er = 0 → Good w2 s0 s1 s2 s3 s4 s5 sA sn sc s6) ∧ (er ≠ 0 → Bad)) :
    Calls Tryz.prog 10 #[.agg #[.int .u8 ad, .int .u8 en, .bool inn, .int .u8 k, .int .i64 mx, .int .i64 per, .int .u8 sp, .int .u8 hu, .int .u8 po, .bool tg, .bool false], .agg #[.int .u8 t, .int .u8 c, .int .u16 v, .int .u16 i, .int .u16 l, .slice dA dn dc, .int .i64 len, .bool z, .slice pA pn pc, .int .i64 m]] w R := by
  go_enter Tryz.func10, Tryz.ntmps10
  go_wp2_with fail
  refine (hchk _).mono ?_
  rintro e w1 ⟨rfl, hb1⟩
  have hX0 := heap_below (alloc3_0 w _ _ _) hb1
  have hX1 := heap_below (alloc3_1 w _ _ _) hb1
  have hX2 := heap_below (alloc3_2 w _ _ _) hb1
  have hw1 := ((((Below.refl w.heap.size w).alloc (Nat.le_refl _) _).alloc (by simp) _).alloc (by simp; omega) _).trans (hb1.mono (by simp; omega))
  have hsz1 : w.heap.size + 1 + 1 + 1 ≤ w1.heap.size := by have := hb1.size; simpa using this
  clear hb1 hchk
  have y10 := cell_of hX0 10
  go_wp2_with (guard_target =~ wpList _ _ _ (_ :: _) _ _; first
    | refine wpList_load_row rfl (.tmp 3) 58 rfl (w.heap.size + 1) 58 _ _ rfl hX1 Tryz.underlying58 rfl (by kernel_rfl) ?_
    | refine wpList_load_row rfl (.tmp 2) 30 rfl w.heap.size 30 _ _ rfl hX0 Tryz.underlying30 rfl (by kernel_rfl) ?_)
  refine (hstr _).mono ?_
  rintro e w2 ⟨rfl, hb2⟩
  replace hX0 := heap_below hX0 hb2
  replace hX1 := heap_below hX1 hb2
  replace hX2 := heap_below hX2 hb2
  replace hw1 := hw1.trans (hb2.mono hw1.size)
  replace hsz1 := Nat.le_trans hsz1 hb2.size
  clear hb2 hstr y10
  go_wp2_with (guard_target =~ wpList _ _ _ (_ :: _) _ _; first
    | refine wpList_load_row rfl (.tmp 3) 58 rfl (w.heap.size + 1) 58 _ _ rfl hX1 Tryz.underlying58 rfl (by kernel_rfl) ?_
    | refine wpList_load_row rfl (.tmp 2) 30 rfl w.heap.size 30 _ _ rfl hX0 Tryz.underlying30 rfl (by kernel_rfl) ?_)
  refine (hgr _ hw1).mono ?_
  rintro e w3 ⟨rfl, hb3⟩
  replace hX0 := heap_below hX0 hb3
  replace hX1 := heap_below hX1 hb3
  replace hX2 := heap_below hX2 hb3
  replace hw1 := hw1.trans (hb3.mono hw1.size)
  replace hsz1 := Nat.le_trans hsz1 hb3.size
  clear hb3 hgr
  have hsz0 := hsz1
  go_upto_region 10 with fail
  go_wp2_with (guard_target =~ wpList _ _ _ (_ :: _) _ _; first
    | refine wpList_load_row rfl (.tmp 2) 30 rfl w.heap.size 30 _ _ rfl hX0 Tryz.underlying30 rfl (by kernel_rfl) ?_
    | (refine wpList_store_row rfl (.tmp 7) (.tmp 30) 54 rfl w3.heap.size 0 54 _ _ #[.bool true, .int .u8 ad, .int .u8 en, .bool inn, .int .u8 k, .int .i64 mx, .int .i64 per, .int .u8 sp, .int .u8 hu, .int .u8 po, .bool tg, .bool false, .int .u8 0, .int .u8 0, .int .u8 0, .int .u16 0, .int .u16 0, .int .u16 0, .slice none 0 0, .int .i64 0, .bool false, .int .i64 0, .slice none 0 0, .int .i64 0, .int .i64 0, .bool false, .int .u8 0, .int .i64 0, .bool false, .slice none 0 0, .bool false, .int .i64 0, .slice none 0 0, .slice none 0 0, .int .i64 0, .int .i64 0, .bool false, .int .i64 0, .bool false, .int .u8 0, .int .i64 0, .slice none 0 0, .int .i64 0, .int .i64 0, .slice none 0 0, .slice none 0 0, .int .i64 0] rfl rfl (heap_alloc_new w3 _) (by kernel_rfl) (by simp) rfl rfl ?_; intro w4 hX3 hW4
       have hba := (Below.refl w3.heap.size w3).alloc (Nat.le_refl _) (.cells #[.bool false, .int .u8 0, .int .u8 0, .bool false, .int .u8 0, .int .i64 0, .int .i64 0, .int .u8 0, .int .u8 0, .int .u8 0, .bool false, .bool false, .int .u8 0, .int .u8 0, .int .u8 0, .int .u16 0, .int .u16 0, .int .u16 0, .slice none 0 0, .int .i64 0, .bool false, .int .i64 0, .slice none 0 0, .int .i64 0, .int .i64 0, .bool false, .int .u8 0, .int .i64 0, .bool false, .slice none 0 0, .bool false, .int .i64 0, .slice none 0 0, .slice none 0 0, .int .i64 0, .int .i64 0, .bool false, .int .i64 0, .bool false, .int .u8 0, .int .i64 0, .slice none 0 0, .int .i64 0, .int .i64 0, .slice none 0 0, .slice none 0 0, .int .i64 0] 54)
       have hb4 := hba.trans (hW4.below (by simp))
       replace hX0 := heap_below hX0 hb4
       replace hX1 := heap_below hX1 hb4
       replace hX2 := heap_below hX2 hb4
       replace hw1 := hw1.trans (hb4.mono hw1.size)
       replace hsz1 := Nat.le_trans hsz1 hb4.size
       have hsz3 : w3.heap.size < w4.heap.size := by have := hW4.size; simp at this; omega
       have hp := cell_of hX0
       have hj := cell_of hX1
       have p0 := hp 0
       have p1 := hp 1
       have p2 := hp 2
       have p3 := hp 3
       have p4 := hp 4
       have p5 := hp 5
       have p6 := hp 6
       have p7 := hp 7
       have p8 := hp 8
       have p9 := hp 9
       have p10 := hp 10
       have j0 := hj 0
       have j1 := hj 1
       have j2 := hj 2
       have j3 := hj 3
       have j4 := hj 4
       have j5 := hj 5
       have j6 := hj 6
       have j7 := hj 7
       have j8 := hj 8
       have j9 := hj 9))
  refine (hsta _ hw1).mono ?_
  rintro e w5 ⟨hb5, er, s0, s1, s2, s3, s4, s5, sA, sn, sc, s6, rfl, hgood, hbad⟩
  replace hX0 := heap_below hX0 hb5
  replace hX2 := heap_below hX2 hb5
  replace hX3 := heap_below hX3 hb5
  replace hw1 := hw1.trans (hb5.mono hw1.size)
  clear hb5 hsta hX1 hp hj p0 p1 p2 p3 p4 p5 p6 p7 p8 p9 p10 j0 j1 j2 j3 j4 j5 j6 j7 j8 j9
  have hne : w3.heap.size ≠ w.heap.size + 1 + 1 := by omega
  by_cases he : er = 0
  · subst he
    have hg := hgood rfl
    clear hgood hbad
    go_wp2_with (guard_target =~ wpList _ _ _ (_ :: _) _ _; first
      | (refine wpList_store_row rfl (.tmp 52) (.tmp 50) 47 rfl w3.heap.size 25 54 _ _ #[.bool true, .int .u8 ad, .int .u8 en, .bool inn, .int .u8 k, .int .i64 mx, .int .i64 per, .int .u8 sp, .int .u8 hu, .int .u8 po, .bool tg, .bool false, .int .u8 0, .int .u8 0, .int .u8 0, .int .u16 0, .int .u16 0, .int .u16 0, .slice none 0 0, .int .i64 0, .bool false, .int .i64 0, .slice none 0 0, .int .i64 0, .int .i64 0, .bool s0, .int .u8 s1, .int .i64 s2, .bool s3, .slice none 0 0, .bool s4, .int .i64 s5, .slice sA sn sc, .slice none 0 0, .int .i64 0, .int .i64 0, .bool s6, .int .i64 0, .bool false, .int .u8 0, .int .i64 0, .slice none 0 0, .int .i64 0, .int .i64 0, .slice none 0 0, .slice none 0 0, .int .i64 0] rfl rfl hX3 (by kernel_rfl) (by simp) rfl rfl ?_; intro w6 hZ3 hW6; have hZ2 := (hW6.other (w.heap.size + 1 + 1) (Ne.symm hne)).trans hX2)
      | refine wpList_load_row rfl (.tmp 7) 54 rfl w3.heap.size 54 _ _ rfl hZ3 Tryz.underlying54 rfl (by kernel_rfl) ?_
      | (refine wpList_store_row rfl (.tmp 4) (.tmp 88) 54 rfl (w.heap.size + 1 + 1) 0 54 _ _ #[.bool true, .int .u8 ad, .int .u8 en, .bool inn, .int .u8 k, .int .i64 mx, .int .i64 per, .int .u8 sp, .int .u8 hu, .int .u8 po, .bool tg, .bool false, .int .u8 0, .int .u8 0, .int .u8 0, .int .u16 0, .int .u16 0, .int .u16 0, .slice none 0 0, .int .i64 0, .bool false, .int .i64 0, .slice none 0 0, .int .i64 0, .int .i64 0, .bool s0, .int .u8 s1, .int .i64 s2, .bool s3, .slice none 0 0, .bool s4, .int .i64 s5, .slice sA sn sc, .slice none 0 0, .int .i64 0, .int .i64 0, .bool s6, .int .i64 0, .bool false, .int .u8 0, .int .i64 0, .slice none 0 0, .int .i64 0, .int .i64 0, .slice none 0 0, .slice none 0 0, .int .i64 0] rfl rfl hZ2 (by kernel_rfl) (by simp) rfl rfl ?_; intro w7 hU2 hW7))
    exact ret_cell _ _ _ _ _ rfl rfl rfl hU2 Tryz.underlying54 rfl (by kernel_rfl) rfl (hR2 _ _ _ _ _ _ _ _ _ _ _ ((hw1.trans (hW6.below (by omega))).trans (hW7.below (by omega))) (hkeep _ _ _ _ hW7 hZ2 _ _ _ _ _ _ _ _ _ _ (hkeep _ _ _ _ hW6 hX3 _ _ _ _ _ _ _ _ _ _ hg)))
  · have hen : (er != 0) = true := by simpa using he
    have hbd := hbad he
    clear hgood hbad
    go_wp2_with (guard_target =~ wpList _ _ _ (_ :: _) _ _; first
      | (refine wpList_store_row rfl (.tmp 52) (.tmp 50) 47 rfl w3.heap.size 25 54 _ _ #[.bool true, .int .u8 ad, .int .u8 en, .bool inn, .int .u8 k, .int .i64 mx, .int .i64 per, .int .u8 sp, .int .u8 hu, .int .u8 po, .bool tg, .bool false, .int .u8 0, .int .u8 0, .int .u8 0, .int .u16 0, .int .u16 0, .int .u16 0, .slice none 0 0, .int .i64 0, .bool false, .int .i64 0, .slice none 0 0, .int .i64 0, .int .i64 0, .bool s0, .int .u8 s1, .int .i64 s2, .bool s3, .slice none 0 0, .bool s4, .int .i64 s5, .slice sA sn sc, .slice none 0 0, .int .i64 0, .int .i64 0, .bool s6, .int .i64 0, .bool false, .int .u8 0, .int .i64 0, .slice none 0 0, .int .i64 0, .int .i64 0, .slice none 0 0, .slice none 0 0, .int .i64 0] rfl rfl hX3 (by kernel_rfl) (by simp) rfl rfl ?_; intro w6 hZ3 hW6; have hZ2 := (hW6.other (w.heap.size + 1 + 1) (Ne.symm hne)).trans hX2)
      | (refine wpList_store_row rfl (.tmp 4) (.tmp 86) 54 rfl (w.heap.size + 1 + 1) 0 54 _ _ #[.bool false, .int .u8 0, .int .u8 0, .bool false, .int .u8 0, .int .i64 0, .int .i64 0, .int .u8 0, .int .u8 0, .int .u8 0, .bool false, .bool false, .int .u8 0, .int .u8 0, .int .u8 0, .int .u16 0, .int .u16 0, .int .u16 0, .slice none 0 0, .int .i64 0, .bool false, .int .i64 0, .slice none 0 0, .int .i64 0, .int .i64 0, .bool false, .int .u8 0, .int .i64 0, .bool false, .slice none 0 0, .bool false, .int .i64 0, .slice none 0 0, .slice none 0 0, .int .i64 0, .int .i64 0, .bool false, .int .i64 0, .bool false, .int .u8 0, .int .i64 0, .slice none 0 0, .int .i64 0, .int .i64 0, .slice none 0 0, .slice none 0 0, .int .i64 0] rfl rfl hZ2 (by kernel_rfl) (by simp) rfl rfl ?_; intro w7 hU2 hW7))
    exact ret_cell _ _ _ _ _ rfl rfl rfl hU2 Tryz.underlying54 rfl (by kernel_rfl) rfl (hR1 _ er ((hw1.trans (hW6.below (by omega))).trans (hW7.below (by omega))) he hbd)
end Go.Proofs.YtiajboiobjfcoaaGreatDoor
