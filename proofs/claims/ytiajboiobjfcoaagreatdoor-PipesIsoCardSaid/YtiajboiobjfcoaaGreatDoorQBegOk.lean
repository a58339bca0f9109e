/-
  What is proved here: what strange and great return, as calls.
  Conditions: the fields lie in their types' ranges.
  What is proved here: what pipes.Begin returns where there is no error, by what the transfers' Start return.
  Conditions: what these return.
-/
import Derived.Test.YtiajboiobjfcoaaGreatDoorQCtx
import Derived.Test.YtiajboiobjfcoaaGreatDoorQApp
namespace Go.Proofs.YtiajboiobjfcoaaGreatDoor
open Go.Sy Go.RowKit
set_option maxRecDepth 1000000
def Ret (f : FuncId) (args : Array Value) (v : Value) : Prop := ∀ w, Calls Tryz.prog f args w fun e w' => e = .returned v ∧ Below w.heap.size w w'
theorem strange_ret {N : Nums} {D P : Value} {c : Cx} (hN : N.R) (h : Ctx N D P c) : Ret 22 #[N.J D P, N.P] (.bool (fStr.den N.rho)) := by
 intro w
 have hq := rng_ok hN (k := (0, 255)) (n := (0, 9223372036854775807)) hN.1.2.2.1 ⟨by simp, by have := hN.2.2; simp; omega⟩ (cs := []) (fun _ h => nomatch h)
 rw [← h.rho] at hq ⊢
 refine (con_runC plain kw0_ok (h.mem w) h.glob h.wr hq (VRs.cons h.job (VRs.cons h.pipe VRs.nil)) s_run).mono ?_
 rintro e w' ⟨r, c', y, hc, hp, rfl, hv, hρ, hbel⟩
 exact ⟨by rw [forQ_ok hc (hρ ▸ hp) hv, hρ], hbel⟩
theorem great_ret {N : Nums} {D P : Value} {c : Cx} (hN : N.R) (h : Ctx N D P c) (hp0 : N.pn = 0) : Ret 23 #[N.J D P, N.P] (.bool (fLim.den N.rho)) := by
 intro w
 have hq := rng_ok hN (k := (0, 255)) (n := (0, 0)) hN.1.2.2.1 ⟨by simp, by simp [hp0]⟩ (cs := []) (fun _ h => nomatch h)
 rw [← h.rho] at hq ⊢
 refine (con_runC plain kw0_ok (h.mem w) h.glob h.wr hq (VRs.cons h.job (VRs.cons h.pipe VRs.nil)) g_run0).mono ?_
 rintro e w' ⟨r, c', y, hc, hp, rfl, hv, hρ, hbel⟩
 exact ⟨by rw [forQ_ok hc (hρ ▸ hp) hv, hρ], hbel⟩
end Go.Proofs.YtiajboiobjfcoaaGreatDoor

namespace Go.Proofs.YtiajboiobjfcoaaGreatDoor
open Go.Proofs Go.RowKit
attribute [local go_sem] lt2 lt3 lt4 lt5
def noWorkV : Value := .agg #[.bool false, .int .u8 0, .int .u8 0, .bool false, .int .u8 0, .int .i64 0, .int .i64 0, .int .u8 0, .int .u8 0, .int .u8 0, .bool false, .bool false, .int .u8 0, .int .u8 0, .int .u8 0, .int .u16 0, .int .u16 0, .int .u16 0, .slice none 0 0, .int .i64 0, .bool false, .int .i64 0, .slice none 0 0, .int .i64 0, .int .i64 0, .bool false, .int .u8 0, .int .i64 0, .bool false, .slice none 0 0, .bool false, .int .i64 0, .slice none 0 0, .slice none 0 0, .int .i64 0, .int .i64 0, .bool false, .int .i64 0, .bool false, .int .u8 0, .int .i64 0, .slice none 0 0, .int .i64 0, .int .i64 0, .slice none 0 0, .slice none 0 0, .int .i64 0]
set_option maxHeartbeats 8000000 in
set_option maxRecDepth 1000000 in
theorem begin_iso (ad en : Int) (inn : Bool) (mx per sp hu po : Int) (tg : Bool) (t c v i l : Int) (dA : Option Addr) (dn dc : Nat) (len : Int) (z : Bool) (pA : Option Addr) (pn pc : Nat) (m : Int) (w : World) (Good : World → Bool → Int → Int → Option Addr → Nat → Nat → Int → Int → Prop)
    (hkeep : ∀ (W W' : World) (g : Nat) (cs : Array Value), Wrote g W W' → W.heap[g]? = some (.cells cs 54 (0, 0)) → ∀ (s0 : Bool) (s1 s2 : Int) (sA : Option Addr) (sn sc : Nat) (s3 s4 : Int), Good W s0 s1 s2 sA sn sc s3 s4 → Good W' s0 s1 s2 sA sn sc s3 s4)
    (Bad : Prop) (R : Ending → World → Prop) (hR1 : ∀ w2 er, Below w.heap.size w w2 → er ≠ 0 → Bad → R (.returned (.tuple #[noWorkV, .int .i64 er])) w2) (hR2 : ∀ w2 (s0 : Bool) (s1 s2 : Int) (sA : Option Addr) (sn sc : Nat) (s3 s4 : Int), Below w.heap.size w w2 → Good w2 s0 s1 s2 sA sn sc s3 s4 → R (.returned (.tuple #[.agg #[.bool true, .int .u8 ad, .int .u8 en, .bool inn, .int .u8 1, .int .i64 mx, .int .i64 per, .int .u8 sp, .int .u8 hu, .int .u8 po, .bool tg, .bool false, .int .u8 0, .int .u8 0, .int .u8 0, .int .u16 0, .int .u16 0, .int .u16 0, .slice none 0 0, .int .i64 0, .bool false, .int .i64 0, .slice none 0 0, .int .i64 0, .int .i64 0, .bool false, .int .u8 0, .int .i64 0, .bool false, .slice none 0 0, .bool false, .int .i64 0, .slice none 0 0, .slice none 0 0, .int .i64 0, .int .i64 0, .bool false, .int .i64 0, .bool s0, .int .u8 s1, .int .i64 s2, .slice sA sn sc, .int .i64 s3, .int .i64 s4, .slice none 0 0, .slice none 0 0, .int .i64 0], .int .i64 0])) w2)
    (hchk : Ret 21 #[.agg #[.int .u8 ad, .int .u8 en, .bool inn, .int .u8 1, .int .i64 mx, .int .i64 per, .int .u8 sp, .int .u8 hu, .int .u8 po, .bool tg, .bool false]] (.int .i64 0))
    (hstr : Ret 22 #[.agg #[.int .u8 t, .int .u8 c, .int .u16 v, .int .u16 i, .int .u16 l, .slice dA dn dc, .int .i64 len, .bool z, .slice pA pn pc, .int .i64 m], .agg #[.int .u8 ad, .int .u8 en, .bool inn, .int .u8 1, .int .i64 mx, .int .i64 per, .int .u8 sp, .int .u8 hu, .int .u8 po, .bool tg, .bool false]] (.bool false))
    (hgr : ∀ w', Below w.heap.size w w' → Calls Tryz.prog 23 #[.agg #[.int .u8 t, .int .u8 c, .int .u16 v, .int .u16 i, .int .u16 l, .slice dA dn dc, .int .i64 len, .bool z, .slice pA pn pc, .int .i64 m], .agg #[.int .u8 ad, .int .u8 en, .bool inn, .int .u8 1, .int .i64 mx, .int .i64 per, .int .u8 sp, .int .u8 hu, .int .u8 po, .bool tg, .bool false]] w' fun e w2 => e = .returned (.bool false) ∧ Below w'.heap.size w' w2)
    (hsta : ∀ w', Below w.heap.size w w' → Calls Tryz.prog 25 #[.agg #[.bool inn, .int .u8 en, .int .i64 mx, .slice pA pn pc, .int .i64 m]] w' fun e w2 => Below w'.heap.size w' w2 ∧ ∃ (er : Int) (s0 : Bool) (s1 s2 : Int) (sA : Option Addr) (sn sc : Nat) (s3 s4 : Int), e = .returned (.tuple #[.agg #[.bool s0, .int .u8 s1, .int .i64 s2, .slice sA sn sc, .int .i64 s3, .int .i64 s4, .slice none 0 0], .int .i64 er]) ∧ (er = 0 → Good w2 s0 s1 s2 sA sn sc s3 s4) ∧ (er ≠ 0 → Bad)) :
    Calls Tryz.prog 10 #[.agg #[.int .u8 ad, .int .u8 en, .bool inn, .int .u8 1, .int .i64 mx, .int .i64 per, .int .u8 sp, .int .u8 hu, .int .u8 po, .bool tg, .bool false], .agg #[.int .u8 t, .int .u8 c, .int .u16 v, .int .u16 i, .int .u16 l, .slice dA dn dc, .int .i64 len, .bool z, .slice pA pn pc, .int .i64 m]] w R := by
  go_enter Tryz.func10, Tryz.ntmps10
  go_wp2_with fail
  refine (hchk _).mono ?_
  rintro e w1 ⟨rfl, hb1⟩
  have hX0 := heap_below (alloc3_0 w _ _ _) hb1
  have hX1 := heap_below (alloc3_1 w _ _ _) hb1
  have hX2 := heap_below (alloc3_2 w _ _ _) hb1
  have hw1 := ((((Below.refl w.heap.size w).alloc (Nat.le_refl _) _).alloc (by simp) _).alloc (by simp; omega) _).trans (hb1.mono (by simp; omega))
  have hsz1 : w.heap.size + 1 + 1 + 1 ≤ w1.heap.size := by have := hb1.size; simpa using this
  clear hb1 hchk
  have y10 := cell_of hX0 10
  go_wp2_with (guard_target =~ wpList _ _ _ (_ :: _) _ _; first
    | refine wpList_load_row rfl (.tmp 3) 58 rfl (w.heap.size + 1) 58 _ _ rfl hX1 Tryz.underlying58 rfl (by kernel_rfl) ?_
    | refine wpList_load_row rfl (.tmp 2) 30 rfl w.heap.size 30 _ _ rfl hX0 Tryz.underlying30 rfl (by kernel_rfl) ?_)
  refine (hstr _).mono ?_
  rintro e w2 ⟨rfl, hb2⟩
  replace hX0 := heap_below hX0 hb2
  replace hX1 := heap_below hX1 hb2
  replace hX2 := heap_below hX2 hb2
  replace hw1 := hw1.trans (hb2.mono hw1.size)
  replace hsz1 := Nat.le_trans hsz1 hb2.size
  clear hb2 hstr y10
  go_wp2_with (guard_target =~ wpList _ _ _ (_ :: _) _ _; first
    | refine wpList_load_row rfl (.tmp 3) 58 rfl (w.heap.size + 1) 58 _ _ rfl hX1 Tryz.underlying58 rfl (by kernel_rfl) ?_
    | refine wpList_load_row rfl (.tmp 2) 30 rfl w.heap.size 30 _ _ rfl hX0 Tryz.underlying30 rfl (by kernel_rfl) ?_)
  refine (hgr _ hw1).mono ?_
  rintro e w3 ⟨rfl, hb3⟩
  replace hX0 := heap_below hX0 hb3
  replace hX1 := heap_below hX1 hb3
  replace hX2 := heap_below hX2 hb3
  replace hw1 := hw1.trans (hb3.mono hw1.size)
  replace hsz1 := Nat.le_trans hsz1 hb3.size
  clear hb3 hgr
  have hsz0 := hsz1
  go_upto_region 10 with fail
  go_wp2_with (guard_target =~ wpList _ _ _ (_ :: _) _ _; first
    | refine wpList_load_row rfl (.tmp 2) 30 rfl w.heap.size 30 _ _ rfl hX0 Tryz.underlying30 rfl (by kernel_rfl) ?_
    | (refine wpList_store_row rfl (.tmp 7) (.tmp 30) 54 rfl w3.heap.size 0 54 _ _ #[.bool true, .int .u8 ad, .int .u8 en, .bool inn, .int .u8 1, .int .i64 mx, .int .i64 per, .int .u8 sp, .int .u8 hu, .int .u8 po, .bool tg, .bool false, .int .u8 0, .int .u8 0, .int .u8 0, .int .u16 0, .int .u16 0, .int .u16 0, .slice none 0 0, .int .i64 0, .bool false, .int .i64 0, .slice none 0 0, .int .i64 0, .int .i64 0, .bool false, .int .u8 0, .int .i64 0, .bool false, .slice none 0 0, .bool false, .int .i64 0, .slice none 0 0, .slice none 0 0, .int .i64 0, .int .i64 0, .bool false, .int .i64 0, .bool false, .int .u8 0, .int .i64 0, .slice none 0 0, .int .i64 0, .int .i64 0, .slice none 0 0, .slice none 0 0, .int .i64 0] rfl rfl (heap_alloc_new w3 _) (by kernel_rfl) (by simp) rfl rfl ?_; intro w4 hX3 hW4
       have hba := (Below.refl w3.heap.size w3).alloc (Nat.le_refl _) (.cells #[.bool false, .int .u8 0, .int .u8 0, .bool false, .int .u8 0, .int .i64 0, .int .i64 0, .int .u8 0, .int .u8 0, .int .u8 0, .bool false, .bool false, .int .u8 0, .int .u8 0, .int .u8 0, .int .u16 0, .int .u16 0, .int .u16 0, .slice none 0 0, .int .i64 0, .bool false, .int .i64 0, .slice none 0 0, .int .i64 0, .int .i64 0, .bool false, .int .u8 0, .int .i64 0, .bool false, .slice none 0 0, .bool false, .int .i64 0, .slice none 0 0, .slice none 0 0, .int .i64 0, .int .i64 0, .bool false, .int .i64 0, .bool false, .int .u8 0, .int .i64 0, .slice none 0 0, .int .i64 0, .int .i64 0, .slice none 0 0, .slice none 0 0, .int .i64 0] 54)
       have hb4 := hba.trans (hW4.below (by simp))
       replace hX0 := heap_below hX0 hb4
       replace hX1 := heap_below hX1 hb4
       replace hX2 := heap_below hX2 hb4
       replace hw1 := hw1.trans (hb4.mono hw1.size)
       replace hsz1 := Nat.le_trans hsz1 hb4.size
       have hsz3 : w3.heap.size < w4.heap.size := by have := hW4.size; simp at this; omega
       have hp := cell_of hX0
       have hj := cell_of hX1
       have p0 := hp 0
       have p1 := hp 1
       have p2 := hp 2
       have p3 := hp 3
       have p4 := hp 4
       have p5 := hp 5
       have p6 := hp 6
       have p7 := hp 7
       have p8 := hp 8
       have p9 := hp 9
       have p10 := hp 10
       have j0 := hj 0
       have j1 := hj 1
       have j2 := hj 2
       have j3 := hj 3
       have j4 := hj 4
       have j5 := hj 5
       have j6 := hj 6
       have j7 := hj 7
       have j8 := hj 8
       have j9 := hj 9))
  refine (hsta _ hw1).mono ?_
  rintro e w5 ⟨hb5, er, s0, s1, s2, sA, sn, sc, s3, s4, rfl, hgood, hbad⟩
  replace hX0 := heap_below hX0 hb5
  replace hX2 := heap_below hX2 hb5
  replace hX3 := heap_below hX3 hb5
  replace hw1 := hw1.trans (hb5.mono hw1.size)
  clear hb5 hsta hX1 hp hj p0 p1 p2 p3 p4 p5 p6 p7 p8 p9 p10 j0 j1 j2 j3 j4 j5 j6 j7 j8 j9
  have hne : w3.heap.size ≠ w.heap.size + 1 + 1 := by omega
  by_cases he : er = 0
  · subst he
    have hg := hgood rfl
    clear hgood hbad
    go_wp2_with (guard_target =~ wpList _ _ _ (_ :: _) _ _; first
      | (refine wpList_store_row rfl (.tmp 83) (.tmp 81) 52 rfl w3.heap.size 38 54 _ _ #[.bool true, .int .u8 ad, .int .u8 en, .bool inn, .int .u8 1, .int .i64 mx, .int .i64 per, .int .u8 sp, .int .u8 hu, .int .u8 po, .bool tg, .bool false, .int .u8 0, .int .u8 0, .int .u8 0, .int .u16 0, .int .u16 0, .int .u16 0, .slice none 0 0, .int .i64 0, .bool false, .int .i64 0, .slice none 0 0, .int .i64 0, .int .i64 0, .bool false, .int .u8 0, .int .i64 0, .bool false, .slice none 0 0, .bool false, .int .i64 0, .slice none 0 0, .slice none 0 0, .int .i64 0, .int .i64 0, .bool false, .int .i64 0, .bool s0, .int .u8 s1, .int .i64 s2, .slice sA sn sc, .int .i64 s3, .int .i64 s4, .slice none 0 0, .slice none 0 0, .int .i64 0] rfl rfl hX3 (by kernel_rfl) (by simp) rfl rfl ?_; intro w6 hZ3 hW6; have hZ2 := (hW6.other (w.heap.size + 1 + 1) (Ne.symm hne)).trans hX2)
      | refine wpList_load_row rfl (.tmp 7) 54 rfl w3.heap.size 54 _ _ rfl hZ3 Tryz.underlying54 rfl (by kernel_rfl) ?_
      | (refine wpList_store_row rfl (.tmp 4) (.tmp 88) 54 rfl (w.heap.size + 1 + 1) 0 54 _ _ #[.bool true, .int .u8 ad, .int .u8 en, .bool inn, .int .u8 1, .int .i64 mx, .int .i64 per, .int .u8 sp, .int .u8 hu, .int .u8 po, .bool tg, .bool false, .int .u8 0, .int .u8 0, .int .u8 0, .int .u16 0, .int .u16 0, .int .u16 0, .slice none 0 0, .int .i64 0, .bool false, .int .i64 0, .slice none 0 0, .int .i64 0, .int .i64 0, .bool false, .int .u8 0, .int .i64 0, .bool false, .slice none 0 0, .bool false, .int .i64 0, .slice none 0 0, .slice none 0 0, .int .i64 0, .int .i64 0, .bool false, .int .i64 0, .bool s0, .int .u8 s1, .int .i64 s2, .slice sA sn sc, .int .i64 s3, .int .i64 s4, .slice none 0 0, .slice none 0 0, .int .i64 0] rfl rfl hZ2 (by kernel_rfl) (by simp) rfl rfl ?_; intro w7 hU2 hW7))
    exact ret_cell _ _ _ _ _ rfl rfl rfl hU2 Tryz.underlying54 rfl (by kernel_rfl) rfl (hR2 _ _ _ _ _ _ _ _ _ ((hw1.trans (hW6.below (by omega))).trans (hW7.below (by omega))) (hkeep _ _ _ _ hW7 hZ2 _ _ _ _ _ _ _ _ (hkeep _ _ _ _ hW6 hX3 _ _ _ _ _ _ _ _ hg)))
  · have hen : (er != 0) = true := by simpa using he
    have hbd := hbad he
    clear hgood hbad
    go_wp2_with (guard_target =~ wpList _ _ _ (_ :: _) _ _; first
      | (refine wpList_store_row rfl (.tmp 83) (.tmp 81) 52 rfl w3.heap.size 38 54 _ _ #[.bool true, .int .u8 ad, .int .u8 en, .bool inn, .int .u8 1, .int .i64 mx, .int .i64 per, .int .u8 sp, .int .u8 hu, .int .u8 po, .bool tg, .bool false, .int .u8 0, .int .u8 0, .int .u8 0, .int .u16 0, .int .u16 0, .int .u16 0, .slice none 0 0, .int .i64 0, .bool false, .int .i64 0, .slice none 0 0, .int .i64 0, .int .i64 0, .bool false, .int .u8 0, .int .i64 0, .bool false, .slice none 0 0, .bool false, .int .i64 0, .slice none 0 0, .slice none 0 0, .int .i64 0, .int .i64 0, .bool false, .int .i64 0, .bool s0, .int .u8 s1, .int .i64 s2, .slice sA sn sc, .int .i64 s3, .int .i64 s4, .slice none 0 0, .slice none 0 0, .int .i64 0] rfl rfl hX3 (by kernel_rfl) (by simp) rfl rfl ?_; intro w6 hZ3 hW6; have hZ2 := (hW6.other (w.heap.size + 1 + 1) (Ne.symm hne)).trans hX2)
      | (refine wpList_store_row rfl (.tmp 4) (.tmp 86) 54 rfl (w.heap.size + 1 + 1) 0 54 _ _ #[.bool false, .int .u8 0, .int .u8 0, .bool false, .int .u8 0, .int .i64 0, .int .i64 0, .int .u8 0, .int .u8 0, .int .u8 0, .bool false, .bool false, .int .u8 0, .int .u8 0, .int .u8 0, .int .u16 0, .int .u16 0, .int .u16 0, .slice none 0 0, .int .i64 0, .bool false, .int .i64 0, .slice none 0 0, .int .i64 0, .int .i64 0, .bool false, .int .u8 0, .int .i64 0, .bool false, .slice none 0 0, .bool false, .int .i64 0, .slice none 0 0, .slice none 0 0, .int .i64 0, .int .i64 0, .bool false, .int .i64 0, .bool false, .int .u8 0, .int .i64 0, .slice none 0 0, .int .i64 0, .int .i64 0, .slice none 0 0, .slice none 0 0, .int .i64 0] rfl rfl hZ2 (by kernel_rfl) (by simp) rfl rfl ?_; intro w7 hU2 hW7))
    exact ret_cell _ _ _ _ _ rfl rfl rfl hU2 Tryz.underlying54 rfl (by kernel_rfl) rfl (hR1 _ er ((hw1.trans (hW6.below (by omega))).trans (hW7.below (by omega))) he hbd)
end Go.Proofs.YtiajboiobjfcoaaGreatDoor
