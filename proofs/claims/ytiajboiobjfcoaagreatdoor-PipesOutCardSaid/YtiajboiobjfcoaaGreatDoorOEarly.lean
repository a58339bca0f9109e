/-
  What is proved here: what plugboardlaw23.PipesOut returns where its script is too great.
  Conditions: what its argument's cells hold; what the law's examples return.
-/
import Derived.Test.YtiajboiobjfcoaaGreatDoorOSmall
namespace Go.Proofs.YtiajboiobjfcoaaGreatDoor
open Go.Proofs Go.RowKit
set_option maxHeartbeats 4000000 in
set_option maxRecDepth 1000000 in
theorem out_early (jA : Option Addr) (jn jc : Nat) (sA : Option Addr) (sn sc : Nat) (fA : Option Addr) (fn fc : Nat) (aA : Option Addr) (an ac : Nat) (z intr : Bool) (vs : List Value) (js : List (List Int)) (w : World)
  (hS : Sls w jA jn jc vs) (hll : vs.length = js.length) (hjn : jn ≤ 1000000000000000) (hle : ∀ (j : Nat) v b, vs[j]? = some v → js[j]? = some b → ∃ A n c, v = .slice A n c ∧ U8 w A n c b ∧ n ≤ 1000000000000000 ∧ Pl A n)
  (hlives : ∀ w', Below w.heap.size w w' → Calls Tryz.prog 7 #[] w' (Go.Sy.LawEnd w')) (hsm : smallB jn js fn an = false) :
  Calls Tryz.prog 3 #[.agg (sC jA jn jc sA sn sc fA fn fc aA an ac z intr)] w (Go.Sy.LawEnd w) := by
 have hsmall := fun w' (hb : Below w.heap.size w w') => small_ret jA jn jc sA sn sc fA fn fc aA an ac z intr vs js w' (hS.below hb) hll hjn (fun j v b hv hb' => by
  obtain ⟨A, n, c, e, hu, hn, _⟩ := hle j v b hv hb'
  exact ⟨A, n, c, e, hu.below hb, hn⟩)
 simp only [hsm] at hsmall
 have HLI := Lib.hid hlives
 have hb0 : Below w.heap.size w (w.alloc (.cells (sC jA jn jc sA sn sc fA fn fc aA an ac z intr) 25)) := (Below.refl w.heap.size w).alloc (Nat.le_refl _) _
 have hX0 := heap_alloc_new w (.cells (sC jA jn jc sA sn sc fA fn fc aA an ac z intr) 25)
 clear hsm hle hlives
 generalize hxC : sC jA jn jc sA sn sc fA fn fc aA an ac z intr = xC at *
 have hxs : xC.size = 6 := by rw [← hxC]; rfl
 have i6 : (Tryz.prog.info? 25).map (·.size) = some 6 := by kernel_rfl
 have hxv : (Value.agg xC).cells = xC := rfl
 go_enter Tryz.func3, Tryz.ntmps3
 go_upto_region 1 with fail
 go_wp2_with (guard_target =~ wpList _ _ _ (_ :: _) _ _; refine wpList_load_row rfl (.tmp 1) 25 rfl w.heap.size 25 _ _ rfl hX0 Tryz.underlying25 rfl (by rw [i6, hxs]) ?_)
 refine (hsmall _ hb0).mono ?_
 rintro e w1 ⟨rfl, hb1⟩
 clear hsmall
 have hbw1 := hb0.trans (hb1.mono hb0.size)
 go_wp2_with fail
 refine (HLI.out _ hbw1).mono ?_
 rintro e w2 ⟨rfl, hb2⟩
 go_wp2_with fail
 go_ret
 exact ⟨rfl, hbw1.trans (hb2.mono hbw1.size)⟩
end Go.Proofs.YtiajboiobjfcoaaGreatDoor
