/-
  What is proved here: what an endpoint's take and written do.
  Conditions: what the endpoint's cells hold.
-/
import Derived.Test.YthifcblajimppaaDEnd
namespace Go.Proofs.Ythifcblajimppaa
open Go.Proofs Go.RowKit
attribute [local go_sem] lt2 lt3 lt4 lt5
attribute [-go_sem] Builtin.append_
theorem infoSlN : (Try.prog.info? 33).map (fun i => (i.zero, i.size, i.bytes)) = some (some (.slice none 0 0), 1, 24) := by kernel_rfl
theorem app1SN {w : World} {B1 g : Nat} {T : Option Addr} {tm tc : Nat} {ys : List Value} (A : Option Addr) (n c : Nat) (hown : w.ownsRow B1 33 1 (.slice T tm tc) tm ys) (hg : w.heap[g]? = some (.cells #[.slice A n c] 33 (0, 0))) (hy : tm ≤ 1000000) (hB : B1 ≤ w.heap.size) :
  ∃ T' tc' w', (Builtin.append_ #[68, 68] 68 #[.slice T tm tc, .slice (some ⟨g, 0, none⟩) 1 1]).run Try.prog w = .ok (.slice T' (tm + 1) tc') w' ∧ w'.ownsRow B1 33 1 (.slice T' (tm + 1) tc') (tm + 1) (ys ++ [.slice A n c]) ∧ w.grownBy w' (Value.slice T tm tc).ownBlock ∧ (∀ i, (Value.slice T' (tm + 1) tc').ownBlock = some i → (Value.slice T tm tc).ownBlock = some i ∨ w.heap.size ≤ i) ∧ ∃ g', T' = some ⟨g', 0, none⟩ := by
 obtain ⟨i0, hi, hz0, hz1, hz2⟩ := info_parts infoSlN
 obtain ⟨tv', w', hr, ho, hgr, _, hat⟩ := run_append_own_at (P := Try.prog) w B1 68 68 33 i0 (.slice none 0 0) 1 24 Try.underlying68 hi hz0 hz1 hz2 rfl (by decide) (.slice T tm tc) _ _ hown ⟨g, 0, none⟩ 1 1 [.slice A n c] rfl (World.news_of_block hg) (fun u hu => by obtain rfl := List.mem_singleton.1 hu; rfl) (by unfold maxLen; omega) (by omega) hB
 have hform := ho.2
 rcases hform with ⟨h, h0⟩ | ⟨g', cap, cur, rfl, hg', _⟩
 ·omega
 ·refine ⟨_, cap, w', hr, ho, hgr, fun i h => ?_, g', rfl⟩
  rcases hat with hat | hat
  ·exact .inl (by rw [← hat]; exact h)
  ·rw [hat] at h; exact .inr (by have := Option.some.inj h; omega)
def OneTaken (B : Nat) (w : World) (T : Option Addr) (tc : Nat) (xs : List Int) : Prop :=
 ∃ g1 gd cd, T = some ⟨g1, 0, none⟩ ∧ 1 ≤ tc ∧ w.cell? ⟨g1, 0, none⟩ = some (.slice (some ⟨gd, 0, none⟩) xs.length cd) ∧ F8 w gd xs.length cd xs ∧ g1 < w.heap.size ∧ B ≤ gd
def TakeEnd (E : Nat) (Q : Option Addr) (qn qc : Nat) (room : Int) (num : Int) (inn : Bool) (kind mx : Int) (tg ha : Bool) (xs : List Int) (w : World) (e : Ending) (w' : World) : Prop :=
 e = .returned (.tuple #[]) ∧ Mv (fun i => i = E) w (fun i => i = E) w' ∧ ∃ T tc, w'.heap[E]? = some (.cells (epC Q qn qc (room - 1) T 1 tc num inn kind mx tg ha) 91 (0, 0)) ∧ OneTaken w.heap.size w' T tc xs ∧
  (∀ g1, T = some ⟨g1, 0, none⟩ → w.heap.size ≤ g1)
set_option maxHeartbeats 4000000 in
set_option maxRecDepth 100000 in
theorem take_ret (E : Nat) (Q : Option Addr) (qn qc : Nat) (room : Int) (num : Int) (inn : Bool) (kind mx : Int) (tg ha : Bool) (A : Option Addr) (n c : Nat) (xs : List Int) (w : World) (hE : w.heap[E]? = some (.cells (epC Q qn qc room none 0 0 num inn kind mx tg ha) 91 (0, 0))) (hU : U8 w A n c xs) (hn : n ≤ 1024) (hr : 0 ≤ room ∧ room ≤ 1000) :
  Calls Try.prog 99 #[.pointer (some ⟨E, 0, none⟩), .slice A n c] w (TakeEnd E Q qn qc room num inn kind mx tg ha xs w) := by
 have hX := hE
 unfold epC at hX
 have c2 := cell_of hX 2
 have hw1 : IntKind.i64.wrap (room - 1) = room - 1 := IntWalk.i64_in _ (by omega)
 have HE := Lib.hid hE
 have HX := Lib.hid hX
 have hcl := clone_x A n c xs w.drew hU (by omega)
 clear hX hE hU
 go_enter Try.func99, Try.ntmps99
 go_upto_region 0 with fail
 go_cut [] from 4 to 16 (fun wx => Mv (fun i => i = E) w (fun i => i = E) wx ∧ ∃ T tc, wx.heap[E]? = some (.cells (epC Q qn qc room T 1 tc num inn kind mx tg ha) 91 (0, 0)) ∧ OneTaken w.heap.size wx T tc xs ∧ (∀ g1, T = some ⟨g1, 0, none⟩ → w.heap.size ≤ g1))
 case first =>
  go_upto_region 0 with fail
  go_region_with (go_at_call 40; refine hcl.mono ?_; rintro e w1 ⟨gd, cd, rfl, hF, hgd, hb1⟩; replace hb1 : Below w.heap.size w w1 := below_undrew hb1; have hX1 := heap_below HX.out hb1; have c2 := cell_of hX1 2; have c2' := fun o => cell_of (heap_below hX1 ((Below.refl w1.heap.size w1).alloc (Nat.le_refl _) o)) 2; have hb2 := (Below.refl w1.heap.size w1).alloc (Nat.le_refl _) (.cells #[.slice (some ⟨gd, 0, none⟩) xs.length cd] 33); obtain ⟨T2, tc2, w2, hrun, ho2, hgr2, hat2, g1, hg1⟩ := app1SN (w := w1.alloc (.cells #[.slice (some ⟨gd, 0, none⟩) xs.length cd] 33)) (B1 := w.heap.size) (T := none) (tm := 0) (tc := 0) (ys := []) (some ⟨gd, 0, none⟩) xs.length cd (World.ownsRow_nil _ _ _ _) (heap_alloc_new w1 _) (by omega) (by have := hb1.size; have := hb2.size; omega); subst hg1; have hX2 := heap_grown (heap_below hX1 hb2) hgr2 (by simp [Value.ownBlock]); have z2 := cell_of hX2 2; have f2 := frozen_of hX2 2)
  all_goals
   go_wp2_with fail
   go_meet
   have hW := (Wrote.refl E w2).setCell 2 (.slice (some ⟨g1, 0, none⟩) 1 tc2)
   have hnew := setCell_heap hX2 2 (.slice (some ⟨g1, 0, none⟩) 1 tc2)
   generalize w2.setCell ⟨E, 2, none⟩ (.slice (some ⟨g1, 0, none⟩) 1 tc2) = w3 at hW hnew ⊢
   have hbw2 : Below w.heap.size w w2 := (hb1.trans (hb2.mono hb1.size)).grown hgr2 (by have := hb1.size; have := hb2.size; omega) (fun k hk => by simp [Value.ownBlock] at hk)
   have hEl := (Array.getElem?_eq_some_iff.1 HE.out).1
   have hg1 : w1.heap.size < g1 := by
    rcases hat2 g1 rfl with h | h
    ·simp [Value.ownBlock] at h
    ·simp at h; omega
   have hs1 := hb1.size
   have hg1l := (ho2.lt g1 rfl).2
   have hcell : w2.cell? ⟨g1, 0, none⟩ = some (.slice (some ⟨gd, 0, none⟩) xs.length cd) := ho2.cellAt 0 (by omega)
   have htc : 1 ≤ tc2 := by
    rcases ho2.2 with ⟨_, h0⟩ | ⟨_, cap, _, e, _, _, hc, _⟩
    ·omega
    ·injection e with _ _ e3; omega
   have hF2 : F8 w2 gd xs.length cd xs := (hF.below hb2).heap (fun o ho => heap_grown ho hgr2 (by simp [Value.ownBlock]))
   have hgdl := (Array.getElem?_eq_some_iff.1 hF.2.2.2.choose_spec.1).1
   have hgd : w.heap.size ≤ gd := hgd
   refine ⟨⟨hW.os.trans hbw2.os, hW.tape.trans hbw2.tape, hW.output.trans hbw2.output, by rw [hW.size]; exact hbw2.size, fun i hi hs => (hW.other i hs).trans (hbw2.block i hi), fun _ _ h => h⟩, _, tc2, hnew, ⟨g1, gd, cd, rfl, htc, (World.cell?_of_block (a := ⟨g1, 0, none⟩) (hW.other g1 (by omega))).trans hcell, hF2.heap (fun o ho => (hW.other gd (by omega)).trans ho), by rw [hW.size]; exact hg1l, hgd⟩, fun g e => ?_⟩
   have e := congrArg (Option.map Addr.block) e
   simp at e
   omega
 case rest =>
  obtain ⟨hmv, T, tc, hE4, hO, hge⟩ := hcut
  have hX4 := hE4
  unfold epC at hX4
  have c1 := cell_of hX4 1
  have f1 := frozen_of hX4 1
  have HX4 := Lib.hid hX4
  clear hX4 c2 hcl hE4
  go_wp2_with fail
  go_end0
  have hP := (Put1.refl HX4.out).set 1 (.int .i64 (room - 1))
  have hPw := hP.wrote
  have hEl := (Array.getElem?_eq_some_iff.1 HE.out).1
  obtain ⟨g1, gd, cd, rfl, htc, hcell, hF, hl, hBd⟩ := hO
  have hg1 := hge g1 rfl
  have hgd : gd ≠ E := by
   rintro rfl
   have h1 := HX4.out
   obtain ⟨_, _, _, cs, h2, _⟩ := hF
   rw [h1] at h2
   injection h2 with h2
   injection h2 with _ h3
   exact absurd h3 (by decide)
  exact ⟨rfl, ⟨hPw.os.trans hmv.os, hPw.tape.trans hmv.tape, hPw.output.trans hmv.output, by rw [hPw.size]; exact hmv.size, fun i hi hs => (hPw.other i hs).trans (hmv.block i hi hs), fun _ _ h => h⟩, _, tc, hP.heap, ⟨g1, gd, cd, rfl, htc, (World.cell?_of_block (a := ⟨g1, 0, none⟩) (hPw.other g1 (by omega))).trans hcell, hF.heap (fun o ho => (hPw.other gd hgd).trans ho), by rw [hPw.size]; exact hl, hBd⟩, hge⟩
end Go.Proofs.Ythifcblajimppaa
