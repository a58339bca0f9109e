/-
  What is proved here: what an endpoint's written does.
  Conditions: what the endpoint's cells hold.
-/
import Derived.Test.YthifcblajimppaaDTake
import Derived.BigQuiet
namespace Go.Proofs.Ythifcblajimppaa
open Go.Proofs Go.RowKit
attribute [local go_sem] lt2 lt3 lt4 lt5
set_option maxHeartbeats 4000000 in
set_option maxRecDepth 100000 in
theorem wr_no (E : Nat) (Q : Option Addr) (qn qc : Nat) (room : Int) (T : Option Addr) (tn tc : Nat) (num : Int) (inn : Bool) (mx : Nat) (tg : Bool) (p : Pk) (A : Option Addr) (n c : Nat) (w : World) (hE : w.heap[E]? = some (.cells (epC Q qn qc room T tn tc num inn 2 mx tg false) 91 (0, 0)))
  (hn : n ≤ mx) (r : Int) (hr : (r = 2 ∧ (p.pid == 11) = (!tg)) ∨ (r = 10 ∧ (p.pid == 11) = tg ∧ room = 0)) :
  Calls Try.prog 96 #[.pointer (some ⟨E, 0, none⟩), pkV p (.slice A n c)] w fun e w' => e = .returned (.tuple #[pkV ⟨r, 0, 0, []⟩ (.slice none 0 0), .bool true]) ∧ Below w.heap.size w w' := by
 have hb : ∀ o o', Below w.heap.size w ((w.alloc o).alloc o') := fun o o' => ((Below.refl w.heap.size w).alloc (Nat.le_refl _) o).alloc (by simp) o'
 have hX : ∀ o o', ((w.alloc o).alloc o').heap[E]? = some (.cells (epC Q qn qc room T tn tc num inn 2 mx tg false) 91 (0, 0)) := fun o o' => heap_below hE (hb o o')
 unfold epC at hX
 have c1 := fun o o' => cell_of (hX o o') 1
 have c5 := fun o o' => cell_of (hX o o') 5
 have c6 := fun o o' => cell_of (hX o o') 6
 have c7 := fun o o' => cell_of (hX o o') 7
 have c8 := fun o o' => cell_of (hX o o') 8
 have d1 : decide ((mx : Int) < (n : Int)) = false := by simp; omega
 have d2 : decide (mx < n) = false := by simp; omega
 obtain ⟨pid, ad, en, xs⟩ := p
 dsimp only at hr
 unfold pkV
 dsimp only
 have hfin : ∀ (w1 : World) (o : Obj), Below (w.heap.size + 1 + 1) ((w.alloc o).alloc (.cells #[.int .u8 0, .int .u8 0, .int .u8 0, .int .u16 0, .int .u8 0, .int .u8 0, .bool false, .bool false, .int .u8 0, .slice none 0 0] 113)) w1 → w1.heap[w.heap.size + 1]? = some (.cells #[.int .u8 0, .int .u8 0, .int .u8 0, .int .u16 0, .int .u8 0, .int .u8 0, .bool false, .bool false, .int .u8 0, .slice none 0 0] 113 (0, 0)) ∧ Below w.heap.size w w1 := by
  intro w1 o h
  exact ⟨(h.block _ (by omega)).trans (alloc2_1 _ _ _), (hb _ _).trans (h.mono (by omega))⟩
 clear hX hE
 have HFIN := Lib.hid hfin
 clear hfin
 rcases hr with ⟨rfl, hp⟩ | ⟨rfl, hp, rfl⟩
 ·cases tg
  all_goals
   simp only [Bool.not_false, Bool.not_true] at hp
   go_enter Try.func96, Try.ntmps96
   go_upto_region 7 with fail
   go_quiet (fail)
   go_upto_region 9 with fail
   go_quiet (fail)
   go_wp2_with fail
   refine (answer_ret 2 _).mono ?_
   rintro e w1 ⟨rfl, hb1⟩
   have hf := HFIN.out w1 (.cells #[.int .u8 pid, .int .u8 ad, .int .u8 en, .int .u16 0, .int .u8 0, .int .u8 0, .bool false, .bool false, .int .u8 0, .slice A n c] 113) ⟨hb1.os, hb1.tape, hb1.output, hb1.size, fun i hi => hb1.block i (by simp; omega)⟩
   have hbx := hf.2
   have hZ := hf.1
   go_wp2_with (guard_target =~ wpList _ _ _ (_ :: _) _ _; (refine wpList_store_row rfl (.tmp 4) (.tmp 68) 113 rfl (w.heap.size + 1) 0 113 _ _ #[.int .u8 2, .int .u8 0, .int .u8 0, .int .u16 0, .int .u8 0, .int .u8 0, .bool false, .bool false, .int .u8 0, .slice none 0 0] rfl rfl hZ (by kernel_rfl) (by simp) rfl rfl ?_; intro w2 hZ2 hW2))
   refine ret_cellT _ _ _ _ _ rfl rfl rfl hZ2 Try.underlying113 rfl (by kernel_rfl) rfl ?_
   exact ⟨rfl, hbx.trans (hW2.below (by omega))⟩
 ·cases tg
  all_goals
   go_enter Try.func96, Try.ntmps96
   go_upto_region 7 with fail
   go_quiet (fail)
   go_upto_region 9 with fail
   go_quiet (fail)
   go_wp2_with fail
   refine (answer_ret 10 _).mono ?_
   rintro e w1 ⟨rfl, hb1⟩
   have hf := HFIN.out w1 (.cells #[.int .u8 pid, .int .u8 ad, .int .u8 en, .int .u16 0, .int .u8 0, .int .u8 0, .bool false, .bool false, .int .u8 0, .slice A n c] 113) ⟨hb1.os, hb1.tape, hb1.output, hb1.size, fun i hi => hb1.block i (by simp; omega)⟩
   have hbx := hf.2
   have hZ := hf.1
   go_wp2_with (guard_target =~ wpList _ _ _ (_ :: _) _ _; (refine wpList_store_row rfl (.tmp 4) (.tmp 78) 113 rfl (w.heap.size + 1) 0 113 _ _ #[.int .u8 10, .int .u8 0, .int .u8 0, .int .u16 0, .int .u8 0, .int .u8 0, .bool false, .bool false, .int .u8 0, .slice none 0 0] rfl rfl hZ (by kernel_rfl) (by simp) rfl rfl ?_; intro w2 hZ2 hW2))
   refine ret_cellT _ _ _ _ _ rfl rfl rfl hZ2 Try.underlying113 rfl (by kernel_rfl) rfl ?_
   exact ⟨rfl, hbx.trans (hW2.below (by omega))⟩
def WrTake (E : Nat) (Q : Option Addr) (qn qc : Nat) (room : Int) (num : Int) (inn : Bool) (mx : Int) (tg : Bool) (xs : List Int) (w : World) (e : Ending) (w' : World) : Prop :=
 e = .returned (.tuple #[pkV ⟨2, 0, 0, []⟩ (.slice none 0 0), .bool true]) ∧ Mv (fun i => i = E) w (fun i => i = E) w' ∧ ∃ T tc, w'.heap[E]? = some (.cells (epC Q qn qc (room - 1) T 1 tc num inn 2 mx (!tg) false) 91 (0, 0)) ∧ OneTaken w.heap.size w' T tc xs ∧ (∀ g1, T = some ⟨g1, 0, none⟩ → w.heap.size ≤ g1)
theorem OneTaken.keep {B B' : Nat} {w w' : World} {T : Option Addr} {tc : Nat} {xs : List Int} (h : OneTaken B w T tc xs) (hk : ∀ g1 gd cd, T = some ⟨g1, 0, none⟩ → w.cell? ⟨g1, 0, none⟩ = some (.slice (some ⟨gd, 0, none⟩) xs.length cd) → F8 w gd xs.length cd xs → w'.heap[g1]? = w.heap[g1]? ∧ w'.heap[gd]? = w.heap[gd]?) (hs : w.heap.size ≤ w'.heap.size) (hB : B' ≤ B) : OneTaken B' w' T tc xs := by
 obtain ⟨g1, gd, cd, rfl, htc, hcell, hF, hl, hBd⟩ := h
 obtain ⟨h1, h2⟩ := hk g1 gd cd rfl hcell hF
 exact ⟨g1, gd, cd, rfl, htc, (World.cell?_of_block (a := ⟨g1, 0, none⟩) h1).trans hcell, hF.heap (fun o ho => h2.trans ho), by omega, Nat.le_trans hB hBd⟩
theorem f8_ne {w : World} {g n c i : Nat} {xs : List Int} {cs : Array Value} {t : TypeId} {fr : Nat × Nat} (h : F8 w g n c xs) (hi : w.heap[i]? = some (.cells cs t fr)) (ht : t ≠ 5) : g ≠ i := by
 rintro rfl
 obtain ⟨_, _, _, cs', h2, _⟩ := h
 rw [hi] at h2
 injection h2 with h2
 injection h2 with _ h3
 exact ht h3
set_option maxHeartbeats 4000000 in
set_option maxRecDepth 100000 in
theorem wr_take (E : Nat) (Q : Option Addr) (qn qc : Nat) (room : Int) (num : Int) (inn : Bool) (mx : Nat) (tg : Bool) (p : Pk) (A : Option Addr) (n c : Nat) (w : World) (hE : w.heap[E]? = some (.cells (epC Q qn qc room none 0 0 num inn 2 mx tg false) 91 (0, 0)))
  (hn : n ≤ mx) (hm : mx ≤ 1024) (hr : 1 ≤ room ∧ room ≤ 1000) (hp : (p.pid == 11) = tg) (hU : U8 w A n c p.data) :
  Calls Try.prog 96 #[.pointer (some ⟨E, 0, none⟩), pkV p (.slice A n c)] w (WrTake E Q qn qc room num inn mx tg p.data w) := by
 have hb : ∀ o o', Below w.heap.size w ((w.alloc o).alloc o') := fun o o' => ((Below.refl w.heap.size w).alloc (Nat.le_refl _) o).alloc (by simp) o'
 have hX : ∀ o o', ((w.alloc o).alloc o').heap[E]? = some (.cells (epC Q qn qc room none 0 0 num inn 2 mx tg false) 91 (0, 0)) := fun o o' => heap_below hE (hb o o')
 have HX := Lib.hid hX
 unfold epC at hX
 have c1 := fun o o' => cell_of (hX o o') 1
 have c5 := fun o o' => cell_of (hX o o') 5
 have c6 := fun o o' => cell_of (hX o o') 6
 have c7 := fun o o' => cell_of (hX o o') 7
 have c8 := fun o o' => cell_of (hX o o') 8
 have d1 : decide ((mx : Int) < (n : Int)) = false := by simp; omega
 have d2 : decide (mx < n) = false := by simp; omega
 have d3 : (room == 0) = false := by simp; omega
 have hEl := (Array.getElem?_eq_some_iff.1 hE).1
 obtain ⟨pid, ad, en, xs⟩ := p
 dsimp only at hp hU
 unfold pkV
 dsimp only
 obtain ⟨o1, ho1⟩ : ∃ o1, Obj.cells #[.int .u8 pid, .int .u8 ad, .int .u8 en, .int .u16 0, .int .u8 0, .int .u8 0, .bool false, .bool false, .int .u8 0, .slice A n c] 113 = o1 := ⟨_, rfl⟩
 have hU2 : ∀ q, U8 (((w.alloc o1).alloc (.cells #[.int .u8 0, .int .u8 0, .int .u8 0, .int .u16 0, .int .u8 0, .int .u8 0, .bool false, .bool false, .int .u8 0, .slice none 0 0] 113)).drewN q) A n c xs := fun q => (hU.below (hb _ _)).drewN q
 have htk := fun q => take_ret E Q qn qc room num inn 2 mx tg false A n c xs (((w.alloc o1).alloc (.cells #[.int .u8 0, .int .u8 0, .int .u8 0, .int .u16 0, .int .u8 0, .int .u8 0, .bool false, .bool false, .int .u8 0, .slice none 0 0] 113)).drewN q) (HX.out o1 (.cells #[.int .u8 0, .int .u8 0, .int .u8 0, .int .u16 0, .int .u8 0, .int .u8 0, .bool false, .bool false, .int .u8 0, .slice none 0 0] 113)) (hU2 q) (by omega) (by omega)
 have HTK := Lib.hid htk
 have HU := Lib.hid hU
 clear hX hE htk hU hU2
 subst ho1
 cases tg
 case false =>
  go_enter Try.func96, Try.ntmps96
  go_upto_region 7 with fail
  go_quiet (fail)
  go_upto_region 9 with fail
  go_quiet (fail)
  go_wp2_with fail
  refine (HTK.out _).mono ?_
  rintro e w1 ⟨rfl, hmv, T, tc, hE1, hO, hge⟩
  have hZ1 := hmv.heap (alloc2_1 w (.cells #[.int .u8 pid, .int .u8 ad, .int .u8 en, .int .u16 0, .int .u8 0, .int .u8 0, .bool false, .bool false, .int .u8 0, .slice A n c] 113) (.cells #[.int .u8 0, .int .u8 0, .int .u8 0, .int .u16 0, .int .u8 0, .int .u8 0, .bool false, .bool false, .int .u8 0, .slice none 0 0] 113)) (show ¬ (w.heap.size + 1 = E) by omega)
  have hs1 := hmv.size
  have hbw1 : ∀ i, i < w.heap.size → i ≠ E → w1.heap[i]? = w.heap[i]? := fun i hi hne => (hmv.block i (by simp; omega) hne).trans ((hb _ _).block i hi)
  have hos : w1.os = w.os ∧ w1.tape = w.tape ∧ w1.output = w.output := ⟨hmv.os, hmv.tape, hmv.output⟩
  have hsz : w.heap.size + 1 + 1 ≤ w1.heap.size := by simpa using hs1
  have hX1 := hE1
  unfold epC at hX1
  have z7 := cell_of hX1 7
  have f7 := frozen_of hX1 7
  have HX1 := Lib.hid hX1
  have HMV := Lib.hid hmv
  have HOS := Lib.hid hos
  have HGE := Lib.hid hge
  clear hX1 hE1 hmv c1 c5 c6 c7 c8 hs1 hos hge
  go_wp2_with fail
  obtain ⟨w2, hw2⟩ : ∃ w2, w1.setCell ⟨E, 7, none⟩ (.bool true) = w2 := ⟨_, rfl⟩
  have hP := (Put1.refl HX1.out).set 7 (.bool true)
  have hPh := hP.heap
  have hPw := hP.wrote
  clear hP z7 f7
  rw [hw2] at hPh hPw ⊢
  clear hw2
  refine (answer_ret 2 _).mono ?_
  rintro e w3 ⟨rfl, hb3⟩
  have hZ3 := heap_below ((hPw.other (w.heap.size + 1) (by omega)).trans hZ1) hb3
  have hE3 := heap_below hPh hb3
  go_wp2_with (guard_target =~ wpList _ _ _ (_ :: _) _ _; (refine wpList_store_row rfl (.tmp 4) (.tmp 93) 113 rfl (w.heap.size + 1) 0 113 _ _ #[.int .u8 2, .int .u8 0, .int .u8 0, .int .u16 0, .int .u8 0, .int .u8 0, .bool false, .bool false, .int .u8 0, .slice none 0 0] rfl rfl hZ3 (by kernel_rfl) (by simp) rfl rfl ?_; intro w4 hZ4 hW4))
  refine ret_cellT _ _ _ _ _ rfl rfl rfl hZ4 Try.underlying113 rfl (by kernel_rfl) rfl ?_
  have hsp := hPw.size
  have hs3 := hb3.size
  obtain ⟨ho1, ho2, ho3⟩ := HOS.out
  refine ⟨rfl, ⟨hW4.os.trans (hb3.os.trans (hPw.os.trans ho1)), hW4.tape.trans (hb3.tape.trans (hPw.tape.trans ho2)), hW4.output.trans (hb3.output.trans (hPw.output.trans ho3)), by rw [hW4.size]; omega, fun i hi hs => (hW4.other i (by omega)).trans ((hb3.block i (by omega)).trans ((hPw.other i hs).trans (hbw1 i hi hs))), fun _ _ h => h⟩, T, tc, (hW4.other E (by omega)).trans hE3, hO.keep (fun g1 gd cd hg hcell hF => ?_) (by rw [hW4.size]; omega) (by simp; omega), fun g1 hg => by have := HGE.out g1 hg; simp at this; omega⟩
  have hgs := HGE.out g1 hg
  simp at hgs
  have hl1 := World.block_lt_of_cell? _ _ hcell
  dsimp only at hl1
  have hgd := f8_ne hF hZ1 (by decide)
  have hgE := f8_ne hF HX1.out (by decide)
  have hl2 := (Array.getElem?_eq_some_iff.1 hF.2.2.2.choose_spec.1).1
  exact ⟨(hW4.other g1 (by omega)).trans ((hb3.block g1 (by omega)).trans (hPw.other g1 (by omega))), (hW4.other gd hgd).trans ((hb3.block gd (by omega)).trans (hPw.other gd hgE))⟩
 case true =>
  go_enter Try.func96, Try.ntmps96
  go_upto_region 7 with fail
  go_quiet (fail)
  go_upto_region 9 with fail
  go_quiet (fail)
  go_wp2_with fail
  refine (HTK.out _).mono ?_
  rintro e w1 ⟨rfl, hmv, T, tc, hE1, hO, hge⟩
  have hZ1 := hmv.heap (alloc2_1 w (.cells #[.int .u8 pid, .int .u8 ad, .int .u8 en, .int .u16 0, .int .u8 0, .int .u8 0, .bool false, .bool false, .int .u8 0, .slice A n c] 113) (.cells #[.int .u8 0, .int .u8 0, .int .u8 0, .int .u16 0, .int .u8 0, .int .u8 0, .bool false, .bool false, .int .u8 0, .slice none 0 0] 113)) (show ¬ (w.heap.size + 1 = E) by omega)
  have hs1 := hmv.size
  have hbw1 : ∀ i, i < w.heap.size → i ≠ E → w1.heap[i]? = w.heap[i]? := fun i hi hne => (hmv.block i (by simp; omega) hne).trans ((hb _ _).block i hi)
  have hos : w1.os = w.os ∧ w1.tape = w.tape ∧ w1.output = w.output := ⟨hmv.os, hmv.tape, hmv.output⟩
  have hsz : w.heap.size + 1 + 1 ≤ w1.heap.size := by simpa using hs1
  have hX1 := hE1
  unfold epC at hX1
  have z7 := cell_of hX1 7
  have f7 := frozen_of hX1 7
  have HX1 := Lib.hid hX1
  have HMV := Lib.hid hmv
  have HOS := Lib.hid hos
  have HGE := Lib.hid hge
  clear hX1 hE1 hmv c1 c5 c6 c7 c8 hs1 hos hge
  go_wp2_with fail
  obtain ⟨w2, hw2⟩ : ∃ w2, w1.setCell ⟨E, 7, none⟩ (.bool false) = w2 := ⟨_, rfl⟩
  have hP := (Put1.refl HX1.out).set 7 (.bool false)
  have hPh := hP.heap
  have hPw := hP.wrote
  clear hP z7 f7
  rw [hw2] at hPh hPw ⊢
  clear hw2
  refine (answer_ret 2 _).mono ?_
  rintro e w3 ⟨rfl, hb3⟩
  have hZ3 := heap_below ((hPw.other (w.heap.size + 1) (by omega)).trans hZ1) hb3
  have hE3 := heap_below hPh hb3
  go_wp2_with (guard_target =~ wpList _ _ _ (_ :: _) _ _; (refine wpList_store_row rfl (.tmp 4) (.tmp 93) 113 rfl (w.heap.size + 1) 0 113 _ _ #[.int .u8 2, .int .u8 0, .int .u8 0, .int .u16 0, .int .u8 0, .int .u8 0, .bool false, .bool false, .int .u8 0, .slice none 0 0] rfl rfl hZ3 (by kernel_rfl) (by simp) rfl rfl ?_; intro w4 hZ4 hW4))
  refine ret_cellT _ _ _ _ _ rfl rfl rfl hZ4 Try.underlying113 rfl (by kernel_rfl) rfl ?_
  have hsp := hPw.size
  have hs3 := hb3.size
  obtain ⟨ho1, ho2, ho3⟩ := HOS.out
  refine ⟨rfl, ⟨hW4.os.trans (hb3.os.trans (hPw.os.trans ho1)), hW4.tape.trans (hb3.tape.trans (hPw.tape.trans ho2)), hW4.output.trans (hb3.output.trans (hPw.output.trans ho3)), by rw [hW4.size]; omega, fun i hi hs => (hW4.other i (by omega)).trans ((hb3.block i (by omega)).trans ((hPw.other i hs).trans (hbw1 i hi hs))), fun _ _ h => h⟩, T, tc, (hW4.other E (by omega)).trans hE3, hO.keep (fun g1 gd cd hg hcell hF => ?_) (by rw [hW4.size]; omega) (by simp; omega), fun g1 hg => by have := HGE.out g1 hg; simp at this; omega⟩
  have hgs := HGE.out g1 hg
  simp at hgs
  have hl1 := World.block_lt_of_cell? _ _ hcell
  dsimp only at hl1
  have hgd := f8_ne hF hZ1 (by decide)
  have hgE := f8_ne hF HX1.out (by decide)
  have hl2 := (Array.getElem?_eq_some_iff.1 hF.2.2.2.choose_spec.1).1
  exact ⟨(hW4.other g1 (by omega)).trans ((hb3.block g1 (by omega)).trans (hPw.other g1 (by omega))), (hW4.other gd hgd).trans ((hb3.block gd (by omega)).trans (hPw.other gd hgE))⟩
end Go.Proofs.Ythifcblajimppaa
