/-
  What is proved here: what Endpoint.Offer does where the queue has room.
  Conditions: what the endpoint's cells hold; the queue is a row (with room or none).
  What is proved here: what Endpoint.Taken and the port's queue's cut do.
  Conditions: what the cells hold.
-/
import Derived.Test.YthifcblajimppaaDRow
namespace Go.Proofs.Ythifcblajimppaa
open Go.Proofs Go.RowKit
attribute [local go_sem] lt2 lt3 lt4 lt5
attribute [-go_sem] Builtin.append_
theorem RowEff.size {A A' : Option Addr} {w w' : World} (h : RowEff A A' w w') : w.heap.size ≤ w'.heap.size := by
 rcases h with ⟨_, a, _, hW⟩ | ⟨hg, _⟩
 ·exact Nat.le_of_eq hW.size.symm
 ·exact hg.size
theorem RowEff.ext {A A' : Option Addr} {w w' : World} (h : RowEff A A' w w') : w'.os = w.os ∧ w'.tape = w.tape ∧ w'.output = w.output := by
 rcases h with ⟨_, a, _, hW⟩ | ⟨hg, _⟩
 ·exact ⟨hW.os, hW.tape, hW.output⟩
 ·exact ⟨hg.os, hg.tape, hg.output⟩
theorem RowEff.other {A A' : Option Addr} {w w' : World} (h : RowEff A A' w w') {i : Nat} (hi : i < w.heap.size) (hne : ∀ a, A = some a → a.block ≠ i) : w'.heap[i]? = w.heap[i]? := by
 rcases h with ⟨_, a, e, hW⟩ | ⟨hg, _⟩
 ·exact hW.other i (fun e' => hne a e e'.symm)
 ·exact hg.block i hi (fun e => nomatch e)
theorem RowEff.heap {A A' : Option Addr} {w w' : World} (h : RowEff A A' w w') {i : Nat} {o : Obj} (hi : w.heap[i]? = some o) (hne : ∀ a, A = some a → a.block ≠ i) : w'.heap[i]? = some o :=
 (h.other (Array.getElem?_eq_some_iff.1 hi).1 hne).trans hi
def OfferAt (E : Nat) (Q : Option Addr) (qn : Nat) (room : Int) (T : Option Addr) (tn tc : Nat) (num : Int) (kind mx : Int) (tg ha : Bool) (vs : List Value) (ys : List Int) (w w' : World) : Prop :=
 ∃ Q' c' gd cd, w'.heap[E]? = some (.cells (epC Q' (qn + 1) c' room T tn tc num true kind mx tg ha) 91 (0, 0)) ∧ RowAt w' 33 Q' (qn + 1) c' (vs ++ [.slice (some ⟨gd, 0, none⟩) ys.length cd]) ∧ F8 w' gd ys.length cd ys ∧ w.heap.size ≤ gd ∧
  Mv (fun i => i = E ∨ ∃ a, Q = some a ∧ i = a.block) w (fun i => i = E ∨ ∃ a, Q = some a ∧ i = a.block) w' ∧ (∀ a, Q' = some a → Q' = Q ∨ w.heap.size ≤ a.block) ∧ (∀ a, Q' = some a → a.block ≠ gd)
set_option maxHeartbeats 4000000 in
set_option maxRecDepth 100000 in
theorem offer_ret (E : Nat) (Q : Option Addr) (qn qc : Nat) (room : Int) (T : Option Addr) (tn tc : Nat) (num : Int) (kind : Int) (mx : Nat) (tg ha : Bool) (vs : List Value) (A : Option Addr) (n c : Nat) (ys : List Int) (w : World) (hm : 0 < mx) (hn : n ≤ mx) (hmx : mx ≤ 1024) (hq : qn < 2)
  (hE : w.heap[E]? = some (.cells (epC Q qn qc room T tn tc num true kind mx tg ha) 91 (0, 0))) (hR : RowAt w 33 Q qn qc vs) (hQE : ∀ a, Q = some a → a.block ≠ E) (hQl : ∀ a, Q = some a → a.block < w.heap.size) (hU : U8 w A n c ys) :
  Calls Try.prog 26 #[.pointer (some ⟨E, 0, none⟩), .slice A n c] w fun e w' => e = .returned (.int .i64 0) ∧ OfferAt E Q qn room T tn tc num kind mx tg ha vs ys w w' := by
 have hX := hE
 unfold epC at hX
 have c0 := cell_of hX 0
 have c4 := cell_of hX 4
 have c6 := cell_of hX 6
 have d1 : decide ((mx : Int) < (n : Int)) = false := by simp; omega
 have d2 : decide (mx < n) = false := by simp; omega
 have d3 : decide ((2 : Int) ≤ (qn : Int)) = false := by simp; omega
 have d4 : decide (2 ≤ qn) = false := by simp; omega
 have HE := Lib.hid hE
 have HX := Lib.hid hX
 have HR := Lib.hid hR
 have HQ := Lib.hid hQE
 have HL := Lib.hid hQl
 have hcl := clone_x A n c ys w.drew hU (by omega)
 have HU := Lib.hid hU.1
 clear hX hE hU hR hQE hQl
 go_enter Try.func26, Try.ntmps26
 go_wp2_with fail
 refine (epnone_ret E mx w hm c6).mono ?_
 rintro e w0 ⟨rfl, hw0⟩
 rw [hw0]
 clear hw0
 go_upto_region 9 with fail
 go_cut [] from 32 to 45 (fun wx => OfferAt E Q qn room T tn tc num kind mx tg ha vs ys w wx)
 case first =>
  go_upto_region 9 with fail
  have hfin : ∀ w1 gd cd, Below w.heap.size w w1 → F8 w1 gd ys.length cd ys → w.heap.size ≤ gd → ∃ Q' c' w2, (Builtin.append_ #[68, 68] 68 #[.slice Q qn qc, .slice (some ⟨w1.heap.size, 0, none⟩) 1 1]).run Try.prog (w1.alloc (.cells #[.slice (some ⟨gd, 0, none⟩) ys.length cd] 33)) = .ok (.slice Q' (qn + 1) c') w2 ∧
    w2.heap[E]? = some (.cells #[.slice Q qn qc, .int .i64 room, .slice T tn tc, .int .u8 num, .bool true, .int .u8 kind, .int .i64 mx, .bool tg, .bool ha] 91 (0, 0)) ∧ ∀ w3, Wrote E w2 w3 → w3.heap[E]? = some (.cells (epC Q' (qn + 1) c' room T tn tc num true kind mx tg ha) 91 (0, 0)) → OfferAt E Q qn room T tn tc num kind mx tg ha vs ys w w3 := by
   intro w1 gd cd hb1 hF hgd
   have hEl := (Array.getElem?_eq_some_iff.1 HE.out).1
   have hgl := (Array.getElem?_eq_some_iff.1 hF.2.2.2.choose_spec.1).1
   have hba := (Below.refl w1.heap.size w1).alloc (Nat.le_refl _) (.cells #[.slice (some ⟨gd, 0, none⟩) ys.length cd] 33)
   have hbw := hb1.trans (hba.mono hb1.size)
   have hs1 := hb1.size
   have hR2 := HR.out.keep (fun a e => hbw.block _ (HL.out a e))
   obtain ⟨i0, hi, hz0, hz1, hz2⟩ := info_parts infoSlN
   obtain ⟨Q', c', w2, hrun, hR3, hef⟩ := RowAt.append (P := Try.prog) (t := 68) Try.underlying68 hi hz0 hz1 hz2 rfl hR2 ⟨w1.heap.size, 0, none⟩ 1 1 [.slice (some ⟨gd, 0, none⟩) ys.length cd] rfl (World.news_of_block (heap_alloc_new w1 _)) (fun u hu => by obtain rfl := List.mem_singleton.1 hu; rfl) (by unfold maxLen; omega) (by omega)
   have hE2 := hef.heap (heap_below HX.out hbw) HQ.out
   refine ⟨Q', c', w2, hrun, hE2, fun w3 hW hE3 => ?_⟩
   have hsz := hef.size
   obtain ⟨x1, x2, x3⟩ := hef.ext
   have hQ' : ∀ a, Q' = some a → Q' = Q ∨ w.heap.size ≤ a.block := fun a e => by
    rcases hef with ⟨rfl, _⟩ | ⟨_, h⟩
    ·exact .inl rfl
    ·have := h a e; have := hbw.size; exact .inr (by omega)
   have hgd' : ∀ a, Q' = some a → a.block ≠ gd := fun a e => by
    rcases hef with ⟨rfl, _⟩ | ⟨_, h⟩
    ·have := HL.out a e; omega
    ·have := h a e; have := hba.size; simp at this; have h3 := h a e; simp at h3; omega
   have hF2 : F8 w2 gd ys.length cd ys := (hF.below hba).heap (fun o ho => hef.heap ho (fun a e => by have := HL.out a e; omega))
   refine ⟨Q', c', gd, cd, hE3, hR3.keep (fun a e => hW.other _ (fun e2 => ?_)), hF2.heap (fun o ho => (hW.other gd (by omega)).trans ho), hgd, ⟨hW.os.trans (x1.trans hbw.os), hW.tape.trans (x2.trans hbw.tape), hW.output.trans (x3.trans hbw.output), by have := hW.size; have := hbw.size; omega, fun i hi hs => ?_, fun _ _ h => h⟩, hQ', hgd'⟩
   ·rcases hQ' a e with h | h
    ·exact HQ.out a (h ▸ e) e2
    ·omega
   ·exact (hW.other i (fun e => hs (.inl e))).trans ((hef.other (by have := hbw.size; omega) (fun a e e2 => hs (.inr ⟨a, e, e2.symm⟩))).trans (hbw.block i hi))
  go_region_with (go_at_call 40; refine hcl.mono ?_; rintro e w1 ⟨gd, cd, rfl, hF, hgd, hb1⟩; replace hb1 : Below w.heap.size w w1 := below_undrew hb1; have hX1 := heap_below HX.out hb1; have c0 := cell_of hX1 0; have c0' := fun o => cell_of (heap_below hX1 ((Below.refl w1.heap.size w1).alloc (Nat.le_refl _) o)) 0; obtain ⟨Q', c', w2, hrun, hX2, hfin2⟩ := hfin w1 gd cd hb1 hF hgd; have z2 := cell_of hX2 0; have f2 := frozen_of hX2 0)
  all_goals
   go_wp2_with fail
   go_meet
   exact hfin2 _ ((Wrote.refl E w2).setCell 0 (.slice Q' (qn + 1) c')) (setCell_heap hX2 0 (.slice Q' (qn + 1) c'))
 case rest =>
  go_wp2_with fail
  go_ret
  exact ⟨rfl, hcut⟩
end Go.Proofs.Ythifcblajimppaa

namespace Go.Proofs.Ythifcblajimppaa
open Go.Proofs Go.RowKit
attribute [local go_sem] lt2 lt3 lt4 lt5
set_option maxHeartbeats 1000000 in
theorem sclip_ll (A : Option Addr) (n c : Nat) (w : World) (hc : n ≤ c) :
  Calls Try.prog 38 #[.slice A n c] w fun e w' => e = .returned (.slice A n n) ∧ w' = w := by
 cases A
 all_goals
  go_enter Try.func38, Try.ntmps38
  go_wp2
  go_ret
  exact ⟨rfl, rfl⟩
set_option maxHeartbeats 2000000 in
theorem taken_ret (E : Nat) (Q : Option Addr) (qn qc : Nat) (room : Int) (T : Option Addr) (tn tc : Nat) (num : Int) (inn : Bool) (kind : Int) (mx : Nat) (tg ha : Bool) (w : World) (hm : 0 < mx) (ht : tn ≤ tc) (hE : w.heap[E]? = some (.cells (epC Q qn qc room T tn tc num inn kind mx tg ha) 91 (0, 0))) :
  Calls Try.prog 20 #[.pointer (some ⟨E, 0, none⟩)] w fun e w' => e = .returned (.slice T tn tn) ∧ Wrote E w w' ∧ w'.heap[E]? = some (.cells (epC Q qn qc room none 0 0 num inn kind mx tg ha) 91 (0, 0)) := by
 have hX := hE
 unfold epC at hX
 have c2 := cell_of hX 2
 have f2 := frozen_of hX 2
 have c6 := cell_of hX 6
 have HX := Lib.hid hX
 clear hX hE
 go_enter Try.func20, Try.ntmps20
 go_wp2_with fail
 refine (epnone_ret E mx w hm c6).mono ?_
 rintro e w0 ⟨rfl, hw0⟩
 rw [hw0]
 clear hw0
 go_wp2_with fail
 refine (sclip_ll T tn tc _ ht).mono ?_
 rintro e w1 ⟨rfl, hw1⟩
 rw [hw1]
 clear hw1
 go_wp2_with fail
 go_ret
 exact ⟨rfl, ((Put1.refl HX.out).set 2 (.slice none 0 0)).wrote, ((Put1.refl HX.out).set 2 (.slice none 0 0)).heap⟩
end Go.Proofs.Ythifcblajimppaa
