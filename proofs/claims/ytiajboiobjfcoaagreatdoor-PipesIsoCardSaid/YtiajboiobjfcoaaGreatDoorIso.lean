/-
  What is proved here: plugboardlaw23.PipesIso returns true for every input.
  Conditions: the table of the pipes' package is laid, which the card ties to the program's text.
-/
import Derived.Test.YtiajboiobjfcoaaGreatDoorILaw
import Derived.Test.YtiajboiobjfcoaaGreatDoorQArg
import Derived.Test.YtiajboiobjfcoaaGreatDoorIFacts
import Derived.Test.YtiajboiobjfcoaaGreatDoorCards
import Derived.Test.YtiajboiobjfcoaaGreatDoorTie
import Derived.Lay
import Derived.LaidMore
import Derived.MakeChecks
import Derived.SevenTiedAt
namespace Go.Proofs.YtiajboiobjfcoaaGreatDoor
open Go.Sy Go.RowKit Go.ChangeShapes Go.WideShapes Go.ChangeAt
set_option maxRecDepth 1000000
theorem own : ownKnob Tryz.prog.godebug = none := by kernel_rfl
theorem p_handles : (Rows.pipesIsoRow.laid.all fun x => x.2.handleName?.isNone) = true := by kernel_rfl
def pLaid : List (String × DataW Unit) := Rows.pipesIsoRow.laid
noncomputable def pG : List (Nat × List V) := (laidG Tryz.prog 0 pLaid).getD []
theorem p_laidG : laidG Tryz.prog 0 pLaid = some pG := by kernel_rfl
theorem lives_runs : allTrue (evFn Tryz.prog kw0 10 30 7 [] (mem0 pG) pc0) = true := by kernel_rfl
theorem lives_calls (w : World) (hw : LaidW w pG) : Calls Tryz.prog 7 #[] w (LawEnd w) :=
 closed_ok plain kw0_ok lives_runs w hw
theorem laid_below {W w : World} {g : List (Nat × List V)} (hw : LaidW W g) (hb : Below W.heap.size W w) : LaidW w g := by
 obtain ⟨bs, h⟩ := hw
 refine ⟨bs, fun ρ x hx => ⟨(h ρ x hx).1, ?_⟩⟩
 have h2 := (h ρ x hx).2
 have hl : (lyB x).live (cx0 bs ρ) := by rcases lyB_cases x with ⟨_, e⟩ | ⟨_, e⟩ <;> rw [e] <;> trivial
 exact h2.world (hb.block _ (h2.lt hl))
section
open Go.Proofs
set_option maxHeartbeats 2000000 in
theorem iso_early (lA : Option Addr) (ln lc : Nat) (fA : Option Addr) (fn fc : Nat) (inn : Bool) (w : World) (hl : Calls Tryz.prog 7 #[] w (LawEnd w)) (h : ¬ ((1 ≤ ln ∧ ln ≤ 30) ∧ fn ≤ 100)) :
  Calls Tryz.prog 5 #[.slice lA ln lc, .slice fA fn fc, .bool inn] w (LawEnd w) := by
 rcases (show ln = 0 ∨ (1 ≤ ln ∧ 30 < ln) ∨ ((1 ≤ ln ∧ ln ≤ 30) ∧ 100 < fn) by omega) with rfl | ⟨h1, h2⟩ | ⟨⟨h1, h2⟩, h3⟩
 ·go_enter Tryz.func5, Tryz.ntmps5
  go_wp2_with fail
  refine hl.mono ?_
  rintro e w' ⟨rfl, hb⟩
  go_wp2_with fail
  go_ret
  exact ⟨rfl, hb⟩
 ·have d1 : decide ((ln : Int) < 1) = false := by simp; omega
  have d2 : decide ((30 : Int) < (ln : Int)) = true := by simp; omega
  have q1 : (1 : Int) ≤ (ln : Int) := by omega
  have q2 : (30 : Int) < (ln : Int) := by omega
  go_enter Tryz.func5, Tryz.ntmps5
  go_wp2_with fail
  refine hl.mono ?_
  rintro e w' ⟨rfl, hb⟩
  go_wp2_with fail
  go_ret
  exact ⟨rfl, hb⟩
 ·have d1 : decide ((ln : Int) < 1) = false := by simp; omega
  have d2 : decide ((30 : Int) < (ln : Int)) = false := by simp; omega
  have d3 : decide ((100 : Int) < (fn : Int)) = true := by simp; omega
  have q1 : (1 : Int) ≤ (ln : Int) := by omega
  have q2 : (ln : Int) ≤ 30 := by omega
  have q3 : (100 : Int) < (fn : Int) := by omega
  go_enter Tryz.func5, Tryz.ntmps5
  go_wp2_with fail
  refine hl.mono ?_
  rintro e w' ⟨rfl, hb⟩
  go_wp2_with fail
  go_ret
  exact ⟨rfl, hb⟩
end
theorem pi_calls {H : Type} {enc : TypeId × Value → H} {W : World} {base : Nat} {args : Array Value} {ds : List (DataW H)} {ps : List MemPlace} (hval : ∀ (j : Nat) t v, Tryz.f5.params[j]? = some t → args[j]? = some v → Value.okWide Tryz.prog W .any base t v)
  (hA : DataW.TrodAll enc Tryz.prog W 0 (fun _ => true) true Tryz.f5.params.toList args.toList ds ps) (hw : LaidW W pG) : Calls Tryz.prog 5 args W (LawEnd W) := by
 have hp : Tryz.f5.params = #[22, 23, 4] := rfl
 rw [hp] at hA hval
 obtain ⟨v0, v1, v2, d0, d1, d2, p0, p1, p2, rfl, rfl, rfl, h0, h1, h2⟩ := trodAll_three hA
 obtain ⟨b2, rfl, _⟩ := open_bool rfl (hval 2 4 v2 rfl rfl) h2
 obtain ⟨a0, n, c, rfl⟩ := okWide_slice (e := 23) rfl (hval 0 22 v0 rfl rfl)
 obtain ⟨a1, n1, c1, rfl⟩ := okWide_slice (e := 5) rfl (hval 1 23 v1 rfl rfl)
 obtain ⟨_, g0⟩ := h0
 obtain ⟨_, g1⟩ := h1
 obtain ⟨A, m, k, vs, bs, e, hS, _, hbl, hb⟩ := u8s_open (show DataW.trod enc Tryz.prog W 0 (fun _ => true) true _ 22 [.slice a0 n c] = _ from g0)
 injection e with e1 e2 e3
 subst e1 e2 e3
 obtain ⟨A', m', k', fs, e, hU, _⟩ := u8_open (show DataW.trod enc Tryz.prog W 0 (fun _ => true) true _ 23 [.slice a1 n1 c1] = _ from g1)
 injection e with e1 e2 e3
 subst e1 e2 e3
 have hl : ∀ w', Below W.heap.size W w' → Calls Tryz.prog 7 #[] w' (LawEnd w') := fun w' h => lives_calls w' (laid_below hw h)
 by_cases h : (1 ≤ n ∧ n ≤ 30) ∧ n1 ≤ 100
 ·exact iso_law a0 n c a1 n1 c1 b2 vs bs fs W hS hbl hb hU hl h.1 h.2
 ·exact iso_early a0 n c a1 n1 c1 b2 W (hl W (Below.refl _ _)) h
theorem door_met (os : Os) (args : Array Value) : laidMetH Tryz.prog pLaid ((World.doorLaid Tryz.prog 400 os).forCall (fun _ _ => 0) ⟨#[], args, []⟩).memory :=
 laidMetH_of_parts3 (fuel := 8) (laidMet_of_run' 8 (by as_aux_lemma => kernel_rfl) (by as_aux_lemma => kernel_rfl)) (by as_aux_lemma => kernel_rfl) (by as_aux_lemma => kernel_rfl)
theorem pi_row (os : Os) (started : os.Started) (H : Type) (enc : TypeId × Value → H) :
  ReturnsInHanded {} Tryz.checked os 5 .any (fun w args => (Rows.pipesIsoSpec.pre enc Tryz.prog Tryz.f5 [] false w args ∧ laidMetH Tryz.prog pLaid w) ∧ sizedMet enc Tryz.prog Tryz.f5 (OpenSpec.ofChange Rows.pipesIsoSpec) false w args)
   (Rows.pipesIsoSpec.post enc Tryz.prog Tryz.f5 false true false false) := by
 refine law_lifted_laid (C := Tryz.checked) (fn := Tryz.f5) (tb := 4) own started pi_init Tryz.func5 p_laidOut pi_params (by kernel_rfl) (by kernel_rfl) rfl ?_
  (ChangeSpec.witness_shaped (enc := enc) (C := Tryz.checked) (os := os) (X := fun w _ => laidMetH Tryz.prog pLaid w) false (World.doorLaid Tryz.prog 400 os)
   #[.slice none 0 0, .slice none 0 0, .bool false] 8 rfl (World.shaped_of_RefB (by as_aux_lemma => kernel_rfl) (by as_aux_lemma => kernel_rfl)) (by as_aux_lemma => kernel_rfl) (by as_aux_lemma => kernel_rfl) (by as_aux_lemma => kernel_rfl)
   (door_met os _)) ?_
 ·intro ds hd
  match ds, hd with
  | [_, _, _], _ => rfl
 ·intro W base args ds ps hval hA _ hL
  exact pi_calls hval hA (laidMet_ok p_laidG p_handles hL)
theorem pi_holds : Rows.PipesIsoSaid :=
 OpenClaim.holds_of_wide 5 Tryz.f5 rfl rfl rfl rfl rfl rfl rfl ⟨rfl, rfl, rfl, rfl, rfl⟩ rfl rfl rfl rfl rfl pi_func Tryz.func5 pi_joined pi_inst pi_wrap
  (fun os started H enc _ => pi_row os started H enc)
theorem pi_card : Rows.PipesIsoCardSaid :=
 Claim7.holds_tied_plain_at .later [] [.mapped] true (true, "e5d0991f66154cdb8a03560b6733912a8a8200e27cd698db35fa218a3fb52765") false
  pi_holds (fun _ h => by cases h) (by as_aux_lemma => kernel_rfl) (fun _ h => by cases h) pipesIso_row_tie rfl ⟨rfl, rfl⟩ (by as_aux_lemma => kernel_rfl) rfl
  (fun f fn hf hfn => by
   obtain rfl : f = 5 := Option.some.inj (pi_func.symm.trans hf) |>.symm
   obtain rfl : fn = Tryz.f5 := (Option.some.inj (Tryz.func5.symm.trans hfn)).symm
   exact ⟨by as_aux_lemma => kernel_rfl, fun j t ht => by
    have hm : t ∈ Tryz.f5.params.toList := by simpa using Array.mem_of_getElem? ht
    exact (show Tryz.prog.wantsStandIn t = false by simpa using List.all_eq_true.1 pi_standIn t hm)⟩)
  (by as_aux_lemma => kernel_rfl)
#print axioms pi_card
end Go.Proofs.YtiajboiobjfcoaaGreatDoor
