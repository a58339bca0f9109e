/-
  What is proved here: plugboardlaw29.RecoveriesMarks returns true for every input.
  Conditions: the table of math/bits is laid, which the card ties to the program's text.
-/
import Derived.Test.YtcipfcbaclfnhaaDoorMarksRuns
import Derived.Test.YtcipfcbaclfnhaaDoorMarksCover
namespace Go.Proofs.YtcipfcbaclfnhaaDoor
open Go.Sy Go.RowKit Go.ChangeShapes Go.WideShapes Go.ChangeAt

set_option maxRecDepth 1000000

theorem marks_place : place marksPath marksCode = .loop loopA := by kernel_rfl
theorem marks_id : cId (place [.r, .r, .r, .r, .r, .l, .r] marksCode) = 0 := by kernel_rfl
theorem marks_place2 : place marksPath2 marksRest = .loop loopB := by kernel_rfl
theorem marks_id2 : cId (place [.r, .l, .r] marksRest) = 2 := by kernel_rfl
theorem marks_slots : slots Tryd.f5.ntmps (paV marksPa 0 0) = 114 := by kernel_rfl

theorem one_cover {p : Pc} {J : (Nat → Int) → Prop} : ∀ ρ, J ρ → PcR ρ p → ∃ q ∈ [p], PcR ρ q := fun _ _ h => ⟨_, .head _, h⟩
theorem one_run {p : Pc} {f : Pc → Bool} (h : f p = true) : ∀ q ∈ [p], f q = true := fun q hq => by
  simp only [List.mem_singleton] at hq
  subst hq; exact h

theorem marks_calls {H : Type} {enc : TypeId × Value → H} {W : World} {base : Nat} {args : Array Value} {ds : List (DataW H)} {ps : List MemPlace} (hval : ∀ (j : Nat) t v, Tryd.f5.params[j]? = some t → args[j]? = some v → Value.okWide Tryd.prog W .any base t v)
    (hA : DataW.TrodAll enc Tryd.prog W 0 (fun _ => true) true Tryd.f5.params.toList args.toList ds ps) (hL : laidMetH Tryd.prog laid W) : Calls Tryd.prog 5 args W (LawEnd W) := by
  refine law_code1 (g := glob) marks_pa (by kernel_rfl) Tryd.func5 marks_body glob_fixed hval hA (laid_glob hL fun _ => 0) fun a w h0 => ?_
  rw [marks_slots] at h0
  refine head_hds (fn := Tryd.f5) (t := 2) (H := hdA) (d := marksPath) (it := 10) plain.mixed cfM_ok (by kernel_rfl) (by kernel_rfl) one_cover (one_run headA_runs) (fun _ a w _ h1 => ?_) (fun a w h => h) h0
  show (place marksPath marksCode).wp Tryd.prog (Exit.inBlock (cId (place [.r, .r, .r, .r, .r, .l, .r] marksCode)) (Exit.then (marksRest.wp Tryd.prog _) _)) a w
  rw [marks_place, marks_id]
  refine loop_hds (fn := Tryd.f5) (t := 2) (H := hdA) (HX := hdA) (it := 10) plain.mixed cfM_ok (by kernel_rfl) (by kernel_rfl) (muV (fun _ => 0) 34 10) (ltV_ok (by omega) fun h _ => by
      show (marksRng 0 0)[34]? = _
      rw [marksRng_get]; rfl) (cs := fun _ => casesA) (fun h _ => coverA) (fun h _ q hq => roundA_runs q hq) (fun h a w _ h2 => ?_) (fun a w h => h) (h := 0) rfl h1
  show (if (0 : Nat) = 0 then marksRest.wp Tryd.prog (bodyPost Tryd.prog Tryd.f5 (LawEnd W)) a w else bodyPost Tryd.prog Tryd.f5 (LawEnd W) (.exit 0) a w)
  rw [if_pos rfl]
  refine head_hds (fn := Tryd.f5) (t := 2) (H := hdB) (d := marksPath2) (it := 10) plain.mixed cfM_ok (by kernel_rfl) (by kernel_rfl) one_cover (one_run headB_runs) (fun n a w hn h3 => ?_) (fun a w h => h) h2
  show (place marksPath2 marksRest).wp Tryd.prog (Exit.inBlock (cId (place [.r, .l, .r] marksRest)) (Exit.then (marksRest2.wp Tryd.prog _) _)) a w
  rw [marks_place2, marks_id2]
  have hn : n ≤ 32 := (ble_iff _ _).1 hn
  refine loop_hds (fn := Tryd.f5) (t := 2) (H := hdB) (HX := hdC) (it := 10) plain.mixed cfM_ok (by kernel_rfl) (by kernel_rfl) (fun h _ => 32 - h) (fun h h' r ρ _ _ hl _ _ => (blt_iff _ _).1 hl) (cs := casesB) (fun h _ => coverB h)
    (fun h hh q hq => roundB_runs h ((ble_iff _ _).1 hh) q hq) (fun h a w _ h4 => ?_) (fun a w h => h) (h := n) ((ble_iff _ _).2 hn) h3
  show (if (2 : Nat) = 2 then marksRest2.wp Tryd.prog (bodyPost Tryd.prog Tryd.f5 (LawEnd W)) a w else bodyPost Tryd.prog Tryd.f5 (LawEnd W) (.exit 2) a w)
  rw [if_pos rfl]
  exact end_hds (fn := Tryd.f5) (t := 2) (it := 10) plain.mixed cfM_ok (by kernel_rfl) (by kernel_rfl) one_cover (one_run endM_runs) h4

theorem marks_lifted (os : Os) (started : os.Started) (H : Type) (enc : TypeId × Value → H) :
    ReturnsInHanded {} Tryd.checked os 5 .any (fun w args => (Rows.recoveriesMarksSpec.pre enc Tryd.prog Tryd.f5 [] false w args ∧ laidMetH Tryd.prog laid w) ∧ sizedMet enc Tryd.prog Tryd.f5 (OpenSpec.ofChange Rows.recoveriesMarksSpec) false w args)
      (Rows.recoveriesMarksSpec.post enc Tryd.prog Tryd.f5 false true false false) := by
  refine law_lifted_laid (C := Tryd.checked) (fn := Tryd.f5) (tb := 4) own started (by kernel_rfl) Tryd.func5 laidOut (by kernel_rfl) (by kernel_rfl) (by kernel_rfl) rfl ?_
    (ChangeSpec.witness_shaped (enc := enc) (C := Tryd.checked) (os := os) (X := fun w _ => laidMetH Tryd.prog laid w) false (World.doorLaid Tryd.prog 400 os)
      #[.slice none 0 0] 8 rfl (World.shaped_of_RefB (by kernel_rfl) (by kernel_rfl)) (by kernel_rfl) (by kernel_rfl) (by kernel_rfl)
      (laidMetH_of_parts3 (fuel := 8) (laidMet_of_run' 8 (by kernel_rfl) (by kernel_rfl)) (by kernel_rfl) (by kernel_rfl))) ?_
  · intro ds hd
    match ds, hd with
    | [_], _ => rfl
  · intro W base args ds ps hval hA _ hL
    exact marks_calls hval hA hL

theorem marks_holds : Rows.RecoveriesMarksSaid :=
  OpenClaim.holds_of_wide 5 Tryd.f5 rfl rfl rfl rfl rfl rfl rfl ⟨rfl, rfl, rfl, rfl, rfl⟩ rfl rfl rfl rfl rfl (by kernel_rfl) Tryd.func5 (by kernel_rfl)
    (of_decide_eq_true (by kernel_rfl)) (by unfold Func.isWrapper; first | (rw [if_pos (by decide +kernel)]; kernel_rfl) | (rw [if_neg (by decide +kernel)]; exact ⟨rfl, rfl⟩))
    (fun os started H enc _ => marks_lifted os started H enc)

theorem marks_card : Rows.RecoveriesMarksCardSaid :=
  Claim7.holds_tied_plain_at .later [] [.data] true (true, "80b4cedac525617e33e55bb46d32322e56a10a64844434ad8a43f47857804ffd") false
    marks_holds (fun _ h => by cases h) (by kernel_rfl) (fun _ h => by cases h) recoveriesMarks_row_tie rfl ⟨rfl, rfl⟩ (by kernel_rfl) rfl
    (fun f fn hf hfn => by
      obtain rfl : f = 5 := Option.some.inj ((show Tryd.prog.funcNamed Rows.recoveriesMarksRow.func = some 5 by kernel_rfl).symm.trans hf) |>.symm
      obtain rfl : fn = Tryd.f5 := (Option.some.inj (Tryd.func5.symm.trans hfn)).symm
      exact ⟨by kernel_rfl, fun j t ht => by
        have hm : t ∈ Tryd.f5.params.toList := by simpa using Array.mem_of_getElem? ht
        have hall : (Tryd.f5.params.toList.all fun u => !Tryd.prog.wantsStandIn u) = true := by kernel_rfl
        exact (show Tryd.prog.wantsStandIn t = false by simpa using List.all_eq_true.1 hall t hm)⟩)
    (by kernel_rfl)
#print axioms marks_card
end Go.Proofs.YtcipfcbaclfnhaaDoor
