/-
  What is proved here: plugboardlaw23.PipesIn returns true for every input.
  Conditions: the table of the pipes' package is laid, which the card ties to the program's text.
-/
import Derived.Test.YtiajboiobjfcoaaGreatDoorNLaw
import Derived.Test.YtiajboiobjfcoaaGreatDoorOArg
import Derived.Test.YtiajboiobjfcoaaGreatDoorNFacts
import Derived.Test.YtiajboiobjfcoaaGreatDoorCards
import Derived.Test.YtiajboiobjfcoaaGreatDoorTie
import Derived.Lay
import Derived.LaidMore
import Derived.MakeChecks
import Derived.SevenTiedAt
namespace Go.Proofs.YtiajboiobjfcoaaGreatDoor
open Go.Sy Go.RowKit Go.ChangeShapes Go.WideShapes Go.ChangeAt
set_option maxRecDepth 1000000
theorem own : ownKnob Tryz.prog.godebug = none := by kernel_rfl
theorem p_handles : (stLaid.all fun x => x.2.handleName?.isNone) = true := by kernel_rfl
theorem p_laidG : laidG Tryz.prog 0 stLaid = some stG := by kernel_rfl
theorem lives_runs : allTrue (evFn Tryz.prog kw0 10 30 7 [] (mem0 stG) pc0) = true := by kernel_rfl
theorem lives_calls (w : World) (hw : LaidW w stG) : Calls Tryz.prog 7 #[] w (LawEnd w) :=
 closed_ok plain kw0_ok lives_runs w hw
theorem agg_of {t : TypeId} {W : World} {base : Nat} {v : Value} (hu : ∃ fs, Tryz.prog.underlying t = some (.struct fs)) (h : Value.okWide Tryz.prog W .any base t v) : ∃ cs, v = .agg cs := by
 unfold Value.okWide at h
 obtain ⟨fs, hu⟩ := hu
 simp only [hu] at h
 obtain ⟨cs, e, _⟩ := h
 exact ⟨cs, e⟩
theorem cells_T : Tryz.prog.cellsOf 69 = 5 := by kernel_rfl
theorem cells_packets : Tryz.prog.cellsOf 22 = 1 := by kernel_rfl
theorem pn_calls {H : Type} {enc : TypeId × Value → H} {W : World} {base : Nat} {args : Array Value} {ds : List (DataW H)} {ps : List MemPlace} {ts : List TypeId} (hval : ∀ (j : Nat) t v, Tryz.f4.params[j]? = some t → args[j]? = some v → Value.okWide Tryz.prog W .any base t v)
  (hA : DataW.TrodAll enc Tryz.prog W 0 (fun _ => true) true Tryz.f4.params.toList args.toList ds ps) (hz : ∀ y ∈ DataW.weightsEach Tryz.prog (Tryz.f4.params.toList ++ ts) (ds ++ []), y ≤ reachBytes) (hw : LaidW W stG) : Calls Tryz.prog 4 args W (LawEnd W) := by
 have hp : Tryz.f4.params = #[69] := rfl
 rw [hp] at hA hval hz
 obtain ⟨v0, d0, rfl, rfl, h0⟩ := trodAll_one hA
 obtain ⟨c0, rfl⟩ := agg_of ⟨_, rfl⟩ (hval 0 69 v0 rfl rfl)
 obtain ⟨n0, hn0⟩ := h0
 obtain ⟨ys, n1, _, e0, hlen, hys, hf⟩ := DataW.trod_struct rfl hn0
 have hcs : (Value.agg c0).cells.toList = c0.toList := rfl
 obtain ⟨l0, hl0⟩ : ∃ l0, c0.toList = l0 := ⟨_, rfl⟩
 rw [hcs, hl0] at hlen hf
 rw [cells_T] at hlen
 match l0, hlen with
 | [b0, b1, b2, b3, b4], _ =>
 have g0 : DataW.trod enc Tryz.prog W 0 (fun _ => true) true n1 22 [b0] = ys[0]? := by have := hf 0 _ rfl; simpa [cells_packets] using this
 have g1 : DataW.trod enc Tryz.prog W 0 (fun _ => true) true n1 23 [b1] = ys[1]? := by have := hf 1 _ rfl; simpa [cells_u8s] using this
 have g2 : DataW.trod enc Tryz.prog W 0 (fun _ => true) true n1 23 [b2] = ys[2]? := by have := hf 2 _ rfl; simpa [cells_u8s] using this
 have g3 : DataW.trod enc Tryz.prog W 0 (fun _ => true) true n1 23 [b3] = ys[3]? := by have := hf 3 _ rfl; simpa [cells_u8s] using this
 have g4 : DataW.trod enc Tryz.prog W 0 (fun _ => true) true n1 23 [b4] = ys[4]? := by have := hf 4 _ rfl; simpa [cells_u8s] using this
 have hys5 : ys.length = 5 := hys
 match ys, hys5 with
 | [y0, y1, y2, y3, y4], _ =>
 have hw0 : ∀ y ∈ y0.1.weights Tryz.prog 22, y ≤ reachBytes := fun y hy => hz y (by
  have ed : d0 = .agg [y0.1, y1.1, y2.1, y3.1, y4.1] := congrArg (·.1) e0
  obtain ⟨fS, hu, hm⟩ : ∃ fs, Tryz.prog.underlying 69 = some (.struct fs) ∧ fs.toList.map (·.type) = [22, 23, 23, 23, 23] := ⟨_, rfl, rfl⟩
  rw [ed]
  show y ∈ DataW.weightsEach Tryz.prog (69 :: _) (_ :: _)
  rw [DataW.weightsEach, DataW.weights, hu]
  dsimp only
  rw [hm, DataW.weightsEach]
  exact List.mem_append_left _ (List.mem_append_left _ hy))
 obtain ⟨oA, on, oc, vs, os, rfl, hS, hon, hbl, hb⟩ := jobs_open g0 hw0
 obtain ⟨lA, ln, lc, ls, rfl, hU0, _⟩ := u8_open g1
 obtain ⟨sA, sn, sc, ss, rfl, hU1, _⟩ := u8_open g2
 obtain ⟨fA, fn, fc, fs, rfl, hU2, _⟩ := u8_open g3
 obtain ⟨aA, an, ac, ws, rfl, hU3, _⟩ := u8_open g4
 have f0 : c0 = tC oA on oc lA ln lc sA sn sc fA fn fc aA an ac := by apply Array.ext'; exact hl0
 subst f0
 have hl : ∀ w', Below W.heap.size W w' → Calls Tryz.prog 7 #[] w' (LawEnd w') := fun w' h => lives_calls w' (laid_belowN hw h)
 by_cases hsm : on ≤ 40 ∧ ln ≤ 10 ∧ fn ≤ 200 ∧ an ≤ 200
 ·exact in_law oA on oc lA ln lc sA sn sc fA fn fc aA an ac vs os ls ss fs ws W hS hbl hb hU0 hU1 hU2 hU3 hl hw hsm.1 hsm.2.1 hsm.2.2.1 hsm.2.2.2
 ·exact in_early oA on oc lA ln lc sA sn sc fA fn fc aA an ac W hl hsm
theorem door_met (os : Os) (args : Array Value) : laidMetH Tryz.prog stLaid ((World.doorLaid Tryz.prog 400 os).forCall (fun _ _ => 0) ⟨#[], args, []⟩).memory :=
 laidMetH_of_parts3 (fuel := 8) (laidMet_of_run' 8 (by as_aux_lemma => kernel_rfl) (by as_aux_lemma => kernel_rfl)) (by as_aux_lemma => kernel_rfl) (by as_aux_lemma => kernel_rfl)
theorem pn_row (os : Os) (started : os.Started) (H : Type) (enc : TypeId × Value → H) :
  ReturnsInHanded {} Tryz.checked os 4 .any (fun w args => (Rows.pipesInSpec.pre enc Tryz.prog Tryz.f4 [] false w args ∧ laidMetH Tryz.prog stLaid w) ∧ sizedMet enc Tryz.prog Tryz.f4 (OpenSpec.ofChange Rows.pipesInSpec) false w args)
   (Rows.pipesInSpec.post enc Tryz.prog Tryz.f4 false true false false) := by
 refine law_lifted_sized (C := Tryz.checked) (fn := Tryz.f4) (tb := 4) own started pn_init Tryz.func4 p_laidOut pn_params (by kernel_rfl) (by kernel_rfl) rfl ?_
  (ChangeSpec.witness_shaped (enc := enc) (C := Tryz.checked) (os := os) (X := fun w _ => laidMetH Tryz.prog stLaid w) false (World.doorLaid Tryz.prog 400 os)
   #[.agg #[.slice none 0 0, .slice none 0 0, .slice none 0 0, .slice none 0 0, .slice none 0 0]] 8 rfl (World.shaped_of_RefB (by as_aux_lemma => kernel_rfl) (by as_aux_lemma => kernel_rfl)) (by as_aux_lemma => kernel_rfl) (by as_aux_lemma => kernel_rfl) (by as_aux_lemma => kernel_rfl)
   (door_met os _)) ?_
 ·intro ds hd
  match ds, hd with
  | [_], _ => rfl
 ·intro W base args ds ps ts hval hA hz hL
  exact pn_calls hval hA hz (laidMet_ok p_laidG p_handles hL)
theorem pn_holds : Rows.PipesInSaid :=
 OpenClaim.holds_of_wide 4 Tryz.f4 rfl rfl rfl rfl rfl rfl rfl ⟨rfl, rfl, rfl, rfl, rfl⟩ rfl rfl rfl rfl rfl pn_func Tryz.func4 pn_joined pn_inst pn_wrap
  (fun os started H enc _ => pn_row os started H enc)
theorem pn_card : Rows.PipesInCardSaid :=
 Claim7.holds_tied_plain_at .later [] [.mapped] true (true, "e5d0991f66154cdb8a03560b6733912a8a8200e27cd698db35fa218a3fb52765") false
  pn_holds (fun _ h => by cases h) (by as_aux_lemma => kernel_rfl) (fun _ h => by cases h) pipesIn_row_tie rfl ⟨rfl, rfl⟩ (by as_aux_lemma => kernel_rfl) rfl
  (fun f fn hf hfn => by
   obtain rfl : f = 4 := Option.some.inj (pn_func.symm.trans hf) |>.symm
   obtain rfl : fn = Tryz.f4 := (Option.some.inj (Tryz.func4.symm.trans hfn)).symm
   exact ⟨by as_aux_lemma => kernel_rfl, fun j t ht => by
    have hm : t ∈ Tryz.f4.params.toList := by simpa using Array.mem_of_getElem? ht
    exact (show Tryz.prog.wantsStandIn t = false by simpa using List.all_eq_true.1 pn_standIn t hm)⟩)
  (by as_aux_lemma => kernel_rfl)
#print axioms pn_card
end Go.Proofs.YtiajboiobjfcoaaGreatDoor
