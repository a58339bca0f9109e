/-
  What is proved here: plugboardlaw23.PipesOut returns true for every input.
  Conditions: the table of the pipes' package is laid, which the card ties to the program's text.
-/
import Derived.Test.YtiajboiobjfcoaaGreatDoorOLaw
import Derived.Test.YtiajboiobjfcoaaGreatDoorOEarly
import Derived.Test.YtiajboiobjfcoaaGreatDoorOArg
import Derived.Test.YtiajboiobjfcoaaGreatDoorOFacts
import Derived.Test.YtiajboiobjfcoaaGreatDoorCards
import Derived.Test.YtiajboiobjfcoaaGreatDoorTie
import Derived.Lay
import Derived.LaidMore
import Derived.MakeChecks
import Derived.SevenTiedAt
namespace Go.Proofs.YtiajboiobjfcoaaGreatDoor
open Go.Sy Go.RowKit Go.ChangeShapes Go.WideShapes Go.ChangeAt
set_option maxRecDepth 1000000
theorem own : ownKnob Tryz.prog.godebug = none := by kernel_rfl
theorem p_handles : (stLaid.all fun x => x.2.handleName?.isNone) = true := by kernel_rfl
theorem p_laidG : laidG Tryz.prog 0 stLaid = some stG := by kernel_rfl
theorem lives_runs : allTrue (evFn Tryz.prog kw0 10 30 7 [] (mem0 stG) pc0) = true := by kernel_rfl
theorem lives_calls (w : World) (hw : LaidW w stG) : Calls Tryz.prog 7 #[] w (LawEnd w) :=
 closed_ok plain kw0_ok lives_runs w hw
theorem agg_of {t : TypeId} {W : World} {base : Nat} {v : Value} (hu : ∃ fs, Tryz.prog.underlying t = some (.struct fs)) (h : Value.okWide Tryz.prog W .any base t v) : ∃ cs, v = .agg cs := by
 unfold Value.okWide at h
 obtain ⟨fs, hu⟩ := hu
 simp only [hu] at h
 obtain ⟨cs, e, _⟩ := h
 exact ⟨cs, e⟩
theorem cells_S : Tryz.prog.cellsOf 25 = 6 := by kernel_rfl
theorem cells_bool : Tryz.prog.cellsOf 4 = 1 := by kernel_rfl
theorem cells_packets : Tryz.prog.cellsOf 22 = 1 := by kernel_rfl
theorem po_calls {H : Type} {enc : TypeId × Value → H} {W : World} {base : Nat} {args : Array Value} {ds : List (DataW H)} {ps : List MemPlace} {ts : List TypeId} (hval : ∀ (j : Nat) t v, Tryz.f3.params[j]? = some t → args[j]? = some v → Value.okWide Tryz.prog W .any base t v)
  (hA : DataW.TrodAll enc Tryz.prog W 0 (fun _ => true) true Tryz.f3.params.toList args.toList ds ps) (hz : ∀ y ∈ DataW.weightsEach Tryz.prog (Tryz.f3.params.toList ++ ts) (ds ++ []), y ≤ reachBytes) (hw : LaidW W stG) : Calls Tryz.prog 3 args W (LawEnd W) := by
 have hp : Tryz.f3.params = #[25] := rfl
 rw [hp] at hA hval hz
 obtain ⟨v0, d0, rfl, rfl, h0⟩ := trodAll_one hA
 obtain ⟨c0, rfl⟩ := agg_of ⟨_, rfl⟩ (hval 0 25 v0 rfl rfl)
 obtain ⟨n0, hn0⟩ := h0
 obtain ⟨ys, n1, _, e0, hlen, hys, hf⟩ := DataW.trod_struct rfl hn0
 have hcs : (Value.agg c0).cells.toList = c0.toList := rfl
 obtain ⟨l0, hl0⟩ : ∃ l0, c0.toList = l0 := ⟨_, rfl⟩
 rw [hcs, hl0] at hlen hf
 rw [cells_S] at hlen
 match l0, hlen with
 | [b0, b1, b2, b3, b4, b5], _ =>
 have g0 : DataW.trod enc Tryz.prog W 0 (fun _ => true) true n1 22 [b0] = ys[0]? := by have := hf 0 _ rfl; simpa [cells_packets] using this
 have g1 : DataW.trod enc Tryz.prog W 0 (fun _ => true) true n1 23 [b1] = ys[1]? := by have := hf 1 _ rfl; simpa [cells_u8s] using this
 have g2 : DataW.trod enc Tryz.prog W 0 (fun _ => true) true n1 23 [b2] = ys[2]? := by have := hf 2 _ rfl; simpa [cells_u8s] using this
 have g3 : DataW.trod enc Tryz.prog W 0 (fun _ => true) true n1 23 [b3] = ys[3]? := by have := hf 3 _ rfl; simpa [cells_u8s] using this
 have g4 : DataW.trod enc Tryz.prog W 0 (fun _ => true) true n1 4 [b4] = ys[4]? := by have := hf 4 _ rfl; simpa [cells_bool] using this
 have g5 : DataW.trod enc Tryz.prog W 0 (fun _ => true) true n1 4 [b5] = ys[5]? := by have := hf 5 _ rfl; simpa [cells_bool] using this
 have hys6 : ys.length = 6 := hys
 match ys, hys6 with
 | [y0, y1, y2, y3, y4, y5], _ =>
 have hw0 : ∀ y ∈ y0.1.weights Tryz.prog 22, y ≤ reachBytes := fun y hy => hz y (by
  have ed : d0 = .agg [y0.1, y1.1, y2.1, y3.1, y4.1, y5.1] := congrArg (·.1) e0
  obtain ⟨fS, hu, hm⟩ : ∃ fs, Tryz.prog.underlying 25 = some (.struct fs) ∧ fs.toList.map (·.type) = [22, 23, 23, 23, 4, 4] := ⟨_, rfl, rfl⟩
  rw [ed]
  show y ∈ DataW.weightsEach Tryz.prog (25 :: _) (_ :: _)
  rw [DataW.weightsEach, DataW.weights, hu]
  dsimp only
  rw [hm, DataW.weightsEach]
  exact List.mem_append_left _ (List.mem_append_left _ hy))
 obtain ⟨jA, jn, jc, vs, js, rfl, hS, hjn, hbl, hb⟩ := jobs_open g0 hw0
 obtain ⟨sA, sn, sc, ss, rfl, hU1, _⟩ := u8_open g1
 obtain ⟨fA, fn, fc, fs, rfl, hU2, _⟩ := u8_open g2
 obtain ⟨aA, an, ac, ws, rfl, hU3, _⟩ := u8_open g3
 obtain ⟨z, e4, _⟩ := DataW.trod_bool rfl g4
 obtain ⟨intr, e5, _⟩ := DataW.trod_bool rfl g5
 simp at e4 e5
 subst e4 e5
 have f0 : c0 = sC jA jn jc sA sn sc fA fn fc aA an ac z intr := by apply Array.ext'; exact hl0
 subst f0
 have hl : ∀ w', Below W.heap.size W w' → Calls Tryz.prog 7 #[] w' (LawEnd w') := fun w' h => lives_calls w' (laid_below hw h)
 cases hsm : smallB jn js fn an with
 | true => exact out_law jA jn jc sA sn sc fA fn fc aA an ac z intr vs js ss fs ws W hS hbl hjn hb hU1 hU2 hU3 hl hw hsm
 | false => exact out_early jA jn jc sA sn sc fA fn fc aA an ac z intr vs js W hS hbl hjn hb hl hsm
theorem door_met (os : Os) (args : Array Value) : laidMetH Tryz.prog stLaid ((World.doorLaid Tryz.prog 400 os).forCall (fun _ _ => 0) ⟨#[], args, []⟩).memory :=
 laidMetH_of_parts3 (fuel := 8) (laidMet_of_run' 8 (by as_aux_lemma => kernel_rfl) (by as_aux_lemma => kernel_rfl)) (by as_aux_lemma => kernel_rfl) (by as_aux_lemma => kernel_rfl)
theorem po_row (os : Os) (started : os.Started) (H : Type) (enc : TypeId × Value → H) :
  ReturnsInHanded {} Tryz.checked os 3 .any (fun w args => (Rows.pipesOutSpec.pre enc Tryz.prog Tryz.f3 [] false w args ∧ laidMetH Tryz.prog stLaid w) ∧ sizedMet enc Tryz.prog Tryz.f3 (OpenSpec.ofChange Rows.pipesOutSpec) false w args)
   (Rows.pipesOutSpec.post enc Tryz.prog Tryz.f3 false true false false) := by
 refine law_lifted_sized (C := Tryz.checked) (fn := Tryz.f3) (tb := 4) own started po_init Tryz.func3 p_laidOut po_params (by kernel_rfl) (by kernel_rfl) rfl ?_
  (ChangeSpec.witness_shaped (enc := enc) (C := Tryz.checked) (os := os) (X := fun w _ => laidMetH Tryz.prog stLaid w) false (World.doorLaid Tryz.prog 400 os)
   #[.agg #[.slice none 0 0, .slice none 0 0, .slice none 0 0, .slice none 0 0, .bool false, .bool false]] 8 rfl (World.shaped_of_RefB (by as_aux_lemma => kernel_rfl) (by as_aux_lemma => kernel_rfl)) (by as_aux_lemma => kernel_rfl) (by as_aux_lemma => kernel_rfl) (by as_aux_lemma => kernel_rfl)
   (door_met os _)) ?_
 ·intro ds hd
  match ds, hd with
  | [_], _ => rfl
 ·intro W base args ds ps ts hval hA hz hL
  exact po_calls hval hA hz (laidMet_ok p_laidG p_handles hL)
theorem po_holds : Rows.PipesOutSaid :=
 OpenClaim.holds_of_wide 3 Tryz.f3 rfl rfl rfl rfl rfl rfl rfl ⟨rfl, rfl, rfl, rfl, rfl⟩ rfl rfl rfl rfl rfl po_func Tryz.func3 po_joined po_inst po_wrap
  (fun os started H enc _ => po_row os started H enc)
theorem po_card : Rows.PipesOutCardSaid :=
 Claim7.holds_tied_plain_at .later [] [.mapped] true (true, "e5d0991f66154cdb8a03560b6733912a8a8200e27cd698db35fa218a3fb52765") false
  po_holds (fun _ h => by cases h) (by as_aux_lemma => kernel_rfl) (fun _ h => by cases h) pipesOut_row_tie rfl ⟨rfl, rfl⟩ (by as_aux_lemma => kernel_rfl) rfl
  (fun f fn hf hfn => by
   obtain rfl : f = 3 := Option.some.inj (po_func.symm.trans hf) |>.symm
   obtain rfl : fn = Tryz.f3 := (Option.some.inj (Tryz.func3.symm.trans hfn)).symm
   exact ⟨by as_aux_lemma => kernel_rfl, fun j t ht => by
    have hm : t ∈ Tryz.f3.params.toList := by simpa using Array.mem_of_getElem? ht
    exact (show Tryz.prog.wantsStandIn t = false by simpa using List.all_eq_true.1 po_standIn t hm)⟩)
  (by as_aux_lemma => kernel_rfl)
#print axioms po_card
end Go.Proofs.YtiajboiobjfcoaaGreatDoor
