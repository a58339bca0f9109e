/-
  What is proved here: plugboardlaw39.DisksSurvive returns true for every input.
  Conditions: the tables of commands and of unicode/utf8 are laid, which the card ties to the program's text.
-/
import Derived.Test.YtdiameckiihppaaDoorSLaw
import Derived.Test.YtdiameckiihppaaDoorSFacts
import Derived.Test.YtdiameckiihppaaDoorCards
import Derived.Test.YtdiameckiihppaaDoorTie
import Derived.ProofKit
import Derived.Lay
import Derived.MakeChecks
import Derived.Deep.Grids
namespace Go.Proofs.YtdiameckiihppaaDoor
open Go.Sy Go.RowKit Go.ChangeShapes Go.WideShapes Go.ChangeAt

set_option maxRecDepth 1000000

theorem agg_of {t : TypeId} {W : World} {base : Nat} {v : Value} (hu : ∃ fs, Tryd.prog.underlying t = some (.struct fs)) (h : Value.okWide Tryd.prog W .any base t v) : ∃ cs, v = .agg cs := by
  unfold Value.okWide at h
  obtain ⟨fs, hu⟩ := hu
  simp only [hu] at h
  obtain ⟨cs, e, _⟩ := h
  exact ⟨cs, e⟩
theorem cells_K : Tryd.prog.cellsOf 23 = 3 := by kernel_rfl
theorem cells_Cut : Tryd.prog.cellsOf 27 = 3 := by kernel_rfl
theorem cells_u8 : Tryd.prog.cellsOf 5 = 1 := by kernel_rfl
theorem cells_bool : Tryd.prog.cellsOf 4 = 1 := by kernel_rfl
theorem cells_u8s : Tryd.prog.cellsOf 24 = 1 := by kernel_rfl
theorem cells_bools : Tryd.prog.cellsOf 25 = 1 := by kernel_rfl

theorem rng_u8 {n : Int} (h : (Lit.int .u8 n).wf = true) : 0 ≤ n ∧ n ≤ 255 := by
  have h1 : IntKind.u8.min = 0 := rfl
  have h2 : IntKind.u8.max = 255 := rfl
  simp only [Lit.wf, Bool.and_eq_true, decide_eq_true_eq] at h
  omega

section
variable {H : Type} {enc : TypeId × Value → H} {W : World} {b : Nat} {held : Bool}

theorem bytes_open {fuel : Nat} {v : Value} {x : DataW H × List MemPlace} (h : DataW.trod enc Tryd.prog W b (fun _ => true) held fuel 24 [v] = some x) : ∃ A n c xs, v = .slice A n c ∧ U8 W A n c xs := by
  rcases open_ints (k := .u8) rfl rfl cells_u8 h with ⟨hcs, _⟩ | ⟨a, len', cap', zs, hcs, _, hl, hm, hz, _, hcell, hwz⟩
  · simp at hcs
    subst hcs
    exact ⟨none, 0, 0, [], rfl, rfl, (fun x hx => nomatch hx), Nat.le_refl _, .inl ⟨rfl, rfl, rfl⟩⟩
  · simp at hcs
    subst hcs
    have hzl : len' ≤ zs.length := by split at hz <;> omega
    refine ⟨some a, len', cap', zs.take len', rfl, by rw [List.length_take]; omega, fun x hx => rng_u8 (hwz x (List.mem_of_mem_take hx)), hl, .inr ⟨a, rfl, fun j hj => ?_⟩⟩
    rw [List.getElem?_take, if_pos hj]
    exact hcell j (by omega)
theorem bools_open {fuel : Nat} {v : Value} {x : DataW H × List MemPlace} (h : DataW.trod enc Tryd.prog W b (fun _ => true) held fuel 25 [v] = some x) : ∃ A n c bs, v = .slice A n c ∧ BL W A n c bs := by
  rcases Go.Deep.open_bools (e := 4) rfl rfl cells_bool h with ⟨hcs, _⟩ | ⟨a, len, cap, B, hcs, _, hl, hm, _, hcell⟩
  · simp at hcs
    subst hcs
    exact ⟨none, 0, 0, [], rfl, rfl, Nat.le_refl _, .inl ⟨rfl, rfl, rfl⟩⟩
  · simp at hcs
    subst hcs
    refine ⟨some a, len, cap, (List.range len).map B, rfl, by simp, hl, .inr ⟨a, rfl, fun j hj => ?_⟩⟩
    rw [List.getElem?_map, List.getElem?_range hj]
    exact hcell j (by omega)
end

theorem ds_calls {H : Type} {enc : TypeId × Value → H} {W : World} {base : Nat} {args : Array Value} {ds : List (DataW H)} {ps : List MemPlace} (hval : ∀ (j : Nat) t v, Tryd.f3.params[j]? = some t → args[j]? = some v → Value.okWide Tryd.prog W .any base t v)
    (hA : DataW.TrodAll enc Tryd.prog W 0 (fun _ => true) true Tryd.f3.params.toList args.toList ds ps) (hw : LaidW W dG) : Calls Tryd.prog 3 args W (LawEnd W) := by
  have hp : Tryd.f3.params = #[23, 27] := rfl
  rw [hp] at hA hval
  obtain ⟨v0, v1, d0, d1, p0, p1, rfl, rfl, rfl, h0, h1⟩ := trodAll_two hA
  obtain ⟨c0, rfl⟩ := agg_of ⟨_, rfl⟩ (hval 0 23 v0 rfl rfl)
  obtain ⟨c1, rfl⟩ := agg_of ⟨_, rfl⟩ (hval 1 27 v1 rfl rfl)
  obtain ⟨n0, hn0⟩ := h0
  obtain ⟨n1, hn1⟩ := h1
  obtain ⟨ys, n0', _, e0, hlen, hys, hf⟩ := DataW.trod_struct rfl hn0
  obtain ⟨zs, n1', _, e1, hlen1, hzs, hf1⟩ := DataW.trod_struct rfl hn1
  have hcs : (Value.agg c0).cells.toList = c0.toList := rfl
  have hcs1 : (Value.agg c1).cells.toList = c1.toList := rfl
  obtain ⟨l0, hl0⟩ : ∃ l0, c0.toList = l0 := ⟨_, rfl⟩
  obtain ⟨l1, hl1⟩ : ∃ l1, c1.toList = l1 := ⟨_, rfl⟩
  rw [hcs, hl0] at hlen hf
  rw [hcs1, hl1] at hlen1 hf1
  rw [cells_K] at hlen
  rw [cells_Cut] at hlen1
  match l0, hlen, l1, hlen1 with
  | [b0, b1, b2], _, [k0, k1, k2], _ =>
  have g0 : DataW.trod enc Tryd.prog W 0 (fun _ => true) true n0' 5 [b0] = ys[0]? := by have := hf 0 _ rfl; simpa [cells_u8] using this
  have g1 : DataW.trod enc Tryd.prog W 0 (fun _ => true) true n0' 5 [b1] = ys[1]? := by have := hf 1 _ rfl; simpa [cells_u8] using this
  have g2 : DataW.trod enc Tryd.prog W 0 (fun _ => true) true n0' 4 [b2] = ys[2]? := by have := hf 2 _ rfl; simpa [cells_bool] using this
  have r0 : DataW.trod enc Tryd.prog W 0 (fun _ => true) true n1' 24 [k0] = zs[0]? := by have := hf1 0 _ rfl; simpa [cells_u8s] using this
  have r1 : DataW.trod enc Tryd.prog W 0 (fun _ => true) true n1' 5 [k1] = zs[1]? := by have := hf1 1 _ rfl; simpa [cells_u8] using this
  have r2 : DataW.trod enc Tryd.prog W 0 (fun _ => true) true n1' 25 [k2] = zs[2]? := by have := hf1 2 _ rfl; simpa [cells_bools] using this
  have hys3 : ys.length = 3 := hys
  have hzs3 : zs.length = 3 := hzs
  match ys, hys3, zs, hzs3 with
  | [y0, y1, y2], _, [z0, z1, z2], _ =>
  obtain ⟨x0, q0, _, w0⟩ := DataW.trod_int (k := .u8) Tryd.underlying5 g0
  obtain ⟨x1, q1, _, w1⟩ := DataW.trod_int (k := .u8) Tryd.underlying5 g1
  obtain ⟨x2, q2, _⟩ := DataW.trod_bool rfl g2
  obtain ⟨x3, q3, _, w3⟩ := DataW.trod_int (k := .u8) Tryd.underlying5 r1
  simp at q0 q1 q2 q3
  subst q0 q1 q2 q3
  obtain ⟨LA, ln, lc, xs, rfl, hU⟩ := bytes_open r0
  obtain ⟨WA, wn, wp, bs, rfl, hW⟩ := bools_open r2
  have f0 : c0 = #[.int .u8 x0, .int .u8 x1, .bool x2] := by apply Array.ext'; exact hl0
  have f1 : c1 = #[.slice LA ln lc, .int .u8 x3, .slice WA wn wp] := by apply Array.ext'; exact hl1
  subst f0 f1
  exact law_walk x0 x1 x3 x2 LA ln lc xs WA wn wp bs W hw hU hW (rng_u8 w0) (rng_u8 w1) (rng_u8 w3)

theorem ds_row (os : Os) (started : os.Started) (H : Type) (enc : TypeId × Value → H) :
    ReturnsInHanded {} Tryd.checked os 3 .any (fun w args => (Rows.disksSurviveSpec.pre enc Tryd.prog Tryd.f3 [] false w args ∧ laidMetH Tryd.prog dLaid w) ∧ sizedMet enc Tryd.prog Tryd.f3 (OpenSpec.ofChange Rows.disksSurviveSpec) false w args)
      (Rows.disksSurviveSpec.post enc Tryd.prog Tryd.f3 false true false false) := by
  refine law_lifted_laid (C := Tryd.checked) (fn := Tryd.f3) (tb := 4) own started ds_init Tryd.func3 p_laidOut ds_params (by kernel_rfl) (by kernel_rfl) rfl ?_
    (ChangeSpec.witness_shaped (enc := enc) (C := Tryd.checked) (os := os) (X := fun w _ => laidMetH Tryd.prog dLaid w) false (World.laidAll Tryd.prog os dLaid)
      #[.agg #[.int .u8 0, .int .u8 0, .bool false], .agg #[.slice none 0 0, .int .u8 0, .slice none 0 0]] 8 (World.laidAll_os _ _ _) (World.shaped_of_ZipB (by as_aux_lemma => kernel_rfl) (by as_aux_lemma => kernel_rfl)) (by as_aux_lemma => kernel_rfl) (by as_aux_lemma => kernel_rfl) (by as_aux_lemma => kernel_rfl)
      (by rw [MakeChecks.laidMetH_plain _ _ _ (by kernel_rfl)]; exact laidMet_laidAll _ (by as_aux_lemma => kernel_rfl) (by as_aux_lemma => kernel_rfl))) ?_
  · intro ds hd
    match ds, hd with
    | [_, _], _ => rfl
  · intro W base args ds ps hval hA _ hL
    exact ds_calls hval hA (laidMet_ok d_laidG d_handles hL)

theorem ds_holds : Rows.DisksSurviveSaid :=
  OpenClaim.holds_of_wide 3 Tryd.f3 rfl rfl rfl rfl rfl rfl rfl ⟨rfl, rfl, rfl, rfl, rfl⟩ rfl rfl rfl rfl rfl ds_func Tryd.func3 ds_joined ds_inst ds_wrap
    (fun os started H enc _ => ds_row os started H enc)

theorem ds_card : Rows.DisksSurviveCardSaid :=
  Claim7.holds_tied_plain_at .later [] [.data, .widerDeep, .pinned] true (true, "01c0c59c01de4d0c2d9d1d89b91e8a607fc05bb4953952b19581c521faf6f67d") false
    ds_holds (fun _ h => by cases h) (by as_aux_lemma => kernel_rfl) (fun _ h => by cases h) disksSurvive_row_tie rfl ⟨rfl, rfl⟩ (by as_aux_lemma => kernel_rfl) rfl
    (fun f fn hf hfn => by
      obtain rfl : f = 3 := Option.some.inj (ds_func.symm.trans hf) |>.symm
      obtain rfl : fn = Tryd.f3 := (Option.some.inj (Tryd.func3.symm.trans hfn)).symm
      exact ⟨by as_aux_lemma => kernel_rfl, fun j t ht => by
        have hm : t ∈ Tryd.f3.params.toList := by simpa using Array.mem_of_getElem? ht
        exact (show Tryd.prog.wantsStandIn t = false by simpa using List.all_eq_true.1 ds_standIn t hm)⟩)
    (by as_aux_lemma => kernel_rfl)
#print axioms ds_card
end Go.Proofs.YtdiameckiihppaaDoor
