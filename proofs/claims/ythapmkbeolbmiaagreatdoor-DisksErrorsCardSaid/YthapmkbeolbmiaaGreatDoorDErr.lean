/-
  What is proved here: plugboardlaw39.DisksErrors returns true for every input.
  Conditions: the tables of commands and of unicode/utf8 are laid, which the card ties to the program's text.
-/
import Derived.Test.YthapmkbeolbmiaaGreatDoorELaw
import Derived.Test.YthapmkbeolbmiaaGreatDoorEFacts
import Derived.Test.YthapmkbeolbmiaaGreatDoorCards
import Derived.Test.YthapmkbeolbmiaaGreatDoorTie
import Derived.ProofKit
import Derived.Lay
import Derived.MakeChecks
namespace Go.Proofs.YthapmkbeolbmiaaGreatDoor
open Go.Sy Go.RowKit Go.ChangeShapes Go.WideShapes Go.ChangeAt

set_option maxRecDepth 1000000

theorem agg_of {t : TypeId} {W : World} {base : Nat} {v : Value} (hu : (∃ fs, Tryz.prog.underlying t = some (.struct fs)) ∨ ∃ n e, Tryz.prog.underlying t = some (.array n e)) (h : Value.okWide Tryz.prog W .any base t v) : ∃ cs, v = .agg cs := by
  unfold Value.okWide at h
  rcases hu with ⟨fs, hu⟩ | ⟨n, e, hu⟩
  all_goals
    simp only [hu] at h
    obtain ⟨cs, e, _⟩ := h
    exact ⟨cs, e⟩

/-- the cells of a struct or an array of plain kinds -/
theorem flat_cells {H : Type} {enc : TypeId × Value → H} {W : World} {b : Nat} {sp : Nat → Bool} {held : Bool} {t : TypeId} {l : List Lf} {cs : Array Value} {d : DataW H} {p : List MemPlace}
    (hl : flatT Tryz.prog 8 t = some l) (h : DataW.Trod enc Tryz.prog W b sp held t (.agg cs) d p) : LfsR l cs.toList := by
  obtain ⟨n, hn⟩ := h
  exact (flatT_ok 8 n t l _ _ hl hn).1

theorem flat25 : flatT Tryz.prog 8 25 = some [.int .i64, .int .i64, .int .i64, .bool, .str, .str, .str, .bool] := by kernel_rfl
theorem flat27 : flatT Tryz.prog 8 27 = some [.int .u16, .int .u16] := by kernel_rfl

theorem de_calls {H : Type} {enc : TypeId × Value → H} {W : World} {base : Nat} {args : Array Value} {ds : List (DataW H)} {ps : List MemPlace} (hval : ∀ (j : Nat) t v, Tryz.f3.params[j]? = some t → args[j]? = some v → Value.okWide Tryz.prog W .any base t v)
    (hA : DataW.TrodAll enc Tryz.prog W 0 (fun _ => true) true Tryz.f3.params.toList args.toList ds ps) (hw : LaidW W dG) : Calls Tryz.prog 3 args W (LawEnd W) := by
  have hp : Tryz.f3.params = #[25, 3, 27] := rfl
  rw [hp] at hA hval
  obtain ⟨v0, v1, v2, d0, d1, d2, p0, p1, p2, rfl, rfl, rfl, h0, h1, h2⟩ := trodAll_three hA
  obtain ⟨c0, rfl⟩ := agg_of (.inl ⟨_, rfl⟩) (hval 0 25 v0 rfl rfl)
  obtain ⟨n1, hv1⟩ := h1
  obtain ⟨n, hv1', _, hn⟩ := DataW.trod_int (k := .i64) rfl hv1
  obtain ⟨c2, rfl⟩ := agg_of (.inr ⟨_, _, rfl⟩) (hval 2 27 v2 rfl rfl)
  have e1 : v1 = .int .i64 n := by
    obtain ⟨m, rfl⟩ := okWide_int (k := .i64) rfl (hval 1 3 v1 rfl rfl)
    simpa [Value.cells] using hv1'
  subst e1
  obtain ⟨_, _, q0, ⟨bl, rfl, _⟩, _, _, rfl, ⟨sz, rfl, _⟩, _, _, rfl, ⟨ca, rfl, _⟩, _, _, rfl, ⟨lk, rfl⟩, _, _, rfl, ⟨v, rfl⟩, _, _, rfl, ⟨p, rfl⟩, _, _, rfl, ⟨r, rfl⟩, _, _, rfl, ⟨rem, rfl⟩, rfl⟩ := flat_cells flat25 h0
  obtain ⟨_, _, q2, ⟨x, rfl, hx⟩, _, _, rfl, ⟨y, rfl, hy⟩, rfl⟩ := flat_cells flat27 h2
  have f0 : c0 = #[.int .i64 bl, .int .i64 sz, .int .i64 ca, .bool lk, .string v, .string p, .string r, .bool rem] := by apply Array.ext'; exact q0
  have f2 : c2 = #[.int .u16 x, .int .u16 y] := by apply Array.ext'; exact q2
  subst f0 f2
  have hn := wf_rng hn
  have hx := wf_rng hx
  have hy := wf_rng hy
  exact de_walk bl sz ca lk v p r rem n x y W (fun w' hb => lives_calls w' (laid_below hw hb)) (de_rest W n x y hw hn hx hy)

theorem de_row (os : Os) (started : os.Started) (H : Type) (enc : TypeId × Value → H) :
    ReturnsInHanded {} Tryz.checked os 3 .any (fun w args => (Rows.disksErrorsSpec.pre enc Tryz.prog Tryz.f3 [] false w args ∧ laidMetH Tryz.prog dLaid w) ∧ sizedMet enc Tryz.prog Tryz.f3 (OpenSpec.ofChange Rows.disksErrorsSpec) false w args)
      (Rows.disksErrorsSpec.post enc Tryz.prog Tryz.f3 false true false false) := by
  refine law_lifted_laid (C := Tryz.checked) (fn := Tryz.f3) (tb := 4) own started de_init Tryz.func3 p_laidOut de_params (by kernel_rfl) (by kernel_rfl) rfl ?_
    (ChangeSpec.witness_shaped (enc := enc) (C := Tryz.checked) (os := os) (X := fun w _ => laidMetH Tryz.prog dLaid w) false (World.laidAll Tryz.prog os dLaid)
      #[.agg #[.int .i64 0, .int .i64 0, .int .i64 0, .bool false, .string ByteArray.empty, .string ByteArray.empty, .string ByteArray.empty, .bool false], .int .i64 0, .agg #[.int .u16 0, .int .u16 0]] 8 (World.laidAll_os _ _ _) (World.shaped_of_ZipB (by as_aux_lemma => kernel_rfl) (by as_aux_lemma => kernel_rfl)) (by as_aux_lemma => kernel_rfl) (by as_aux_lemma => kernel_rfl) (by as_aux_lemma => kernel_rfl)
      (by rw [MakeChecks.laidMetH_plain _ _ _ (by kernel_rfl)]; exact laidMet_laidAll _ (by as_aux_lemma => kernel_rfl) (by as_aux_lemma => kernel_rfl))) ?_
  · intro ds hd
    match ds, hd with
    | [_, _, _], _ => rfl
  · intro W base args ds ps hval hA _ hL
    exact de_calls hval hA (laidMet_ok d_laidG d_handles hL)

theorem de_holds : Rows.DisksErrorsSaid :=
  OpenClaim.holds_of_wide 3 Tryz.f3 rfl rfl rfl rfl rfl rfl rfl ⟨rfl, rfl, rfl, rfl, rfl⟩ rfl rfl rfl rfl rfl de_func Tryz.func3 de_joined de_inst de_wrap
    (fun os started H enc _ => de_row os started H enc)

theorem de_card : Rows.DisksErrorsCardSaid :=
  Claim7.holds_tied_plain_at .later [] [.data, .widerDeep, .pinned] true (true, "d4c746dfe8ef4122fe88c999f1a5a00d338591a50c0b1c536345a85831607a44") false
    de_holds (fun _ h => by cases h) (by as_aux_lemma => kernel_rfl) (fun _ h => by cases h) disksErrors_row_tie rfl ⟨rfl, rfl⟩ (by as_aux_lemma => kernel_rfl) rfl
    (fun f fn hf hfn => by
      obtain rfl : f = 3 := Option.some.inj (de_func.symm.trans hf) |>.symm
      obtain rfl : fn = Tryz.f3 := (Option.some.inj (Tryz.func3.symm.trans hfn)).symm
      exact ⟨by as_aux_lemma => kernel_rfl, fun j t ht => by
        have hm : t ∈ Tryz.f3.params.toList := by simpa using Array.mem_of_getElem? ht
        exact (show Tryz.prog.wantsStandIn t = false by simpa using List.all_eq_true.1 de_standIn t hm)⟩)
    (by as_aux_lemma => kernel_rfl)
#print axioms de_card
end Go.Proofs.YthapmkbeolbmiaaGreatDoor
