/-
  What is proved here: plugboardlaw23.PipesBegin returns true for every input.
  Conditions: the table of the pipes' package is laid, which the card ties to the program's text.
-/
import Derived.Test.YthapmkbeolbmiaaGreatDoorQArg
import Derived.Test.YthapmkbeolbmiaaGreatDoorBFacts
import Derived.Test.YthapmkbeolbmiaaGreatDoorCards
import Derived.Test.YthapmkbeolbmiaaGreatDoorTie
import Derived.Lay
import Derived.LaidMore
import Derived.MakeChecks
import Derived.SevenTiedAt
namespace Go.Proofs.YthapmkbeolbmiaaGreatDoor
open Go.Sy Go.RowKit Go.ChangeShapes Go.WideShapes Go.ChangeAt

set_option maxRecDepth 1000000

theorem own : ownKnob Tryz.prog.godebug = none := by kernel_rfl

/-- the laid variables -/
def pLaid : List (String × DataW Unit) := Rows.pipesBeginRow.laid
noncomputable def pG : List (Nat × List V) := (laidG Tryz.prog 0 pLaid).getD []
theorem p_laidG : laidG Tryz.prog 0 pLaid = some pG := by kernel_rfl
theorem lives_runs : allTrue (evFn Tryz.prog kw0 10 30 20 [] (mem0 pG) pc0) = true := by kernel_rfl
theorem lives_calls (w : World) (hw : LaidW w pG) : Calls Tryz.prog 20 #[] w (LawEnd w) :=
  closed_ok plain kw0_ok lives_runs w hw

/-- what is laid stays -/
theorem laid_below {W w : World} {g : List (Nat × List V)} (hw : LaidW W g) (hb : Below W.heap.size W w) : LaidW w g := by
  obtain ⟨bs, h⟩ := hw
  refine ⟨bs, fun ρ x hx => ⟨(h ρ x hx).1, ?_⟩⟩
  have h2 := (h ρ x hx).2
  have hl : (lyB x).live (cx0 bs ρ) := by rcases lyB_cases x with ⟨_, e⟩ | ⟨_, e⟩ <;> rw [e] <;> trivial
  exact h2.world (hb.block _ (h2.lt hl))

theorem agg_of {t : TypeId} {W : World} {base : Nat} {v : Value} (hu : ∃ fs, Tryz.prog.underlying t = some (.struct fs)) (h : Value.okWide Tryz.prog W .any base t v) : ∃ cs, v = .agg cs := by
  unfold Value.okWide at h
  obtain ⟨fs, hu⟩ := hu
  simp only [hu] at h
  obtain ⟨cs, e, _⟩ := h
  exact ⟨cs, e⟩

theorem p_handles : (pLaid.all fun x => x.2.handleName?.isNone) = true := by kernel_rfl
theorem flat_pipe : flatT Tryz.prog 8 73 = some pLf := by kernel_rfl
theorem flat_setup : flatT Tryz.prog 8 66 = some [.int .u8, .int .u8, .int .u16, .int .u16, .int .u16] := by kernel_rfl
theorem cells_setup : Tryz.prog.cellsOf 66 = 5 := by kernel_rfl
theorem cells_job : Tryz.prog.cellsOf 75 = 10 := by kernel_rfl
theorem cells_int : Tryz.prog.cellsOf 3 = 1 := by kernel_rfl
theorem cells_bool : Tryz.prog.cellsOf 4 = 1 := by kernel_rfl
theorem cells_packets : Tryz.prog.cellsOf 53 = 1 := by kernel_rfl

/-- whether a job is strange or great does not hang on what is said of it -/
theorem str_same {N M : Nums} (e : ∀ j, j < 21 → N.rho j = M.rho j) : fStr.den N.rho = fStr.den M.rho ∧ fLim.den N.rho = fLim.den M.rho := by
  have e2 := e 2 (by omega)
  have e3 := e 3 (by omega)
  have e11 := e 11 (by omega)
  have e12 := e 12 (by omega)
  have e13 := e 13 (by omega)
  have e14 := e 14 (by omega)
  have e15 := e 15 (by omega)
  have e16 := e 16 (by omega)
  have e17 := e 17 (by omega)
  have e18 := e 18 (by omega)
  have e19 := e 19 (by omega)
  have e20 := e 20 (by omega)
  constructor
  · simp only [fStr, fS, fC, fD, fOut, fIn, fP, fI, fN, fT, fStream, nz, BF.den, B.den, E.den, e2, e3, e11, e12, e13, e14, e15, e16, e17, e18, e19, e20]
    first | rfl | simp | congr
  · simp only [fLim, BF.den, B.den, E.den, e16, e17, e19, e20]
    first | rfl | simp | congr
theorem rho_same (ad en : Int) (inn : Bool) (k0 mx per sp hu po : Int) (tg ha : Bool) (t c v i l : Int) (dn : Nat) (len : Int) (z : Bool) (pn : Nat) (m : Int) (ok st gr dz pz st' gr' : Bool) (j : Nat) (h : j < 21) :
    (Nums.mk ad en inn k0 mx per sp hu po tg ha t c v i l dn len z pn m ok st gr dz pz).rho j = (Nums.mk ad en inn k0 mx per sp hu po tg ha t c v i l dn len z pn m ok st' gr' dz pz).rho j := by
  unfold Nums.rho
  rw [if_pos (by omega), if_pos (by omega)]
  match j, h with
  | 0, _ | 1, _ | 2, _ | 3, _ | 4, _ | 5, _ | 6, _ | 7, _ | 8, _ | 9, _ | 10, _ | 11, _ | 12, _ | 13, _ | 14, _ | 15, _ | 16, _ | 17, _ | 18, _ | 19, _ | 20, _ => rfl
  | j + 21, h => omega

/-- the law, whatever its arguments -/
theorem walk_all (ad en : Int) (inn : Bool) (k0 mx per sp hu po : Int) (tg ha : Bool) (t c v i l : Int) (dA : Option Addr) (dn dc : Nat) (len : Int) (z : Bool) (pA : Option Addr) (pn pc : Nat) (m : Int) (mn : Int) (xs : List Int) (vs : List Value) (bs : List (List Int)) (w : World)
    (hpr : PipeR ad en k0 mx per sp hu po) (hjr : (0 ≤ t ∧ t ≤ 255) ∧ (0 ≤ c ∧ c ≤ 255) ∧ (0 ≤ v ∧ v ≤ 65535) ∧ (0 ≤ i ∧ i ≤ 65535) ∧ (0 ≤ l ∧ l ≤ 65535) ∧ (-9223372036854775808 ≤ len ∧ len ≤ 9223372036854775807) ∧ (-9223372036854775808 ≤ m ∧ m ≤ 9223372036854775807))
    (hmn : 0 ≤ mn ∧ mn ≤ 255) (hU : U8 w dA dn dc xs) (hD : SlZ (.slice dA dn dc) dn dA.isNone) (hA : Sls w pA pn pc vs) (hP : SlZ (.slice pA pn pc) pn pA.isNone)
    (hbl : vs.length = bs.length) (hb : ∀ (j : Nat) v b, vs[j]? = some v → bs[j]? = some b → ∃ A n c, v = .slice A n c ∧ U8 w A n c b)
    (hw : LaidW w pG) :
    Calls Tryz.prog 4 #[.agg #[.int .u8 ad, .int .u8 en, .bool inn, .int .u8 k0, .int .i64 mx, .int .i64 per, .int .u8 sp, .int .u8 hu, .int .u8 po, .bool tg, .bool ha],
      .agg #[.int .u8 t, .int .u8 c, .int .u16 v, .int .u16 i, .int .u16 l, .slice dA dn dc, .int .i64 len, .bool z, .slice pA pn pc, .int .i64 m], .int .u8 mn] w (LawEnd w) := by
  have hl : ∀ w', Below w.heap.size w w' → Calls Tryz.prog 20 #[] w' (LawEnd w') := fun w' h => lives_calls w' (laid_below hw h)
  by_cases hlong : ∃ (kl : Nat) (A : Option Addr) (n c : Nat), vs[kl]? = some (.slice A n c) ∧ 100 < n
  · obtain ⟨kl, hkl⟩ := hlong
    refine law_long ad en inn k0 mx per sp hu po tg ha t c v i l dA dn dc len z pA pn pc m mn vs w hA (fun j x hj => ?_) kl hkl hl
    have hj' : j < bs.length := by rw [← hbl]; exact (List.getElem?_eq_some_iff.1 hj).1
    obtain ⟨A, n, c, e, _⟩ := hb j x _ hj (List.getElem?_eq_getElem hj')
    exact ⟨A, n, c, e⟩
  · have hb8 : B8s w vs bs := by
      refine ⟨hbl, fun j x b hj hb' => ?_⟩
      obtain ⟨A, n, c, e, hu⟩ := hb j x b hj hb'
      refine ⟨A, n, c, e, hu, ?_⟩
      by_cases h : n ≤ 65536
      · exact h
      · exact absurd ⟨j, A, n, c, by rw [hj, e], by omega⟩ hlong
    obtain ⟨ok, hc, hv, hfit⟩ := scal ad en inn k0 mx per sp hu po tg ha hpr
    obtain ⟨mn', rfl⟩ := Int.eq_ofNat_of_zero_le hmn.1
    refine law_walk ad en inn k0 mx per sp hu po tg ha t c v i l dA dn dc len z pA pn pc m mn' vs bs w hA hb8 (by omega) hP ok hc hv (fun A' n' c' vs' bs' wr hbw hdn hn' hA' hb' hP' => ?_) hl
    obtain ⟨st, hst⟩ : ∃ b, fStr.den (Nums.mk ad en inn k0 mx per sp hu po tg ha t c v i l dn len z n' m ok false false dA.isNone A'.isNone).rho = b := ⟨_, rfl⟩
    obtain ⟨gr, hgr⟩ : ∃ b, fLim.den (Nums.mk ad en inn k0 mx per sp hu po tg ha t c v i l dn len z n' m ok false false dA.isNone A'.isNone).rho = b := ⟨_, rfl⟩
    obtain ⟨s1, s2⟩ := str_same (rho_same ad en inn k0 mx per sp hu po tg ha t c v i l dn len z n' m ok st gr dA.isNone A'.isNone false false)
    exact all_ret (N := ⟨ad, en, inn, k0, mx, per, sp, hu, po, tg, ha, t, c, v, i, l, dn, len, z, n', m, ok, st, gr, dA.isNone, A'.isNone⟩) dA dc xs A' c' vs' bs' wr
      ⟨hpr, ⟨hjr.1, hjr.2.1, hjr.2.2.1, hjr.2.2.2.1, hjr.2.2.2.2.1, hdn, hjr.2.2.2.2.2.1, hjr.2.2.2.2.2.2⟩, by show n' ≤ _; omega⟩
      (hU.below hbw) hA' (hb'.below hbw) hD hP' (hst.symm.trans s1.symm) (hgr.symm.trans s2.symm) hc hv hfit

theorem pb_calls {H : Type} {enc : TypeId × Value → H} {W : World} {base : Nat} {args : Array Value} {ds : List (DataW H)} {ps : List MemPlace} (hval : ∀ (j : Nat) t v, Tryz.f4.params[j]? = some t → args[j]? = some v → Value.okWide Tryz.prog W .any base t v)
    (hA : DataW.TrodAll enc Tryz.prog W 0 (fun _ => true) true Tryz.f4.params.toList args.toList ds ps) (hw : LaidW W pG) : Calls Tryz.prog 4 args W (LawEnd W) := by
  have hp : Tryz.f4.params = #[73, 75, 5] := rfl
  rw [hp] at hA hval
  obtain ⟨v0, v1, v2, d0, d1, d2, p0, p1, p2, rfl, rfl, rfl, h0, h1, h2⟩ := trodAll_three hA
  obtain ⟨c0, rfl⟩ := agg_of ⟨_, rfl⟩ (hval 0 73 v0 rfl rfl)
  obtain ⟨c1, rfl⟩ := agg_of ⟨_, rfl⟩ (hval 1 75 v1 rfl rfl)
  obtain ⟨n2, hv2⟩ := h2
  obtain ⟨n, hv2', _, hn⟩ := DataW.trod_int (k := .u8) rfl hv2
  have e2 : v2 = .int .u8 n := by
    obtain ⟨m, rfl⟩ := okWide_int (k := .u8) rfl (hval 2 5 v2 rfl rfl)
    simpa [Value.cells] using hv2'
  subst e2
  obtain ⟨n0, hn0⟩ := h0
  obtain ⟨_, _, q0, ⟨ad, rfl, a0⟩, _, _, rfl, ⟨en, rfl, a1⟩, _, _, rfl, ⟨inn, rfl⟩, _, _, rfl, ⟨k0, rfl, a3⟩, _, _, rfl, ⟨mx, rfl, a4⟩, _, _, rfl, ⟨per, rfl, a5⟩, _, _, rfl, ⟨sp, rfl, a6⟩, _, _, rfl, ⟨hu, rfl, a7⟩, _, _, rfl, ⟨po, rfl, a8⟩, _, _, rfl, ⟨tg, rfl⟩, _, _, rfl, ⟨ha, rfl⟩, rfl⟩ := (flatT_ok 8 n0 73 pLf _ _ flat_pipe hn0).1
  have f0 : c0 = #[.int .u8 ad, .int .u8 en, .bool inn, .int .u8 k0, .int .i64 mx, .int .i64 per, .int .u8 sp, .int .u8 hu, .int .u8 po, .bool tg, .bool ha] := by apply Array.ext'; exact q0
  subst f0
  obtain ⟨n1, hn1⟩ := h1
  obtain ⟨ys, n1', _, _, hlen, hys, hf⟩ := DataW.trod_struct rfl hn1
  have hcs : (Value.agg c1).cells.toList = c1.toList := rfl
  obtain ⟨l1, hl1⟩ : ∃ l1, c1.toList = l1 := ⟨_, rfl⟩
  rw [hcs, hl1] at hlen hf
  rw [cells_job] at hlen
  match l1, hlen with
  | [b0, b1, b2, b3, b4, b5, b6, b7, b8, b9], _ =>
  have g0 : DataW.trod enc Tryz.prog W 0 (fun _ => true) true n1' 66 [b0, b1, b2, b3, b4] = ys[0]? := by have := hf 0 _ rfl; simpa [cells_setup] using this
  have g1 : DataW.trod enc Tryz.prog W 0 (fun _ => true) true n1' 30 [b5] = ys[1]? := by have := hf 1 _ rfl; simpa [cells_u8s] using this
  have g2 : DataW.trod enc Tryz.prog W 0 (fun _ => true) true n1' 3 [b6] = ys[2]? := by have := hf 2 _ rfl; simpa [cells_int] using this
  have g3 : DataW.trod enc Tryz.prog W 0 (fun _ => true) true n1' 4 [b7] = ys[3]? := by have := hf 3 _ rfl; simpa [cells_bool] using this
  have g4 : DataW.trod enc Tryz.prog W 0 (fun _ => true) true n1' 53 [b8] = ys[4]? := by have := hf 4 _ rfl; simpa [cells_packets] using this
  have g5 : DataW.trod enc Tryz.prog W 0 (fun _ => true) true n1' 3 [b9] = ys[5]? := by have := hf 5 _ rfl; simpa [cells_int] using this
  have hys6 : ys.length = 6 := hys
  rw [List.getElem?_eq_getElem (by omega)] at g0 g1 g2 g3 g4 g5
  obtain ⟨_, _, e0, ⟨t, rfl, r0⟩, _, _, rfl, ⟨c, rfl, r1⟩, _, _, rfl, ⟨v, rfl, r2⟩, _, _, rfl, ⟨i, rfl, r3⟩, _, _, rfl, ⟨l, rfl, r4⟩, e1⟩ := (flatT_ok 8 n1' 66 _ _ _ flat_setup g0).1
  obtain ⟨dA, dn, dc, xs, rfl, hU, hD⟩ := u8_open g1
  obtain ⟨len, e6, _, r6⟩ := DataW.trod_int (k := .i64) rfl g2
  obtain ⟨z, e7, _⟩ := DataW.trod_bool rfl g3
  obtain ⟨pA, pn, pc, vs, bs, rfl, hA', hP, hbl, hb⟩ := u8s_open g4
  obtain ⟨m, e9, _, r9⟩ := DataW.trod_int (k := .i64) rfl g5
  subst e1
  simp at e0 e6 e7 e9
  obtain ⟨rfl, rfl, rfl, rfl, rfl⟩ := e0
  subst e6 e7 e9
  have f1 : c1 = #[.int .u8 t, .int .u8 c, .int .u16 v, .int .u16 i, .int .u16 l, .slice dA dn dc, .int .i64 len, .bool z, .slice pA pn pc, .int .i64 m] := by apply Array.ext'; exact hl1
  subst f1
  exact walk_all ad en inn k0 mx per sp hu po tg ha t c v i l dA dn dc len z pA pn pc m n xs vs bs W
    ⟨wf_rng a0, wf_rng a1, wf_rng a3, wf_rng a4, wf_rng a5, wf_rng a6, wf_rng a7, wf_rng a8⟩ ⟨wf_rng r0, wf_rng r1, wf_rng r2, wf_rng r3, wf_rng r4, wf_rng r6, wf_rng r9⟩ (wf_rng hn) hU hD hA' hP hbl hb hw

/-- the door's own heap meets the condition -/
theorem door_met (os : Os) (args : Array Value) : laidMetH Tryz.prog pLaid ((World.doorLaid Tryz.prog 400 os).forCall (fun _ _ => 0) ⟨#[], args, []⟩).memory :=
  laidMetH_of_parts3 (fuel := 8) (laidMet_of_run' 8 (by as_aux_lemma => kernel_rfl) (by as_aux_lemma => kernel_rfl)) (by as_aux_lemma => kernel_rfl) (by as_aux_lemma => kernel_rfl)

theorem pb_row (os : Os) (started : os.Started) (H : Type) (enc : TypeId × Value → H) :
    ReturnsInHanded {} Tryz.checked os 4 .any (fun w args => (Rows.pipesBeginSpec.pre enc Tryz.prog Tryz.f4 [] false w args ∧ laidMetH Tryz.prog pLaid w) ∧ sizedMet enc Tryz.prog Tryz.f4 (OpenSpec.ofChange Rows.pipesBeginSpec) false w args)
      (Rows.pipesBeginSpec.post enc Tryz.prog Tryz.f4 false true false false) := by
  refine law_lifted_laid (C := Tryz.checked) (fn := Tryz.f4) (tb := 4) own started pb_init Tryz.func4 p_laidOut pb_params (by kernel_rfl) (by kernel_rfl) rfl ?_
    (ChangeSpec.witness_shaped (enc := enc) (C := Tryz.checked) (os := os) (X := fun w _ => laidMetH Tryz.prog pLaid w) false (World.doorLaid Tryz.prog 400 os)
      #[.agg #[.int .u8 0, .int .u8 0, .bool false, .int .u8 0, .int .i64 0, .int .i64 0, .int .u8 0, .int .u8 0, .int .u8 0, .bool false, .bool false], .agg #[.int .u8 0, .int .u8 0, .int .u16 0, .int .u16 0, .int .u16 0, .slice none 0 0, .int .i64 0, .bool false, .slice none 0 0, .int .i64 0], .int .u8 0] 8 rfl (World.shaped_of_RefB (by as_aux_lemma => kernel_rfl) (by as_aux_lemma => kernel_rfl)) (by as_aux_lemma => kernel_rfl) (by as_aux_lemma => kernel_rfl) (by as_aux_lemma => kernel_rfl)
      (door_met os _)) ?_
  · intro ds hd
    match ds, hd with
    | [_, _, _], _ => rfl
  · intro W base args ds ps hval hA _ hL
    exact pb_calls hval hA (laidMet_ok p_laidG p_handles hL)

theorem pb_holds : Rows.PipesBeginSaid :=
  OpenClaim.holds_of_wide 4 Tryz.f4 rfl rfl rfl rfl rfl rfl rfl ⟨rfl, rfl, rfl, rfl, rfl⟩ rfl rfl rfl rfl rfl pb_func Tryz.func4 pb_joined pb_inst pb_wrap
    (fun os started H enc _ => pb_row os started H enc)

theorem pb_card : Rows.PipesBeginCardSaid :=
  Claim7.holds_tied_plain_at .later [] [.mapped] true (true, "d4c746dfe8ef4122fe88c999f1a5a00d338591a50c0b1c536345a85831607a44") false
    pb_holds (fun _ h => by cases h) (by as_aux_lemma => kernel_rfl) (fun _ h => by cases h) pipesBegin_row_tie rfl ⟨rfl, rfl⟩ (by as_aux_lemma => kernel_rfl) rfl
    (fun f fn hf hfn => by
      obtain rfl : f = 4 := Option.some.inj (pb_func.symm.trans hf) |>.symm
      obtain rfl : fn = Tryz.f4 := (Option.some.inj (Tryz.func4.symm.trans hfn)).symm
      exact ⟨by as_aux_lemma => kernel_rfl, fun j t ht => by
        have hm : t ∈ Tryz.f4.params.toList := by simpa using Array.mem_of_getElem? ht
        exact (show Tryz.prog.wantsStandIn t = false by simpa using List.all_eq_true.1 pb_standIn t hm)⟩)
    (by as_aux_lemma => kernel_rfl)
#print axioms pb_card
end Go.Proofs.YthapmkbeolbmiaaGreatDoor
