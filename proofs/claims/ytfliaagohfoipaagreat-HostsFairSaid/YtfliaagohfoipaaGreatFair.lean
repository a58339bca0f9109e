/-
  What is proved here: plugboardlaw26.HostsFair returns true for every input.
  Conditions: none.
-/
import Derived.Test.YtfliaagohfoipaaGreatFHead
import Derived.Test.YtfliaagohfoipaaGreatFRounds
import Derived.Test.YtfliaagohfoipaaGreatFaFacts
namespace Go.Proofs.YtfliaagohfoipaaGreat
open Go.Sy Go.RowKit Go.ChangeShapes Go.WideShapes Go.ChangeAt

set_option maxRecDepth 1000000

theorem one_cover {p : Pc} {J : (Nat → Int) → Prop} : ∀ ρ, J ρ → PcR ρ p → ∃ q ∈ [p], PcR ρ q := fun _ _ h => ⟨_, .head _, h⟩
theorem one_run {p : Pc} {f : Pc → Bool} (h : f p = true) : ∀ q ∈ [p], f q = true := fun q hq => by
  simp only [List.mem_singleton] at hq
  subst hq; exact h

noncomputable def faQs : List Pc := [faQ 1, faQ 2, faQ 3, faQ 4, faQ 5, faQ 6, faQ 7, faQ 8, faQ 9, faQ 10, faQ 11, faQ 12]
theorem fa_heads : ∀ q ∈ faQs, headF q = true := by
  simp only [faQs, List.forall_mem_cons]
  exact ⟨fa_head1, fa_head2, fa_head3, fa_head4, fa_head5, fa_head6, fa_head7, fa_head8, fa_head9, fa_head10, fa_head11, fa_head12, fun _ h => nomatch h⟩

theorem fa_cover {J : (Nat → Int) → Prop} : ∀ ρ, J ρ → PcR ρ ⟨[], paR faPa⟩ → ∃ q ∈ faQs, PcR ρ q := by
  intro ρ _ hp
  have h0 := hp.rng 0 0 255 rfl
  obtain ⟨x, hx⟩ := Int.eq_ofNat_of_zero_le h0.1
  have hm : ∀ n, n < 12 → faQ (n + 1) ∈ faQs := by
    intro n hn
    match n, hn with
    | 0, _ => simp [faQs]
    | 1, _ => simp [faQs]
    | 2, _ => simp [faQs]
    | 3, _ => simp [faQs]
    | 4, _ => simp [faQs]
    | 5, _ => simp [faQs]
    | 6, _ => simp [faQs]
    | 7, _ => simp [faQs]
    | 8, _ => simp [faQs]
    | 9, _ => simp [faQs]
    | 10, _ => simp [faQs]
    | 11, _ => simp [faQs]
    | _ + 12, h => exact absurd h (by omega)
  refine ⟨_, hm (x % 12) (by omega), fun c hc => ?_, hp.rng⟩
  have hc : c ∈ [((.eq (.bin .rem .u8 (.x 0) (.n 12)) (.n (.ofNat (x % 12 + 1 - 1))), true) : B × Bool)] := hc
  obtain rfl := List.mem_singleton.1 hc
  show ((ρ 0).tmod 12 == Int.ofNat (x % 12 + 1 - 1)) = true
  rw [hx]; exact beq_iff_eq.2 (Int.ofNat_tmod x 12).symm

theorem fa_calls {H : Type} {enc : TypeId × Value → H} {W : World} {base : Nat} {args : Array Value} {ds : List (DataW H)} {ps : List MemPlace} (hval : ∀ (j : Nat) t v, Tryz.f3.params[j]? = some t → args[j]? = some v → Value.okWide Tryz.prog W .any base t v)
    (hA : DataW.TrodAll enc Tryz.prog W 0 (fun _ => true) true Tryz.f3.params.toList args.toList ds ps) : Calls Tryz.prog 3 args W (LawEnd W) := by
  refine law_code1 (g := []) fa_pa (by kernel_rfl) Tryz.func3 fa_body (by kernel_rfl) hval hA LaidW.nil fun a w h0 => ?_
  rw [fa_slots] at h0
  refine head_hds (fn := Tryz.f3) (t := 4) (H := hdF) (d := faPath) (it := 14) plain.mixed cfH_ok (by kernel_rfl) (by kernel_rfl) fa_cover (fun q hq => fa_heads q hq) (fun h a w hh h1 => ?_) (fun a w h => h) h0
  show (place faPath faCode).wp Tryz.prog (Exit.inBlock (cId (place [.r, .r, .r, .r, .r, .r, .l, .r] faCode)) (Exit.then (faRest.wp Tryz.prog _) _)) a w
  rw [fa_loop, fa_id]
  refine loop_hds (fn := Tryz.f3) (t := 4) (H := hdF) (HX := hdX) (lt := ltF) (it := 40) plain.mixed cfH_ok (by kernel_rfl) (by kernel_rfl) (fun h _ => muF h) (fun h h' r ρ _ _ hl _ _ => (blt_iff _ _).1 hl) (cs := fun h => [(pnH h).pc]) (fun h _ ρ hp => ⟨_, .head _, hp⟩)
    (fun h hh => one_run (f := fun q => goodT (leafL hdF hdX ltF 0 4 h) (evCode faLoop Tryz.prog cfH 40 90 (pnH h).env (pnH h).mem q)) (by
      obtain ⟨e1, e2⟩ := andB_ok (show andB (Nat.blt h 384) (Nat.blt (h % 32) 31) = true from hh)
      exact fa_rounds h ((blt_iff _ _).1 e1) ((blt_iff _ _).1 e2))) (fun h a w _ h2 => ?_) (fun a w h => h) (h := h) hh h1
  show (if (0 : Nat) = 0 then faRest.wp Tryz.prog (bodyPost Tryz.prog Tryz.f3 (LawEnd W)) a w else bodyPost Tryz.prog Tryz.f3 (LawEnd W) (.exit 0) a w)
  rw [if_pos rfl]
  exact end_hds (fn := Tryz.f3) (t := 4) (it := 14) plain.mixed cfH_ok (by kernel_rfl) (by kernel_rfl) one_cover (one_run fa_end) h2

theorem hf_row (os : Os) (started : os.Started) (H : Type) (enc : TypeId × Value → H) :
    ReturnsInHanded {} Tryz.checked os 3 .any (Rows.hostsFairSpec.pre6 enc Tryz.prog Tryz.f3 [] false) (Rows.hostsFairSpec.post enc Tryz.prog Tryz.f3 false true false false) := by
  refine law_lifted (C := Tryz.checked) (fn := Tryz.f3) own started hf_init Tryz.func3 p_laidOut hf_params (tb := 4) (by kernel_rfl) (by kernel_rfl) rfl ?_
    (ChangeSpec.witness6 (enc := enc) (C := Tryz.checked) false ⟨#[], #[.int .u8 0, .int .u8 0], []⟩ 8 (by as_aux_lemma => kernel_rfl) (by as_aux_lemma => kernel_rfl) (by as_aux_lemma => kernel_rfl) (by as_aux_lemma => kernel_rfl)) ?_
  · intro ds hd
    match ds, hd with
    | [_, _], _ => rfl
  · intro W base args ds ps hval hA _
    exact fa_calls hval hA

theorem hf_holds : Rows.HostsFairSaid :=
  OpenClaim.holds_of_wide 3 Tryz.f3 rfl rfl rfl rfl rfl rfl rfl ⟨rfl, rfl, rfl, rfl, rfl⟩ rfl rfl rfl rfl rfl hf_func Tryz.func3 hf_joined hf_inst hf_wrap
    (fun os started H enc _ => hf_row os started H enc)
#print axioms hf_holds
end Go.Proofs.YtfliaagohfoipaaGreat
