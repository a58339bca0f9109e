/-
  What is proved here: plugboardlaw18.HubsDevice returns true for every input.
  Conditions: the tables of unicode/utf8 are laid, which the card ties to the program's text.
-/
import Derived.Test.YtafkokkcnnfnlaaGreatDoorDA00
import Derived.Test.YtafkokkcnnfnlaaGreatDoorDA01
import Derived.Test.YtafkokkcnnfnlaaGreatDoorDA10
import Derived.Test.YtafkokkcnnfnlaaGreatDoorDA11
import Derived.Test.YtafkokkcnnfnlaaGreatDoorDB00
import Derived.Test.YtafkokkcnnfnlaaGreatDoorDB01
import Derived.Test.YtafkokkcnnfnlaaGreatDoorDB02
import Derived.Test.YtafkokkcnnfnlaaGreatDoorDB03
import Derived.Test.YtafkokkcnnfnlaaGreatDoorDB04
import Derived.Test.YtafkokkcnnfnlaaGreatDoorDB10
import Derived.Test.YtafkokkcnnfnlaaGreatDoorDB11
import Derived.Test.YtafkokkcnnfnlaaGreatDoorDB12
import Derived.Test.YtafkokkcnnfnlaaGreatDoorDB13
import Derived.Test.YtafkokkcnnfnlaaGreatDoorDB14
import Derived.Test.YtafkokkcnnfnlaaGreatDoorDC0
import Derived.Test.YtafkokkcnnfnlaaGreatDoorDC1
import Derived.Test.YtafkokkcnnfnlaaGreatDoorDCover
import Derived.Test.YtafkokkcnnfnlaaGreatDoorDFacts
import Derived.Test.YtafkokkcnnfnlaaGreatDoorCards
import Derived.Test.YtafkokkcnnfnlaaGreatDoorTie
import Derived.Lay
import Derived.MakeChecks
import Derived.SevenTiedAt
namespace Go.Proofs.YtafkokkcnnfnlaaGreatDoor
open Go.Sy Go.RowKit Go.ChangeShapes Go.WideShapes Go.ChangeAt

set_option maxRecDepth 1000000

/-- the laid variables -/
def hdLaid : List (String × DataW Unit) := Rows.hubsDeviceRow.laid

theorem dv_slots : slots Tryz.f3.ntmps (paV dvPa 0 0) = 340 := by kernel_rfl

theorem dv_headsA : ∀ q ∈ qsA, headA q = true := by
  intro q hq
  obtain ⟨x, hx, rfl⟩ := List.mem_map.1 hq
  obtain ⟨s, hs, hx⟩ := List.mem_flatMap.1 hx
  obtain ⟨f, hf, hx⟩ := List.mem_flatMap.1 hx
  have hs := List.mem_range.1 hs
  have hf := List.mem_range.1 hf
  match s, f, hs, hf with
  | 0, 0, _, _ => exact dvA_0_0 x hx
  | 0, 1, _, _ => exact dvA_0_1 x hx
  | 1, 0, _, _ => exact dvA_1_0 x hx
  | 1, 1, _, _ => exact dvA_1_1 x hx
  | s + 2, _, e, _ => exact absurd e (by omega)
  | _, f + 2, _, e => exact absurd e (by omega)

theorem all8 {f : Pc → Bool} {t : Nat} {pc : Pc} (h : ∀ l, l < 8 → f (partB t l pc) = true) : ∀ q ∈ qsL t pc, f q = true := fun q hq => by
  obtain ⟨l, hl, rfl⟩ := List.mem_map.1 hq
  exact h l (List.mem_range.1 hl)

theorem dv_headsB0 : ∀ q ∈ qsB (pnB 0).pc, headB 0 q = true := by
  have k0 : ∀ l, l < 8 → headB 0 (partB 0 l (pnB 0).pc) = true
    | 0, _ => dvB_0_0_0
    | 1, _ => dvB_0_0_1
    | 2, _ => dvB_0_0_2
    | 3, _ => dvB_0_0_3
    | 4, _ => dvB_0_0_4
    | 5, _ => dvB_0_0_5
    | 6, _ => dvB_0_0_6
    | 7, _ => dvB_0_0_7
    | _ + 8, e => absurd e (by omega)
  have k2 : ∀ l, l < 8 → headB 0 (partB 2 l (pnB 0).pc) = true
    | 0, _ => dvB_0_2_0
    | 1, _ => dvB_0_2_1
    | 2, _ => dvB_0_2_2
    | 3, _ => dvB_0_2_3
    | 4, _ => dvB_0_2_4
    | 5, _ => dvB_0_2_5
    | 6, _ => dvB_0_2_6
    | 7, _ => dvB_0_2_7
    | _ + 8, e => absurd e (by omega)
  have k3 : ∀ l, l < 7 → headB 0 (partB 3 (l + 1) (pnB 0).pc) = true
    | 0, _ => dvB_0_3_1
    | 1, _ => dvB_0_3_2
    | 2, _ => dvB_0_3_3
    | 3, _ => dvB_0_3_4
    | 4, _ => dvB_0_3_5
    | 5, _ => dvB_0_3_6
    | 6, _ => dvB_0_3_7
    | _ + 7, e => absurd e (by omega)
  intro q hq
  rcases List.mem_append.1 hq with hq | hq
  · rcases List.mem_append.1 hq with hq | hq
    · rcases List.mem_append.1 hq with hq | hq
      · rcases List.mem_append.1 hq with hq | hq
        · exact all8 k0 q hq
        · rcases List.mem_append.1 hq with hq | hq
          · rcases List.mem_append.1 hq with hq | hq
            · exact dvB_0_m0 q hq
            · exact dvB_0_m1 q hq
          · exact dvB_0_m2 q hq
      · exact all8 k2 q hq
    · obtain ⟨l, hl, rfl⟩ := List.mem_map.1 hq
      exact k3 l (List.mem_range.1 hl)
  · exact dvB_0_k q hq

theorem dv_headsB1 : ∀ q ∈ qsB (pnB 1).pc, headB 1 q = true := by
  have k0 : ∀ l, l < 8 → headB 1 (partB 0 l (pnB 1).pc) = true
    | 0, _ => dvB_1_0_0
    | 1, _ => dvB_1_0_1
    | 2, _ => dvB_1_0_2
    | 3, _ => dvB_1_0_3
    | 4, _ => dvB_1_0_4
    | 5, _ => dvB_1_0_5
    | 6, _ => dvB_1_0_6
    | 7, _ => dvB_1_0_7
    | _ + 8, e => absurd e (by omega)
  have k2 : ∀ l, l < 8 → headB 1 (partB 2 l (pnB 1).pc) = true
    | 0, _ => dvB_1_2_0
    | 1, _ => dvB_1_2_1
    | 2, _ => dvB_1_2_2
    | 3, _ => dvB_1_2_3
    | 4, _ => dvB_1_2_4
    | 5, _ => dvB_1_2_5
    | 6, _ => dvB_1_2_6
    | 7, _ => dvB_1_2_7
    | _ + 8, e => absurd e (by omega)
  have k3 : ∀ l, l < 7 → headB 1 (partB 3 (l + 1) (pnB 1).pc) = true
    | 0, _ => dvB_1_3_1
    | 1, _ => dvB_1_3_2
    | 2, _ => dvB_1_3_3
    | 3, _ => dvB_1_3_4
    | 4, _ => dvB_1_3_5
    | 5, _ => dvB_1_3_6
    | 6, _ => dvB_1_3_7
    | _ + 7, e => absurd e (by omega)
  intro q hq
  rcases List.mem_append.1 hq with hq | hq
  · rcases List.mem_append.1 hq with hq | hq
    · rcases List.mem_append.1 hq with hq | hq
      · rcases List.mem_append.1 hq with hq | hq
        · exact all8 k0 q hq
        · rcases List.mem_append.1 hq with hq | hq
          · rcases List.mem_append.1 hq with hq | hq
            · exact dvB_1_m0 q hq
            · exact dvB_1_m1 q hq
          · exact dvB_1_m2 q hq
      · exact all8 k2 q hq
    · obtain ⟨l, hl, rfl⟩ := List.mem_map.1 hq
      exact k3 l (List.mem_range.1 hl)
  · exact dvB_1_k q hq

theorem dv_headsB : ∀ s, s < 2 → ∀ q ∈ qsB (pnB s).pc, headB s q = true
  | 0, _ => dv_headsB0
  | 1, _ => dv_headsB1
  | _ + 2, e => absurd e (by omega)

theorem dv_ends : ∀ s, s < 2 → ∀ q ∈ qsC s, endC s q = true
  | 0, _ => dvC_0
  | 1, _ => dvC_1
  | _ + 2, e => absurd e (by omega)

theorem dv_calls {H : Type} {enc : TypeId × Value → H} {W : World} {base : Nat} {args : Array Value} {ds : List (DataW H)} {ps : List MemPlace} (hval : ∀ (j : Nat) t v, Tryz.f3.params[j]? = some t → args[j]? = some v → Value.okWide Tryz.prog W .any base t v)
    (hA : DataW.TrodAll enc Tryz.prog W 0 (fun _ => true) true Tryz.f3.params.toList args.toList ds ps) : Calls Tryz.prog 3 args W (LawEnd W) := by
  refine law_code1 (g := []) dv_pa (by kernel_rfl) Tryz.func3 dv_body (by kernel_rfl) hval hA LaidW.nil fun a w h0 => ?_
  rw [dv_slots] at h0
  refine headC_hds (hs := [(3, [])]) (fn := Tryz.f3) (t := 6) (H := hdB) (d := pathA) (it := 10) plain.mixed cfA_ok (by kernel_rfl) (by kernel_rfl) dv_cover (fun q hq => dv_headsA q hq) (fun s a w hs h1 => ?_) (fun a w h => h) h0
  show restA.wp Tryz.prog (bodyPost Tryz.prog Tryz.f3 (LawEnd W)) a w
  have hs : s < 2 := (blt_iff _ _).1 hs
  refine headC_hds (hs := []) (fn := Tryz.f3) (t := 6) (H := hdC) (d := pathB) (it := 10) plain.mixed cfA_ok (by kernel_rfl) (by kernel_rfl) (fun ρ _ hp => reqs_cover hp (by rfl) (by rfl) (by rfl)) (fun q hq => dv_headsB s hs q hq) (fun s a w hs h2 => ?_) (fun a w h => h) h1
  show restC.wp Tryz.prog (bodyPost Tryz.prog Tryz.f3 (LawEnd W)) a w
  have hs : s < 2 := (blt_iff _ _).1 hs
  exact end_hds (fn := Tryz.f3) (t := 6) (it := 10) plain.mixed cfA_ok (by kernel_rfl) (by kernel_rfl) (ends_cover hs) (dv_ends s hs) h2

theorem hd_row (os : Os) (started : os.Started) (H : Type) (enc : TypeId × Value → H) :
    ReturnsInHanded {} Tryz.checked os 3 .any (fun w args => (Rows.hubsDeviceSpec.pre enc Tryz.prog Tryz.f3 [] false w args ∧ laidMetH Tryz.prog hdLaid w) ∧ sizedMet enc Tryz.prog Tryz.f3 (OpenSpec.ofChange Rows.hubsDeviceSpec) false w args)
      (Rows.hubsDeviceSpec.post enc Tryz.prog Tryz.f3 false true false false) := by
  refine law_lifted_laid (C := Tryz.checked) (fn := Tryz.f3) (tb := 4) own started hd_init Tryz.func3 p_laidOut hd_params (by kernel_rfl) (by kernel_rfl) rfl ?_
    (ChangeSpec.witness_shaped (enc := enc) (C := Tryz.checked) (os := os) (X := fun w _ => laidMetH Tryz.prog hdLaid w) false (World.laidAll Tryz.prog os hdLaid)
      #[.int .u8 0, .int .u8 0, .agg #[.int .u8 0, .int .u8 0, .int .u8 0, .int .u8 0]] 8 (World.laidAll_os _ _ _) (World.shaped_of_ZipB (by as_aux_lemma => kernel_rfl) (by as_aux_lemma => kernel_rfl)) (by as_aux_lemma => kernel_rfl) (by as_aux_lemma => kernel_rfl) (by as_aux_lemma => kernel_rfl)
      (by rw [MakeChecks.laidMetH_plain _ _ _ (by kernel_rfl)]; exact laidMet_laidAll _ (by as_aux_lemma => kernel_rfl) (by as_aux_lemma => kernel_rfl))) ?_
  · intro ds hd
    match ds, hd with
    | [_, _, _], _ => rfl
  · intro W base args ds ps hval hA _ _
    exact dv_calls hval hA

theorem hd_holds : Rows.HubsDeviceSaid :=
  OpenClaim.holds_of_wide 3 Tryz.f3 rfl rfl rfl rfl rfl rfl rfl ⟨rfl, rfl, rfl, rfl, rfl⟩ rfl rfl rfl rfl rfl hd_func Tryz.func3 hd_joined hd_inst hd_wrap
    (fun os started H enc _ => hd_row os started H enc)

theorem hd_card : Rows.HubsDeviceCardSaid :=
  Claim7.holds_tied_plain_at .later [] [.data, .pinned] true (true, "75a790aaf3a4542bb34ef3ee32452b1630513ef21e2093feda86a2bfda5a4539") true
    hd_holds (fun _ h => by cases h) (by as_aux_lemma => kernel_rfl) (fun _ h => by cases h) hubsDevice_row_tie rfl ⟨rfl, rfl⟩ (by as_aux_lemma => kernel_rfl) rfl
    (fun f fn hf hfn => by
      obtain rfl : f = 3 := Option.some.inj (hd_func.symm.trans hf) |>.symm
      obtain rfl : fn = Tryz.f3 := (Option.some.inj (Tryz.func3.symm.trans hfn)).symm
      exact ⟨by as_aux_lemma => kernel_rfl, fun j t ht => by
        have hm : t ∈ Tryz.f3.params.toList := by simpa using Array.mem_of_getElem? ht
        exact (show Tryz.prog.wantsStandIn t = false by simpa using List.all_eq_true.1 hd_standIn t hm)⟩)
    (by as_aux_lemma => kernel_rfl)
#print axioms hd_card
end Go.Proofs.YtafkokkcnnfnlaaGreatDoor
