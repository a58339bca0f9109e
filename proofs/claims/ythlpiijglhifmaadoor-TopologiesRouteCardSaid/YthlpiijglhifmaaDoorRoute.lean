/-
  What is proved here: plugboardlaw20.TopologiesRoute returns true for every input.
  Conditions: the tables of unicode/utf8 are laid, which the card ties to the program's text.
-/
import Derived.Test.YthlpiijglhifmaaDoorRouteRuns
import Derived.Lay
import Derived.MakeChecks
namespace Go.Proofs.YthlpiijglhifmaaDoor
open Go.Sy Go.RowKit Go.ChangeShapes Go.WideShapes Go.ChangeAt

set_option maxRecDepth 1000000

theorem route_runs : ∀ r ∈ routeParts, allTrue (evFn Tryd.prog kwR 10 20 3 (paV routePa 0 0) (mem1 [] routePa) ⟨[], setRng (paR routePa) 0 fun _ => r⟩) = true := by
  intro r hr
  simp only [routeParts, List.mem_cons, List.not_mem_nil, or_false] at hr
  rcases hr with rfl | rfl | rfl | rfl | rfl | rfl
  · exact route_run0
  · exact route_run1
  · exact route_run2
  · exact route_run3
  · exact route_run4
  · exact route_run5

theorem route_cover : ∀ z : Int, 0 ≤ z → z ≤ 9223372036854775807 → ∃ r ∈ routeParts, r.1 ≤ z ∧ z ≤ r.2 := by
  intro z h0 h1
  rcases Int.lt_or_le z 4 with h | h
  · exact ⟨(0, 3), by simp [routeParts], h0, by omega⟩
  rcases Int.lt_or_le z 5 with g | g
  · exact ⟨(4, 4), by simp [routeParts], h, by show z ≤ 4; omega⟩
  rcases Int.lt_or_le z 6 with h | h
  · exact ⟨(5, 5), by simp [routeParts], g, by show z ≤ 5; omega⟩
  rcases Int.lt_or_le z 7 with g | g
  · exact ⟨(6, 6), by simp [routeParts], h, by show z ≤ 6; omega⟩
  rcases Int.lt_or_le z 9 with h | h
  · exact ⟨(7, 8), by simp [routeParts], g, by show z ≤ 8; omega⟩
  · exact ⟨(9, 9223372036854775807), by simp [routeParts], h, h1⟩

theorem route_lifted (os : Os) (started : os.Started) (H : Type) (enc : TypeId × Value → H) :
    ReturnsInHanded {} Tryd.checked os 3 .any (fun w args => (Rows.topologiesRouteSpec.pre enc Tryd.prog Tryd.f3 [] false w args ∧ laidMetH Tryd.prog laid w) ∧ sizedMet enc Tryd.prog Tryd.f3 (OpenSpec.ofChange Rows.topologiesRouteSpec) false w args)
      (Rows.topologiesRouteSpec.post enc Tryd.prog Tryd.f3 false true false false) := by
  refine law_lifted_laid (C := Tryd.checked) (fn := Tryd.f3) (tb := 4) own started (by kernel_rfl) Tryd.func3 laidOut (by kernel_rfl) (by kernel_rfl) (by kernel_rfl) rfl ?_
    (ChangeSpec.witness_shaped (enc := enc) (C := Tryd.checked) (os := os) (X := fun w _ => laidMetH Tryd.prog laid w) false (World.laidAll Tryd.prog os laid)
      #[.slice none 0 0, .slice none 0 0] 8 (World.laidAll_os _ _ _) (World.shaped_of_ZipB (by kernel_rfl) (by kernel_rfl)) (by kernel_rfl) (by kernel_rfl) (by kernel_rfl)
      (by rw [MakeChecks.laidMetH_plain _ _ _ (by kernel_rfl)]; exact laidMet_laidAll _ (by kernel_rfl) (by kernel_rfl))) ?_
  · intro ds hd
    match ds, hd with
    | [_, _], _ => rfl
  · intro W base args ds ps hval hA _ _
    exact law_callsR plain kwR_ok route_pa (by kernel_rfl) (by kernel_rfl) (by kernel_rfl) route_cover route_runs hval hA (fun x hx => nomatch hx)

theorem route_holds : Rows.TopologiesRouteSaid :=
  OpenClaim.holds_of_wide 3 Tryd.f3 rfl rfl rfl rfl rfl rfl rfl ⟨rfl, rfl, rfl, rfl, rfl⟩ rfl rfl rfl rfl rfl (by kernel_rfl) Tryd.func3 (by kernel_rfl)
    (of_decide_eq_true (by kernel_rfl)) (by unfold Func.isWrapper; first | (rw [if_pos (by decide +kernel)]; kernel_rfl) | (rw [if_neg (by decide +kernel)]; exact ⟨rfl, rfl⟩))
    (fun os started H enc _ => route_lifted os started H enc)

theorem route_card : Rows.TopologiesRouteCardSaid :=
  Claim7.holds_tied_plain_at .later [] [.data, .pinned] true (true, "3f21503484afaa1b60f5c58a029647d6514b0d2b5be7d8af00600eaa8802c000") false
    route_holds (fun _ h => by cases h) (by kernel_rfl) (fun _ h => by cases h) topologiesRoute_row_tie rfl ⟨rfl, rfl⟩ (by kernel_rfl) rfl
    (fun f fn hf hfn => by
      obtain rfl : f = 3 := Option.some.inj ((show Tryd.prog.funcNamed Rows.topologiesRouteRow.func = some 3 by kernel_rfl).symm.trans hf) |>.symm
      obtain rfl : fn = Tryd.f3 := (Option.some.inj (Tryd.func3.symm.trans hfn)).symm
      exact ⟨by kernel_rfl, fun j t ht => by
        have hm : t ∈ Tryd.f3.params.toList := by simpa using Array.mem_of_getElem? ht
        have hall : (Tryd.f3.params.toList.all fun u => !Tryd.prog.wantsStandIn u) = true := by kernel_rfl
        exact (show Tryd.prog.wantsStandIn t = false by simpa using List.all_eq_true.1 hall t hm)⟩)
    (by kernel_rfl)
#print axioms route_card
end Go.Proofs.YthlpiijglhifmaaDoor
