/-
  What is proved here: what slices.Clone and slices.Clip return.
  Conditions: what the slice's cells hold.
-/
import Derived.Test.YthapmkbeolbmiaaDoorOWords
import Derived.Laws.AppendOwn
import Derived.OwnWalk
import Derived.WalkKit
import Derived.Lib.SliceRun
namespace Go.Proofs.YthapmkbeolbmiaaDoor
open Go.Proofs Go.RowKit

theorem info5 : (Tryd.prog.info? 5).map (fun i => (i.zero, i.size, i.bytes)) = some (some (.int .u8 0), 1, 1) := by kernel_rfl

/-- a list of its own, new: what Clone returns -/
def Copied (w : World) (xs : List Int) (e : Ending) (w' : World) : Prop :=
  ∃ g c, e = .returned (.slice (some ⟨g, 0, none⟩) xs.length c) ∧ U8 w' (some ⟨g, 0, none⟩) xs.length c xs ∧ Below w.heap.size w w'

theorem u8_of_own {w : World} {base n : Nat} {v : Value} {xs : List Int} (hr : ∀ x ∈ xs, 0 ≤ x ∧ x ≤ 255) (h : w.ownsRow base 5 1 v n (xs.map (Value.int .u8))) (hv : v ≠ .slice none 0 0) :
    ∃ g zn cap, v = .slice (some ⟨g, 0, none⟩) zn cap ∧ U8 w (some ⟨g, 0, none⟩) zn cap xs := by
  have hn : n = xs.length := by have := h.1; simp at this; omega
  subst hn
  rcases h.2 with ⟨rfl, _⟩ | ⟨g, cap, cur, rfl, hg, _, hcap, _⟩
  · exact absurd rfl hv
  · refine ⟨g, _, cap, rfl, rfl, hr, ?_, .inr ⟨_, rfl, fun j hj => ?_⟩⟩
    · exact hcap
    · rw [show (⟨g, 0, none⟩ : Addr).add j = ⟨g, j, none⟩ by unfold Addr.add; split <;> simp_all]
      rw [h.cellAt j (by simpa using hj)]
      simp [List.getElem?_eq_getElem hj]

set_option maxHeartbeats 2000000 in
theorem clone_u8 (a : Addr) (n c : Nat) (xs : List Int) (w : World) (hx : U8 w (some a) n c xs) (hn : n ≤ 200) :
    Calls Tryd.prog 27 #[.slice (some a) n c] w (Copied w xs) := by
  obtain ⟨i0, hi, hz0, hz1, hz2⟩ := info_parts info5
  obtain ⟨h1, h2, h3, ⟨h4, _⟩ | ⟨_, h4, h5⟩⟩ := hx
  · cases h4
  injection h4 with h4
  subst h4
  have hnil := fun (w : World) => Lib.run_eql_slice_nil (P := Tryd.prog) w 29 5 (some a) n c 0 0 Tryd.underlying29
  go_enter Tryd.func27, Tryd.ntmps27
  go_wp2_with (at_builtin; refine wpList_append_own _ rfl (.tmp 5) (.tmp 6) 29 rfl w.heap.size 5 i0 (.int .u8 0) 1 1 Tryd.underlying29 hi hz0 hz1 hz2 rfl (by decide) _ 0 [] rfl ?own a n c (xs.map (Value.int .u8)) rfl ?c1 ?c2 ?c3 ?c4 ?c5 ?c6 ?_)
  case own => exact World.ownsRow_made w #[] 0 (Nat.le_refl _) (by decide) rfl
  case c1 => simp [h1]
  case c2 =>
    intro j u hj
    rw [List.getElem?_map, Option.map_eq_some_iff] at hj
    obtain ⟨x, hx, rfl⟩ := hj
    have hjn : j < n := by rw [← h1]; exact (List.getElem?_eq_some_iff.1 hx).1
    have hcx := h5 j hjn
    rw [hx] at hcx
    rw [World.cell?_alloc_lt _ _ _ (World.block_lt_of_cell? _ _ hcx)]
    exact hcx
  case c3 =>
    intro u hu
    obtain ⟨x, _, rfl⟩ := List.mem_map.1 hu
    rfl
  case c4 => unfold maxLen; omega
  case c5 => omega
  case c6 => simp
  intro v' w1 hown hgrow hnn
  have hb1 : Below w.heap.size w w1 := ((Below.refl _ _).alloc (Nat.le_refl _) _).grown hgrow (by simp) (fun k hk => by simp [Value.ownBlock] at hk; omega)
  have hv : v' ≠ .slice none 0 0 := hnn
  obtain ⟨g, zn, cap, rfl, hu⟩ := u8_of_own h2 hown hv
  clear hown hgrow hnn hv hnil
  go_wp2
  go_ret
  exact ⟨g, cap, by rw [hu.1]; rfl, by rw [hu.1]; exact hu, hb1⟩

set_option maxHeartbeats 2000000 in
theorem clip_u8 (a : Addr) (n c : Nat) (w : World) (hc : n ≤ c) :
    Calls Tryd.prog 26 #[.slice (some a) n c] w fun e w' => e = .returned (.slice (some a) n n) ∧ w' = w := by
  go_enter Tryd.func26, Tryd.ntmps26
  go_wp2
  go_ret
  exact ⟨rfl, rfl⟩

theorem U8.clip {w : World} {a : Addr} {n c : Nat} {xs : List Int} (h : U8 w (some a) n c xs) : U8 w (some a) n n xs := by
  obtain ⟨h1, h2, _, ⟨h3, _⟩ | h3⟩ := h
  · cases h3
  · exact ⟨h1, h2, Nat.le_refl _, .inr h3⟩


theorem clone_n (a : Addr) (n c : Nat) (xs : List Int) (w : World) (hx : U8 w (some a) n c xs) (hn : n ≤ 200) :
    Calls Tryd.prog 27 #[.slice (some a) n c] w fun e w' => ∃ g cap, e = .returned (.slice (some ⟨g, 0, none⟩) n cap) ∧ n ≤ cap ∧ U8 w' (some ⟨g, 0, none⟩) n n xs ∧ Below w.heap.size w w' := by
  have h := hx.1
  subst h
  refine (clone_u8 a xs.length c xs w hx hn).mono ?_
  rintro e w' ⟨g, cap, rfl, hu, hb⟩
  exact ⟨g, cap, rfl, hu.2.2.1, hu.clip, hb⟩

end Go.Proofs.YthapmkbeolbmiaaDoor
