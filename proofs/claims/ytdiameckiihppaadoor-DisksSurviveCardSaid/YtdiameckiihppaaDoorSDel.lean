/-
  What is proved here: slices.Delete of one entry of the cache.
  Conditions: what the row holds.
-/
import Derived.Test.YtdiameckiihppaaDoorSRoom
import Derived.Lib.SliceRun
namespace Go.Proofs.YtdiameckiihppaaDoor
open Go.Proofs Go.RowKit

attribute [local go_sem] lt2 lt3 lt4 lt5
attribute [-go_sem] Builtin.append_

theorem infoEnt : (Tryd.prog.info? 69).map (fun i => (i.zero, i.size, i.bytes)) = some (some (.agg #[.int .i64 0, .slice none 0 0]), 2, 32) := by kernel_rfl

set_option maxHeartbeats 2000000 in
set_option maxRecDepth 100000 in
theorem delete_ret (b off n c i j : Nat) (xs : List Value) (w : World) (h : RowF w 69 2 (some ⟨b, off, none⟩) n c xs) (hi : i < n) (hn : n ≤ 1000) (hj : j = i + 1) :
    Calls Tryd.prog 67 #[.slice (some ⟨b, off, none⟩) n c, .int .i64 i, .int .i64 j] w fun e w' => e = .returned (.slice (some ⟨b, off, none⟩) (n - 1) c) ∧ RowF w' 69 2 (some ⟨b, off, none⟩) (n - 1) c (xs.take (i * 2) ++ xs.drop (j * 2)) ∧ Wrote b w w' := by
  have hnc := h.2.1
  have q1 : (i : Int) ≤ (j : Int) := by omega
  have q2 : (j : Int) ≤ (n : Int) := by omega
  have q3 : (n : Int) ≤ (c : Int) := by omega
  have q4 : ((i : Int) == (j : Int)) = false := by simp; omega
  have q5 : (i : Int) ≤ (c : Int) := by omega
  obtain ⟨m, hm⟩ : ∃ m, i + (n - j) = m := ⟨_, rfl⟩
  have hmn : m + 1 = n := by omega
  have hxl : xs.length = n * 2 := h.1
  have hapd : ∀ o', (c = j → o' = off) → (c ≠ j → o' = off + j * 2) → ∃ w1, (Builtin.append_ #[57, 57] 57 #[.slice (some ⟨b, off, none⟩) i c, .slice (some ⟨b, o', none⟩) (n - j) (c - j)]).run Tryd.prog w.drew = .ok (.slice (some ⟨b, off, none⟩) m c) w1 ∧ RowF w1 69 2 (some ⟨b, off, none⟩) m c (xs.take (i * 2) ++ xs.drop (j * 2)) ∧ Wrote b w w1 := by
    intro o' ho1 ho2
    obtain ⟨i0, hi0, hz0, hz1, hz2⟩ := info_parts infoEnt
    have hp := h.take (k := i) (by omega)
    have hp' : RowF w.drew 69 2 (some ⟨b, off, none⟩) i c (xs.take (i * 2)) := hp
    obtain ⟨w1, hr, hR, hW⟩ := hp'.append_room (P := Tryd.prog) (t := 57) Tryd.underlying57 hi0 hz1 ⟨b, o', none⟩ (n - j) (c - j) (xs.drop (j * 2)) (by rw [List.length_drop, hxl]; omega) (fun k u hk => by
      have hk2 : k < n * 2 - j * 2 := by have := (List.getElem?_eq_some_iff.1 hk).1; rwa [List.length_drop, hxl] at this
      rw [ho2 (by omega)]
      have h3 := h.cell (j := j * 2 + k) (by omega)
      rw [List.getElem?_drop] at hk
      rw [show (⟨b, off + j * 2, none⟩ : Addr).add k = (⟨b, off, none⟩ : Addr).add (j * 2 + k) by unfold Addr.add; split <;> split <;> simp_all <;> omega]
      exact h3.trans hk) (fun u hu => h.2.2.1 u (List.mem_of_mem_drop hu)) (by omega)
    rw [hm] at hr hR
    exact ⟨w1, hr, hR, ⟨hW.os, hW.tape, hW.output, hW.size, hW.other⟩⟩
  have HAP := Lib.hid hapd
  have HM := Lib.hid hm
  have HMN := Lib.hid hmn
  have q6 : ((c : Int) == (m : Int)) = false := by simp; omega
  have q7 : (m : Int) ≤ (n : Int) := by omega
  have q8 : (m : Int) ≤ (c : Int) := by omega
  clear hj hapd hm hmn hxl
  go_enter Tryd.func67, Tryd.ntmps67
  go_upto_region 5 with fail
  go_cut [0] from 20 to 26 (fun v wx => v = .slice (some ⟨b, off, none⟩) m c ∧ RowF wx 69 2 (some ⟨b, off, none⟩) m c (xs.take (i * 2) ++ xs.drop (j * 2)) ∧ Wrote b w wx)
  case first =>
    by_cases hcj : c = j
    · obtain ⟨w1, hrun, hR, hW⟩ := HAP.out off (fun _ => rfl) (fun h => absurd hcj h)
      have hd : (c = j) = True := eq_true hcj
      have HRW := Lib.hid (⟨hR, hW⟩ : _ ∧ _)
      clear hcj hR hW
      go_upto_region 5 with fail
      go_region
      all_goals
        go_wp2_with fail
        go_meet
        exact ⟨rfl, HRW.out⟩
    · obtain ⟨w1, hrun, hR, hW⟩ := HAP.out (off + j * 2) (fun h => absurd h hcj) (fun _ => rfl)
      have HRW := Lib.hid (⟨hR, hW⟩ : _ ∧ _)
      clear hR hW
      go_upto_region 5 with fail
      go_region
      all_goals
        go_wp2_with fail
        go_meet
        exact ⟨rfl, HRW.out⟩
  case rest =>
  obtain ⟨rfl, hR, hW⟩ := hcut
  have hmn := HMN.out
  subst hmn
  obtain ⟨_, _, _, ⟨h4, _⟩ | ⟨b', off', cs, e0, hb, hsz, hcs⟩⟩ := id hR
  · cases h4
  cases e0
  have hz : ∀ w, (zeroValue 69).run Tryd.prog w = .ok (.agg #[.int .i64 0, .slice none 0 0]) w := fun w => by rfl
  have hclr : (Builtin.clear_ #[57] 0 #[.slice (some ⟨b, off + m * 2, none⟩) 1 (c - m)]).run Tryd.prog wc = .ok (.tuple #[]) (wc.setCells b (off + m * 2) [.int .i64 0, .slice none 0 0]) :=
    run_clear_one wc 57 69 0 (.agg #[.int .i64 0, .slice none 0 0]) Tryd.underlying57 hz (by decide) b (off + m * 2) (c - m) (fun k hk => by rw [cell_of hb]; rw [Array.getElem?_eq_getElem (by have hk : k < 2 := hk; omega)]; rfl) (fun k hk => frozen_of hb _)
  have HR := Lib.hid hR
  have HWW := Lib.hid hW
  have HCS := Lib.hid hcs
  clear hR hW hcs
  go_wp2_with fail
  go_ret
  obtain ⟨cs', k1, k2, k3, k4, k5⟩ := setCells_heap [.int .i64 0, .slice none 0 0] (off + m * 2) wc cs hb (by simp only [List.length_cons, List.length_nil]; omega)
  exact ⟨rfl, ⟨HR.out.1, HR.out.2.1, HR.out.2.2.1, .inr ⟨b, off, cs', rfl, k1, by omega, fun k hk => (k4 _ (by omega)).trans (HCS.out k hk)⟩⟩, HWW.out.trans k5⟩
end Go.Proofs.YtdiameckiihppaaDoor
