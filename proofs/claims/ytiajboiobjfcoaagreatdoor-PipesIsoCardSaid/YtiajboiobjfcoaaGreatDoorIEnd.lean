/-
  What is proved here: what periodics.End returns.
  Conditions: what the pieces' cells hold.
-/
import Derived.Test.YtiajboiobjfcoaaGreatDoorIIsoIn
namespace Go.Proofs.YtiajboiobjfcoaaGreatDoor
open Go.Proofs Go.RowKit
attribute [local go_sem] lt2 lt3 lt4 lt5
def PcsD (w : World) (us : List Value) (k : Nat) (e : Nat → Int) (d : Nat → List Int) : Prop :=
 us.length = 2 * k ∧ ∀ i, i < k → us[2 * i]? = some (.int .i64 (e i)) ∧ ∃ D, us[2 * i + 1]? = some D ∧ ((D = .slice none 0 0 ∧ d i = []) ∨ ∃ g c, D = .slice (some ⟨g, 0, none⟩) (d i).length c ∧ F8 w g (d i).length c (d i))
def EndAt (w : World) (g many k : Nat) (e : Nat → Int) (d : Nat → List Int) (wr : World) : Prop :=
 Below w.heap.size w wr ∧ ∃ cur : Array Value, wr.heap[g]? = some (.cells cur 76 (0, 0)) ∧ cur.size = many * 2 ∧ ∃ us, PcsD wr us k e d ∧ ∀ j, j < 2 * k → cur[j]? = us[j]?
theorem row_put (cur : Array Value) (k : Nat) (v0 v1 : Value) (h : k * 2 + 2 ≤ cur.size) {nw : Array Value} (e : (cur.toList.take (k * 2) ++ (#[v0, v1] : Array Value).toList ++ cur.toList.drop (k * 2 + (#[v0, v1] : Array Value).size)).toArray = nw) :
  nw.size = cur.size ∧ (∀ j, j < k * 2 → nw[j]? = cur[j]?) ∧ nw[k * 2]? = some v0 ∧ nw[k * 2 + 1]? = some v1 := by
 subst e
 have ht : (cur.toList.take (k * 2)).length = k * 2 := by simp; omega
 refine ⟨by simp; omega, fun j hj => ?_, ?_, ?_⟩
 ·simp only [List.getElem?_toArray, List.append_assoc]
  rw [List.getElem?_append_left (by omega), List.getElem?_take_of_lt hj]
  simp
 ·simp only [List.getElem?_toArray, List.append_assoc]
  rw [List.getElem?_append_right (by omega), ht]
  simp
 ·simp only [List.getElem?_toArray, List.append_assoc]
  rw [List.getElem?_append_right (by omega), ht]
  simp
theorem PcsD.below {w w' : World} {us : List Value} {k : Nat} {e : Nat → Int} {d : Nat → List Int} (h : PcsD w us k e d) (hk : ∀ (g : Nat) o, w.heap[g]? = some o → (∃ cs, o = .cells cs 5 (0, 0)) → w'.heap[g]? = some o) : PcsD w' us k e d :=
 ⟨h.1, fun i hi => ⟨(h.2 i hi).1, (h.2 i hi).2.elim fun D hD => ⟨D, hD.1, hD.2.imp id fun ⟨g, c, e', hF⟩ => ⟨g, c, e', by
  obtain ⟨f1, f2, f3, cs, f4, f5⟩ := hF
  exact ⟨f1, f2, f3, cs, hk _ _ f4 ⟨cs, rfl⟩, f5⟩⟩⟩⟩⟩
theorem PcsD.snoc {w : World} {us : List Value} {k : Nat} {e : Nat → Int} {d : Nat → List Int} (h : PcsD w us k e d) (D : Value) (hD : (D = .slice none 0 0 ∧ d k = []) ∨ ∃ g c, D = .slice (some ⟨g, 0, none⟩) (d k).length c ∧ F8 w g (d k).length c (d k)) : PcsD w (us ++ [.int .i64 (e k), D]) (k + 1) e d := by
 refine ⟨by rw [List.length_append, h.1]; simp; omega, fun i hi => ?_⟩
 by_cases hlt : i < k
 ·obtain ⟨h1, D', h2, h3⟩ := h.2 i hlt
  have := h.1
  exact ⟨by rw [List.getElem?_append_left (by omega)]; exact h1, D', by rw [List.getElem?_append_left (by omega)]; exact h2, h3⟩
 ·obtain rfl : i = k := by omega
  have := h.1
  refine ⟨?_, D, ?_, hD⟩
  ·rw [List.getElem?_append_right (by omega), h.1]; simp
  ·rw [List.getElem?_append_right (by omega), h.1]; simp
set_option maxHeartbeats 4000000 in
set_option maxRecDepth 1000000 in
theorem pend_ret (inn : Bool) (en mx m0 : Int) (many xc pn pc : Nat) (PA : Option Addr) (gX : Nat) (us : List Value) (e : Nat → Int) (d : Nat → List Int) (w : World) (h1 : 1 ≤ many) (h2 : many ≤ 256) (hX : Pcs w (some ⟨gX, 0, none⟩) many xc us) (hD : PcsD w us many e d) (hdl : ∀ i, (d i).length ≤ 1024) :
    Calls Tryz.prog 33 #[.agg #[.bool inn, .int .u8 en, .int .i64 mx, .slice PA pn pc, .int .i64 m0, .int .i64 (many : Int), .slice (some ⟨gX, 0, none⟩) many xc]] w fun e' w' => Below w.heap.size w w' ∧
      ∃ g us', e' = .returned (.tuple #[.slice (some ⟨g, 0, none⟩) many many, .bool true]) ∧ Pcs w' (some ⟨g, 0, none⟩) many many us' ∧ PcsD w' us' many e d ∧ w.heap.size ≤ g := by
  obtain ⟨i0, hi, hz0, hz1, hz2⟩ := info_parts infoPc
  obtain ⟨a, ea, hc⟩ := hX.cells h1
  cases ea
  have q0 : ((many : Int) == 0) = false := by simp; omega
  have q1 : decide ((many : Int) < (many : Int)) = false := by simp
  have hmk := fun (w : World) => run_makeSlice (P := Tryz.prog) w 50 76 i0 (.agg #[.int .i64 0, .slice none 0 0]) Tryz.underlying50 hi hz0 .i64 .i64 (many : Int) (many : Int) (by omega) (Int.le_refl _) (by rw [hz1]; simp; omega) (by rw [hz2]; omega) (by omega)
  simp only [Int.toNat_natCast, hz1] at hmk
  have hms : (madeCells (Value.agg #[.int .i64 0, .slice none 0 0]).cells (many * 2)).size = many * 2 := size_madeCells _ _
  generalize madeCells (Value.agg #[.int .i64 0, .slice none 0 0]).cells (many * 2) = mc at hmk hms
  go_enter Tryz.func33, Tryz.ntmps33
  go_wp2_with fail
  go_loopw [24] (fun i wr => ∃ k : Nat, i = .int .i64 k ∧ k ≤ many ∧ EndAt w (w.heap.size + 1) many k e d wr) (fun i _ => many - (intOf i).toNat)
  case atStart => exact ⟨0, rfl, by omega, (((Below.refl w.heap.size w).alloc (Nat.le_refl _) _).alloc (by simp) _), mc, alloc2_1 _ _ _, hms, [], ⟨rfl, fun i hi => by omega⟩, fun j hj => by omega⟩
  case round =>
    obtain ⟨k, rfl, hk, hb, cur, hg, hcs, us2, hD2, hcur⟩ := hrel
    by_cases hlt : k < many
    · have q2 : (k : Int) < (many : Int) := by omega
      obtain ⟨hk1, D, hk2, hDk⟩ := hD.2 k hlt
      have c0 := hc _ _ hk1
      have c1 := hc _ _ hk2
      rw [show (⟨gX, 0, none⟩ : Addr).add (2 * k) = ⟨gX, k * 2, none⟩ by unfold Addr.add; split <;> simp_all <;> omega] at c0
      rw [show (⟨gX, 0, none⟩ : Addr).add (2 * k + 1) = ⟨gX, k * 2 + 1, none⟩ by unfold Addr.add; split <;> simp_all <;> omega] at c1
      replace c0 := (hb.cell (World.block_lt_of_cell? _ _ c0)).trans c0
      replace c1 := (hb.cell (World.block_lt_of_cell? _ _ c1)).trans c1
      rcases hDk with ⟨rfl, hd0⟩ | ⟨gD, cD, rfl, hF⟩
      · go_upto_region 7 with fail
        have hgl : w.heap.size + 1 < wr.heap.size := (Array.getElem?_eq_some_iff.1 hg).1
        obtain ⟨w2, hw2⟩ : ∃ w2, wr.alloc (.cells #[.int .i64 (e k), .slice none 0 0] 76) = w2 := ⟨_, rfl⟩
        have hb2 : Below wr.heap.size wr w2 := by rw [← hw2]; exact (Below.refl _ _).alloc (Nat.le_refl _) _
        have hx2 : w2.heap[wr.heap.size]? = some (.cells #[.int .i64 (e k), .slice none 0 0] 76 (0, 0)) := by rw [← hw2]; exact heap_alloc_new wr _
        have hg2 := heap_below hg hb2
        rw [hw2]
        clear hw2 c0 c1 hg
        have hneq : ∀ w : World, (binOp .neq 23 (.slice none 0 0) (.slice none 0 0)).run Tryz.prog w = .ok (.bool false) w := fun w => by simp only [binOp]; simp [Op.equal, Op.maxDepth, Lib.run_equalIn_slice_nil w 9999 23 5 none 0 0 0 0 Tryz.underlying23]
        go_wp2_with (guard_target =~ wpList _ _ _ (_ :: _) _ _; first
          | refine wpList_load_row rfl (.tmp 6) 76 rfl wr.heap.size 76 _ _ rfl hx2 Tryz.underlying76 rfl (by kernel_rfl) ?_
          | (refine wpList_store_row rfl (.tmp 32) (.tmp 31) 76 rfl (w.heap.size + 1) (k * 2) 76 cur #[.int .i64 (e k), .slice none 0 0] _ rfl rfl hg2 (by kernel_rfl) (by simp; omega) rfl rfl ?_
             intro w3 hg3 hW3
             have hx3 := (hW3.other wr.heap.size (by omega)).trans hx2
             have x1 := cell_of hx3 1))
        obtain ⟨p1, p2, p3, p4⟩ := row_put cur k (.int .i64 (e k)) (.slice none 0 0) (by omega) rfl
        go_round
        case rel =>
          refine ⟨k + 1, by go_num, by omega, ((hb.trans (hb2.mono hb.size)).trans (hW3.below (by omega))), _, hg3, by rw [p1]; exact hcs, _, PcsD.snoc (hD2.below fun g o ho hcs' => ?_) (.slice none 0 0) (.inl ⟨rfl, hd0⟩), fun j hj => ?_⟩
          · have h' := heap_below ho hb2
            refine (hW3.other g ?_).trans h'
            rintro rfl
            rw [hg2] at h'
            obtain ⟨cs, rfl⟩ := hcs'
            cases h'
          · have hl2 := hD2.1
            by_cases hj1 : j < 2 * k
            · rw [p2 j (by omega), hcur j hj1, List.getElem?_append_left (by omega)]
            · by_cases hj2 : j = k * 2
              · subst hj2
                rw [p3, List.getElem?_append_right (by omega), hl2, show k * 2 - 2 * k = 0 by omega]
                rfl
              · obtain rfl : j = k * 2 + 1 := by omega
                rw [p4, List.getElem?_append_right (by omega), hl2, show k * 2 + 1 - 2 * k = 1 by omega]
                rfl
        case measure => simp [intOf]; omega
      · have hF' := (hF.heap (fun o ho => heap_below ho hb)).u8
        have hdk := hdl k
        obtain ⟨m, hm⟩ : ∃ m, (d k).length = m := ⟨_, rfl⟩
        rw [hm] at hF hF' c1
        go_upto_region 7 with fail
        have hgl : w.heap.size + 1 < wr.heap.size := (Array.getElem?_eq_some_iff.1 hg).1
        obtain ⟨w2, hw2⟩ : ∃ w2, wr.alloc (.cells #[.int .i64 (e k), .slice (some ⟨gD, 0, none⟩) m cD] 76) = w2 := ⟨_, rfl⟩
        have hb2 : Below wr.heap.size wr w2 := by rw [← hw2]; exact (Below.refl _ _).alloc (Nat.le_refl _) _
        have hx2 : w2.heap[wr.heap.size]? = some (.cells #[.int .i64 (e k), .slice (some ⟨gD, 0, none⟩) m cD] 76 (0, 0)) := by rw [← hw2]; exact heap_alloc_new wr _
        have hg2 := heap_below hg hb2
        have hU2 := hF'.below hb2
        rw [hw2]
        clear hw2 c0 c1 hg hF'
        have hneq : ∀ w : World, (binOp .neq 23 (.slice (some ⟨gD, 0, none⟩) m cD) (.slice none 0 0)).run Tryz.prog w = .ok (.bool true) w := fun w => by simp only [binOp]; simp [Op.equal, Op.maxDepth, Lib.run_equalIn_slice_nil w 9999 23 5 (some ⟨gD, 0, none⟩) m cD 0 0 Tryz.underlying23]
        go_wp2_with (guard_target =~ wpList _ _ _ (_ :: _) _ _; first
          | refine wpList_load_row rfl (.tmp 6) 76 rfl wr.heap.size 76 _ _ rfl hx2 Tryz.underlying76 rfl (by kernel_rfl) ?_
          | (refine wpList_store_row rfl (.tmp 32) (.tmp 31) 76 rfl (w.heap.size + 1) (k * 2) 76 cur #[.int .i64 (e k), .slice (some ⟨gD, 0, none⟩) m cD] _ rfl rfl hg2 (by kernel_rfl) (by simp; omega) rfl rfl ?_
             intro w3 hg3 hW3
             have hx3 := (hW3.other wr.heap.size (by omega)).trans hx2
             have x1 := cell_of hx3 1))
        obtain ⟨p1, p2, p3, p4⟩ := row_put cur k (.int .i64 (e k)) (.slice (some ⟨gD, 0, none⟩) m cD) (by omega) rfl
        have hU3 : U8 w3 (some ⟨gD, 0, none⟩) m cD (d k) := by
          refine u8_to hU2 ?_
          refine .inr fun a e' => ?_
          cases e'
          refine hW3.other gD ?_
          rintro rfl
          obtain ⟨_, _, _, cs, hF4, _⟩ := hF
          have := heap_below (heap_below hF4 hb) hb2
          rw [hg2] at this
          cases this
        refine (clone_p _ _ _ (d k) _ hU3 (by omega)).mono ?_
        rintro e' w4 ⟨g4, c4, rfl, hF4, hg4, hb4⟩
        rw [hm] at hF4 ⊢
        have hs3 : w3.heap.size = w2.heap.size := hW3.size
        have hs2 := hb2.size
        have hg4' := heap_below hg3 hb4
        have y0 := (cell_of hg4' (k * 2 + 1)).trans p4
        have f0 := frozen_of hg4' (k * 2 + 1)
        clear x1 hx3
        generalize (cur.toList.take (k * 2) ++ (#[Value.int .i64 (e k), .slice (some ⟨gD, 0, none⟩) m cD] : Array Value).toList ++ cur.toList.drop (k * 2 + (#[Value.int .i64 (e k), .slice (some ⟨gD, 0, none⟩) m cD] : Array Value).size)).toArray = nw at *
        go_wp2_with fail
        go_round
        case rel =>
          have hW5 := (Wrote.refl (w.heap.size + 1) w4).setCell (k * 2 + 1) (.slice (some ⟨g4, 0, none⟩) m c4)
          have hg5 := setCell_heap hg4' (k * 2 + 1) (.slice (some ⟨g4, 0, none⟩) m c4)
          refine ⟨k + 1, by go_num, by omega, ((((hb.trans (hb2.mono hb.size)).trans (hW3.below (by omega))).trans (hb4.mono (by have := hb.size; omega))).trans (hW5.below (by omega))), _, hg5, by rw [Array.size_setIfInBounds, p1]; exact hcs, _, PcsD.snoc (hD2.below fun g o ho hcs' => ?_) (.slice (some ⟨g4, 0, none⟩) (d k).length c4) (.inr ⟨g4, c4, rfl, ?_⟩), fun j hj => ?_⟩
          · have h' := heap_below ho hb2
            have hne : g ≠ w.heap.size + 1 := by
              rintro rfl
              rw [hg2] at h'
              obtain ⟨cs, rfl⟩ := hcs'
              cases h'
            exact (hW5.other g hne).trans (heap_below ((hW3.other g hne).trans h') hb4)
          · rw [hm]
            exact hF4.heap fun o ho => (hW5.other g4 (by omega)).trans ho
          · have hl2 := hD2.1
            rw [Array.getElem?_setIfInBounds]
            by_cases hj1 : j < 2 * k
            · rw [if_neg (by omega), p2 j (by omega), hcur j hj1, List.getElem?_append_left (by omega)]
            · by_cases hj2 : j = k * 2
              · subst hj2
                rw [if_neg (by omega), p3, List.getElem?_append_right (by omega), hl2, show k * 2 - 2 * k = 0 by omega]
                rfl
              · obtain rfl : j = k * 2 + 1 := by omega
                rw [if_pos rfl, if_pos (by omega), List.getElem?_append_right (by omega), hl2, show k * 2 + 1 - 2 * k = 1 by omega, hm]
                rfl
        case measure => simp [intOf]; omega
    · obtain rfl : k = many := by omega
      go_wp2_with fail
      go_ret2
      have hl2 := hD2.1
      refine ⟨hb, w.heap.size + 1, us2, rfl, ⟨by omega, Nat.le_refl _, .inr ⟨_, rfl, fun j v hj => ?_⟩⟩, hD2, by omega⟩
      have hjl := (List.getElem?_eq_some_iff.1 hj).1
      rw [show (⟨w.heap.size + 1, 0, none⟩ : Addr).add j = ⟨w.heap.size + 1, j, none⟩ by unfold Addr.add; split <;> simp_all]
      exact ((cell_of hg j).trans (hcur j (by omega))).trans hj
end Go.Proofs.YtiajboiobjfcoaaGreatDoor
