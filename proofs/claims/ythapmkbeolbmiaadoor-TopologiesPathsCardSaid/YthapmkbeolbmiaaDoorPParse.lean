/-
  What is proved here: what topologies.Parse returns.
  Conditions: the text is short.
-/
import Derived.Test.YthapmkbeolbmiaaDoorPSplit
import Derived.Test.YthapmkbeolbmiaaDoorPClone
namespace Go.Proofs.YthapmkbeolbmiaaDoor
open Go.Proofs Go.RowKit

/-- what Parse is to return: the ports of good pieces in new memory, or an error -/
def ParsedIs (p : List (List UInt8)) (w : World) (e : Ending) (w' : World) : Prop :=
  Below w.heap.size w w' ∧ ((goodB p = true ∧ ∃ g, e = .returned (.tuple #[.slice (some ⟨g, 0, none⟩) p.length p.length, .int .i64 0]) ∧ U8 w' (some ⟨g, 0, none⟩) p.length p.length (ports p)) ∨
    (goodB p = false ∧ e = .returned (.tuple #[.slice none 0 0, .int .i64 4])))

/-- a piece as a text -/
theorem cutsB_get {s : ByteArray} {k : Nat} {l : List UInt8} (h : (cuts s.data.toList)[k]? = some l) : (cutsB s)[k]? = some ⟨l.toArray⟩ := by
  unfold cutsB; rw [List.getElem?_map, h]; rfl

theorem bad_long {p : List (List UInt8)} (h : 6 < p.length) : goodB p = false := by
  unfold goodB
  rw [decide_eq_false (by omega), Bool.false_and]
theorem bad_one {p : List (List UInt8)} {k : Nat} {l : List UInt8} (h : p[k]? = some l) (hl : oneB l = false) : goodB p = false := by
  unfold goodB
  rw [Bool.and_eq_false_iff]
  refine .inr (Bool.eq_false_iff.2 fun e => ?_)
  have := List.all_eq_true.1 e l (List.mem_of_getElem? h)
  rw [hl] at this
  cases this
theorem take_all {p : List (List UInt8)} {k : Nat} {l : List UInt8} (h : p[k]? = some l) (hl : oneB l = true) (ha : (p.take k).all oneB = true) : (p.take (k + 1)).all oneB = true := by
  rw [List.take_add_one, h, List.all_append, ha]
  simp [hl]
theorem take_ports {p : List (List UInt8)} {k : Nat} {c : UInt8} (h : p[k]? = some [c]) : ports (p.take (k + 1)) = ports (p.take k) ++ [(c.toNat : Int) - 48] := by
  unfold ports
  rw [List.take_add_one, h, List.map_append]
  rfl
theorem ports_range {p : List (List UInt8)} (h : p.all oneB = true) : ∀ x ∈ ports p, 0 ≤ x ∧ x ≤ 255 := by
  intro x hx
  obtain ⟨l, hl, rfl⟩ := List.mem_map.1 hx
  have h2 := List.all_eq_true.1 h l hl
  match l, h2 with
  | [], h => simp [oneB] at h
  | [c], h =>
    simp only [oneB, digB, Bool.and_eq_true, decide_eq_true_eq] at h
    show 0 ≤ (c.toNat : Int) - 48 ∧ (c.toNat : Int) - 48 ≤ 255
    omega
  | _ :: _ :: _, h => simp [oneB] at h

set_option maxHeartbeats 4000000 in
set_option maxRecDepth 1000000 in
theorem parse_any (s : ByteArray) (w : World) (hs : s.size < 4294967281) :
    Calls Tryd.prog 10 #[.string s] w (ParsedIs (cuts s.data.toList) w) := by
  obtain ⟨i0, hi, hz0, hz1, hz2⟩ := info_parts info5
  obtain ⟨N, hN⟩ : ∃ N, N = (cuts s.data.toList).length := ⟨_, rfl⟩
  have HN := Lib.hid hN
  have hsp := fun w => split_any s N w hs hN
  clear hN
  go_enter Tryd.func10, Tryd.ntmps10
  go_wp2_with (at_make; refine wpList_make_own _ rfl _ _ 29 rfl w.heap.size 5 i0 (.int .u8 0) 1 Tryd.underlying29 hi hz0 hz1 .i64 .i64 _ 6 rfl rfl rfl (by rw [hz2]; omega) (by unfold maxLen; omega) (Nat.le_refl _) ?_; intro w0 hown0 hgrow0)
  refine (hsp _).mono ?_
  rintro e w1 ⟨rfl, rfl⟩
  have hgp : w.heap.size < w0.heap.size := by
    obtain ⟨_, h | ⟨g, cap, cur, hv, _, hh, _⟩⟩ := hown0
    · exact absurd h.1 (by simp)
    · injection hv with hv
      injection hv with hv
      injection hv with hv
      subst hv
      exact (Array.getElem?_eq_some_iff.1 hh).1
  have hb0 : Below w.heap.size w w0 := (Below.refl _ _).grown hgrow0 (Nat.le_refl _) (fun k hk => by cases hk)
  have hcl : (cutsB s).length = N := by unfold cutsB; rw [List.length_map, HN.out]
  have hcells : ∀ j, j < N → (w0.alloc (.cells ((cutsB s).map Value.string).toArray 9)).cell? ⟨w0.heap.size, j, none⟩ = some (.string ((cutsB s)[j]?.getD ByteArray.empty)) := by
    intro j hj
    rw [World.cell?_alloc_at _ _ _ _ rfl]
    have hl : j < (cutsB s).length := by omega
    simp [List.getElem?_eq_getElem hl]
  have hown1 := hown0.alloc (.cells ((cutsB s).map Value.string).toArray 9)
  have hb1 : Below w.heap.size w (w0.alloc (.cells ((cutsB s).map Value.string).toArray 9)) := hb0.alloc hb0.size _
  have hsz : w0.heap.size < (w0.alloc (.cells ((cutsB s).map Value.string).toArray 9)).heap.size := by simp
  clear hown0 hsp hgrow0 hb0 hcl
  go_wp2_with fail
  go_loopw [4, 11] (fun p i wr => ∃ k : Nat, k ≤ N ∧ k ≤ 6 ∧ i = .int .i64 k ∧ p = .slice (some ⟨w.heap.size, 0, none⟩) k 6 ∧ wr.ownsRow w.heap.size 5 1 (.slice (some ⟨w.heap.size, 0, none⟩) k 6) k ((ports ((cuts s.data.toList).take k)).map (Value.int .u8)) ∧
      Hid (∀ j, j < N → wr.cell? ⟨w0.heap.size, j, none⟩ = some (.string ((cutsB s)[j]?.getD ByteArray.empty))) ∧ Hid (((cuts s.data.toList).take k).all oneB = true) ∧ Below w.heap.size w wr ∧ w0.heap.size < wr.heap.size) (fun _ i _ => N - (intOf i).toNat)
  case atStart => exact ⟨0, by omega, by omega, rfl, rfl, hown1, Lib.hid hcells, Lib.hid rfl, hb1, hsz⟩
  case round =>
    clear hcells hown1 hb1 hsz
    obtain ⟨k, h1, h2, rfl, rfl, hown, HC, HA, hbel, hsz⟩ := hrel
    by_cases hk : k < N
    · obtain ⟨l, EL⟩ : ∃ l, Hid ((cuts s.data.toList)[k]? = some l) := ⟨_, Lib.hid (List.getElem?_eq_getElem (by rw [← HN.out]; exact hk))⟩
      have hc := HC.out k hk
      rw [cutsB_get EL.out] at hc
      by_cases h6 : k = 6
      · subst h6
        have HB := Lib.hid (bad_long (p := cuts s.data.toList) (by rw [← HN.out]; omega))
        go_wp2_with fail
        go_ret2
        exact ⟨hbel, .inr ⟨HB.out, rfl⟩⟩
      · have d6 : ((k : Int) == 6) = false := by simp; omega
        have hk6 : k + 1 ≤ 6 := by omega
        clear h6
        rcases l with _ | ⟨c, _ | ⟨d, r⟩⟩
        · have HB := Lib.hid (bad_one EL.out rfl)
          go_wp2_with fail
          go_ret2
          exact ⟨hbel, .inr ⟨HB.out, rfl⟩⟩
        · have he : ∀ h, (⟨#[c]⟩ : ByteArray)[0]'h = c := fun _ => rfl
          by_cases hd1 : c.toNat < 49
          · have HB := Lib.hid (bad_one EL.out (by simp [oneB, digB]; omega))
            have dd : decide ((c.toNat : Int) < 49) = true := by simp; omega
            go_wp2_with fail
            go_ret2
            exact ⟨hbel, .inr ⟨HB.out, rfl⟩⟩
          · have dd : decide ((c.toNat : Int) < 49) = false := by simp; omega
            by_cases hd2 : 55 < c.toNat
            · have HB := Lib.hid (bad_one EL.out (by simp [oneB, digB]; omega))
              have de : decide ((55 : Int) < (c.toNat : Int)) = true := by simp; omega
              go_wp2_with fail
              go_ret2
              exact ⟨hbel, .inr ⟨HB.out, rfl⟩⟩
            · have de : decide ((55 : Int) < (c.toNat : Int)) = false := by simp; omega
              have hone : oneB [c] = true := by simp [oneB, digB]; omega
              have HA2 := Lib.hid (take_all EL.out hone HA.out)
              have HP := Lib.hid (take_ports EL.out)
              go_wp2_with (at_builtin; refine wpList_append_fits _ rfl (.tmp 33) (.tmp 37) 29 rfl w.heap.size 5 i0 1 Tryd.underlying29 hi hz1 w.heap.size k 6 _ rfl (hown.alloc _) ⟨wr.heap.size, 0, none⟩ 1 1 [.int .u8 ((c.toNat : Int) - 48)] rfl rfl ?d1 ?d2 hk6 ?_)
              case d1 =>
                intro j u hj
                match j, hj with
                | 0, hj =>
                  simp at hj; subst hj
                  rw [show (⟨wr.heap.size, 0, none⟩ : Addr).add 0 = ⟨wr.heap.size, 0, none⟩ by simp [Addr.add], World.cell?_alloc_at _ _ _ _ rfl]; rfl
              case d2 => intro u hu; simp at hu; subst hu; rfl
              intro w2 hown2 hgrow2
              have hszw : w.heap.size ≤ wr.heap.size := hbel.size
              have hb2 : Below w.heap.size w w2 := (hbel.alloc hbel.size _).grown hgrow2 (by simp; omega) (fun k hk => by injection hk with hk; omega)
              have hc2 := Lib.hid (show ∀ j, j < N → w2.cell? ⟨w0.heap.size, j, none⟩ = some (.string ((cutsB s)[j]?.getD ByteArray.empty)) from fun j hj => by
                have e := HC.out j hj
                rw [World.cell?_of_block (hgrow2.block w0.heap.size (by simp; omega) (by simp; omega))]
                exact (World.cell?_alloc_lt _ _ _ hsz).trans e)
              have hs2 : w0.heap.size < w2.heap.size := by
                have := hgrow2.size
                simp at this
                omega
              have hown3 : w2.ownsRow w.heap.size 5 1 (.slice (some ⟨w.heap.size, 0, none⟩) (k + 1) 6) (k + 1) ((ports ((cuts s.data.toList).take (k + 1))).map (Value.int .u8)) := by
                rw [HP.out, List.map_append]
                exact hown2
              clear hown2 hgrow2 hown hbel HC HA hc
              go_wp2_with fail
              go_roundw
              case rel => exact ⟨k + 1, by omega, by omega, by go_num, rfl, hown3, hc2, HA2, hb2, hs2⟩
              case measure => simp [intOf]; omega
        · have HB := Lib.hid (bad_one EL.out rfl)
          have dl : (((r.length + 1 + 1 : Nat) : Int) != 1) = true := by simp; omega
          go_wp2_with fail
          go_ret2
          exact ⟨hbel, .inr ⟨HB.out, rfl⟩⟩
    · have hkN : k = N := by omega
      subst hkN
      have hall : (cuts s.data.toList).all oneB = true := by
        have := HA.out
        rwa [List.take_of_length_le (by rw [← HN.out]; exact Nat.le_refl _)] at this
      have hpr := ports_range hall
      have hown' : wr.ownsRow w.heap.size 5 1 (.slice (some ⟨w.heap.size, 0, none⟩) k 6) k ((ports (cuts s.data.toList)).map (Value.int .u8)) := by
        rwa [List.take_of_length_le (by rw [← HN.out]; exact Nat.le_refl _)] at hown
      obtain ⟨g', zn, cap', hv, hu⟩ := u8_of_own hpr hown' (by simp)
      injection hv with e1 e2 e3
      injection e1 with e1
      injection e1 with e1
      subst e1 e2 e3
      have HG := Lib.hid (show goodB (cuts s.data.toList) = true by
        unfold goodB
        rw [hall, decide_eq_true (by rw [← HN.out]; exact h2)]; rfl)
      clear hown hown' hpr hall HA HC
      go_wp2_with fail
      refine (clone_n ⟨w.heap.size, 0, none⟩ k 6 (ports (cuts s.data.toList)) _ hu (by omega)).mono ?_
      rintro e w2 ⟨g, c2, rfl, hcap, hu2, hb2⟩
      go_wp2_with fail
      refine (clip_u8 _ _ _ _ hcap).mono ?_
      rintro e w3 ⟨rfl, rfl⟩
      go_wp2_with fail
      go_ret2
      rw [HN.out] at hu2 ⊢
      exact ⟨hbel.trans (hb2.mono hbel.size), .inl ⟨HG.out, g, rfl, hu2⟩⟩
end Go.Proofs.YthapmkbeolbmiaaDoor
