/-
  What is proved here: what topologies.Text returns.
  Conditions: what the slice's cells hold.
-/
import Derived.Test.YthapmkbeolbmiaaDoorPText
import Derived.Test.YthapmkbeolbmiaaDoorPShelf
import Derived.Laws.AppendOwn
import Derived.OwnWalk
import Derived.Laws.OwnMore
import Derived.Laws.Rows
namespace Go.Proofs.YthapmkbeolbmiaaDoor
open Go.Proofs Go.RowKit

theorem inter_joins : ∀ l : List (List UInt8), Lib.join l [46] = joins l
  | [] => rfl
  | [a] => by simp [Lib.join, joins, List.intercalate]
  | a :: b :: l => by
    have ih := inter_joins (b :: l)
    unfold Lib.join at ih ⊢
    rw [joins, ← ih]
    simp [List.intercalate]

theorem own_ge {w : World} {base size n : Nat} {e : TypeId} {v : Value} {xs : List Value} (h : w.ownsRow base e size v n xs) : ∀ k, v.ownBlock = some k → base ≤ k := by
  intro k hk
  rcases h.2 with ⟨rfl, _⟩ | ⟨g, cap, cur, rfl, hg, _⟩
  · simp [Value.ownBlock] at hk
  · simp [Value.ownBlock] at hk; omega

/-- a digit as a text -/
def digS (x : Int) : ByteArray := ⟨#[dig x]⟩

/-- the first k digits as cells -/
def strsV (xs : List Int) (k : Nat) : List Value := ((xs.take k).map digS).map Value.string
theorem strsV_zero (xs : List Int) : strsV xs 0 = [] := rfl

theorem digS_join (xs : List Int) : (⟨(Lib.join ((xs.map digS).map (·.data.toList)) [46]).toArray⟩ : ByteArray) = txtB xs := by
  rw [inter_joins, List.map_map]
  unfold txtB
  rw [txt_joins]
  rfl

theorem dec_dig (m : Nat) (h : m ≤ 7) : (⟨(Lib.decDigits m).toArray⟩ : ByteArray) = digS (m : Int) := by
  unfold Lib.decDigits digS dig
  rw [dif_pos (by omega)]
  have e : (48 + (m : Int)).toNat = 48 + m := by omega
  rw [e]

set_option maxHeartbeats 1000000 in
set_option maxRecDepth 100000 in
theorem top_no (A : Option Addr) (n c : Nat) (xs : List Int) (w : World) (hx : U8 w A n c xs) (hn : n ≤ 200) (hv : validB xs = false) :
    Calls Tryd.prog 8 #[.slice A n c] w fun e w' => e = .returned (.string ⟨#[]⟩) ∧ w' = w := by
  have hc := check_any A n c xs w hx (by omega)
  rw [hv] at hc
  clear hv
  go_enter Tryd.func8, Tryd.ntmps8
  go_wp2_with fail
  refine hc.mono ?_
  rintro e w' ⟨rfl, rfl⟩
  go_wp2_with fail
  go_ret
  exact ⟨rfl, rfl⟩

set_option maxHeartbeats 2000000 in
set_option maxRecDepth 100000 in
theorem top_yes (A : Option Addr) (n c : Nat) (xs : List Int) (w : World) (hx : U8 w A n c xs) (hn : n ≤ 200) (hv : validB xs = true) :
    Calls Tryd.prog 8 #[.slice A n c] w fun e w' => e = .returned (.string (txtB xs)) ∧ Below w.heap.size w w' := by
  obtain ⟨i0, hi, hz0, hz1, hz2⟩ := info_parts info9
  have hc := check_any A n c xs w hx (by omega)
  rw [hv] at hc
  have HV := Lib.hid hv
  clear hv
  go_enter Tryd.func8, Tryd.ntmps8
  go_wp2_with fail
  refine hc.mono ?_
  rintro e w' ⟨rfl, rfl⟩
  clear hc
  go_wp2_with fail
  go_loopw [3, 11] (fun v i wr => ∃ k : Nat, k ≤ n ∧ i = .int .i64 k ∧ wr.ownsRow w'.heap.size 9 1 v k (strsV xs k) ∧ Below w'.heap.size w' wr) (fun _ i _ => n - (intOf i).toNat)
  case atStart => exact ⟨0, by omega, rfl, World.ownsRow_nil _ _ _ _, Below.refl _ _⟩
  case round =>
    obtain ⟨k, h3, rfl, hown, hbel⟩ := hrel
    by_cases hk : k < n
    · obtain ⟨a, x, rfl, ex, x0, x1, hc1⟩ := (hx.below hbel).cell hk
      have hx7 : x ≤ 7 := by
        have h := HV.out
        simp only [validB, Bool.and_eq_true, decide_eq_true_eq, List.all_eq_true] at h
        exact (h.2 x (List.mem_of_getElem? ex)).2
      obtain ⟨m, rfl⟩ := Int.eq_ofNat_of_zero_le x0
      have hm : m ≤ 7 := by omega
      have HT : Hid (strsV xs (k + 1) = strsV xs k ++ [.string (digS m)]) := Lib.hid (by
        unfold strsV; rw [List.take_add_one, ex]; simp)
      have hit := fun w => Tryd.strconv_Itoa_small m (by omega) w
      rw [dec_dig m hm] at hit
      clear ex
      go_wp2_with fail
      refine (hit _).mono ?_
      rintro e w1 ⟨rfl, rfl⟩
      clear hit
      go_wp2_with (at_builtin; refine wpList_append_own _ rfl (.tmp 15) (.tmp 19) 54 rfl w'.heap.size 9 i0 (.string ByteArray.empty) 1 16 Tryd.underlying54 hi hz0 hz1 hz2 rfl (by decide) _ k _ rfl (hown.alloc _) ⟨w1.heap.size, 0, none⟩ 1 1 [.string (digS m)] rfl rfl ?d1 ?d2 (by unfold maxLen; omega) (by omega) (by have := hbel.size; simp; omega) ?_)
      case d1 =>
        intro j u hj
        match j, hj with
        | 0, hj =>
          simp at hj; subst hj
          rw [show (⟨w1.heap.size, 0, none⟩ : Addr).add 0 = ⟨w1.heap.size, 0, none⟩ by simp [Addr.add], World.cell?_alloc_at _ _ _ _ rfl]; rfl
      case d2 => intro u hu; simp at hu; subst hu; rfl
      intro v2 w2 hown2 hgrow2 _
      have hb2 : Below w'.heap.size w' w2 := (hbel.alloc hbel.size _).grown hgrow2 (by have := hbel.size; simp; omega) (own_ge hown)
      have hown3 : w2.ownsRow w'.heap.size 9 1 v2 (k + 1) (strsV xs (k + 1)) := by rw [HT.out]; exact hown2
      clear hown2 hgrow2 hown hbel
      go_wp2_with fail
      go_roundw
      case rel => exact ⟨k + 1, by omega, by go_num, hown3, hb2⟩
      case measure => simp [intOf]; omega
    · have hkn : k = n := by omega
      subst hkn
      have hlen := hx.1
      have hk1 : 1 ≤ k ∧ k ≤ 6 := by
        have h := HV.out
        simp only [validB, Bool.and_eq_true, decide_eq_true_eq] at h
        omega
      have hj : Calls Tryd.prog 24 #[u3, .string ⟨#[46]⟩] wr fun e w2 => e = .returned (.string (txtB xs)) ∧ Below wr.heap.size wr w2 := by
        obtain ⟨_, ⟨_, h0⟩ | ⟨g, cap, cur, hv, _, hh, hcap, _, hcs, hct⟩⟩ := hown
        · omega
        subst hv
        have hlt : g < wr.heap.size := (Array.getElem?_eq_some_iff.1 hh).1
        have hlS : (xs.map digS).length = k := by rw [List.length_map, hlen]
        have hcells : ∀ (j : Nat) x, (xs.map digS)[j]? = some x → wr.cell? ⟨g, 0 + j, none⟩ = some (.string x) := by
          intro j x hjx
          have hjk : j < k := by rw [← hlS]; exact (List.getElem?_eq_some_iff.1 hjx).1
          rw [Nat.zero_add]
          have e1 : wr.cell? ⟨g, j, none⟩ = cur[j]? := cell_of_row wr g j cur 9 (0, 0) hh
          have e2 : (strsV xs k)[j]? = some (.string x) := by unfold strsV; rw [List.take_of_length_le (by omega), List.getElem?_map, hjx]; rfl
          rw [← hct, List.getElem?_take, if_pos (by omega)] at e2
          rw [e1, ← Array.getElem?_toList]
          exact e2
        have hJ := Tryd.strings_Join g 0 cap (xs.map digS) ⟨#[46]⟩ wr hcells hlt (by omega) (by omega) (by
          rw [inter_joins, List.map_map]
          have h1 := txtB_size xs
          unfold txtB at h1
          rw [txt_joins] at h1
          exact Nat.le_trans h1 (by omega))
        rw [hlS] at hJ
        rw [show (⟨#[46]⟩ : ByteArray).data.toList = [46] from rfl, digS_join] at hJ
        exact hJ
      clear hown
      go_wp2_with fail
      refine hj.mono ?_
      rintro e w2 ⟨rfl, hb2⟩
      go_wp2_with fail
      go_ret
      exact ⟨rfl, hbel.trans (hb2.mono hbel.size)⟩

theorem top_any (A : Option Addr) (n c : Nat) (xs : List Int) (w : World) (hx : U8 w A n c xs) (hn : n ≤ 200) :
    Calls Tryd.prog 8 #[.slice A n c] w fun e w' => e = .returned (.string (txtS xs)) ∧ Below w.heap.size w w' := by
  unfold txtS
  by_cases h : validB xs = true
  · rw [if_pos h]
    exact top_yes A n c xs w hx hn h
  · rw [if_neg h]
    refine (top_no A n c xs w hx hn (by simpa using h)).mono ?_
    rintro e w' ⟨rfl, rfl⟩
    exact ⟨rfl, Below.refl _ _⟩
end Go.Proofs.YthapmkbeolbmiaaDoor
