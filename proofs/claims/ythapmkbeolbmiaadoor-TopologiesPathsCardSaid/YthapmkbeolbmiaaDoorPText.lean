/-
  What is proved here: what the law's own valid and text return.
  Conditions: what the slice's cells hold.
-/
import Derived.Test.YthapmkbeolbmiaaDoorPCheck
import Derived.Laws.BytesString
import Derived.Laws.Strings
import Derived.Laws.Concat
namespace Go.Proofs.YthapmkbeolbmiaaDoor
open Go.Proofs Go.RowKit

/-- 1 for true -/
def vnum (b : Bool) : Int := if b then 1 else 0

set_option maxHeartbeats 1000000 in
set_option maxRecDepth 100000 in
theorem valid_any (A : Option Addr) (n c : Nat) (xs : List Int) (w : World) (hx : U8 w A n c xs) (hn : n ≤ 9223372036854775807) :
    Calls Tryd.prog 6 #[.slice A n c] w fun e w' => e = .returned (.int .i64 (vnum (validB xs))) ∧ w' = w := by
  have hlx := hx.1
  by_cases h1 : 1 ≤ n ∧ n ≤ 6
  · have hv := valid_of xs (by omega) (by omega)
    rw [hv]
    obtain ⟨bb, HBB⟩ : ∃ bb, Hid (xs.any badB = bb) := ⟨_, Lib.hid rfl⟩
    rw [HBB.out]
    obtain ⟨h1, h2⟩ := h1
    have d1 : decide ((n : Int) < 1) = false := by simp; omega
    have d2 : decide ((6 : Int) < (n : Int)) = false := by simp; omega
    clear hv hlx
    go_enter Tryd.func6, Tryd.ntmps6
    go_wp2_with fail
    go_loop [3] (fun i => ∃ k : Nat, k ≤ n ∧ i = .int .i64 k ∧ Hid (∀ (j : Nat) (x : Int), j < k → xs[j]? = some x → badB x = false)) (fun i => n - (intOf i).toNat)
    case atStart => exact ⟨0, by omega, rfl, Lib.hid fun j x h => by omega⟩
    case round =>
      obtain ⟨k, h3, rfl, HE⟩ := hrel
      by_cases hk : k < n
      · obtain ⟨a, x, rfl, ex, x0, x1, hc1⟩ := hx.cell hk
        have EX := Lib.hid ex
        clear ex
        by_cases hb : x < 1
        · have HB := Lib.hid (any_hit EX.out (by simp [badB, hb]))
          obtain rfl : x = 0 := by omega
          clear hb x0 x1
          go_wp2_with fail
          go_ret
          obtain rfl := HBB.out.symm.trans HB.out
          exact ⟨rfl, rfl⟩
        · have dd : decide (x < 1) = false := by simpa using hb
          by_cases hb2 : 7 < x
          · have HB := Lib.hid (any_hit EX.out (by simp [badB, hb2]))
            have de : decide (7 < x) = true := by simpa using hb2
            clear hb hb2 x0
            go_wp2_with fail
            go_ret
            obtain rfl := HBB.out.symm.trans HB.out
            exact ⟨rfl, rfl⟩
          · have HB : Hid (badB x = false) := Lib.hid (by simp [badB]; omega)
            have de : decide (7 < x) = false := by simpa using hb2
            clear hb hb2 x0
            go_wp2_with fail
            go_round
            case rel =>
              refine ⟨k + 1, by omega, by go_num, Lib.hid fun j y hj hy => ?_⟩
              by_cases e : j = k
              · subst e
                have := EX.out
                rw [this] at hy
                injection hy with hy
                subst hy
                exact HB.out
              · exact HE.out j y (by omega) hy
            case measure => simp [intOf]; omega
      · have HF : Hid (xs.any badB = false) := Lib.hid (any_miss fun j x h => HE.out j x (by have := (List.getElem?_eq_some_iff.1 h).1; have := hx.1; omega) h)
        clear HE
        go_wp2_with fail
        go_ret
        obtain rfl := HBB.out.symm.trans HF.out
        exact ⟨rfl, rfl⟩
  · have hv : validB xs = false := by
      unfold validB
      rw [hlx]
      simp only [Bool.and_eq_false_iff, decide_eq_false_iff_not]
      omega
    rw [hv]
    clear hv hlx
    by_cases h2 : n < 1
    · obtain rfl : n = 0 := by omega
      go_enter Tryd.func6, Tryd.ntmps6
      go_wp2_with fail
      go_ret
      exact ⟨rfl, rfl⟩
    · have d1 : decide ((n : Int) < 1) = false := by simp; omega
      have d2 : decide ((6 : Int) < (n : Int)) = true := by simp; omega
      go_enter Tryd.func6, Tryd.ntmps6
      go_wp2_with fail
      go_ret
      exact ⟨rfl, rfl⟩

/-- the text of a path as a string -/
def txtB (xs : List Int) : ByteArray := ⟨(txt xs).toArray⟩

theorem app_list (a b : List UInt8) : (⟨(a ++ b).toArray⟩ : ByteArray) = ⟨a.toArray⟩ ++ ⟨b.toArray⟩ := by
  apply ByteArray.ext
  simp [ByteArray.data_append]

theorem txtB_step {xs : List Int} {k : Nat} {x : Int} (h : xs[k]? = some x) : txtB (xs.take (k + 1)) = if k = 0 then ⟨#[dig x]⟩ else (txtB (xs.take k) ++ ⟨#[46]⟩) ++ ⟨#[dig x]⟩ := by
  unfold txtB
  rw [List.take_add_one, h]
  show (⟨(txt (xs.take k ++ [x])).toArray⟩ : ByteArray) = _
  rw [txt_snoc]
  by_cases hk : k = 0
  · subst hk
    simp
  · have hne : ¬ xs.take k = [] := by
      have h1 := (List.getElem?_eq_some_iff.1 h).1
      intro e
      have h2 := congrArg List.length e
      rw [List.length_take] at h2
      simp only [List.length_nil] at h2
      omega
    rw [if_neg hne, if_neg hk]
    rw [show txt (xs.take k) ++ [46, dig x] = (txt (xs.take k) ++ [46]) ++ [dig x] by simp, app_list, app_list]

theorem txtB_size (xs : List Int) : (txtB xs).size ≤ 2 * xs.length := by
  have h : ∀ xs : List Int, (txt xs).length ≤ 2 * xs.length := by
    intro xs
    induction xs with
    | nil => simp [txt]
    | cons x r ih => cases r with
      | nil => simp [txt]
      | cons y r => simp [txt] at ih ⊢; omega
  exact h xs

set_option maxRecDepth 100000 in
theorem conv_one (w : World) (v : Int) :
    (convert 22 9 (.slice (some ⟨w.heap.size, 0, none⟩) 1 1)).run Tryd.prog (w.alloc (.cells #[.int .u8 v] 5)) = .ok (.string ⟨#[UInt8.ofNat v.toNat]⟩) (w.alloc (.cells #[.int .u8 v] 5)) := by
  have h := run_convert_bytes_arg (P := Tryd.prog) (w.alloc (.cells #[.int .u8 v] 5)) 22 5 rfl rfl w.heap.size 0 1 1 [v] rfl (fun i hi => by
    obtain rfl : i = 0 := by omega
    rw [World.cell?_alloc_at _ _ _ _ rfl]; rfl) 9 rfl
  exact h

set_option maxHeartbeats 1000000 in
set_option maxRecDepth 100000 in
theorem text_no (A : Option Addr) (n c : Nat) (xs : List Int) (w : World) (hx : U8 w A n c xs) (hn : n ≤ 9223372036854775807) (hv : validB xs = false) :
    Calls Tryd.prog 9 #[.slice A n c] w fun e w' => e = .returned (.string ⟨#[]⟩) ∧ w' = w := by
  have hc := valid_any A n c xs w hx hn
  rw [hv] at hc
  clear hv
  go_enter Tryd.func9, Tryd.ntmps9
  go_wp2_with fail
  refine hc.mono ?_
  rintro e w' ⟨rfl, rfl⟩
  go_wp2_with fail
  go_ret
  exact ⟨rfl, rfl⟩

set_option maxHeartbeats 1000000 in
set_option maxRecDepth 100000 in
theorem text_yes (A : Option Addr) (n c : Nat) (xs : List Int) (w : World) (hx : U8 w A n c xs) (hn : n ≤ 9223372036854775807) (hv : validB xs = true) :
    Calls Tryd.prog 9 #[.slice A n c] w fun e w' => e = .returned (.string (txtB xs)) ∧ Below w.heap.size w w' := by
  have hc := valid_any A n c xs w hx hn
  rw [hv] at hc
  have HV := Lib.hid hv
  clear hv
  go_enter Tryd.func9, Tryd.ntmps9
  go_wp2_with fail
  refine hc.mono ?_
  rintro e w' ⟨rfl, rfl⟩
  clear hc
  go_wp2_with fail
  go_loopw [3, 4] (fun s i wr => ∃ k : Nat, k ≤ n ∧ i = .int .i64 k ∧ s = .string (txtB (xs.take k)) ∧ Below w'.heap.size w' wr) (fun _ i _ => n - (intOf i).toNat)
  case atStart => exact ⟨0, by omega, rfl, rfl, Below.refl _ _⟩
  case round =>
    obtain ⟨k, h3, rfl, rfl, hbel⟩ := hrel
    by_cases hk : k < n
    · obtain ⟨a, x, rfl, ex, x0, x1, hc1⟩ := (hx.below hbel).cell hk
      have hx7 : x ≤ 7 := by
        have h := HV.out
        simp only [validB, Bool.and_eq_true, decide_eq_true_eq, List.all_eq_true] at h
        exact (h.2 x (List.mem_of_getElem? ex)).2
      have hconv := conv_one wr (48 + x)
      have HT := Lib.hid (txtB_step ex)
      have hsz : (txtB (xs.take k)).size ≤ 2 * n := by
        have h1 := txtB_size (xs.take k)
        rw [List.length_take] at h1
        omega
      have hn6 : n ≤ 6 := by
        have h := HV.out
        simp only [validB, Bool.and_eq_true, decide_eq_true_eq] at h
        have := hx.1
        omega
      clear ex
      by_cases h0 : 0 < k
      · go_wp2_with fail
        go_roundw
        case rel => exact ⟨k + 1, by omega, by go_num, by rw [HT.out, if_neg (by omega)]; rfl, hbel.alloc hbel.size _⟩
        case measure => simp [intOf]; omega
      · obtain rfl : k = 0 := by omega
        rw [add_zero_] at hc1
        go_wp2_with fail
        go_roundw
        case rel => exact ⟨1, by omega, by go_num, by rw [HT.out, if_pos trivial]; exact (app_list [] [dig x]).symm, hbel.alloc hbel.size _⟩
        case measure => simp [intOf]; omega
    · have HF := Lib.hid (show xs.take k = xs from List.take_of_length_le (by have := hx.1; omega))
      go_wp2_with fail
      go_ret
      exact ⟨by rw [HF.out]; rfl, hbel⟩

/-- the law's text, at valid lists and others -/
def txtS (xs : List Int) : ByteArray := if validB xs = true then txtB xs else ⟨#[]⟩

theorem text_any (A : Option Addr) (n c : Nat) (xs : List Int) (w : World) (hx : U8 w A n c xs) (hn : n ≤ 9223372036854775807) :
    Calls Tryd.prog 9 #[.slice A n c] w fun e w' => e = .returned (.string (txtS xs)) ∧ Below w.heap.size w w' := by
  unfold txtS
  by_cases h : validB xs = true
  · rw [if_pos h]
    exact text_yes A n c xs w hx hn h
  · rw [if_neg h]
    refine (text_no A n c xs w hx hn (by simpa using h)).mono ?_
    rintro e w' ⟨rfl, rfl⟩
    exact ⟨rfl, Below.refl _ _⟩
end Go.Proofs.YthapmkbeolbmiaaDoor
