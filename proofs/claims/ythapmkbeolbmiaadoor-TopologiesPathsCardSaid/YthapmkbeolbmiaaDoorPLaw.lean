/-
  What is proved here: plugboardlaw20.TopologiesPaths returns true (what its text does, walked once).
  Conditions: what the slice's cells hold; what topologies.Text returns (proved beside).
-/
import Derived.Test.YthapmkbeolbmiaaDoorPText
import Derived.Test.YthapmkbeolbmiaaDoorPParse
import Derived.Deep.DeepCutAuto
import Derived.Deep.CutBlock
namespace Go.Proofs.YthapmkbeolbmiaaDoor
open Go.Proofs Go.RowKit

/-- what a law's call is to do -/
def End3 (W : World) (e : Ending) (w' : World) : Prop := e = .returned (.bool true) ∧ Below W.heap.size W w'

/-- whether the form is right up to a place -/
def formB (l : List UInt8) : Nat → Bool
  | 0 => decide (l.length % 2 = 1) && decide (l.length < 12)
  | k + 1 => formB l k && okAt l k

theorem form_zero (s : ByteArray) (p1 : s.size % 2 = 1) (p2 : s.size < 12) : formB s.data.toList 0 = true := by
  unfold formB; rw [← Lib.size_eq, decide_eq_true p1, decide_eq_true p2]; rfl
theorem form_zero2 (s : ByteArray) (p2 : ¬ s.size < 12) : formB s.data.toList 0 = false := by
  unfold formB; rw [← Lib.size_eq, decide_eq_false p2, Bool.and_false]
theorem form_zero1 (s : ByteArray) (p1 : ¬ s.size % 2 = 1) : formB s.data.toList 0 = false := by
  unfold formB; rw [← Lib.size_eq, decide_eq_false p1, Bool.false_and]
theorem form_all {l : List UInt8} : ∀ k, formB l k = true → l.length % 2 = 1 ∧ l.length < 12 ∧ ∀ j, j < k → okAt l j = true
  | 0, h => by simp only [formB, Bool.and_eq_true, decide_eq_true_eq] at h; exact ⟨h.1, h.2, fun j hj => by omega⟩
  | k + 1, h => by
    simp only [formB, Bool.and_eq_true] at h
    obtain ⟨a, b, c⟩ := form_all k h.1
    refine ⟨a, b, fun j hj => ?_⟩
    by_cases e : j = k
    · subst e; exact h.2
    · exact c j (by omega)
theorem form_bad {l : List UInt8} (h : goodB (cuts l) = false) : formB l l.length = false := by
  refine Bool.eq_false_iff.2 fun e => ?_
  obtain ⟨a, b, c⟩ := form_all _ e
  rw [good_of_form a b fun j => ?_] at h
  · cases h
  · by_cases hj : j < l.length
    · exact c j hj
    · unfold okAt; rw [List.getElem?_eq_none (by omega)]

/-- whether a byte may stand at a place -/
def okN (k m : Nat) : Bool := if k % 2 = 0 then decide (49 ≤ m) && decide (m ≤ 55) else decide (m = 46)
theorem okAt_eq (s : ByteArray) (k : Nat) (hk : k < s.size) : okAt s.data.toList k = okN k s[k].toNat := by
  unfold okAt okN digB
  have hl : k < s.data.toList.length := by rw [← Lib.size_eq]; exact hk
  have e : s.data.toList[k]? = some s[k] := by rw [List.getElem?_eq_getElem hl]; rfl
  rw [e]
  by_cases h : k % 2 = 0
  · simp [h]
  · simp only [h, if_false]
    rw [decide_eq_decide]
    exact ⟨fun e => by rw [e]; rfl, fun e => UInt8.toNat_inj.1 e⟩
theorem form_ok {s : ByteArray} {k : Nat} (hk : k < s.size) (h : okN k s[k].toNat = true) : formB s.data.toList (k + 1) = formB s.data.toList k := by
  rw [formB, okAt_eq s k hk, h, Bool.and_true]
theorem form_no {s : ByteArray} {k : Nat} (hk : k < s.size) (h : okN k s[k].toNat = false) : formB s.data.toList (k + 1) = false := by
  rw [formB, okAt_eq s k hk, h, Bool.and_false]
theorem ok_dig {k m : Nat} (h : (k : Int) % 2 = 0) (h1 : (49 : Int) ≤ (m : Int)) (h2 : (m : Int) ≤ 55) : okN k m = true := by
  unfold okN; rw [if_pos (by omega), decide_eq_true (by omega), decide_eq_true (by omega)]; rfl
theorem no_high {k m : Nat} (h : (k : Int) % 2 = 0) (h2 : ¬ (m : Int) ≤ 55) : okN k m = false := by
  unfold okN; rw [if_pos (by omega), decide_eq_false (p := m ≤ 55) (by omega), Bool.and_false]
theorem no_low {k m : Nat} (h : (k : Int) % 2 = 0) (h2 : ¬ (49 : Int) ≤ (m : Int)) : okN k m = false := by
  unfold okN; rw [if_pos (by omega), decide_eq_false (by omega), Bool.false_and]
theorem ok_dot {k m : Nat} (h : ¬ (k : Int) % 2 = 0) (h2 : ((m : Int) != 46) = false) : okN k m = true := by
  have h2 : (m : Int) = 46 := by simpa using h2
  unfold okN; rw [if_neg (by omega), decide_eq_true (by omega)]
theorem no_dot {k m : Nat} (h : ¬ (k : Int) % 2 = 0) (h2 : ((m : Int) != 46) = true) : okN k m = false := by
  have h2 : ¬ (m : Int) = 46 := by simpa using h2
  unfold okN; rw [if_neg (by omega), decide_eq_false (by omega)]

/-- the error that is wanted -/
def vwant (b : Bool) : Int := if b then 0 else 1

set_option maxHeartbeats 4000000 in
set_option maxRecDepth 1000000 in
theorem paths_walk (lives : ∀ w, Calls Tryd.prog 5 #[] w (End3 w))
    (htext : ∀ (A : Option Addr) (n c : Nat) (xs : List Int) (w : World), U8 w A n c xs → n ≤ 200 → Calls Tryd.prog 8 #[.slice A n c] w fun e w' => e = .returned (.string (txtS xs)) ∧ Below w.heap.size w w')
    (A : Option Addr) (n c : Nat) (xs : List Int) (s : ByteArray) (w : World) (hx : U8 w A n c xs) (hn : n ≤ 9223372036854775807) (hs : s.size ≤ 9223372036854775807) :
    Calls Tryd.prog 3 #[.slice A n c, .string s] w (End3 w) := by
  by_cases h20 : 20 < n
  · go_enter Tryd.func3, Tryd.ntmps3
    go_wp2_with (go_at_call 5; refine (lives _).mono ?_; rintro e w' ⟨rfl, hbel⟩)
    go_ret
    exact ⟨rfl, hbel⟩
  have b1 : decide ((20 : Int) < (n : Int)) = false := by simp; omega
  by_cases h21 : 20 < s.size
  · have b2 : decide ((20 : Int) < (s.size : Int)) = true := by simp; omega
    go_enter Tryd.func3, Tryd.ntmps3
    go_wp2_with (go_at_call 5; refine (lives _).mono ?_; rintro e w' ⟨rfl, hbel⟩)
    go_ret
    exact ⟨rfl, hbel⟩
  have b2 : decide ((20 : Int) < (s.size : Int)) = false := by simp; omega
  obtain ⟨b, HB⟩ : ∃ b, Hid (validB xs = b) := ⟨_, Lib.hid rfl⟩
  have hval := valid_any A n c xs w hx hn
  rw [HB.out] at hval
  go_enter Tryd.func3, Tryd.ntmps3
  have hchk := check_any A n c xs w hx hn
  rw [show (if validB xs = true then (0 : Int) else 1) = vwant b by rw [HB.out]; rfl] at hchk
  go_upto_if 23 with (go_at_call 6; refine hval.mono ?_; rintro e w' ⟨rfl, rfl⟩)
  clear hval
  go_cut [5] (fun s5 wx => s5 = .int .i64 (vwant b) ∧ wx = w')
  case first =>
    cases b
    all_goals
      go_wp2_with fail
      go_meet
      exact ⟨rfl, rfl⟩
  case rest =>
    obtain ⟨rfl, rfl⟩ := hcut
    go_wp2_with fail
    refine hchk.mono ?_
    rintro e w1 ⟨rfl, rfl⟩
    clear hchk
    go_wp2_with fail
    refine (htext A n c xs _ hx (by omega)).mono ?_
    rintro e w2 ⟨rfl, hb2⟩
    have hx2 := hx.below hb2
    go_wp2_with fail
    refine (text_any A n c xs _ hx2 hn).mono ?_
    rintro e w3 ⟨rfl, hb3⟩
    have hb4 := hb2.trans (hb3.mono hb2.size)
    have hx3 := hx.below hb4
    clear hx2 hb2 hb3
    go_upto_if 36 with fail
    go_cut [] (fun wx => U8 wx A n c xs ∧ Below w1.heap.size w1 wx)
    case first =>
      cases b
      · go_wp2_with fail
        go_meet
        exact ⟨hx3, hb4⟩
      · have hts : txtS xs = txtB xs := by unfold txtS; rw [if_pos HB.out]
        obtain ⟨hg, hp⟩ := good_txt HB.out
        go_wp2_with fail
        refine (text_any A n c xs _ hx3 hn).mono ?_
        rintro e w4 ⟨rfl, hb5⟩
        rw [hts]
        have hb6 := hb4.trans (hb5.mono hb4.size)
        have hx4 := hx3.below hb5
        clear hb5 hx3 hb4
        go_wp2_with fail
        have hsz := txtB_size xs
        have hlx := hx4.1
        refine (parse_any (txtB xs) _ (by omega)).mono ?_
        rw [show (txtB xs).data.toList = txt xs from rfl]
        rintro e w5 ⟨hb7, ⟨_, g, rfl, hu⟩ | ⟨hbad, _⟩⟩
        · rw [hp] at hu
          have hx5 := hx4.below hb7
          have t1 := fun q => hu.text (P := Tryd.prog) (src := 29) (dst := 9) (e := 5) rfl rfl rfl q
          have t2 := fun q => hx5.text (P := Tryd.prog) (src := 22) (dst := 9) (e := 5) rfl rfl rfl q
          have t1 := t1 0
          have t2 := t2 0
          rw [World.drewN_zero] at t1 t2
          have hb8 := hb6.trans (hb7.mono hb6.size)
          generalize (cuts (txt xs)).length = pl at hu t1
          clear hg hp hsz hlx hu hts hb7 hb6 hx4
          go_wp2_with fail
          go_meet
          exact ⟨hx5, hb8⟩
        · rw [hg] at hbad
          cases hbad
    case rest =>
      clear hx3 hb4
      obtain ⟨hx5, hb5⟩ := hcut
      go_wp2_with fail
      refine (parse_any s _ (by omega)).mono ?_
      rintro e w6 ⟨hb6, ⟨hg, g, rfl, hu⟩ | ⟨hbad, rfl⟩⟩
      · have hv := ports_valid hg (by obtain ⟨h, t, e⟩ := cuts_ne s.data.toList; rw [e]; simp)
        have hgl : (cuts s.data.toList).length ≤ 6 := by
          simp only [goodB, Bool.and_eq_true, decide_eq_true_eq] at hg
          exact hg.1
        have hts : txtS (ports (cuts s.data.toList)) = s := by
          unfold txtS txtB
          rw [if_pos hv, ports_joins _ (by simp only [goodB, Bool.and_eq_true] at hg; exact hg.2), joins_cuts]
        have htx := text_any _ _ _ _ w6 hu (by omega)
        rw [hts] at htx
        have hb7 := hb5.trans (hb6.mono hb5.size)
        generalize (cuts s.data.toList).length = pl at htx
        clear hts hgl hv hg hu hb5 hb6 hx5
        go_wp2_with fail
        refine htx.mono ?_
        rintro e w7 ⟨rfl, hb8⟩
        have hb9 := hb7.trans (hb8.mono hb7.size)
        clear htx hb7 hb8
        go_wp2_with fail
        refine (lives _).mono ?_
        rintro e w8 ⟨rfl, hbel⟩
        go_wp2_with fail
        go_ret
        exact ⟨rfl, hb9.trans (hbel.mono hb9.size)⟩
      · have hb7 := hb5.trans (hb6.mono hb5.size)
        have HF := Lib.hid (form_bad (l := s.data.toList) hbad)
        clear hbad hb5 hb6 hx5
        go_upto_region 14 with fail
        go_cut [10] (fun v wx => v = .bool (formB s.data.toList 0) ∧ wx = w6)
        case first =>
          by_cases p1 : s.size % 2 = 1
          · have q1 : ((s.size : Int) % 2 == 1) = true := by simp; omega
            by_cases p2 : s.size < 12
            · have E := Lib.hid (form_zero s p1 p2)
              have q2 : decide ((s.size : Int) < 12) = true := by simp; omega
              clear p1 p2
              go_wp2_with fail
              go_meet
              exact ⟨by rw [E.out], rfl⟩
            · have E := Lib.hid (form_zero2 s p2)
              have q2 : decide ((s.size : Int) < 12) = false := by simp; omega
              clear p1 p2
              go_wp2_with fail
              go_meet
              exact ⟨by rw [E.out], rfl⟩
          · have E := Lib.hid (form_zero1 s p1)
            have q1 : ((s.size : Int) % 2 == 1) = false := by simp; omega
            clear p1
            go_wp2_with fail
            go_meet
            exact ⟨by rw [E.out], rfl⟩
        case rest =>
          obtain ⟨rfl, rfl⟩ := hcut
          go_wp2_with fail
          go_loop [10, 11] (fun v i => ∃ k : Nat, k ≤ s.size ∧ i = .int .i64 k ∧ v = .bool (formB s.data.toList k)) (fun _ i => s.size - (intOf i).toNat)
          case atStart => exact ⟨0, by omega, rfl, rfl⟩
          case round =>
            obtain ⟨k, h3, rfl, rfl⟩ := hrel
            by_cases hk : k < s.size
            · go_wp2_with fail
              all_goals go_round
              all_goals first
                | exact ⟨k + 1, by omega, by go_num, by rw [form_ok hk (ok_dig ‹_› ‹_› ‹_›)]⟩
                | exact ⟨k + 1, by omega, by go_num, by rw [form_no hk (no_high ‹_› ‹_›)]⟩
                | exact ⟨k + 1, by omega, by go_num, by rw [form_no hk (no_low ‹_› ‹_›)]⟩
                | exact ⟨k + 1, by omega, by go_num, by rw [form_ok hk (ok_dot ‹_› ‹_›)]⟩
                | exact ⟨k + 1, by omega, by go_num, by rw [form_no hk (no_dot ‹_› ‹_›)]⟩
                | (simp [intOf]; omega)
            · have hks : k = s.data.toList.length := by rw [← Lib.size_eq]; omega
              have HK : Hid (formB s.data.toList k = false) := Lib.hid (by rw [hks]; exact HF.out)
              clear hks
              rw [HK.out]
              go_wp2_with fail
              refine (lives _).mono ?_
              rintro e w8 ⟨rfl, hbel⟩
              go_wp2_with fail
              go_ret
              exact ⟨rfl, hb7.trans (hbel.mono hb7.size)⟩
end Go.Proofs.YthapmkbeolbmiaaDoor
