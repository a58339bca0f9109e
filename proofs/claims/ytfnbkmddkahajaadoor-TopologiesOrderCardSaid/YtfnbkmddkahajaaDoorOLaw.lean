/-
  What is proved here: plugboardlaw20.TopologiesOrder returns true (what its text does, walked once).
  Conditions: what the slices' cells hold.
-/
import Derived.Test.YtfnbkmddkahajaaDoorOUp
import Derived.Deep.DeepCutAuto
import Derived.Deep.CutBlock
import Derived.Laws.AppendOwnNone
namespace Go.Proofs.YtfnbkmddkahajaaDoor
open Go.Proofs Go.RowKit

/-- what a law's call is to do -/
def End3 (W : World) (e : Ending) (w' : World) : Prop := e = .returned (.bool true) ∧ Below W.heap.size W w'

theorem own_ge {w : World} {base size n : Nat} {e : TypeId} {v : Value} {xs : List Value} (h : w.ownsRow base e size v n xs) : ∀ k, v.ownBlock = some k → base ≤ k := by
  intro k hk
  rcases h.2 with ⟨rfl, _⟩ | ⟨g, cap, cur, rfl, hg, _⟩
  · simp [Value.ownBlock] at hk
  · simp [Value.ownBlock] at hk; omega

/-- a list that the law has made, of at most m elements -/
def Built (w : World) (v : Value) (wr : World) (m : Nat) : Prop :=
  ∃ xs : List Int, wr.ownsRow w.heap.size 5 1 v xs.length (xs.map (Value.int .u8)) ∧ xs.length ≤ m ∧ (∀ x ∈ xs, 0 ≤ x ∧ x ≤ 255) ∧ v ≠ .slice none 0 0 ∧ Below w.heap.size w wr

theorem news_of {w : World} {a : Addr} {n : Nat} {xs : List Int} (h1 : xs.length = n) (h5 : ∀ j, j < n → w.cell? (a.add j) = some (.int .u8 (xs[j]?.getD 0))) :
    ∀ j u, (xs.map (Value.int .u8))[j]? = some u → w.cell? (a.add j) = some u := by
  intro j u hj
  rw [List.getElem?_map, Option.map_eq_some_iff] at hj
  obtain ⟨x, hx, rfl⟩ := hj
  have hjn : j < n := by rw [← h1]; exact (List.getElem?_eq_some_iff.1 hx).1
  have hcx := h5 j hjn
  rwa [hx] at hcx
theorem ones_of (xs : List Int) : ∀ u ∈ xs.map (Value.int .u8), u.oneCell' = true := by
  intro u hu
  obtain ⟨x, _, rfl⟩ := List.mem_map.1 hu
  rfl

set_option maxHeartbeats 4000000 in
set_option maxRecDepth 1000000 in
theorem to_walk (lives : ∀ w, Calls Tryd.prog 4 #[] w (End3 w)) (A B : Option Addr) (n c m d : Nat) (xs ys : List Int) (cm : Int) (w : World)
    (hcm : 0 ≤ cm ∧ cm ≤ 255) (hx : U8 w A n c xs) (hy : U8 w B m d ys) (hn : n ≤ 9223372036854775807) (hm : m ≤ 9223372036854775807) :
    Calls Tryd.prog 3 #[.slice A n c, .slice B m d, .int .u8 cm] w (End3 w) := by
  obtain ⟨i0, hi, hz0, hz1, hz2⟩ := info_parts info5
  by_cases h20 : 20 < n
  · go_enter Tryd.func3, Tryd.ntmps3
    go_wp2_with (go_at_call 4; refine (lives _).mono ?_; rintro e w' ⟨rfl, hbel⟩)
    go_ret
    exact ⟨rfl, hbel⟩
  by_cases h21 : 20 < m
  · go_enter Tryd.func3, Tryd.ntmps3
    go_wp2_with (go_at_call 4; refine (lives _).mono ?_; rintro e w' ⟨rfl, hbel⟩)
    go_ret
    exact ⟨rfl, hbel⟩
  obtain ⟨k, hk, hkn⟩ : ∃ k : Nat, cm % ((n : Int) + 1) = (k : Int) ∧ k ≤ n := by
    have h1 := Int.emod_nonneg cm (show (n : Int) + 1 ≠ 0 by omega)
    have h2 := Int.emod_lt_of_pos cm (show 0 < (n : Int) + 1 by omega)
    exact ⟨(cm % ((n : Int) + 1)).toNat, by omega, by omega⟩
  have hxt := hx.take hkn
  have b1 : decide ((20 : Int) < (n : Int)) = false := by simp; omega
  have b2 : decide ((20 : Int) < (m : Int)) = false := by simp; omega
  go_enter Tryd.func3, Tryd.ntmps3
  go_upto_region 3 with fail
  go_cut [7] (fun s7 wx => Built w s7 wx 20)
  case first =>
    obtain ⟨t1, t2, t3, ⟨rfl, rfl, rfl⟩ | ⟨ad, rfl, t5⟩⟩ := hxt
    · obtain rfl : n = 0 := by
        obtain ⟨_, _, _, ⟨_, h, _⟩ | ⟨_, h, _⟩⟩ := hx
        · exact h
        · cases h
      go_wp2_with (at_builtin; refine wpList_append_own_none rfl (.tmp 21) (.tmp 29) 22 rfl w.heap.size 5 i0 1 Tryd.underlying22 hi _ 0 [] rfl ?own rfl ?_)
      case own => exact World.ownsRow_made w #[] 0 (Nat.le_refl _) (by decide) rfl
      go_wp2
      go_meet
      exact ⟨[], World.ownsRow_made w #[] 0 (Nat.le_refl _) (by decide) rfl, by simp, by simp, by simp, (Below.refl _ _).alloc (Nat.le_refl _) _⟩
    · go_wp2_with (at_builtin; refine wpList_append_own _ rfl (.tmp 21) (.tmp 29) 22 rfl w.heap.size 5 i0 (.int .u8 0) 1 1 Tryd.underlying22 hi hz0 hz1 hz2 rfl (by decide) _ 0 [] rfl ?own ad k c ((xs.take k).map (Value.int .u8)) rfl ?c1 ?c2 ?c3 ?c4 ?c5 ?c6 ?_)
      case own => exact World.ownsRow_made w #[] 0 (Nat.le_refl _) (by decide) rfl
      case c1 => rw [List.length_map, t1, Nat.mul_one]
      case c2 => exact news_of t1 (fun j hj => (World.cell?_alloc_lt _ _ _ (World.block_lt_of_cell? _ _ (t5 j hj))).trans (t5 j hj))
      case c3 => exact ones_of _
      case c4 => unfold maxLen; omega
      case c5 => omega
      case c6 => simp
      intro v' w1 hown hgrow hnn
      have hb1 : Below w.heap.size w w1 := ((Below.refl _ _).alloc (Nat.le_refl _) _).grown hgrow (by simp) (fun k hk => by simp [Value.ownBlock] at hk; omega)
      have hown2 : w1.ownsRow w.heap.size 5 1 v' (xs.take k).length ((xs.take k).map (Value.int .u8)) := by rw [t1]; simpa using hown
      go_wp2
      go_meet
      exact ⟨xs.take k, hown2, by omega, t2, by simpa using hnn, hb1⟩
  case rest =>
    obtain ⟨zs, hown, hzl, hzr, hznil, hbel⟩ := hcut
    clear hxt hk
    go_upto_region 4 with fail
    go_cut [7] (fun s7 wx => Built w s7 wx 40)
    case first =>
      obtain ⟨t1, t2, t3, ⟨rfl, rfl, rfl⟩ | ⟨ad, rfl, t5⟩⟩ := hy
      · go_wp2_with (at_builtin; refine wpList_append_own_none rfl (.tmp 31) (.tmp 32) 22 rfl w.heap.size 5 i0 1 Tryd.underlying22 hi _ zs.length (zs.map (Value.int .u8)) rfl hown rfl ?_)
        go_wp2
        go_meet
        exact ⟨zs, hown, by omega, hzr, hznil, hbel⟩
      · go_wp2_with (at_builtin; refine wpList_append_own _ rfl (.tmp 31) (.tmp 32) 22 rfl w.heap.size 5 i0 (.int .u8 0) 1 1 Tryd.underlying22 hi hz0 hz1 hz2 rfl (by decide) _ zs.length (zs.map (Value.int .u8)) rfl hown ad m d (ys.map (Value.int .u8)) rfl ?c1 ?c2 ?c3 ?c4 ?c5 ?c6 ?_)
        case c1 => simp [t1]
        case c2 => exact news_of t1 (fun j hj => (hbel.cell (World.block_lt_of_cell? _ _ (t5 j hj))).trans (t5 j hj))
        case c3 => exact ones_of _
        case c4 => unfold maxLen; omega
        case c5 => omega
        case c6 => exact hbel.size
        intro v' w1 hown2 hgrow hnn
        have hb2 : Below w.heap.size w w1 := hbel.grown hgrow hbel.size (own_ge hown)
        have hown3 : w1.ownsRow w.heap.size 5 1 v' (zs ++ ys).length ((zs ++ ys).map (Value.int .u8)) := by simpa [t1] using hown2
        have hv : v' ≠ .slice none 0 0 := hnn
        go_wp2
        go_meet
        exact ⟨zs ++ ys, hown3, by rw [List.length_append]; omega, fun x hx => (List.mem_append.1 hx).elim (hzr x) (t2 x), hv, hb2⟩
    case rest =>
      clear hy hown hzl hzr hznil hbel
      obtain ⟨zs, hown, hzl, hzr, hznil, hbel⟩ := hcut
      obtain ⟨g, zn, cap, rfl, hz⟩ := u8_of_own hzr hown hznil
      have hzl : zn ≤ 40 := by rw [← hz.1]; exact hzl
      have hxc : U8 wc A n c xs := hx.below hbel
      clear hx hown hzr hznil hi hz0 hz1 hz2
      have hxz : cmpL xs xs = 0 := cmpL_self xs
      go_wp2_with fail
      refine (top_cmp A (some ⟨g, 0, none⟩) n c zn cap xs zs _ hxc hz (by omega) (by omega)).mono ?_
      rintro e w' ⟨rfl, rfl⟩
      go_wp2_with fail
      refine (order_u8 A (some ⟨g, 0, none⟩) n c zn cap xs zs _ hxc hz (by omega) (by omega)).mono ?_
      rintro e w1 ⟨rfl, q1, rfl⟩
      go_wp2_with fail
      refine (top_cmp (some ⟨g, 0, none⟩) A zn cap n c zs xs _ (hz.drewN _) (hxc.drewN _) (by omega) (by omega)).mono ?_
      rintro e w1 ⟨rfl, rfl⟩
      go_wp2_with fail
      refine (order_u8 (some ⟨g, 0, none⟩) A zn cap n c zs xs _ (hz.drewN _) (hxc.drewN _) (by omega) (by omega)).mono ?_
      rintro e w1 ⟨rfl, q2, rfl⟩
      go_wp2_with fail
      refine (top_cmp A A n c n c xs xs _ (hxc.drewN _) (hxc.drewN _) (by omega) (by omega)).mono ?_
      rintro e w1 ⟨rfl, rfl⟩
      rw [hxz]
      have hb2 : Below w.heap.size w (w'.drewN (q1 + q2)) := below_drewN hbel _
      have hx2 : U8 (w'.drewN (q1 + q2)) A n c xs := hxc
      have hz2 : U8 (w'.drewN (q1 + q2)) (some ⟨g, 0, none⟩) zn cap zs := hz
      generalize w'.drewN (q1 + q2) = wa at hb2 hx2 hz2
      clear hxc hz hbel
      have hund : n < zn → (undB zs xs = ((strOfNums (zs.take n)).toList == (strOfNums xs).toList)) := fun h => by
        unfold undB
        rw [hx2.1, hz2.1, decide_eq_true h, Bool.true_and, Bool.eq_iff_iff, decide_eq_true_eq, beq_iff_eq]
        exact ⟨fun e => by rw [e], fun e => str_inj _ _ (fun x hx => hz2.2.1 x (List.mem_of_mem_take hx)) hx2.2.1 e⟩
      go_upto_region 7 with fail
      go_cut [8] (fun s8 wx => s8 = .bool (undB zs xs) ∧ U8 wx A n c xs ∧ U8 wx (some ⟨g, 0, none⟩) zn cap zs ∧ Below w.heap.size w wx)
      case first =>
        by_cases hlt : n < zn
        · have hd : decide ((n : Int) < (zn : Int)) = true := by simp; omega
          have hp1 : (0 : Int) ≤ (n : Int) := by omega
          have hp2 : (n : Int) ≤ (cap : Int) := by have := hz2.2.2.1; omega
          have t1 := (hz2.take (k := n) (by omega)).text (P := Tryd.prog) (src := 22) (dst := 9) (e := 5) rfl rfl rfl
          have t2 := hx2.text (P := Tryd.prog) (src := 22) (dst := 9) (e := 5) rfl rfl rfl
          have HU := Lib.hid (hund hlt)
          clear hund
          go_quiet (fail)
          go_wp2_with fail
          go_meet
          exact ⟨by rw [HU.out], hx2.drewN _, hz2.drewN _, below_drewN hb2 _⟩
        · have hd : decide ((n : Int) < (zn : Int)) = false := by simp; omega
          have HU : Hid (undB zs xs = false) := Lib.hid (by unfold undB; rw [hx2.1, hz2.1, decide_eq_false hlt, Bool.false_and])
          clear hund
          go_quiet (fail)
          go_wp2_with fail
          go_meet
          exact ⟨by rw [HU.out], hx2.drewN _, hz2.drewN _, below_drewN hb2 _⟩
      case rest =>
        clear hx2 hz2 hb2 hund hxz
        obtain ⟨rfl, hx2, hz2, hb2⟩ := hcut
        have HC := Lib.hid (cmpL_under xs zs)
        have HS := undB_self xs
        have hun := under_u8 (some ⟨g, 0, none⟩) A zn cap n c zs xs wc hz2 hx2 (by omega)
        generalize undB zs xs = u at hun HC
        go_upto_region 8 with fail
        go_cut [89] (fun s wx => s = .bool false ∧ U8 wx A n c xs ∧ U8 wx (some ⟨g, 0, none⟩) zn cap zs ∧ Below w.heap.size w wx)
        case first =>
          cases u
          · clear HC
            go_wp2_with fail
            refine hun.mono ?_
            rintro e w1 ⟨rfl, q3, rfl⟩
            go_wp2_with fail
            refine (under_u8 A A n c n c xs xs _ (hx2.drewN _) (hx2.drewN _) (by omega)).mono ?_
            rintro e w1 ⟨rfl, q4, rfl⟩
            rw [HS]
            go_wp2_with fail
            go_meet
            exact ⟨rfl, hx2.drewN _, hz2.drewN _, below_drewN hb2 _⟩
          · have HC := HC.out rfl
            go_wp2_with fail
            refine hun.mono ?_
            rintro e w1 ⟨rfl, q3, rfl⟩
            go_wp2_with fail
            refine (top_cmp A (some ⟨g, 0, none⟩) n c zn cap xs zs _ (hx2.drewN _) (hz2.drewN _) (by omega) (by omega)).mono ?_
            rintro e w1 ⟨rfl, rfl⟩
            rw [HC]
            go_wp2_with fail
            refine (under_u8 A A n c n c xs xs _ (hx2.drewN _) (hx2.drewN _) (by omega)).mono ?_
            rintro e w1 ⟨rfl, q4, rfl⟩
            rw [HS]
            go_wp2_with fail
            go_meet
            exact ⟨rfl, hx2.drewN _, hz2.drewN _, below_drewN hb2 _⟩
            all_goals trivial
        case rest =>
          clear hx2 hz2 hb2 hun HC HS
          obtain ⟨rfl, hx2, hz2, hb2⟩ := hcut
          rcases zn with _ | k1
          · go_wp2_with fail
            refine (up_none (some ⟨g, 0, none⟩) cap _).mono ?_
            rintro e w1 ⟨rfl, rfl⟩
            go_wp2_with fail
            refine (lives _).mono ?_
            rintro e w2 ⟨rfl, hbel⟩
            go_wp2_with fail
            go_ret
            exact ⟨rfl, hb2.trans (hbel.mono hb2.size)⟩
          · obtain ⟨x, EX⟩ : ∃ x, Hid (zs[k1]? = some x) := ⟨zs[k1]'(by rw [hz2.1]; omega), Lib.hid (List.getElem?_eq_getElem _)⟩
            go_wp2_with fail
            refine (up_u8 ⟨g, 0, none⟩ k1 cap zs x _ hz2 (by omega) EX.out).mono ?_
            rintro e w1 ⟨g2, rfl, hup, hb3⟩
            have hzc := hz2.below hb3
            have t1 := hup.text (P := Tryd.prog) (src := 27) (dst := 9) (e := 5) rfl rfl rfl
            have t2 := (hzc.take (k := k1) (by omega)).text (P := Tryd.prog) (src := 22) (dst := 9) (e := 5) rfl rfl rfl
            have hcell : w1.cell? ⟨g, k1, none⟩ = some (.int .u8 x) := by
              obtain ⟨a', x', e1, e2, _, _, e3⟩ := hzc.cell (j := k1) (by omega)
              injection e1 with e1
              subst e1
              rw [EX.out] at e2
              injection e2 with e2
              subst e2
              rwa [show (⟨g, 0, none⟩ : Addr).add k1 = ⟨g, k1, none⟩ by unfold Addr.add; split <;> simp_all] at e3
            have hun : ∀ q, Calls Tryd.prog 7 #[.slice (some ⟨g, 0, none⟩) (k1 + 1) cap, .slice (some ⟨g2, 0, none⟩) k1 k1] (w1.drewN q) fun e w' => e = .returned (.bool true) ∧ ∃ m, w' = (w1.drewN q).drewN m := fun q => by
              have e := under_u8 (some ⟨g, 0, none⟩) (some ⟨g2, 0, none⟩) (k1 + 1) cap k1 k1 zs (zs.take k1) (w1.drewN q) (hzc.drewN q) (hup.drewN q) (by omega)
              rwa [undB_take zs k1 (by rw [hz2.1]; omega)] at e
            have hb4 : Below w.heap.size w w1 := hb2.trans (hb3.mono hb2.size)
            have p0 : (0 : Int) ≤ (k1 : Int) := by omega
            have p1 : (k1 : Int) ≤ (cap : Int) := by have := hz2.2.2.1; omega
            have p2 : (k1 : Int) < ((k1 + 1 : Nat) : Int) := by omega
            have p3 : (k1 : Int) < (k1 : Int) + 1 := by omega
            clear hz2 hx2 hup hzc EX hb2 hb3
            go_wp2_with fail
            go_quiet ((go_at_call 7; exact Calls.quiet_of (hun _)))
            go_wp2_with fail
            refine (lives _).mono ?_
            rintro e w2 ⟨rfl, hbel⟩
            go_wp2_with fail
            go_ret
            have hb5 := below_drewN hb4 nq
            exact ⟨rfl, hb5.trans (hbel.mono hb5.size)⟩
end Go.Proofs.YtfnbkmddkahajaaDoor
