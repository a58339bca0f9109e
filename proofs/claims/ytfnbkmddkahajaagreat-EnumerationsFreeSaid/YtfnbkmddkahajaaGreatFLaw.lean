/-
  What is proved here: plugboardlaw21.EnumerationsFree returns true (what its text does, walked once).
  Conditions: what the slice's cells hold.
-/
import Derived.Test.YtfnbkmddkahajaaGreatFFree
import Derived.WalkKit
import Derived.Deep.DeepCutAuto
import Derived.Deep.CutBlock
import Derived.Laws.AppendOwnNone
import Derived.Lib.Hide
import Derived.Deep.RegionHeld
namespace Go.Proofs.YtfnbkmddkahajaaGreat
open Go.Proofs Go.RowKit

theorem info5 : (Tryz.prog.info? 5).map (fun i => (i.zero, i.size, i.bytes)) = some (some (.int .u8 0), 1, 1) := by kernel_rfl

/-- what a law's call is to do -/
def End3 (W : World) (e : Ending) (w' : World) : Prop := e = .returned (.bool true) ∧ Below W.heap.size W w'

/-- a slice of bytes that reads as a list -/
def U8 (w : World) (A : Option Addr) (n c : Nat) (xs : List Int) : Prop :=
  xs.length = n ∧ (∀ x ∈ xs, 0 ≤ x ∧ x ≤ 255) ∧ ((A = none ∧ n = 0 ∧ c = 0) ∨ ∃ a : Addr, A = some a ∧ ∀ j u, xs[j]? = some u → w.cell? (a.add j) = some (.int .u8 u))

theorem own_ge {w : World} {base size n : Nat} {e : TypeId} {v : Value} {xs : List Value} (h : w.ownsRow base e size v n xs) : ∀ k, v.ownBlock = some k → base ≤ k := by
  intro k hk
  rcases h.2 with ⟨rfl, _⟩ | ⟨g, cap, cur, rfl, hg, _⟩
  · simp [Value.ownBlock] at hk
  · simp [Value.ownBlock] at hk; omega

/-- what the list is behind the building loop -/
def Built (w : World) (v : Value) (wr : World) (m : Nat) : Prop :=
  ∃ xs : List Int, wr.ownsRow w.heap.size 5 1 v xs.length (xs.map (Value.int .u8)) ∧ xs.length ≤ m ∧ (∀ x ∈ xs, 0 ≤ x ∧ x ≤ 255) ∧ Below w.heap.size w wr

theorem Built.start {w w1 : World} {v : Value} {zs : List Int} {n : Nat} (hz : zs.length = n) (hr : ∀ x ∈ zs, 0 ≤ x ∧ x ≤ 255) (hb : Below w.heap.size w w1) (h : w1.ownsRow w.heap.size 5 1 v n (zs.map (Value.int .u8))) : Built w v w1 n := by
  subst hz
  exact ⟨zs, by simpa using h, Nat.le_refl _, hr, hb⟩

/-- whether a number is among the first j -/
def isv (xs : List Int) (k j : Nat) : Int := if (k : Int) ∈ xs.take j then 1 else 0
theorem isv_zero (xs : List Int) (k : Nat) : isv xs k 0 = 0 := by simp [isv]
theorem isv_hit {xs : List Int} {k j : Nat} (hj : j < xs.length) (h : xs[j]?.getD 0 = (k : Int)) : isv xs k (j + 1) = 1 := by
  unfold isv
  rw [if_pos]
  rw [List.take_succ_eq_append_getElem hj]
  rw [List.getElem?_eq_getElem hj] at h
  have h : xs[j] = (k : Int) := h
  rw [List.mem_append, List.mem_singleton]
  exact .inr h.symm
theorem isv_miss {xs : List Int} {k j : Nat} (hj : j < xs.length) (h : ¬ xs[j]?.getD 0 = (k : Int)) : isv xs k (j + 1) = isv xs k j := by
  unfold isv
  rw [List.getElem?_eq_getElem hj] at h
  have h : ¬ xs[j] = (k : Int) := h
  have e : ((k : Int) ∈ xs.take (j + 1)) = ((k : Int) ∈ xs.take j) := by
    rw [List.take_succ_eq_append_getElem hj, List.mem_append, List.mem_singleton]
    exact propext ⟨fun hh => hh.resolve_right fun e => h e.symm, .inl⟩
  simp only [e]

/-- the lowest number above k that is not there -/
def WantIs (xs : List Int) (k m : Nat) : Prop :=
  (m = 0 ∧ ∀ j : Nat, k < j → j ≤ 127 → (j : Int) ∈ xs) ∨ (k < m ∧ m ≤ 127 ∧ (m : Int) ∉ xs ∧ ∀ j : Nat, k < j → j < m → (j : Int) ∈ xs)
theorem WantIs.step0 {xs : List Int} {k : Nat} (hk : k + 1 ≤ 127) (hi : isv xs (k + 1) xs.length = 0) : WantIs xs k (k + 1) := by
  have hni : ((k + 1 : Nat) : Int) ∉ xs := by
    unfold isv at hi
    rw [List.take_length] at hi
    split at hi
    · cases hi
    · assumption
  exact .inr ⟨by omega, hk, hni, fun j h1 h2 => by omega⟩
theorem WantIs.step1 {xs : List Int} {k m : Nat} (h : WantIs xs (k + 1) m) (hi : ¬ isv xs (k + 1) xs.length = 0) : WantIs xs k m := by
  have hin : ((k + 1 : Nat) : Int) ∈ xs := by
    unfold isv at hi
    rw [List.take_length] at hi
    split at hi
    · assumption
    · exact absurd rfl hi
  rcases h with ⟨h0, hall⟩ | ⟨h1, h2, h3, hall⟩
  · refine .inl ⟨h0, fun j h1 h2 => ?_⟩
    by_cases e : j = k + 1
    · subst e; exact hin
    · exact hall j (by omega) h2
  · refine .inr ⟨by omega, h2, h3, fun j h4 h5 => ?_⟩
    by_cases e : j = k + 1
    · subst e; exact hin
    · exact hall j (by omega) h5

/-- what Free returns is what is wanted -/
theorem want_free {xs : List Int} {m : Nat} (h : WantIs xs 0 m) (e : Ending) (hf : FreeIs xs e) :
    (m = 0 ∧ e = .returned (.tuple #[.int .u8 0, .int .i64 9])) ∨ (1 ≤ m ∧ m ≤ 127 ∧ e = .returned (.tuple #[.int .u8 m, .int .i64 0])) := by
  rcases h with ⟨rfl, hall⟩ | ⟨h1, h2, h3, hall⟩
  · rcases hf with ⟨k, a1, a2, a3, a4, rfl⟩ | ⟨a1, rfl⟩
    · exact absurd (hall k (by omega) a2) a3
    · exact .inl ⟨rfl, rfl⟩
  · rcases hf with ⟨k, a1, a2, a3, a4, rfl⟩ | ⟨a1, rfl⟩
    · have : k = m := by
        rcases Nat.lt_trichotomy k m with h | h | h
        · exact absurd (hall k (by omega) h) a3
        · exact h
        · exact absurd (a4 m (by omega) h) h3
      subst this
      exact .inr ⟨a1, a2, rfl⟩
    · exact absurd (a1 m (by omega) (by omega)) h3

/-- an owned row as an address and cells -/
theorem own_form {w : World} {base n : Nat} {v : Value} {xs : List Int} (h : w.ownsRow base 5 1 v n (xs.map (Value.int .u8))) :
    ∃ A cap, v = .slice A xs.length cap ∧ n = xs.length ∧ (0 < xs.length → ∃ g, A = some ⟨g, 0, none⟩) ∧ ∀ g, A = some ⟨g, 0, none⟩ → ∀ j, j < xs.length → w.cell? ⟨g, j, none⟩ = some (.int .u8 (xs[j]?.getD 0)) := by
  have hn : n = xs.length := by have := h.1; simp at this; omega
  subst hn
  rcases h.2 with ⟨rfl, h0⟩ | ⟨g, cap, cur, rfl, hg, hrest⟩
  · have h0 : xs.length = 0 := h0
    refine ⟨none, 0, by rw [h0], rfl, fun hp => by omega, fun g e => by cases e⟩
  · refine ⟨some ⟨g, 0, none⟩, cap, rfl, rfl, fun _ => ⟨g, rfl⟩, fun g' e j hj => ?_⟩
    injection e with e
    injection e with e
    subst e
    rw [h.cellAt j (by simpa using hj)]
    simp [List.getElem?_eq_getElem hj]

set_option maxHeartbeats 1000000 in
set_option maxRecDepth 1000000 in
theorem ef_walk (lives : ∀ w, Calls Tryz.prog 4 #[] w (End3 w)) (A : Option Addr) (n c : Nat) (zs : List Int) (full : Bool) (but : Int) (w : World) (hbig : n ≤ 9223372036854775807)
    (hbut : 0 ≤ but ∧ but ≤ 255) (hl : U8 w A n c zs) :
    Calls Tryz.prog 3 #[.slice A n c, .bool full, .int .u8 but] w (End3 w) := by
  obtain ⟨i0, hi, hz0, hz1, hz2⟩ := info_parts info5
  obtain ⟨hz, hzr, hl⟩ := hl
  by_cases h200 : 200 < n
  · go_enter Tryz.func3, Tryz.ntmps3
    go_wp2_with (go_at_call 4; refine (lives _).mono ?_; rintro e w' ⟨rfl, hbel⟩)
    go_ret
    exact ⟨rfl, hbel⟩
  go_enter Tryz.func3, Tryz.ntmps3
  go_upto_region 3 with fail
  go_cut [7] (fun s7 wx => Built w s7 wx n)
  case first =>
    rcases hl with ⟨rfl, rfl, rfl⟩ | ⟨ad, rfl, hc⟩
    · go_wp2_with (at_builtin; refine wpList_append_own_none rfl (.tmp 19) (.tmp 20) 22 rfl w.heap.size 5 i0 1 Tryz.underlying22 hi _ 0 [] rfl ?own rfl ?_)
      case own => exact World.ownsRow_made w #[] 0 (Nat.le_refl _) (by decide) rfl
      go_wp2
      go_meet
      have e0 : zs = [] := List.length_eq_zero_iff.1 hz
      subst e0
      exact ⟨[], World.ownsRow_made w #[] 0 (Nat.le_refl _) (by decide) rfl, by simp, by simp, (Below.refl _ _).alloc (Nat.le_refl _) _⟩
    · go_wp2_with (at_builtin; refine wpList_append_own _ rfl (.tmp 19) (.tmp 20) 22 rfl w.heap.size 5 i0 (.int .u8 0) 1 1 Tryz.underlying22 hi hz0 hz1 hz2 rfl (by decide) _ 0 [] rfl ?own ad n c (zs.map (Value.int .u8)) rfl ?c1 ?c2 ?c3 ?c4 ?c5 ?c6 ?_)
      case own => exact World.ownsRow_made w #[] 0 (Nat.le_refl _) (by decide) rfl
      case c1 => simp [hz]
      case c2 =>
        intro j u hj
        rw [List.getElem?_map, Option.map_eq_some_iff] at hj
        obtain ⟨x, hx, rfl⟩ := hj
        have hcx := hc j x hx
        rw [World.cell?_alloc_lt _ _ _ (World.block_lt_of_cell? _ _ hcx)]
        exact hcx
      case c3 =>
        intro u hu
        obtain ⟨x, _, rfl⟩ := List.mem_map.1 hu
        rfl
      case c4 => unfold maxLen; omega
      case c5 => omega
      case c6 => simp
      intro v' w1 hown hgrow _
      have hb1 : Below w.heap.size w w1 := ((Below.refl _ _).alloc (Nat.le_refl _) _).grown hgrow (by simp) (fun k hk => by simp [Value.ownBlock] at hk; omega)
      go_wp2
      go_meet
      exact Built.start hz hzr hb1 hown
  case rest =>
    clear hl
    go_upto_block 0 with fail
    go_cut [7] (fun s7 wx => Built w s7 wx (n + 127))
    case first =>
      go_wp2_with fail
      go_loopw [7, 8] (fun v i wr => ∃ k : Nat, 1 ≤ k ∧ k ≤ 128 ∧ i = .int .i64 k ∧ Built w v wr (n + (k - 1)))
        (fun _ i _ => 128 - (intOf i).toNat)
      case atStart => exact ⟨1, by omega, by omega, rfl, hcut⟩
      case round =>
        obtain ⟨k, h1, h2, rfl, xs, hown, hlen, hxr, hbel⟩ := hrel
        by_cases hk : k < 128
        · cases full
          · go_wp2_with fail
            go_meet
            exact ⟨xs, hown, by omega, hxr, hbel⟩
          · go_wp2_with (at_builtin; refine wpList_append_own _ rfl (.tmp 33) (.tmp 36) 22 rfl w.heap.size 5 i0 (.int .u8 0) 1 1 Tryz.underlying22 hi hz0 hz1 hz2 rfl (by decide) _ xs.length (xs.map (Value.int .u8)) rfl (hown.alloc _) ⟨_, 0, none⟩ 1 1 [.int .u8 (k : Int)] rfl ?d1 ?d2 ?d3 ?d4 ?d5 ?d6 ?_)
            case d1 => rfl
            case d2 =>
              intro j u hj
              match j, hj with
              | 0, hj =>
                simp at hj; subst hj
                rw [show (⟨wr.heap.size, 0, none⟩ : Addr).add 0 = ⟨wr.heap.size, 0, none⟩ by simp [Addr.add], World.cell?_alloc_at _ _ _ _ rfl]; rfl
            case d3 => intro u hu; simp at hu; subst hu; rfl
            case d4 => unfold maxLen; omega
            case d5 => omega
            case d6 => have := hbel.size; simp; omega
            · intro v2 w2 hown2 hgrow2 _
              have hb2 : Below w.heap.size w w2 := (hbel.alloc hbel.size _).grown hgrow2 (by have := hbel.size; simp; omega) (own_ge hown)
              have hx2 : ∀ x ∈ xs ++ [(k : Int)], 0 ≤ x ∧ x ≤ 255 := fun x hx => by
                rcases List.mem_append.1 hx with hx | hx
                · exact hxr x hx
                · simp at hx; omega
              have hown3 : w2.ownsRow w.heap.size 5 1 v2 (xs ++ [(k : Int)]).length ((xs ++ [(k : Int)]).map (Value.int .u8)) := by simpa using hown2
              go_wp2_with fail
              go_roundw
              case rel => exact ⟨k + 1, by omega, by omega, by go_num, xs ++ [(k : Int)], hown3, by simp; omega, hx2, hb2⟩
              case measure => simp [intOf]; omega
            · go_roundw
              case rel => exact ⟨k + 1, by omega, by omega, by go_num, xs, hown, by omega, hxr, hbel⟩
              case measure => simp [intOf]; omega
        · go_wp2_with fail
          go_meet
          exact ⟨xs, hown, by omega, hxr, hbel⟩
    case rest =>
      obtain ⟨xs, hown, hlen, hxr, hbel⟩ := hcut
      obtain ⟨A7, cap7, rfl, _, hpos, hcells⟩ := own_form hown
      clear hown
      go_wp2_with fail
      go_loop [9, 10] (fun want a => ∃ k m : Nat, k ≤ 127 ∧ a = .int .i64 k ∧ want = .int .i64 m ∧ WantIs xs k m) (fun _ a => (intOf a).toNat)
      case atStart => exact ⟨127, 0, by omega, rfl, rfl, .inl ⟨rfl, fun j h1 h2 => by omega⟩⟩
      case round =>
        obtain ⟨k, m, h1, rfl, rfl, hw⟩ := hrel
        by_cases hk : 0 < k
        · obtain ⟨k, rfl⟩ : ∃ k', k = k' + 1 := ⟨k - 1, by omega⟩
          go_wp2_with fail
          go_loop [11, 12] (fun is i => ∃ j : Nat, j ≤ xs.length ∧ i = .int .i64 j ∧ is = .int .i64 (isv xs (k + 1) j)) (fun _ i => xs.length - (intOf i).toNat)
          case atStart => exact ⟨0, by omega, rfl, by rw [isv_zero]⟩
          case round =>
            obtain ⟨j, h2, rfl, rfl⟩ := hrel
            by_cases hj : j < xs.length
            · obtain ⟨g, rfl⟩ := hpos (by omega)
              have hcell := hcells g rfl j hj
              have hx := @isv_hit xs (k + 1) j hj
              have hy := @isv_miss xs (k + 1) j hj
              have hyr := hxr (xs[j]?.getD 0) (by rw [List.getElem?_eq_getElem hj]; exact List.getElem_mem hj)
              clear hcells hpos
              generalize xs[j]?.getD 0 = y at *
              by_cases he : y = ((k + 1 : Nat) : Int)
              · have HX := Lib.hid (hx he)
                subst he
                clear hy hx
                go_wp2_with fail
                go_round
                case rel => exact ⟨j + 1, by omega, by go_num, by rw [HX.out]⟩
                case measure => simp [intOf]; omega
              · have HX := Lib.hid (hy he)
                have he : (y == ((k + 1 : Nat) : Int)) = false := by simpa using he
                clear hy hx
                go_wp2_with fail
                go_round
                case rel => exact ⟨j + 1, by omega, by go_num, by rw [HX.out]⟩
                case measure => simp [intOf]; omega
            · obtain rfl : j = xs.length := by omega
              by_cases he : isv xs (k + 1) xs.length = 0
              · have hx := Lib.hid (WantIs.step0 h1 he)
                clear hw
                rw [he]
                clear he
                go_wp2_with fail
                go_round
                case rel => exact ⟨k, k + 1, by omega, by go_num, by go_num, hx.out⟩
                case measure => simp [intOf]
              · have hx := Lib.hid (WantIs.step1 hw he)
                have he : (isv xs (k + 1) xs.length == 0) = false := by simpa using he
                clear hw
                go_wp2_with fail
                go_round
                case rel => exact ⟨k, m, by omega, by go_num, rfl, hx.out⟩
                case measure => simp [intOf]
        · obtain rfl : k = 0 := by omega
          have hfree : Calls Tryz.prog 5 #[.slice A7 xs.length cap7] wc fun e w' => w' = wc ∧ FreeIs xs e := by
            by_cases hp : 0 < xs.length
            · obtain ⟨g, rfl⟩ := hpos hp
              have hf := free_u8 g 0 xs.length cap7 xs wc (Nat.le_refl _) (by omega) (fun j hj => by rw [Nat.zero_add]; exact hcells g rfl j hj)
              rwa [List.take_length] at hf
            · have e0 : xs = [] := List.length_eq_zero_iff.1 (by omega)
              subst e0
              exact free_none A7 cap7 wc
          have hw := want_free hw
          clear hcells hpos
          go_wp2_with (go_at_call 5; refine hfree.mono ?_; rintro e w' ⟨rfl, hf⟩; rcases hw e hf with ⟨rfl, rfl⟩ | ⟨hm1, hm2, rfl⟩)
          all_goals (refine (lives _).mono ?_; rintro e w' ⟨rfl, hbel2⟩; go_wp2_with fail; go_ret; exact ⟨rfl, hbel.trans (hbel2.mono hbel.size)⟩)
end Go.Proofs.YtfnbkmddkahajaaGreat
