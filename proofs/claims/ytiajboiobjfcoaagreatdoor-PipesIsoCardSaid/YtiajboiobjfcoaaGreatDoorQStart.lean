/-
  What is proved here: what periodics.Start returns.
  Conditions: what the slices' cells hold.
-/
import Derived.Test.YtiajboiobjfcoaaGreatDoorQStore
import Derived.Deep.RegionHeld3
import Derived.Deep.AppendLies
import Derived.Deep.RegionLaw
namespace Go.Proofs.YtiajboiobjfcoaaGreatDoor
open Go.Proofs Go.RowKit
attribute [local go_sem] lt2 lt3 lt4 lt5
theorem info30 : (Tryz.prog.info? 23).map (fun i => (i.zero, i.size, i.bytes)) = some (some (.slice none 0 0), 1, 24) := by kernel_rfl
theorem news1 (w : World) (v : Value) (t : TypeId) : ∀ (j : Nat) u, [v][j]? = some u → (w.alloc (.cells #[v] t)).cell? ((⟨w.heap.size, 0, none⟩ : Addr).add j) = some u := by
 intro j u hj
 match j, hj with
 | 0, hj =>
  simp at hj; subst hj
  rw [show (⟨w.heap.size, 0, none⟩ : Addr).add 0 = ⟨w.heap.size, 0, none⟩ by simp [Addr.add], World.cell?_alloc_new]; rfl
def B8 (w : World) (v : Value) (b : List Int) : Prop := ∃ A n c, v = .slice A n c ∧ U8 w A n c b ∧ n ≤ 65536
def B8s (w : World) (vs : List Value) (bs : List (List Int)) : Prop := vs.length = bs.length ∧ ∀ (j : Nat) v b, vs[j]? = some v → bs[j]? = some b → B8 w v b
def Sls (w : World) (A : Option Addr) (n c : Nat) (vs : List Value) : Prop :=
 vs.length = n ∧ n ≤ c ∧ ((A = none ∧ n = 0 ∧ c = 0) ∨ ∃ a : Addr, A = some a ∧ ∀ (j : Nat) v, vs[j]? = some v → w.cell? (a.add j) = some v)
theorem Sls.elem {w : World} {A : Option Addr} {n c k : Nat} {vs : List Value} {bs : List (List Int)} (h : Sls w A n c vs) (hb : B8s w vs bs) (hk : k < n) :
  ∃ a Ak nk ck b, A = some a ∧ bs[k]? = some b ∧ w.cell? (a.add k) = some (.slice Ak nk ck) ∧ U8 w Ak nk ck b ∧ nk ≤ 65536 ∧ n ≤ c := by
 obtain ⟨h1, h2, ⟨_, h3, _⟩ | ⟨a, rfl, h3⟩⟩ := h
 ·omega
 ·have hv : k < vs.length := by omega
  have hv2 : k < bs.length := by rw [← hb.1]; exact hv
  obtain ⟨Ak, nk, ck, e, hu, hm⟩ := hb.2 k vs[k] bs[k] (List.getElem?_eq_getElem hv) (List.getElem?_eq_getElem hv2)
  exact ⟨a, Ak, nk, ck, _, rfl, List.getElem?_eq_getElem hv2, by rw [← e]; exact h3 k _ (List.getElem?_eq_getElem hv), hu, hm, h2⟩
theorem Sls.below {w w' : World} {A : Option Addr} {n c : Nat} {vs : List Value} (h : Sls w A n c vs) (hb : Below w.heap.size w w') : Sls w' A n c vs := by
 obtain ⟨h1, h2, h3⟩ := h
 refine ⟨h1, h2, h3.imp id ?_⟩
 rintro ⟨a, rfl, h4⟩
 exact ⟨a, rfl, fun j v hj => (hb.cell (World.block_lt_of_cell? _ _ (h4 j v hj))).trans (h4 j v hj)⟩
theorem B8.below {w w' : World} {v : Value} {b : List Int} (h : B8 w v b) (hb : Below w.heap.size w w') : B8 w' v b := by
 obtain ⟨A, n, c, h1, h2, h3⟩ := h; exact ⟨A, n, c, h1, h2.below hb, h3⟩
theorem B8s.below {w w' : World} {vs : List Value} {bs : List (List Int)} (h : B8s w vs bs) (hb : Below w.heap.size w w') : B8s w' vs bs := ⟨h.1, fun j v b h1 h2 => (h.2 j v b h1 h2).below hb⟩
def El (w : World) (v : Value) (b : List Int) : Prop := ∃ g c, v = .slice (some ⟨g, 0, none⟩) b.length c ∧ F8 w g b.length c b
def Els (w : World) (vs : List Value) (bs : List (List Int)) : Prop := vs.length = bs.length ∧ ∀ (j : Nat) v b, vs[j]? = some v → bs[j]? = some b → El w v b
theorem El.heap {w w' : World} {v : Value} {b : List Int} (h : El w v b) (he : ∀ (g : Nat) cs, w.heap[g]? = some (.cells cs 5 (0, 0)) → w'.heap[g]? = some (.cells cs 5 (0, 0))) : El w' v b := by
 obtain ⟨g, c, h1, a1, a2, a3, cs, a4, a5⟩ := h; exact ⟨g, c, h1, a1, a2, a3, cs, he _ _ a4, a5⟩
theorem Els.heap {w w' : World} {vs : List Value} {bs : List (List Int)} (h : Els w vs bs) (he : ∀ (g : Nat) cs, w.heap[g]? = some (.cells cs 5 (0, 0)) → w'.heap[g]? = some (.cells cs 5 (0, 0))) : Els w' vs bs := ⟨h.1, fun j v b h1 h2 => (h.2 j v b h1 h2).heap he⟩
theorem keeps_below {w w' : World} (hb : Below w.heap.size w w') : ∀ (g : Nat) cs, w.heap[g]? = some (.cells cs 5 (0, 0)) → w'.heap[g]? = some (.cells cs 5 (0, 0)) :=
 fun _ _ h => heap_below h hb
theorem own_type {w : World} {B size n g : Nat} {e e' : TypeId} {v : Value} {xs : List Value} {cs : Array Value} (h : w.ownsRow B e size v n xs) (hg : w.heap[g]? = some (.cells cs e' (0, 0))) (he : e' ≠ e) : v.ownBlock ≠ some g := by
 intro hv
 rcases h.2 with ⟨rfl, _⟩ | ⟨k, cap, cur, rfl, _, hh, _⟩
 ·simp [Value.ownBlock] at hv
 ·simp [Value.ownBlock] at hv
  subst hv
  rw [hh] at hg
  injection hg with hg
  injection hg with _ h2
  exact he h2.symm
theorem keeps_grown {w w' : World} {B size n : Nat} {e : TypeId} {v : Value} {xs : List Value} (h : w.ownsRow B e size v n xs) (he : (5 : TypeId) ≠ e) (hg : w.grownBy w' v.ownBlock) : ∀ (g : Nat) cs, w.heap[g]? = some (.cells cs 5 (0, 0)) → w'.heap[g]? = some (.cells cs 5 (0, 0)) :=
 fun _ _ hh => heap_grown hh hg (own_type h hh he)
theorem Els.snoc {w : World} {vs : List Value} {bs : List (List Int)} {v : Value} {b : List Int} (h : Els w vs bs) (hv : El w v b) : Els w (vs ++ [v]) (bs ++ [b]) := by
 refine ⟨by simp [h.1], fun j u c h1 h2 => ?_⟩
 by_cases hj : j < vs.length
 ·rw [List.getElem?_append_left hj] at h1
  rw [List.getElem?_append_left (by rw [← h.1]; exact hj)] at h2
  exact h.2 j u c h1 h2
 ·rw [List.getElem?_append_right (by omega)] at h1
  rw [List.getElem?_append_right (by rw [← h.1]; omega), ← h.1] at h2
  match hq : j - vs.length with
  | 0 =>
   rw [hq] at h1 h2
   simp at h1 h2
   subst h1 h2
   exact hv
  | q + 1 => rw [hq] at h1; simp at h1
def PSt (w : World) (en mx : Int) (A : Option Addr) (n c : Nat) (bs : List (List Int)) (k : Nat) (wr : World) : Prop :=
 ∃ v us, wr.ownsRow (w.heap.size + 1 + 1 + 1) 23 1 v k us ∧ Els wr us (bs.take k) ∧ Below w.heap.size w wr ∧ w.heap.size + 1 + 1 + 1 ≤ wr.heap.size ∧
  wr.heap[w.heap.size]? = some (.cells #[.bool false, .int .u8 en, .int .i64 mx, .slice A n c, .int .i64 0] 49 (0, 0)) ∧
  wr.heap[w.heap.size + 1]? = some (.cells #[.bool false, .int .u8 0, .int .i64 0, .slice none 0 0, .int .i64 0, .int .i64 0, .slice none 0 0] 52 (0, 0)) ∧
  wr.heap[w.heap.size + 1 + 1]? = some (.cells #[.bool false, .int .u8 en, .int .i64 mx, v, .int .i64 0, .int .i64 n, .slice none 0 0] 52 (0, 0))
theorem PSt.step {w : World} {en mx : Int} {A : Option Addr} {n c : Nat} {bs : List (List Int)} {k : Nat} {wr w1 w2 : World} {v : Value} {us : List Value} {b : List Int} {g1 c1 g2 cap2 : Nat}
  (hown : wr.ownsRow (w.heap.size + 1 + 1 + 1) 23 1 v k us) (hel : Els wr us (bs.take k)) (hbel : Below w.heap.size w wr) (hsz : w.heap.size + 1 + 1 + 1 ≤ wr.heap.size)
  (hX0 : wr.heap[w.heap.size]? = some (.cells #[.bool false, .int .u8 en, .int .i64 mx, .slice A n c, .int .i64 0] 49 (0, 0)))
  (hX1 : wr.heap[w.heap.size + 1]? = some (.cells #[.bool false, .int .u8 0, .int .i64 0, .slice none 0 0, .int .i64 0, .int .i64 0, .slice none 0 0] 52 (0, 0)))
  (hX2 : wr.heap[w.heap.size + 1 + 1]? = some (.cells #[.bool false, .int .u8 en, .int .i64 mx, v, .int .i64 0, .int .i64 n, .slice none 0 0] 52 (0, 0)))
  (hb1 : Below wr.heap.size wr w1) (hu1 : F8 w1 g1 b.length c1 b) (eb : bs[k]? = some b)
  (hown2 : w2.ownsRow (w.heap.size + 1 + 1 + 1) 23 1 (.slice (some ⟨g2, 0, none⟩) (k + 1) cap2) (k + 1) (us ++ [.slice (some ⟨g1, 0, none⟩) b.length c1]))
  (hgrow2 : (w1.alloc (.cells #[.slice (some ⟨g1, 0, none⟩) b.length c1] 23)).grownBy w2 v.ownBlock) :
  PSt w en mx A n c bs (k + 1) (w2.setCell ⟨w.heap.size + 1 + 1, 3, none⟩ (.slice (some ⟨g2, 0, none⟩) (k + 1) cap2)) := by
 have hba : Below w1.heap.size w1 (w1.alloc (.cells #[.slice (some ⟨g1, 0, none⟩) b.length c1] 23)) := (Below.refl _ _).alloc (Nat.le_refl _) _
 have hbA := hb1.trans (hba.mono hb1.size)
 have hge := own_ge hown
 have f0 := heap_grown (heap_below hX0 hbA) hgrow2 (fun e => by have := hge _ e; omega)
 have f1 := heap_grown (heap_below hX1 hbA) hgrow2 (fun e => by have := hge _ e; omega)
 have f2 := heap_grown (heap_below hX2 hbA) hgrow2 (fun e => by have := hge _ e; omega)
 have hk := keeps_grown (own_below hown hbA) (by decide) hgrow2
 rw [setCell_eq_setRow _ _ _ _ _ _ _ f2]
 have hW := Wrote.setRow (w.heap.size + 1 + 1) w2 (#[.bool false, .int .u8 en, .int .i64 mx, v, .int .i64 0, .int .i64 n, .slice none 0 0].setIfInBounds 3 (.slice (some ⟨g2, 0, none⟩) (k + 1) cap2))
 have hk5 : ∀ (g : Nat) cs, w2.heap[g]? = some (.cells cs 5 (0, 0)) → (w2.setRow (w.heap.size + 1 + 1) (#[.bool false, .int .u8 en, .int .i64 mx, v, .int .i64 0, .int .i64 n, .slice none 0 0].setIfInBounds 3 (.slice (some ⟨g2, 0, none⟩) (k + 1) cap2))).heap[g]? = some (.cells cs 5 (0, 0)) := by
  intro g cs hg
  rw [hW.other g ?_]; exact hg
  rintro rfl
  rw [f2] at hg
  simp at hg
 have hb2 : Below w.heap.size w w2 := (hbel.trans (hbA.mono hbel.size)).grown hgrow2 (by have := hbA.size; omega) (fun j e => by have := hge _ e; omega)
 refine ⟨_, _, hW.own hown2 (by omega), ?_, hb2.trans (hW.below (by omega)), ?_, ?_, ?_, ?_⟩
 ·rw [List.take_add_one, eb]
  exact ((hel.heap fun g cs h => hk5 g cs (hk g cs (keeps_below hbA g cs h))).snoc ⟨g1, c1, rfl, (hu1.below hba).heap fun o ho => by
   obtain ⟨_, _, _, cs, a4, _⟩ := hu1.below hba
   rw [a4] at ho
   injection ho with ho
   subst ho
   exact hk5 _ _ (hk _ _ a4)⟩)
 ·rw [hW.size]; have := hgrow2.size; have := hbA.size; omega
 ·rw [hW.other _ (by omega)]; exact f0
 ·rw [hW.other _ (by omega)]; exact f1
 ·exact setRow_heap _ _ _ _ _ _ f2
def POut (w : World) (en mx : Int) (n : Nat) (bs : List (List Int)) (e : Ending) (w' : World) : Prop :=
 Below w.heap.size w w' ∧ ((∃ t, e = .returned (.tuple #[t, .int .i64 3]) ∧ ∃ b ∈ bs, mx < (b.length : Int)) ∨
  (∃ v us, e = .returned (.tuple #[.agg #[.bool false, .int .u8 en, .int .i64 mx, v, .int .i64 0, .int .i64 n, .slice none 0 0], .int .i64 0]) ∧ (∀ b ∈ bs, (b.length : Int) ≤ mx) ∧ w'.ownsRow w.heap.size 23 1 v n us ∧ Els w' us bs))
theorem own_base {w : World} {B B' e size n : Nat} {v : Value} {xs : List Value} (h : w.ownsRow B e size v n xs) (hb : B' ≤ B) : w.ownsRow B' e size v n xs := by
 refine ⟨h.1, h.2.imp id ?_⟩
 rintro ⟨g, cap, cur, rfl, hg, h3⟩
 exact ⟨g, cap, cur, rfl, by omega, h3⟩
set_option maxHeartbeats 4000000 in
set_option maxRecDepth 1000000 in
theorem pstart_out (en mx : Int) (A : Option Addr) (n c : Nat) (vs : List Value) (bs : List (List Int)) (w : World) (hA : Sls w A n c vs) (hb : B8s w vs bs) (h1 : 1 ≤ en ∧ en ≤ 15) (h2 : 1 ≤ mx ∧ mx ≤ 1024) (hn : 1 ≤ n ∧ n ≤ 256) :
    Calls Tryz.prog 25 #[.agg #[.bool false, .int .u8 en, .int .i64 mx, .slice A n c, .int .i64 0]] w (POut w en mx n bs) := by
  have d1 : decide (en < 1) = false := by simp; omega
  have d2 : decide (15 < en) = false := by simp; omega
  have d3 : decide (mx < 1) = false := by simp; omega
  have d4 : decide (1024 < mx) = false := by simp; omega
  have d5 : ((n : Int) == 0) = false := by simp; omega
  have d6 : decide ((256 : Int) < n) = false := by simp; omega
  have hbl : bs.length = n := by rw [← hb.1]; exact hA.1
  obtain ⟨i0, hi, hz0, hz1, hz2⟩ := info_parts info30
  go_enter Tryz.func25, Tryz.ntmps25
  go_wp2_with fail
  go_loopw [6, 82] (fun _ i wr => ∃ k : Nat, k ≤ n ∧ i = .int .i64 k ∧ PSt w en mx A n c bs k wr ∧ Hid (∀ b ∈ bs.take k, (b.length : Int) ≤ mx)) (fun _ i _ => n - (intOf i).toNat)
  case atStart =>
    refine ⟨0, by omega, rfl, ⟨.slice none 0 0, [], World.ownsRow_nil _ _ _ _, ⟨rfl, fun j v b h => by simp at h⟩, ?_, ?_, ?_, ?_, ?_⟩, Lib.hid (by simp)⟩
    · exact (((Below.refl _ _).alloc (Nat.le_refl _) _).alloc (by simp) _).alloc (by simp; omega) _
    · simp
    · exact alloc3_0 _ _ _ _
    · exact alloc3_1 _ _ _ _
    · exact alloc3_2 _ _ _ _
  case round =>
    obtain ⟨k, h3, rfl, ⟨v, us, hown, hbs, hbel, hsz, hX0, hX1, hX2⟩, HM⟩ := hrel
    by_cases hk : k < n
    · have q1 : (k : Int) < (n : Int) := by omega
      obtain ⟨a, Ak, nk, ck, b, rfl, eb, hck, huk, hnk, hnc⟩ := (hA.below hbel).elem (hb.below hbel) hk
      have EB := Lib.hid eb
      clear eb
      have c2 : wr.cell? ⟨w.heap.size, 2, none⟩ = some (.int .i64 mx) := cell_of_row wr _ 2 _ 49 (0, 0) hX0
      by_cases hle : (nk : Int) ≤ mx
      · have q2 : decide (mx < (nk : Int)) = false := by simp; omega
        go_wp2_with fail
        have hc0 : wr.cell? ⟨w.heap.size + 1 + 1, 3, none⟩ = some v := cell_of hX2 3
        go_region_law
          (first
            | (go_simp; go_at_call 55; refine (clone_p Ak nk ck b _ (huk.drew) hnk).mono ?_; rintro e w1 ⟨g1, c1, rfl, hu1, hg1, hb1⟩; replace hb1 : Below wr.heap.size wr w1 := below_undrew hb1; have hc1 := (hb1.cell (World.block_lt_of_cell? _ _ hc0)).trans hc0; have hc2 : ∀ o : Obj, (w1.alloc o).cell? ⟨w.heap.size + 1 + 1, 3, none⟩ = some v := fun o => (World.cell?_alloc_lt _ _ _ (World.block_lt_of_cell? _ _ hc1)).trans hc1)
            | (refine step_append_lies _ rfl (.tmp 94) (.tmp 97) 22 rfl (w.heap.size + 1 + 1 + 1) 23 i0 (.slice none 0 0) 1 24 Tryz.underlying22 hi hz0 hz1 hz2 rfl (by decide) v k us rfl (own_below (own_below hown hb1) ((Below.refl _ _).alloc (Nat.le_refl _) _)) ⟨w1.heap.size, 0, none⟩ 1 1 [.slice (some ⟨g1, 0, none⟩) b.length c1] rfl rfl (news1 _ _ _) (by simp [Value.oneCell']) (by omega) (by unfold maxLen; omega) (by omega) (by have := hb1.size; simp at this ⊢; omega) _ rfl ?_; intro g2 cap2 w2 hown2 hgrow2 hat2 hlt2
               have hY2 := heap_grown (heap_below (heap_below hX2 hb1) ((Below.refl _ _).alloc (Nat.le_refl _) (.cells #[.slice (some ⟨g1, 0, none⟩) b.length c1] 23))) hgrow2 (fun e => by have := own_ge hown _ e; omega)
               have z3 := cell_of hY2 3
               have f3 := frozen_of hY2 3))
        all_goals
          have hst := PSt.step hown hbs hbel hsz hX0 hX1 hX2 hb1 hu1 EB.out hown2 hgrow2
          have HN : Hid (∀ b ∈ bs.take (k + 1), (b.length : Int) ≤ mx) := Lib.hid (by
            rw [List.take_add_one, EB.out]
            intro x hx
            rcases List.mem_append.1 hx with hx | hx
            · exact HM.out x hx
            · simp at hx; subst hx; rw [huk.1]; exact hle)
          clear hown hbs hbel hsz hX0 hX1 hX2 hb1 hu1 hown2 hgrow2 hc0 hc1 hc2 hY2 z3 f3 hck huk hat2 hlt2 c2 HM
          go_wp2_with fail
          go_roundw
          case rel => exact ⟨k + 1, by omega, by go_num, hst, HN⟩
          case measure => simp [intOf]; omega
      · have q2 : decide (mx < (nk : Int)) = true := by simp; omega
        go_wp2_with (guard_target =~ wpList _ _ _ (_ :: _) _ _; refine wpList_store_row rfl (.tmp 2) (.tmp 91) 52 rfl (w.heap.size + 1) 0 52 _ _ #[.bool false, .int .u8 0, .int .i64 0, .slice none 0 0, .int .i64 0, .int .i64 0, .slice none 0 0] rfl rfl hX1 (by kernel_rfl) (by simp) rfl rfl ?_; intro w2 hY1 hW2)
        refine ret_cell _ _ _ _ _ rfl rfl rfl hY1 Tryz.underlying52 rfl (by kernel_rfl) rfl ⟨hbel.trans (hW2.below (by omega)), .inl ⟨_, rfl, b, List.mem_of_getElem? EB.out, ?_⟩⟩
        rw [huk.1]; omega
    · obtain rfl : k = n := by omega
      obtain ⟨g, cap, rfl, hg, _⟩ := hown.form (by omega)
      go_wp2_with (guard_target =~ wpList _ _ _ (_ :: _) _ _; first
        | refine wpList_load_row rfl (.tmp 4) 52 rfl (w.heap.size + 1 + 1) 52 _ _ rfl hX2 Tryz.underlying52 rfl (by kernel_rfl) ?_
        | (refine wpList_store_row rfl (.tmp 2) (.tmp 102) 52 rfl (w.heap.size + 1) 0 52 _ _ #[.bool false, .int .u8 en, .int .i64 mx, .slice (some ⟨g, 0, none⟩) k cap, .int .i64 0, .int .i64 k, .slice none 0 0] rfl rfl hX1 (by kernel_rfl) (by simp) rfl rfl ?_; intro w2 hY1 hW2))
      refine ret_cell _ _ _ _ _ rfl rfl rfl hY1 Tryz.underlying52 rfl (by kernel_rfl) rfl ⟨hbel.trans (hW2.below (by omega)), .inr ⟨_, us, rfl, ?_, own_base (hW2.own hown (by omega)) (by omega), ?_⟩⟩
      · have := HM.out
        rwa [List.take_of_length_le (by omega)] at this
      · rw [List.take_of_length_le (by omega)] at hbs
        refine hbs.heap fun g cs h => ?_
        rw [hW2.other g ?_]; exact h
        rintro rfl
        rw [hX1] at h
        simp at h
end Go.Proofs.YtiajboiobjfcoaaGreatDoor
