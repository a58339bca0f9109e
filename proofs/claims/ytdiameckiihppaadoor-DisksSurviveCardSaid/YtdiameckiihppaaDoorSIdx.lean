/-
  What is proved here: the cache of a disk as a list of entries; slices.IndexFunc finds an entry by its number.
  Conditions: what the row holds.
-/
import Derived.Test.YtdiameckiihppaaDoorSDel
namespace Go.Proofs.YtdiameckiihppaaDoor
open Go.Proofs Go.RowKit

attribute [local go_sem] lt2 lt3 lt4 lt5

/-- a block that is kept: its number, and where its bytes lie -/
structure Ent where
  n : Nat
  A : Option Addr
  c : Nat
  b : List Int

def Ent.cells (e : Ent) : List Value := [.int .i64 e.n, .slice e.A 64 e.c]
def flat (es : List Ent) : List Value := es.flatMap Ent.cells

theorem flat_nil : flat [] = [] := rfl
theorem flat_cons (e : Ent) (es : List Ent) : flat (e :: es) = .int .i64 e.n :: .slice e.A 64 e.c :: flat es := rfl
theorem flat_append (a b : List Ent) : flat (a ++ b) = flat a ++ flat b := by simp [flat]
theorem flat_len : ∀ es : List Ent, (flat es).length = es.length * 2
  | [] => rfl
  | e :: es => by rw [flat_cons, List.length_cons, List.length_cons, List.length_cons, flat_len es]; omega
theorem flat_at : ∀ (es : List Ent) (k : Nat) (e : Ent), es[k]? = some e → (flat es)[k * 2]? = some (.int .i64 e.n) ∧ (flat es)[k * 2 + 1]? = some (.slice e.A 64 e.c)
  | [], k, e, h => by simp at h
  | x :: es, 0, e, h => by
    simp only [List.getElem?_cons_zero, Option.some.injEq] at h
    subst h
    exact ⟨rfl, rfl⟩
  | x :: es, k + 1, e, h => by
    have := flat_at es k e (by simpa using h)
    rw [flat_cons, show (k + 1) * 2 = k * 2 + 1 + 1 by omega]
    exact this
theorem flat_take (es : List Ent) (k : Nat) : (flat es).take (k * 2) = flat (es.take k) := by
  induction es generalizing k with
  | nil => simp [flat]
  | cons e es ih =>
    cases k with
    | zero => simp [flat]
    | succ k =>
      rw [flat_cons, show (k + 1) * 2 = k * 2 + 1 + 1 by omega, List.take_succ_cons, List.take_succ_cons, List.take_succ_cons, flat_cons, ih]
theorem flat_drop (es : List Ent) (k : Nat) : (flat es).drop (k * 2) = flat (es.drop k) := by
  induction es generalizing k with
  | nil => simp [flat]
  | cons e es ih =>
    cases k with
    | zero => simp [flat]
    | succ k =>
      rw [flat_cons, show (k + 1) * 2 = k * 2 + 1 + 1 by omega, List.drop_succ_cons, List.drop_succ_cons, List.drop_succ_cons, ih]

/-- where a number stands first -/
def idxE (n : Nat) (es : List Ent) : Option Nat := es.findIdx? fun e => e.n == n
def idxI (n : Nat) (es : List Ent) : Int := match idxE n es with | some i => i | none => -1

theorem idx_hit {n : Nat} {es : List Ent} {k : Nat} {e : Ent} (hk : es[k]? = some e) (hn : e.n = n) (hlt : ∀ (j : Nat) (x : Ent), j < k → es[j]? = some x → x.n ≠ n) : idxE n es = some k := by
  unfold idxE
  rw [List.findIdx?_eq_some_iff_getElem]
  obtain ⟨h, rfl⟩ := List.getElem?_eq_some_iff.1 hk
  refine ⟨h, by simpa using hn, fun j hj => ?_⟩
  have := hlt j _ hj (List.getElem?_eq_getElem (by omega))
  simpa using this
theorem idx_miss {n : Nat} {es : List Ent} (h : ∀ (j : Nat) (x : Ent), es[j]? = some x → x.n ≠ n) : idxE n es = none := by
  unfold idxE
  rw [List.findIdx?_eq_none_iff]
  intro x hx
  obtain ⟨j, hj⟩ := List.getElem?_of_mem hx
  simpa using h j x hj

theorem beq_nat (a b : Nat) : ((a : Int) == (b : Int)) = decide (a = b) := by
  by_cases h : a = b
  · subst h; simp
  · rw [decide_eq_false h]
    exact beq_eq_false_iff_ne.2 (by omega)

/-- a closure that compares numbers -/
def CloIs (f : Nat) : Prop := ∀ (g : Nat) (n : Nat) (e : Ent) (w : World), w.cell? ⟨g, 0, none⟩ = some (.int .i64 n) →
  Calls Tryd.prog f #[.agg #[.int .i64 e.n, .slice e.A 64 e.c], .pointer (some ⟨g, 0, none⟩)] w fun z w' => z = .returned (.bool (decide (e.n = n))) ∧ Below w.heap.size w w'

set_option maxHeartbeats 1000000 in
theorem clo_keep : CloIs 66 := by
  intro g n e w hc
  have hb : ∀ o, Below w.heap.size w (w.alloc o) := fun o => (Below.refl w.heap.size w).alloc (Nat.le_refl _) o
  have hc' : ∀ o, (w.alloc o).cell? ⟨g, 0, none⟩ = some (.int .i64 n) := fun o => ((hb o).cell (World.block_lt_of_cell? _ _ hc)).trans hc
  clear hc
  go_enter Tryd.func66, Tryd.ntmps66
  go_wp2_with fail
  go_ret
  refine ⟨?_, hb _⟩
  congr 2
  exact congrArg Value.bool (beq_nat _ _)
set_option maxHeartbeats 1000000 in
theorem clo_read : CloIs 64 := by
  intro g n e w hc
  have hb : ∀ o, Below w.heap.size w (w.alloc o) := fun o => (Below.refl w.heap.size w).alloc (Nat.le_refl _) o
  have hc' : ∀ o, (w.alloc o).cell? ⟨g, 0, none⟩ = some (.int .i64 n) := fun o => ((hb o).cell (World.block_lt_of_cell? _ _ hc)).trans hc
  clear hc
  go_enter Tryd.func64, Tryd.ntmps64
  go_wp2_with fail
  go_ret
  refine ⟨?_, hb _⟩
  congr 2
  exact congrArg Value.bool (beq_nat _ _)

/-- what IndexFunc is to return -/
def IdxEnd (n : Nat) (es : List Ent) (w : World) (e : Ending) (w' : World) : Prop := e = .returned (.int .i64 (idxI n es)) ∧ Below w.heap.size w w'

set_option maxHeartbeats 2000000 in
set_option maxRecDepth 100000 in
theorem idx_keep (g k : Nat) (A : Option Addr) (c : Nat) (es : List Ent) (n : Nat) (w : World) (hc : w.cell? ⟨g, 0, none⟩ = some (.int .i64 n)) (hA : RowF w 69 2 A k c (flat es)) (hk : es.length = k) (hb : k ≤ 1000) :
    Calls Tryd.prog 63 #[.slice A k c, .func (Fn.func 66) #[] #[.pointer (some ⟨g, 0, none⟩)]] w (IdxEnd n es w) := by
  have HK := Lib.hid hk
  have HA := Lib.hid hA
  have HC := Lib.hid hc
  clear hk hA hc
  go_enter Tryd.func63, Tryd.ntmps63
  go_wp2_with fail
  go_loopw [8] (fun i wr => ∃ j : Nat, j ≤ k ∧ i = .int .i64 j ∧ Hid (Below w.heap.size w wr) ∧ Hid (∀ (i : Nat) (x : Ent), i < j → es[i]? = some x → x.n ≠ n)) (fun i _ => k - (intOf i).toNat)
  case atStart => exact ⟨0, by omega, rfl, Lib.hid (Below.refl _ _), Lib.hid fun j x h => by omega⟩
  case round =>
    obtain ⟨j, h1, rfl, HB, HE⟩ := hrel
    by_cases hj : j < k
    · obtain ⟨e, he⟩ : ∃ e, es[j]? = some e := ⟨_, List.getElem?_eq_getElem (by have := HK.out; omega)⟩
      obtain ⟨hf1, hf2⟩ := flat_at es j e he
      have HX := Lib.hid he
      obtain ⟨_, hkc, _, ⟨_, h0, _⟩ | ⟨b, off, cs, rfl, hb2, hsz, hcs⟩⟩ := id HA.out
      · omega
      have hc1 : wr.cell? ⟨b, off + j * 2, none⟩ = some (.int .i64 e.n) := (HB.out.cell (Array.getElem?_eq_some_iff.1 hb2).1).trans ((cell_of hb2 _).trans ((hcs _ (by omega)).trans hf1))
      have hc2 : wr.cell? ⟨b, off + j * 2 + 1, none⟩ = some (.slice e.A 64 e.c) := (HB.out.cell (Array.getElem?_eq_some_iff.1 hb2).1).trans ((cell_of hb2 _).trans ((hcs _ (by omega)).trans hf2))
      have hfn := clo_keep g n e wr ((HB.out.cell (World.block_lt_of_cell? _ _ HC.out)).trans HC.out)
      have q1 : (j : Int) < (k : Int) := by omega
      have q2 : (j : Int) ≤ (c : Int) := by omega
      clear he hf1 hf2 hb2 hsz hcs
      by_cases hd : decide (e.n = n) = true
      · rw [hd] at hfn
        have HD := Lib.hid hd
        clear hd
        go_wp2_with fail
        refine hfn.mono ?_
        rintro z w' ⟨rfl, hbw⟩
        have HBW := Lib.hid hbw
        clear hbw
        go_wp2_with fail
        go_ret
        refine ⟨?_, HB.out.trans (HBW.out.mono HB.out.size)⟩
        have := idx_hit HX.out (of_decide_eq_true HD.out) HE.out
        unfold idxI
        rw [this]
        rfl
      · have hd : decide (e.n = n) = false := by simpa using hd
        rw [hd] at hfn
        have HD := Lib.hid hd
        clear hd
        go_wp2_with fail
        refine hfn.mono ?_
        rintro z w' ⟨rfl, hbw⟩
        have HBW := Lib.hid hbw
        clear hbw
        go_wp2_with fail
        go_roundw
        case rel =>
          refine ⟨j + 1, by omega, by go_num, Lib.hid (HB.out.trans (HBW.out.mono HB.out.size)), Lib.hid fun i y hi hy => ?_⟩
          by_cases e0 : i = j
          · subst e0
            have := HX.out
            rw [this] at hy
            injection hy with hy
            subst hy
            exact of_decide_eq_false HD.out
          · exact HE.out i y (by omega) hy
        case measure => simp [intOf]; omega
    · have HF : Hid (idxI n es = -1) := Lib.hid (by
        unfold idxI
        rw [idx_miss fun i x h => HE.out i x (by have := (List.getElem?_eq_some_iff.1 h).1; have := HK.out; omega) h])
      clear HE
      go_wp2_with fail
      go_ret
      exact ⟨by rw [HF.out]; rfl, HB.out⟩
set_option maxHeartbeats 2000000 in
set_option maxRecDepth 100000 in
theorem idx_read (g k : Nat) (A : Option Addr) (c : Nat) (es : List Ent) (n : Nat) (w : World) (hc : w.cell? ⟨g, 0, none⟩ = some (.int .i64 n)) (hA : RowF w 69 2 A k c (flat es)) (hk : es.length = k) (hb : k ≤ 1000) :
    Calls Tryd.prog 63 #[.slice A k c, .func (Fn.func 64) #[] #[.pointer (some ⟨g, 0, none⟩)]] w (IdxEnd n es w) := by
  have HK := Lib.hid hk
  have HA := Lib.hid hA
  have HC := Lib.hid hc
  clear hk hA hc
  go_enter Tryd.func63, Tryd.ntmps63
  go_wp2_with fail
  go_loopw [8] (fun i wr => ∃ j : Nat, j ≤ k ∧ i = .int .i64 j ∧ Hid (Below w.heap.size w wr) ∧ Hid (∀ (i : Nat) (x : Ent), i < j → es[i]? = some x → x.n ≠ n)) (fun i _ => k - (intOf i).toNat)
  case atStart => exact ⟨0, by omega, rfl, Lib.hid (Below.refl _ _), Lib.hid fun j x h => by omega⟩
  case round =>
    obtain ⟨j, h1, rfl, HB, HE⟩ := hrel
    by_cases hj : j < k
    · obtain ⟨e, he⟩ : ∃ e, es[j]? = some e := ⟨_, List.getElem?_eq_getElem (by have := HK.out; omega)⟩
      obtain ⟨hf1, hf2⟩ := flat_at es j e he
      have HX := Lib.hid he
      obtain ⟨_, hkc, _, ⟨_, h0, _⟩ | ⟨b, off, cs, rfl, hb2, hsz, hcs⟩⟩ := id HA.out
      · omega
      have hc1 : wr.cell? ⟨b, off + j * 2, none⟩ = some (.int .i64 e.n) := (HB.out.cell (Array.getElem?_eq_some_iff.1 hb2).1).trans ((cell_of hb2 _).trans ((hcs _ (by omega)).trans hf1))
      have hc2 : wr.cell? ⟨b, off + j * 2 + 1, none⟩ = some (.slice e.A 64 e.c) := (HB.out.cell (Array.getElem?_eq_some_iff.1 hb2).1).trans ((cell_of hb2 _).trans ((hcs _ (by omega)).trans hf2))
      have hfn := clo_read g n e wr ((HB.out.cell (World.block_lt_of_cell? _ _ HC.out)).trans HC.out)
      have q1 : (j : Int) < (k : Int) := by omega
      have q2 : (j : Int) ≤ (c : Int) := by omega
      clear he hf1 hf2 hb2 hsz hcs
      by_cases hd : decide (e.n = n) = true
      · rw [hd] at hfn
        have HD := Lib.hid hd
        clear hd
        go_wp2_with fail
        refine hfn.mono ?_
        rintro z w' ⟨rfl, hbw⟩
        have HBW := Lib.hid hbw
        clear hbw
        go_wp2_with fail
        go_ret
        refine ⟨?_, HB.out.trans (HBW.out.mono HB.out.size)⟩
        have := idx_hit HX.out (of_decide_eq_true HD.out) HE.out
        unfold idxI
        rw [this]
        rfl
      · have hd : decide (e.n = n) = false := by simpa using hd
        rw [hd] at hfn
        have HD := Lib.hid hd
        clear hd
        go_wp2_with fail
        refine hfn.mono ?_
        rintro z w' ⟨rfl, hbw⟩
        have HBW := Lib.hid hbw
        clear hbw
        go_wp2_with fail
        go_roundw
        case rel =>
          refine ⟨j + 1, by omega, by go_num, Lib.hid (HB.out.trans (HBW.out.mono HB.out.size)), Lib.hid fun i y hi hy => ?_⟩
          by_cases e0 : i = j
          · subst e0
            have := HX.out
            rw [this] at hy
            injection hy with hy
            subst hy
            exact of_decide_eq_false HD.out
          · exact HE.out i y (by omega) hy
        case measure => simp [intOf]; omega
    · have HF : Hid (idxI n es = -1) := Lib.hid (by
        unfold idxI
        rw [idx_miss fun i x h => HE.out i x (by have := (List.getElem?_eq_some_iff.1 h).1; have := HK.out; omega) h])
      clear HE
      go_wp2_with fail
      go_ret
      exact ⟨by rw [HF.out]; rfl, HB.out⟩
end Go.Proofs.YtdiameckiihppaaDoor
