/-
  What is proved here: what disks.New returns, at configurations of any content.
  Conditions: the texts are short.
-/
import Derived.Test.YthapmkbeolbmiaaGreatDoorEInq
namespace Go.Proofs.YthapmkbeolbmiaaGreatDoor
open Go.Proofs Go.RowKit

/-- how a size is one of the chapter -/
def SizeOk (sz : Int) : Prop := (sz != 64) = false ∨ ((sz != 64) = true ∧ (sz != 512) = false) ∨ ((sz != 64) = true ∧ (sz != 512) = true ∧ (sz != 4096) = false)
/-- a configuration that is none -/
def CfgBad (bl sz ca : Int) : Prop :=
  decide (bl < 1) = true ∨ (decide (bl < 1) = false ∧ (decide (4096 < bl) = true ∨ (decide (4096 < bl) = false ∧
    (((sz != 64) = true ∧ (sz != 512) = true ∧ (sz != 4096) = true) ∨ (SizeOk sz ∧ (decide (ca < 0) = true ∨ (decide (ca < 0) = false ∧ decide (64 < ca) = true)))))))
/-- a configuration that is one -/
def CfgOk (bl sz ca : Int) : Prop := decide (bl < 1) = false ∧ decide (4096 < bl) = false ∧ SizeOk sz ∧ decide (ca < 0) = false ∧ decide (64 < ca) = false

theorem cfg_cases (bl sz ca : Int) : CfgBad bl sz ca ∨ CfgOk bl sz ca := by
  unfold CfgBad CfgOk SizeOk
  cases decide (bl < 1) <;> cases decide (4096 < bl) <;> cases (sz != 64) <;> cases (sz != 512) <;> cases (sz != 4096) <;> cases decide (ca < 0) <;> cases decide (64 < ca) <;> simp

/-- the pointer of a disk: nil exactly if there is an error -/
def NewIs (en : Int) (w : World) (e : Ending) (w' : World) : Prop := Below w.heap.size w w' ∧ ∃ a : Option Addr, e = .returned (.tuple #[.pointer a, .int .i64 en]) ∧ a.isNone = decide (en ≠ 0)

set_option maxHeartbeats 4000000 in
set_option maxRecDepth 1000000 in
theorem new_bad (bl sz ca : Int) (lk : Bool) (v p r : ByteArray) (rem : Bool) (w : World) (h : CfgBad bl sz ca) :
    Calls Tryz.prog 7 #[.agg #[.int .i64 bl, .int .i64 sz, .int .i64 ca, .bool lk, .string v, .string p, .string r, .bool rem]] w (NewIs 1 w) := by
  have hb : ∀ o, Below w.heap.size w (w.alloc o) := fun o => (Below.refl _ _).alloc (Nat.le_refl _) _
  unfold CfgBad SizeOk at h
  rcases h with d1 | ⟨d1, d2 | ⟨d2, ⟨d3, d4, d5⟩ | ⟨d3 | ⟨d3, d4⟩ | ⟨d3, d4, d5⟩, d6 | ⟨d6, d7⟩⟩⟩⟩
  all_goals
    go_enter Tryz.func7, Tryz.ntmps7
    go_wp2_with fail
    go_ret2
    exact ⟨hb _, none, rfl, rfl⟩

set_option maxHeartbeats 4000000 in
set_option maxRecDepth 1000000 in
theorem new_ok (bl sz ca : Int) (lk : Bool) (v p r : ByteArray) (rem : Bool) (w : World) (h : CfgOk bl sz ca) (hv : v.size ≤ 30) (hp : p.size ≤ 30) (hr : r.size ≤ 30) :
    Calls Tryz.prog 7 #[.agg #[.int .i64 bl, .int .i64 sz, .int .i64 ca, .bool lk, .string v, .string p, .string r, .bool rem]] w (NewIs (errI v p r) w) := by
  have hb : ∀ o, Below w.heap.size w (w.alloc o) := fun o => (Below.refl _ _).alloc (Nat.le_refl _) _
  obtain ⟨en, HE⟩ : ∃ en, Hid (errI v p r = en) := ⟨_, Lib.hid rfl⟩
  have hinq : ∀ w1, Calls Tryz.prog 6 #[.agg #[.string v, .string p, .string r, .bool rem]] w1 fun e w' => ∃ sl, e = .returned (.tuple #[sl, .int .i64 en]) ∧ Below w1.heap.size w1 w' := fun w1 => by
    have h := inq_any v p r rem w1 hv hp hr
    unfold InqIs at h
    rwa [HE.out] at h
  rw [HE.out]
  have hmm := @run_makeMap Tryz.prog
  unfold CfgOk SizeOk at h
  rcases h with ⟨d1, d2, d3 | ⟨d3, d4⟩ | ⟨d3, d4, d5⟩, d6, d7⟩
  all_goals
    go_enter Tryz.func7, Tryz.ntmps7
    go_wp2_with fail
    refine (hinq _).mono ?_
    rintro e w1 ⟨sl, rfl, hb1⟩
    have hcl := fun k => hb1.cell (p := ⟨w.heap.size, k, none⟩) (by simp)
    have c0 := hcl 0
    have c1 := hcl 1
    have c2 := hcl 2
    have c3 := hcl 3
    have c4 := hcl 4
    have c5 := hcl 5
    have c6 := hcl 6
    have c7 := hcl 7
    clear hcl
    simp only [World.cell?_alloc_new] at c0 c1 c2 c3 c4 c5 c6 c7
    simp at c0 c1 c2 c3 c4 c5 c6 c7
    have hb2 := (hb _).trans (hb1.mono (by simp))
    by_cases he : en = 0
    · subst he
      go_wp2_with fail
      go_ret2
      exact ⟨(hb2.alloc hb2.size _).alloc (by have := hb2.size; simp; omega) _, some _, rfl, rfl⟩
    · have hen : (en != 0) = true := by simpa using he
      have E := Lib.hid he
      clear he
      go_wp2_with fail
      go_ret2
      exact ⟨hb2, none, rfl, by simp [E.out]⟩

/-- the error that New is to return -/
def newE (bad : Bool) (en : Int) : Int := if bad then 1 else en

theorem new_any (bl sz ca : Int) (lk : Bool) (v p r : ByteArray) (rem : Bool) (w : World) (hv : v.size ≤ 30) (hp : p.size ≤ 30) (hr : r.size ≤ 30) :
    ∃ bad, ((bad = true ∧ CfgBad bl sz ca) ∨ (bad = false ∧ CfgOk bl sz ca)) ∧
    Calls Tryz.prog 7 #[.agg #[.int .i64 bl, .int .i64 sz, .int .i64 ca, .bool lk, .string v, .string p, .string r, .bool rem]] w (NewIs (newE bad (errI v p r)) w) := by
  rcases cfg_cases bl sz ca with h | h
  · exact ⟨true, .inl ⟨rfl, h⟩, new_bad bl sz ca lk v p r rem w h⟩
  · exact ⟨false, .inr ⟨rfl, h⟩, new_ok bl sz ca lk v p r rem w h hv hp hr⟩
end Go.Proofs.YthapmkbeolbmiaaGreatDoor
