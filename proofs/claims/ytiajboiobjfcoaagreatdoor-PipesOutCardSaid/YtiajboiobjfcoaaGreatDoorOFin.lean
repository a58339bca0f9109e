/-
  What is proved here: what the law asks of a job OUT that is over, or stopped, follows from what holds of the host and the device.
  Conditions: none.
-/
import Derived.Test.YtiajboiobjfcoaaGreatDoorOBeg
import Derived.Test.YtiajboiobjfcoaaGreatDoorOSmall
namespace Go.Proofs.YtiajboiobjfcoaaGreatDoor
open Go.Proofs Go.RowKit
theorem cutL_flat (z : Bool) (b : List Int) : (cutL 8 z b).flatten = b := cutF_flat ..
theorem pre_flat (bs : List (List Int)) (k : Nat) : (bs.take k).flatten = bs.flatten.take (sumTo bs k) := by
 have h := congrArg List.flatten (List.take_append_drop k bs)
 rw [List.flatten_append] at h
 rw [← h, sumTo_flat, List.take_left']
 rfl
def stE (h : Hst) : Int := if h.over = true then h.e else 17
def stHa (h : Hst) : Bool := if h.over = true then decide (h.e ≠ 0) else decide (0 < h.er)
structure Fin1 (job T0 : List Int) (z : Bool) (m0 : Nat) (act : Nat) (e : Int) (ha tg : Bool) (g : GrS) : Prop where
 le : act ≤ job.length
 pre : T0 ++ job.take act = g.taken.take (T0 ++ job.take act).length
 far : g.taken.length ≤ (T0 ++ job.take act).length + 8
 same : ha = false → g.taken = T0 ++ job.take act ∧ g.tg = tg
 good : e = 0 → ha = false ∧ act = job.length ∧ (0 < act → g.many = m0 + (if z = true ∧ act % 8 = 0 then act / 8 + 1 else (act + 7) / 8))
 bad : e ≠ 0 → e ≠ 17 → ha = true
 many : g.many ≤ m0 + job.length + 2
theorem out_fin {job T0 : List Int} {z : Bool} {m0 : Nat} {h : Hst} {g : GrS} (hs : Syn (cutL 8 z job) T0 m0 h g) : Fin1 job T0 z m0 (sumTo (cutL 8 z job) h.k) (stE h) (stHa h) h.tg g := by
 obtain ⟨tg, k, er, over, e⟩ := h
 obtain ⟨h2, her, hrun, hfin⟩ := hs
 dsimp only at *
 have hfl := cutL_flat z job
 have hp := pre_flat (cutL 8 z job)
 rw [hfl] at hp
 have hle : ∀ k, sumTo (cutL 8 z job) k ≤ job.length := fun k => by
  have := take_flat_le (cutL 8 z job) k
  rw [hfl] at this
  rw [sumTo_flat]; exact this
 have hone : sumTo (cutL 8 z job) (k + 1) ≤ sumTo (cutL 8 z job) k + 8 := by
  rw [sumTo_succ]
  cases hb : (cutL 8 z job)[k]? with
  | none => simp
  | some b => have := cutL_le z job b (List.mem_of_getElem? hb); simp; omega
 have hmono : sumTo (cutL 8 z job) k ≤ sumTo (cutL 8 z job) (k + 1) := by rw [sumTo_succ]; omega
 have hcnt := cutL_count 8 z job (by omega)
 have hkl : k ≤ (cutL 8 z job).length := by
  cases over with
  | false => have := (hrun rfl).1; omega
  | true => rcases hfin rfl with ⟨_, h, _⟩ | ⟨_, h⟩ <;> omega
 have hl1 : (job.take (sumTo (cutL 8 z job) k)).length = sumTo (cutL 8 z job) k := by rw [List.length_take]; have := hle k; omega
 have hl2 : (job.take (sumTo (cutL 8 z job) (k + 1))).length = sumTo (cutL 8 z job) (k + 1) := by rw [List.length_take]; have := hle (k + 1); omega
 refine ⟨hle k, ?_, ?_, fun h => ?_, fun h => ?_, fun h1 h2 => ?_, ?_⟩
 ·rcases h2 with ⟨_, e2, _⟩ | ⟨_, _, e2, _⟩
  ·rw [e2, hp k, List.take_length]
  ·have ht : (T0 ++ job.take (sumTo (cutL 8 z job) (k + 1))).take (T0.length + sumTo (cutL 8 z job) k) = T0 ++ (job.take (sumTo (cutL 8 z job) (k + 1))).take (sumTo (cutL 8 z job) k) := by
    rw [List.take_append, List.take_of_length_le (l := T0) (by omega), Nat.add_sub_cancel_left]
   rw [e2, hp (k + 1), List.length_append, hl1, ht, List.take_take, Nat.min_eq_left hmono]
 ·rcases h2 with ⟨_, e2, _⟩ | ⟨_, _, e2, _⟩
  ·rw [e2, hp k]; omega
  ·rw [e2, hp (k + 1), List.length_append, List.length_append]
   have := hl1
   have := hl2
   simp only [hl1, hl2]
   omega
 ·have hA : g.tg = tg ∧ g.taken = T0 ++ ((cutL 8 z job).take k).flatten ∧ g.many = m0 + k := by
   rcases h2 with h2 | ⟨_, b, _, _, d⟩
   ·exact h2
   ·exfalso
    unfold stHa at h
    cases over with
    | false => simp at h; omega
    | true =>
     simp at h
     rcases hfin rfl with ⟨_, h', _⟩ | ⟨h', _⟩
     ·omega
     ·omega
  exact ⟨by rw [hA.2.1, hp k], hA.1⟩
 ·unfold stE at h
  cases over with
  | false => simp at h
  | true =>
   simp at h
   rcases hfin rfl with ⟨_, h', her0⟩ | ⟨h', _⟩
   ·have hk : sumTo (cutL 8 z job) k = job.length := by
     rw [sumTo_flat, h', List.take_of_length_le (Nat.le_refl _), hfl]
    refine ⟨by unfold stHa; simp [h], hk, fun h0 => ?_⟩
    rcases h2 with ⟨_, _, e3⟩ | ⟨_, b, _⟩
    ·rw [hk] at h0 ⊢
     rw [e3, h', cutL_parts z job h0]
    ·omega
   ·omega
 ·unfold stE at h1 h2
  unfold stHa
  cases over with
  | false => simp at h2
  | true => simp at h1 ⊢; exact h1
 ·have hq : job.length / 8 ≤ job.length := Nat.div_le_self _ _
  rcases h2 with ⟨_, _, e3⟩ | ⟨_, b, _, e3, _⟩
  ·omega
  ·omega
end Go.Proofs.YtiajboiobjfcoaaGreatDoor
