/-
  What is proved here: what the arguments of the laws are, out of how they read.
  Conditions: none.
-/
import Derived.Test.YtiajboiobjfcoaaGreatDoorQStart
import Derived.Test.YtiajboiobjfcoaaGreatDoorQCtx
import Derived.Test.YtiajboiobjfcoaaGreatDoorSyM5
import Derived.ProofKit
import Derived.Deep.Slices
namespace Go.Proofs.YtiajboiobjfcoaaGreatDoor
open Go.Sy Go.RowKit Go.ChangeShapes Go.WideShapes Go.ChangeAt
set_option maxRecDepth 1000000
section
variable {H : Type} {enc : TypeId × Value → H} {W : World} {b : Nat} {sp : Nat → Bool} {held : Bool}
theorem cells_u8 : Tryz.prog.cellsOf 5 = 1 := by kernel_rfl
theorem cells_u8s : Tryz.prog.cellsOf 23 = 1 := by kernel_rfl
theorem rng_u8 {n : Int} (h : (Lit.int .u8 n).wf = true) : 0 ≤ n ∧ n ≤ 255 := by
 have h1 : IntKind.u8.min = 0 := rfl
 have h2 : IntKind.u8.max = 255 := rfl
 simp only [Lit.wf, Bool.and_eq_true, decide_eq_true_eq] at h
 omega
theorem plain_of {w : World} {a : Addr} {v : Value} (h : w.cell? a = some v) : a = ⟨a.block, a.off, none⟩ := by
 have hs : a.spot = none := by
  unfold World.cell? at h
  split at h
  ·split at h
   ·simp at h
   ·rename_i hs; cases hsp : a.spot <;> simp_all
  ·simp at h
 cases a; simp at hs; simp [hs]
theorem add_zero' (a : Addr) : a.add 0 = a := by simp [Addr.add]
theorem slz_arg {a : Addr} {n c : Nat} (hn : n ≤ 9223372036854775807) (h : 0 < n → ∃ v, W.cell? (a.add 0) = some v) : SlZ (.slice (some a) n c) n (some a).isNone := by
 refine ⟨hn, c, ?_⟩
 rcases Nat.eq_zero_or_pos n with h0 | h0
 ·subst h0
  exact .inr ⟨rfl, some a, rfl, rfl⟩
 ·obtain ⟨v, hv⟩ := h h0
  rw [add_zero'] at hv
  refine .inl ⟨h0, a.block, a.off, ?_⟩
  rw [← plain_of hv]
theorem u8_open {fuel : Nat} {v : Value} {x : DataW H × List MemPlace} (h : DataW.trod enc Tryz.prog W b sp held fuel 23 [v] = some x) :
  ∃ A n c xs, v = .slice A n c ∧ U8 W A n c xs ∧ SlZ v n A.isNone := by
 rcases open_ints (k := .u8) rfl rfl cells_u8 h with ⟨hcs, _⟩ | ⟨a, len', cap', zs, hcs, _, hl, hm, hz, _, hcell, hwz⟩
 ·simp at hcs
  subst hcs
  exact ⟨none, 0, 0, [], rfl, ⟨rfl, (fun x hx => nomatch hx), Nat.le_refl _, .inl ⟨rfl, rfl, rfl⟩⟩, by omega, 0, .inr ⟨rfl, none, rfl, rfl⟩⟩
 ·simp at hcs
  subst hcs
  have hzl : len' ≤ zs.length := by split at hz <;> omega
  unfold maxLen at hm
  refine ⟨some a, len', cap', zs.take len', rfl, ⟨by rw [List.length_take]; omega, fun x hx => rng_u8 (hwz x (List.mem_of_mem_take hx)), hl, .inr ⟨a, rfl, fun j hj => ?_⟩⟩, slz_arg (W := W) (by omega) fun h0 => ⟨_, hcell 0 (by omega)⟩⟩
  rw [List.getElem?_take, if_pos hj]
  exact hcell j (by omega)
theorem u8s_open {fuel : Nat} {v : Value} {x : DataW H × List MemPlace} (h : DataW.trod enc Tryz.prog W b sp held fuel 22 [v] = some x) :
  ∃ A n c vs, ∃ bs : List (List Int), v = .slice A n c ∧ Sls W A n c vs ∧ SlZ v n A.isNone ∧ vs.length = bs.length ∧ ∀ (j : Nat) v b, vs[j]? = some v → bs[j]? = some b → ∃ A n c, v = .slice A n c ∧ U8 W A n c b := by
 rcases Go.Deep.open_slice1 rfl cells_u8s h with ⟨hcs, _⟩ | ⟨a, len', cap', m, n, V, D, Pl, hcs, _, hl, hm, hmm, _, hx⟩
 ·simp at hcs
  subst hcs
  exact ⟨none, 0, 0, [], [], rfl, ⟨rfl, Nat.le_refl _, .inl ⟨rfl, rfl, rfl⟩⟩, ⟨by omega, 0, .inr ⟨rfl, none, rfl, rfl⟩⟩, rfl, fun j v b hj => by simp at hj⟩
 ·simp at hcs
  subst hcs
  have hml : len' ≤ m := by split at hmm <;> omega
  unfold maxLen at hm
  have hel : ∀ i, i < len' → ∃ xs, ∃ A n c, V i = .slice A n c ∧ U8 W A n c xs := by
   intro i hi
   obtain ⟨A, n, c, xs, e, hu, _⟩ := u8_open (hx i (by omega)).2
   exact ⟨xs, A, n, c, e, hu⟩
  obtain ⟨B, hB⟩ := Go.Deep.choose_lt hel
  refine ⟨some a, len', cap', (List.range len').map V, (List.range len').map B, rfl, ⟨by simp, hl, .inr ⟨a, rfl, fun j v hj => ?_⟩⟩, slz_arg (W := W) (by omega) fun h0 => ⟨_, (hx 0 (by omega)).1⟩, by simp, fun j v b hj hb => ?_⟩
  ·obtain ⟨i, hi, rfl⟩ := List.getElem?_map .. ▸ hj |> Option.map_eq_some_iff.1
   obtain ⟨h1, rfl⟩ := List.getElem?_eq_some_iff.1 hi
   simp at h1
   simpa using (hx j (by omega)).1
  ·obtain ⟨i, hi, rfl⟩ := List.getElem?_map .. ▸ hj |> Option.map_eq_some_iff.1
   obtain ⟨i', hi', rfl⟩ := List.getElem?_map .. ▸ hb |> Option.map_eq_some_iff.1
   obtain ⟨h1, rfl⟩ := List.getElem?_eq_some_iff.1 hi
   obtain ⟨_, rfl⟩ := List.getElem?_eq_some_iff.1 hi'
   simp at h1
   simpa using hB j (by omega)
end
end Go.Proofs.YtiajboiobjfcoaaGreatDoor
