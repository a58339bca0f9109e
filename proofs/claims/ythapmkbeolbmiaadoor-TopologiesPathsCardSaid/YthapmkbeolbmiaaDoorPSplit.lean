/-
  What is proved here: what strings.Index, Count and Split return where the separator is a dot.
  Conditions: the text is short.
-/
import Derived.Test.YthapmkbeolbmiaaDoorChecked
import Derived.Test.YthapmkbeolbmiaaDoorPWords
import Derived.Lib.Strings
import Derived.Lib.Slices
import Derived.Lib.Walk
import Derived.Lib.Hide
import Derived.Lib.Split
import Derived.Laws.Strings3
import Derived.Deep.OwnRows
import Derived.Deep.LoopGhost
import Derived.WalkKit
import Derived.Below
namespace Go.Proofs.YthapmkbeolbmiaaDoor
open Go.Proofs Go.RowKit

set_option maxHeartbeats 1000000 in
set_option maxRecDepth 100000 in
theorem ixb_any (s : ByteArray) (w : World) :
    Calls Tryd.prog 99 #[.string s, .int .u8 46] w fun e w' => e = .returned (.int .i64 (Lib.indexByte s.data.toList 46)) ∧ w' = w := by
  go_enter Tryd.func99, Tryd.ntmps99
  go_wp2
  rw [run_callFunc_extern Tryd.func114 (by kernel_rfl) (by kernel_rfl) (by kernel_rfl) (e := Extern.BytealgIndexByte.indexByte) (by kernel_rfl), Lib.run_indexByteString]
  simp only [Result.andThen]
  rw [Oper.upon_value]
  go_wp2
  go_ret
  exact ⟨rfl, rfl⟩

set_option maxHeartbeats 1000000 in
theorem sli_any (s : ByteArray) (w : World) :
    Calls Tryd.prog 82 #[.string s, .string ⟨#[46]⟩] w fun e w' => e = .returned (.int .i64 (Lib.indexByte s.data.toList 46)) ∧ w' = w := by
  by_cases he : s.data.toList = [46]
  · have hb : (([46] : List UInt8) == s.toList) = true := by rw [ByteArray.toList_eq, he]; rfl
    have HI : Hid (Lib.indexByte s.data.toList 46 = 0) := Lib.hid (by rw [he]; rfl)
    clear he
    go_enter Tryd.func82, Tryd.ntmps82
    go_wp2_with fail
    go_ret
    exact ⟨by rw [HI.out]; rfl, rfl⟩
  · have hb : (([46] : List UInt8) == s.toList) = false := by rw [ByteArray.toList_eq]; simpa using fun h => he h.symm
    clear he
    go_enter Tryd.func82, Tryd.ntmps82
    go_wp2_with fail
    refine (ixb_any s _).mono ?_
    rintro e w' ⟨rfl, rfl⟩
    go_wp2_with fail
    go_ret
    exact ⟨rfl, rfl⟩

set_option maxHeartbeats 1000000 in
theorem ix_any (s : ByteArray) (w : World) :
    Calls Tryd.prog 55 #[.string s, .string ⟨#[46]⟩] w fun e w' => e = .returned (.int .i64 (Lib.indexByte s.data.toList 46)) ∧ w' = w := by
  go_enter Tryd.func55, Tryd.ntmps55
  go_wp2_with fail
  refine (sli_any s _).mono ?_
  rintro e w' ⟨rfl, rfl⟩
  go_wp2_with fail
  go_ret
  exact ⟨rfl, rfl⟩

set_option maxHeartbeats 1000000 in
set_option maxRecDepth 100000 in
theorem count_any (s : ByteArray) (w : World) :
    Calls Tryd.prog 54 #[.string s, .string ⟨#[46]⟩] w fun e w' => e = .returned (.int .i64 (Lib.countByte s.data.toList 46)) ∧ w' = w := by
  go_enter Tryd.func54, Tryd.ntmps54
  go_wp2_with fail
  rw [run_callFunc_extern Tryd.func81 (by kernel_rfl) (by kernel_rfl) (by kernel_rfl) (e := Extern.BytealgCount.count) (by kernel_rfl), Lib.run_countString]
  simp only [Result.andThen]
  rw [Oper.upon_value]
  go_wp2
  go_ret
  exact ⟨rfl, rfl⟩

theorem cuts_one {l : List UInt8} (h : (cuts l).length = 1) : cuts l = [l] := by
  obtain ⟨a, t, e⟩ := cuts_ne l
  have hj := joins_cuts l
  rw [e] at h hj
  cases t with
  | nil => rw [e]; rw [show a = l from hj]
  | cons b t => simp at h

/-- the pieces as texts -/
def cutsB (s : ByteArray) : List ByteArray := (cuts s.data.toList).map fun l => ⟨l.toArray⟩

theorem info9 : (Tryd.prog.info? 9).map (fun i => (i.zero, i.size, i.bytes)) = some (some (.string ByteArray.empty), 1, 16) := by kernel_rfl

theorem done_eq {done : List ByteArray} {s : ByteArray} (h : done.map (·.data.toList) = cuts s.data.toList) : done = cutsB s := by
  unfold cutsB
  rw [← h, List.map_map]
  conv => lhs; rw [← List.map_id done]
  refine List.map_congr_left fun x _ => ?_
  obtain ⟨⟨l⟩⟩ := x
  rfl

set_option maxHeartbeats 4000000 in
set_option maxRecDepth 1000000 in
theorem gen_any (s : ByteArray) (N : Nat) (w : World) (hs : s.size < 4294967281) (hN : N = (cuts s.data.toList).length) :
    Calls Tryd.prog 39 #[.string s, .string ⟨#[46]⟩, .int .i64 0, .int .i64 (-1)] w fun e w' =>
      e = .returned (.slice (some ⟨w.heap.size, 0, none⟩) N N) ∧ w' = w.alloc (.cells (Lib.cellsOf (cutsB s) N) 9) := by
  have hcn := cuts_count s.data.toList
  rw [← hN] at hcn
  have hle : Lib.countByte s.data.toList 46 ≤ s.size := by
    rw [Lib.size_eq]; exact List.count_le_length ..
  have hC := count_any s w
  generalize Lib.countByte s.data.toList 46 = cn at hC hcn hle
  have HN := Lib.hid hN
  clear hN
  subst hcn
  have eN : min ((cn : Int) + 1) ((s.size : Int) + 1) = (cn : Int) + 1 := by omega
  have hmk := run_make_row' (P := Tryd.prog) 54 9 (.string ByteArray.empty) 16 rfl info9 rfl .i64 .i64 (cn + 1) (by omega) (by omega)
  rw [show ((cn + 1 : Nat) : Int) = (cn : Int) + 1 by omega, ← Lib.cellsOf_nil] at hmk
  go_enter Tryd.func39, Tryd.ntmps39
  go_wp2_with fail
  refine hC.mono ?_
  rintro e w' ⟨rfl, rfl⟩
  go_wp2_with fail
  clear hmk hC
  go_loopg [0, 10] cn (fun g s0 s10 wr => ∃ (done : List ByteArray) (rest : ByteArray), s0 = .string rest ∧ s10 = .int .i64 done.length ∧ done.length ≤ cn ∧ g = cn - done.length ∧ rest.size ≤ s.size ∧
      wr = w'.alloc (.cells (Lib.cellsOf done (cn + 1)) 9) ∧ Hid (done.map (·.data.toList) ++ cuts rest.data.toList = cuts s.data.toList))
  case atStart => exact ⟨[], s, rfl, rfl, Nat.zero_le _, rfl, Nat.le_refl _, rfl, Lib.hid rfl⟩
  case round =>
    obtain ⟨done, rest, rfl, rfl, hd, rfl, hrs, rfl, HS⟩ := hrel
    have hnext : (Lib.cellsOf done (cn + 1))[done.length]? = some (.string ByteArray.empty) := Lib.cellsOf_next (by omega)
    have hlen : done.length + (cuts rest.data.toList).length = cn + 1 := by
      have e := congrArg List.length HS.out
      rw [List.length_append, List.length_map, ← HN.out] at e
      exact e
    by_cases hlt : done.length < cn
    · obtain ⟨i, hix, hi1, hi2⟩ : ∃ i : Nat, Lib.indexByte rest.data.toList 46 = (i : Int) ∧ i < rest.size ∧ cuts rest.data.toList = rest.data.toList.take i :: cuts (rest.data.toList.drop (i + 1)) := by
        have hg := Lib.indexByte_ge rest.data.toList 46
        by_cases h1 : Lib.indexByte rest.data.toList 46 = -1
        · rw [cuts_miss _ h1] at hlen
          simp at hlen
          omega
        · obtain ⟨i, hi⟩ := Int.eq_ofNat_of_zero_le (show 0 ≤ Lib.indexByte rest.data.toList 46 by omega)
          obtain ⟨a, b⟩ := cuts_hit _ i hi
          exact ⟨i, hi, by rw [Lib.size_eq]; exact a, b⟩
      have HC := Lib.hid hi2
      clear hi2 hlen
      have hI := ix_any rest (w'.alloc (.cells (Lib.cellsOf done (cn + 1)) 9))
      rw [hix] at hI
      clear hix
      have c0 : ¬ ((i : Int) < 0) := by omega
      have c1 : (0 : Int) ≤ (i : Int) := by omega
      have c2 : (i : Int) ≤ (rest.size : Int) := by omega
      have c3 : (0 : Int) ≤ (i : Int) + 1 := by omega
      have c4 : (i : Int) + 1 ≤ (rest.size : Int) := by omega
      go_wp2_with fail
      refine hI.mono ?_
      rintro e w2 ⟨rfl, rfl⟩
      go_wp2_with fail
      go_roundg (cn - (done.length + 1))
      case measure => omega
      case rel =>
        refine ⟨done ++ [rest.extract 0 i], rest.extract (i + 1) rest.size, rfl, by simp, by simp; omega, by simp, by rw [ByteArray.size_extract]; omega, by rw [← Lib.cellsOf_set (by omega)], Lib.hid ?_⟩
        rw [← HS.out, HC.out]
        simp
        rw [List.take_of_length_le (by rw [List.length_drop, ← Lib.size_eq]; exact Nat.le_refl _)]
    · have h1 : done.length = cn := by omega
      subst h1
      have HC := Lib.hid (cuts_one (l := rest.data.toList) (by omega))
      have HF : Hid ((Lib.cellsOf done (done.length + 1)).setIfInBounds done.length (.string rest) = Lib.cellsOf (cutsB s) (done.length + 1)) := Lib.hid (by
        rw [Lib.cellsOf_set (by omega), done_eq (done := done ++ [rest]) (s := s) (by rw [← HS.out, HC.out]; simp)])
      clear HC HS
      go_wp2_with fail
      go_ret
      rw [HF.out]
      exact ⟨rfl, rfl⟩

set_option maxHeartbeats 1000000 in
theorem split_any (s : ByteArray) (N : Nat) (w : World) (hs : s.size < 4294967281) (hN : N = (cuts s.data.toList).length) :
    Calls Tryd.prog 25 #[.string s, .string ⟨#[46]⟩] w fun e w' =>
      e = .returned (.slice (some ⟨w.heap.size, 0, none⟩) N N) ∧ w' = w.alloc (.cells ((cutsB s).map Value.string).toArray 9) := by
  have c := gen_any s N w hs hN
  have e : Lib.cellsOf (cutsB s) N = ((cutsB s).map Value.string).toArray := by
    rw [show N = (cutsB s).length by rw [hN]; unfold cutsB; rw [List.length_map]]
    simp [Lib.cellsOf]
  rw [e] at c
  clear hN e
  go_enter Tryd.func25, Tryd.ntmps25
  go_wp2_with fail
  refine c.mono ?_
  rintro e w2 ⟨rfl, rfl⟩
  go_wp2_with fail
  go_ret
  exact ⟨rfl, rfl⟩
end Go.Proofs.YthapmkbeolbmiaaDoor
