/-
  What is proved here: Run, and the law's run.
  Conditions: what Encode and run do; what the disk's blocks hold.
-/
import Derived.Test.YtdiameckiihppaaDoorSPend
import Derived.BigQuiet
import Derived.WalkSpells
namespace Go.Proofs.YtdiameckiihppaaDoor
open Go.Proofs Go.RowKit

attribute [local go_sem] lt2 lt3 lt4 lt5

set_option maxRecDepth 100000 in
theorem valid_ret (d mb : Nat) (w : World) (h : w.cell? ⟨d, 8, none⟩ = some (.map (some mb))) : Calls Tryd.prog 15 #[.pointer (some ⟨d, 0, none⟩)] w fun e w' => e = .returned (.bool true) ∧ w' = w := by
  have hnil := fun (w : World) (r : Option Nat) => run_neq_map_nil (P := Tryd.prog) w _ _ _ r Tryd.underlying56
  go_enter Tryd.func15, Tryd.ntmps15
  go_wp2_with fail
  go_ret
  exact ⟨rfl, rfl⟩

theorem clip_ret (A : Option Addr) (n c : Nat) (w : World) (hc : n ≤ c) : Calls Tryd.prog 20 #[.slice A n c] w fun e w' => e = .returned (.slice A n n) ∧ w' = w := by
  cases A
  all_goals
    go_enter Tryd.func20, Tryd.ntmps20
    go_wp2
    go_ret
    exact ⟨rfl, rfl⟩

theorem RowB.clip {w : World} {A : Option Addr} {n c : Nat} {xs : List Int} (h : RowB w A n c xs) (hA : ∃ a, A = some a) : RowB w A n n xs := by
  obtain ⟨⟨h1, h2, h3, h4⟩, h5⟩ := h
  refine ⟨⟨h1, Nat.le_refl _, h3, ?_⟩, h5⟩
  rcases h4 with ⟨rfl, _⟩ | ⟨b, off, cs, e, g1, g2, g3⟩
  · obtain ⟨a, ha⟩ := hA; cases ha
  · exact .inr ⟨b, off, cs, e, g1, by omega, g3⟩

/-- a command's end, whether it fails or not -/
def Does2 (ok : Bool) (L : Nat → Prop) (d : Nat) (R : St → Prop) (o : Option (List Int)) (w : World) (e : Ending) (w' : World) : Prop := ∃ v, e = .returned (.tuple #[v, if ok then senV 0 0 0 else senV 6 41 0]) ∧ DoesS L d R o v w w'
def DoesR (ok : Bool) (L : Nat → Prop) (d : Nat) (R : St → Prop) (o : Option (List Int)) (w : World) (e : Ending) (w' : World) : Prop := ∃ v, e = .returned (.tuple #[v, .bool ok]) ∧ DoesS L d R o v w w'

theorem mid3 {l : List Value} (h : 13 ≤ l.length) (a b e : Value) : (l.take 10 ++ [a, b, e] ++ l.drop 13).toArray[10]? = some a ∧ (l.take 10 ++ [a, b, e] ++ l.drop 13).toArray[11]? = some b ∧ (l.take 10 ++ [a, b, e] ++ l.drop 13).toArray[12]? = some e := by
  have h10 : min 10 l.length = 10 := by omega
  simp [List.getElem?_append, h10]

/-- what is returned is clipped, the sense is kept -/
theorem sense_end {L : Nat → Prop} {d : Nat} {R : St → Prop} {o : Option (List Int)} {v : Value} {w w1 : World} (h : DoesS L d R o v w w1) :
    ∃ A n c cs, v = .slice A n c ∧ n ≤ c ∧ w1.heap[d]? = some (.cells cs 65 (0, 0)) ∧ cs.size = 20 ∧ ∀ (a b e : Int) w2, Wrote d w1 w2 → w2.heap[d]? = some (.cells (cs.toList.take 10 ++ [Value.int .u8 a, Value.int .u8 b, Value.int .u8 e] ++ cs.toList.drop 13).toArray 65 (0, 0)) → DoesS L d R o (.slice A n n) w w2 := by
  obtain ⟨st', hR, hD, hK, hO⟩ := h
  obtain ⟨v4, v5, v6, mb, A, c, s1, s2, s3, hI⟩ := hD
  have key : ∀ (a b e : Int) w2, Wrote d w1 w2 → w2.heap[d]? = some (.cells ((dkC st'.B st'.C v4 v5 v6 mb A st'.cache.length c s1 s2 s3 st'.pend).toList.take 10 ++ [Value.int .u8 a, Value.int .u8 b, Value.int .u8 e] ++ (dkC st'.B st'.C v4 v5 v6 mb A st'.cache.length c s1 s2 s3 st'.pend).toList.drop 13).toArray 65 (0, 0)) → DiskAt L d st' w2 ∧ Kp L w w2 := by
    intro a b e w2 hW h2
    have hu := hI.upd (w' := w2) (A' := A) (c' := c) (t1 := a) (t2 := b) (t3 := e) (st' := st') ⟨hW.os, hW.tape, hW.output⟩ (Nat.le_of_eq hW.size.symm) (fun j _ j1 _ _ => hW.other j j1)
      h2 (hI.med.keep (hW.other mb (fun e => hI.ne1 e.symm))) (hI.row.keep fun a ea => hW.other _ (hI.ne2 a ea).1) (fun e he => .inl he) hI.nr hI.len
    exact ⟨⟨_, _, _, _, _, _, _, _, _, hu.1⟩, hK.trans hu.2⟩
  cases o with
  | none =>
    obtain rfl : v = .slice none 0 0 := hO
    exact ⟨none, 0, 0, _, rfl, Nat.le_refl _, hI.disk, rfl, fun a b e w2 hW h2 => ⟨st', hR, (key a b e w2 hW h2).1, (key a b e w2 hW h2).2, rfl⟩⟩
  | some xs =>
    obtain ⟨A', c', rfl, hRB⟩ := hO
    refine ⟨A', 64, c', _, rfl, hRB.1.2.1, hI.disk, rfl, fun a b e w2 hW h2 => ⟨st', hR, (key a b e w2 hW h2).1, (key a b e w2 hW h2).2, A', 64, rfl, ?_⟩⟩
    exact (hRB.keep fun a ea => hW.other _ (hI.ne3 hRB a ea).1).clip hRB.addr

set_option maxHeartbeats 4000000 in
set_option maxRecDepth 100000 in
theorem Run_ret (ok : Bool) (L : Nat → Prop) (d : Nat) (st : St) (b O : Value) (R : St → Prop) (o : Option (List Int)) (w : World) (h : DiskAt L d st w) (hrun : Calls Tryd.prog 25 #[.pointer (some ⟨d, 0, none⟩), b, O] w (Does2 ok L d R o w)) :
    Calls Tryd.prog 14 #[.pointer (some ⟨d, 0, none⟩), b, O] w (DoesR ok L d R o w) := by
  obtain ⟨mb, y8⟩ : ∃ mb, w.cell? ⟨d, 8, none⟩ = some (.map (some mb)) := by
    obtain ⟨v4, v5, v6, mb, A, c, s1, s2, s3, hI⟩ := h
    exact ⟨mb, cell_of hI.disk 8⟩
  have hval := valid_ret d mb w y8
  clear h y8
  go_enter Tryd.func14, Tryd.ntmps14
  go_wp2_with fail
  refine hval.mono ?_
  rintro e w' ⟨rfl, rfl⟩
  clear hval
  go_wp2_with fail
  refine hrun.mono ?_
  rintro e w1 ⟨v, rfl, hds⟩
  obtain ⟨A, n, c, cs, rfl, hnc, hD, hsz, hend⟩ := sense_end hds
  have HE := Lib.hid (⟨hend, hsz⟩ : _ ∧ _)
  have hclip := fun q => clip_ret A n c q hnc
  clear hds hend hrun
  cases ok
  · rw [if_neg (by decide)]
    unfold senV
    go_wp2_with (refine wpList_store_row rfl (.tmp 20) (.tmp 18) 59 rfl d 10 65 cs #[.int .u8 6, .int .u8 41, .int .u8 0] _ rfl rfl hD (by kernel_rfl) (by rw [hsz]; decide) rfl rfl ?_; intro w2 hS2 hW2)
    have hm := mid3 (l := cs.toList) (by simp; omega) (.int .u8 6) (.int .u8 41) (.int .u8 0)
    have k0 : w2.cell? ⟨d, 10, none⟩ = some (.int .u8 6) := (cell_of hS2 10).trans hm.1
    have k1 : w2.cell? ⟨d, 11, none⟩ = some (.int .u8 41) := (cell_of hS2 11).trans hm.2.1
    have k2 : w2.cell? ⟨d, 12, none⟩ = some (.int .u8 0) := (cell_of hS2 12).trans hm.2.2
    have HS := Lib.hid (⟨hS2, hW2⟩ : _ ∧ _)
    clear hm hS2 hW2 hD hsz
    go_quiet (exact Calls.quiet_of_same (hclip _))
    go_wp2_with fail
    go_ret2
    obtain ⟨st', h1, h2, h3, h4⟩ := HE.out.1 6 41 0 w2 HS.out.2 HS.out.1
    refine ⟨.slice A n n, rfl, st', h1, h2.drewN _, ⟨h3.os, h3.tape, h3.output, h3.size, h3.block⟩, ?_⟩
    cases o <;> exact h4
  · rw [if_pos rfl]
    unfold senV
    go_wp2_with (refine wpList_store_row rfl (.tmp 20) (.tmp 18) 59 rfl d 10 65 cs #[.int .u8 0, .int .u8 0, .int .u8 0] _ rfl rfl hD (by kernel_rfl) (by rw [hsz]; decide) rfl rfl ?_; intro w2 hS2 hW2)
    have hm := mid3 (l := cs.toList) (by simp; omega) (.int .u8 0) (.int .u8 0) (.int .u8 0)
    have k0 : w2.cell? ⟨d, 10, none⟩ = some (.int .u8 0) := (cell_of hS2 10).trans hm.1
    have k1 : w2.cell? ⟨d, 11, none⟩ = some (.int .u8 0) := (cell_of hS2 11).trans hm.2.1
    have k2 : w2.cell? ⟨d, 12, none⟩ = some (.int .u8 0) := (cell_of hS2 12).trans hm.2.2
    have HS := Lib.hid (⟨hS2, hW2⟩ : _ ∧ _)
    clear hm hS2 hW2 hD hsz
    go_quiet (exact Calls.quiet_of_same (hclip _))
    go_wp2_with fail
    go_ret2
    obtain ⟨st', h1, h2, h3, h4⟩ := HE.out.1 0 0 0 w2 HS.out.2 HS.out.1
    refine ⟨.slice A n n, rfl, st', h1, h2.drewN _, ⟨h3.os, h3.tape, h3.output, h3.size, h3.block⟩, ?_⟩
    cases o <;> exact h4

/-- the law's run -/
def LawRun (ok : Bool) (L : Nat → Prop) (d : Nat) (R : St → Prop) (o : Option (List Int)) (w : World) (e : Ending) (w' : World) : Prop := DoesR ok L d R o w e w'

set_option maxHeartbeats 4000000 in
set_option maxRecDepth 100000 in
theorem lrun_ret (ok : Bool) (L : Nat → Prop) (d : Nat) (st : St) (op n c : Int) (k : Nat) (O : Value) (R : St → Prop) (o : Option (List Int)) (w : World) (h : DiskAt L d st w)
    (henc : ∀ w', Below w.heap.size w w' → Calls Tryd.prog 13 #[cmdV op n c] w' fun e w'' => Below w'.heap.size w' w'' ∧ ∃ g q, e = .returned (.tuple #[.slice (some ⟨g, q, none⟩) k k, .int .i64 0]) ∧
      Calls Tryd.prog 25 #[.pointer (some ⟨d, 0, none⟩), .slice (some ⟨g, q, none⟩) k k, O] w'' (Does2 ok L d R o w'')) :
    Calls Tryd.prog 7 #[.pointer (some ⟨d, 0, none⟩), cmdV op n c, O] w (DoesR ok L d R o w) := by
  have hb0 : ∀ o, Below w.heap.size w (w.alloc o) := fun o => (Below.refl w.heap.size w).alloc (Nat.le_refl _) o
  have hen := fun o => henc (w.alloc o) (hb0 o)
  have H0 := Lib.hid h
  clear h henc
  unfold cmdV at hen ⊢
  go_enter Tryd.func7, Tryd.ntmps7
  go_wp2_with fail
  refine (hen _).mono ?_
  rintro e w2 ⟨hb2, g, q, rfl, hcall⟩
  have hw2 := (hb0 (.cells #[.int .u8 op, .int .u32 n, .int .u16 c, .int .i64 0] 44 (0, 0))).trans (hb2.mono (hb0 _).size)
  have hR := Run_ret ok L d st (.slice (some ⟨g, q, none⟩) k k) O R o w2 (H0.out.below hw2) hcall
  have HW := Lib.hid hw2
  clear hb2 hcall hw2 hen hb0
  go_wp2_with fail
  refine hR.mono ?_
  rintro e w3 ⟨v, rfl, st', h1, h2, h3, h4⟩
  have HX := Lib.hid (⟨h1, h2, h3, h4⟩ : _ ∧ _ ∧ _ ∧ _)
  clear h1 h2 h3 h4 hR
  go_wp2_with fail
  go_ret2
  exact ⟨v, rfl, st', HX.out.1, HX.out.2.1, (Kp.below HW.out).trans HX.out.2.2.1, HX.out.2.2.2⟩
end Go.Proofs.YtdiameckiihppaaDoor
