/-
  What is proved here: transactions.Check accepts the transactions of isochronous and other pipes.
  Conditions: the fields lie in their ranges.
  What is proved here: what the law's run returns, out of what pipes.Next, transactions.Do and pipes.Answer return, step by step.
  Conditions: those contracts, as hypotheses.
  What is proved here: what the law's run returns for isochronous works that send.
  Conditions: what the work's and the device's cells hold.
  What is proved here: what the law's run returns for isochronous works that receive.
  Conditions: what the work's and the device's cells hold.
  What is proved here: what the law's run returns where the job may be over before its last step.
  Conditions: what pipes.Next, transactions.Do and pipes.Answer return, as hypotheses.
-/
import Derived.Test.YtiajboiobjfcoaaGreatDoorICk
import Derived.Test.YtiajboiobjfcoaaGreatDoorIDo
import Derived.Test.YtiajboiobjfcoaaGreatDoorQBegOk
import Derived.Test.YtiajboiobjfcoaaGreatDoorILine
import Derived.Test.YtiajboiobjfcoaaGreatDoorIPnx
import Derived.Test.YtiajboiobjfcoaaGreatDoorIWire
namespace Go.Proofs.YtiajboiobjfcoaaGreatDoor
open Go.Proofs Go.RowKit
section
open Go.Sy
set_option maxRecDepth 1000000
noncomputable def tArg (what : Int) (mx : E) : V := .agg [.int .u8 (.x 0), .int .u8 (.x 1), .int .u8 (.n what), .bool (.eq (.x 3) (.n 1)), .bool (.eq (.x 4) (.n 1)), .int .i64 mx, .sarr 4096 1 (.x 2)]
noncomputable def tPc (n m : Int × Int) (a b : Int × Int) : Pc := ⟨[], [(0, 127), (0, 15), n, a, b, m]⟩
noncomputable def tRun (what : Int) (mx : E) (n m a b : Int × Int) : Bool := allChk (fun r => litI 0 r.v) (evFn Tryz.prog kw0 10 20 57 [tArg what mx] jMem (tPc n m a b))
theorem t_in0 : tRun 9 (.x 5) (0, 0) (0, 1024) (0, 1) (0, 0) = true := by kernel_rfl
theorem tck_tok {what : Int} {mx : E} {n m a b : Int × Int} (hr : tRun what mx n m a b = true) (hwh : 0 ≤ what ∧ what ≤ 255) (ad en : Int) (tg iso : Bool) (mxv : Int) (A : Option Addr) (k c : Nat) (h0 : 0 ≤ ad ∧ ad ≤ 127) (h1 : 0 ≤ en ∧ en ≤ 15)
  (hA : SlZ (.slice A k c) k A.isNone) (hn : n.1 ≤ (k : Int) ∧ (k : Int) ≤ n.2) (ha : a.1 ≤ b2i tg ∧ b2i tg ≤ a.2) (hb : b.1 ≤ b2i iso ∧ b2i iso ≤ b.2) (hm : m.1 ≤ mxv ∧ mxv ≤ m.2) (hmr : -9223372036854775808 ≤ mxv ∧ mxv ≤ 9223372036854775807)
  (he : ∀ ρ : Nat → Int, ρ 5 = mxv → mx.den ρ = mxv) : TckOk (.agg #[.int .u8 ad, .int .u8 en, .int .u8 what, .bool tg, .bool iso, .int .i64 mxv, .slice A k c]) := by
 intro w
 obtain ⟨pl, hpl⟩ := slz_place hA
 let ρ : Nat → Int := fun j => if j = 0 then ad else if j = 1 then en else if j = 2 then (k : Int) else if j = 3 then b2i tg else if j = 4 then b2i iso else if j = 5 then mxv else if j = 1063 then b2i A.isNone else 0
 have em := he ρ rfl
 have hq : PcR ρ (tPc n m a b) := by
  refine ⟨fun c hc => by simp [tPc] at hc, ?_⟩
  intro i lo hi h
  match i, h with
  | 0, h => obtain ⟨rfl, rfl⟩ := Prod.mk.inj (Option.some.inj (show some ((0 : Int), (127 : Int)) = some (lo, hi) from h)); exact h0
  | 1, h => obtain ⟨rfl, rfl⟩ := Prod.mk.inj (Option.some.inj (show some ((0 : Int), (15 : Int)) = some (lo, hi) from h)); exact h1
  | 2, h => obtain rfl := Option.some.inj (show some n = some (lo, hi) from h); exact hn
  | 3, h => obtain rfl := Option.some.inj (show some a = some (lo, hi) from h); exact ha
  | 4, h => obtain rfl := Option.some.inj (show some b = some (lo, hi) from h); exact hb
  | 5, h => obtain rfl := Option.some.inj (show some m = some (lo, hi) from h); exact hm
  | i + 6, h => exact absurd (show (none : Option (Int × Int)) = some (lo, hi) from h) (by simp)
 have hV : VR (cJ ρ pl (0, 0)) (tArg what mx) (.agg #[.int .u8 ad, .int .u8 en, .int .u8 what, .bool tg, .bool iso, .int .i64 mxv, .slice A k c]) := by
  refine VR.agg.2 ⟨_, rfl, VRs.cons (VR.int.2 ⟨rfl, h0.1, by show ad ≤ 255; omega⟩) (VRs.cons (VR.int.2 ⟨rfl, h1.1, by show en ≤ 255; omega⟩) (VRs.cons (VR.int.2 ⟨rfl, hwh⟩)
   (VRs.cons (vr_bool rfl) (VRs.cons (vr_bool rfl) (VRs.cons (VR.int.2 ⟨by rw [show mx.den (cJ ρ pl (0, 0)).ρ = mxv from em], by rw [show mx.den (cJ ρ pl (0, 0)).ρ = mxv from em]; exact hmr⟩) (VRs.cons ?_ VRs.nil))))))⟩
  exact hpl _ 4096 2 (show 4096 < 4098 by omega) rfl rfl rfl
 refine (con_runC plain kw0_ok (cJ_mem ρ pl (0, 0) w) (cJ_glob _ _ _) (cJ_wr _ _ _) hq (VRs.cons hV VRs.nil) hr).mono ?_
 rintro e' w' ⟨r, c', y, hc, hp, rfl, hv, hρ, hbel⟩
 exact ⟨by rw [litI_ok hc hv], hbel⟩
end
end Go.Proofs.YtiajboiobjfcoaaGreatDoor

namespace Go.Proofs.YtiajboiobjfcoaaGreatDoor
open Go.Proofs Go.RowKit
attribute [local go_sem] lt2 lt3 lt4 lt5
theorem row_same {V : Array Value} {cur : Array Value} (h : cur.size = V.size) : (cur.toList.take 0 ++ V.toList ++ cur.toList.drop (0 + V.size)).toArray = V := by
 rw [List.take_zero, List.nil_append, List.drop_of_length_le (by rw [Array.length_toList]; omega), List.append_nil, Array.toArray_toList]
structure Runs (M : Bus) (n : Nat) (b0 : Nat) (st : Nat → M.σ) (res : Nat → Int) (dat : Nat → List Int) (Wk : Nat → World → (Nat → Prop) → Array Value → Prop) : Prop where
 sz : ∀ {k wr S V}, Wk k wr S V → V.size = 47 ∧ V.toList.all (·.oneCell') = true
 mv : ∀ {k wr wr' S S' V}, Wk k wr S V → Mv S wr S' wr' → Wk k wr' S' V
 bx : ∀ {k wr wr' S V g}, Wk k wr S V → Wrote g wr wr' → b0 ≤ g → g ≤ b0 + 1 → Wk k wr' S V
 next : ∀ {k wr S V}, k < n → Wk k wr S V → M.I wr S (st k) → Calls Tryz.prog 18 #[.agg V] wr fun e w' => Below wr.heap.size wr w' ∧ ∃ T, e = .returned (.tuple #[.agg T, .bool true]) ∧ T.size = 7 ∧ T.toList.all (·.oneCell') = true ∧
  ∀ w2, Below w'.heap.size w' w2 → Calls Tryz.prog 31 #[.iface 32 (.pointer (some M.ga)), M.wv, .agg T] w2 (DoEnd M ((res k, dat k), st (k + 1)) w2 S)
 ans : ∀ {k wr S V A m c}, k < n → Wk k wr S V → M.I wr S (st (k + 1)) → D8 wr S A m c (dat k) → b0 + 1 < wr.heap.size → Calls Tryz.prog 19 #[.agg V, .agg #[.int .u8 (res k), .slice A m c]] wr fun e w' => Below wr.heap.size wr w' ∧ ∃ V', e = .returned (.agg V') ∧ Wk (k + 1) w' S V'
def RunAt (M : Bus) (b0 : Nat) (st : Nat → M.σ) (Wk : Nat → World → (Nat → Prop) → Array Value → Prop) (w : World) (S0 : Nat → Prop) (k : Nat) (wr : World) : Prop :=
 ∃ S V, Wk k wr S V ∧ M.I wr S (st k) ∧ Mv S0 w S wr ∧ wr.heap[b0]? = some (.cells V 54 (0, 0)) ∧ (∃ Z : Array Value, Z.size = 47 ∧ wr.heap[b0 + 1]? = some (.cells Z 54 (0, 0))) ∧ ¬ S b0 ∧ ¬ S (b0 + 1)
def RunEnd (M : Bus) (st : Nat → M.σ) (Wk : Nat → World → (Nat → Prop) → Array Value → Prop) (w : World) (S0 : Nat → Prop) (n : Nat) (e : Ending) (w' : World) : Prop :=
 ∃ S V, e = .returned (.agg V) ∧ Wk n w' S V ∧ M.I w' S (st n) ∧ Mv S0 w S w'
theorem Mv.keep0 {S S' : Nat → Prop} {a b : World} (h : Mv S a S' b) {g : Nat} {o : Obj} (hg : a.heap[g]? = some o) (hs : ¬ S g) : b.heap[g]? = some o ∧ ¬ S' g := ⟨h.heap hg hs, h.out (Array.getElem?_eq_some_iff.1 hg).1 hs⟩
end Go.Proofs.YtiajboiobjfcoaaGreatDoor

namespace Go.Proofs.YtiajboiobjfcoaaGreatDoor
open Go.Proofs Go.RowKit
def Far (S : Nat → Prop) (b0 : Nat) (A : Option Addr) (n : Nat) : Prop := n = 0 ∨ ∃ a, A = some a ∧ ¬ S a.block ∧ (a.block < b0 ∨ b0 + 1 < a.block)
theorem Far.mv {w w' : World} {S S' : Nat → Prop} {b0 n : Nat} {A : Option Addr} (h : Far S b0 A n) (hm : Mv S w S' w') (hl : n = 0 ∨ ∀ a, A = some a → a.block < w.heap.size) : Far S' b0 A n :=
 h.elim .inl fun ⟨a, e, h1, h2⟩ => hl.elim .inl fun hl => .inr ⟨a, e, hm.out (hl a e) h1, h2⟩
theorem slz_of {A : Option Addr} {n c : Nat} (h : Pl A n) (hn : n ≤ 65536) : SlZ (.slice A n c) n A.isNone := by
 refine ⟨by omega, c, ?_⟩
 rcases Nat.eq_zero_or_pos n with h0 | h0
 ·subst h0; exact .inr ⟨rfl, A, rfl, rfl⟩
 ·rcases h with h | ⟨g, o, rfl⟩
  ·omega
  ·exact .inl ⟨h0, g, o, rfl⟩
section
variable (K : GrK) (hiso : K.iso = true) (G B0 B1 : Nat) (hG : B0 ≤ B1) (hGB : G < B1) (W : Wire B0) (hWo : ∀ i, W.own i → B0 ≤ i ∧ i < B1 ∧ i ≠ G)
end
end Go.Proofs.YtiajboiobjfcoaaGreatDoor

namespace Go.Proofs.YtiajboiobjfcoaaGreatDoor
open Go.Proofs Go.RowKit
theorem u8_lt {w : World} {A : Option Addr} {n c : Nat} {xs : List Int} (h : U8 w A n c xs) : n = 0 ∨ ∀ a, A = some a → a.block < w.heap.size := by
 rcases Nat.eq_zero_or_pos n with h0 | h0
 ·exact .inl h0
 obtain ⟨_, _, _, ⟨_, h, _⟩ | ⟨a, rfl, h5⟩⟩ := h
 ·omega
 refine .inr fun a' e => ?_
 cases e
 have := World.block_lt_of_cell? _ _ (h5 0 h0)
 rwa [show (a.add 0) = a by simp [Addr.add]] at this
theorem u8_to {w w' : World} {A : Option Addr} {n c : Nat} {xs : List Int} (h : U8 w A n c xs) (hk : n = 0 ∨ ∀ a, A = some a → w'.heap[a.block]? = w.heap[a.block]?) : U8 w' A n c xs := by
 obtain ⟨h1, h2, h3, h4⟩ := h
 refine ⟨h1, h2, h3, h4.imp id ?_⟩
 rintro ⟨a, rfl, hc⟩
 refine ⟨a, rfl, fun j hj => ?_⟩
 rcases hk with h0 | hk
 ·omega
 ·exact (World.cell?_of_block (w := w) (w' := w') (a := a.add j) (by rw [add_block']; exact hk a rfl)).trans (hc j hj)
section
variable (K : GrK) (hiso : K.iso = true) (G B0 B1 : Nat) (hG : B0 ≤ B1) (hGB : G < B1) (W : Wire B0) (hWo : ∀ i, W.own i → B0 ≤ i ∧ i < B1 ∧ i ≠ G)
end
end Go.Proofs.YtiajboiobjfcoaaGreatDoor

namespace Go.Proofs.YtiajboiobjfcoaaGreatDoor
open Go.Proofs Go.RowKit
attribute [local go_sem] lt2 lt3 lt4 lt5
set_option maxHeartbeats 4000000 in
set_option maxRecDepth 1000000 in
theorem run_stop (M : Bus) (n m : Nat) (hn : n ≤ 1000000) (hmn : m ≤ n) (w : World) (st : Nat → M.σ) (res : Nat → Int) (dat : Nat → List Int) (Wk : Nat → World → (Nat → Prop) → Array Value → Prop) (H : Runs M m w.heap.size st res dat Wk)
    (hstop : m < n → ∀ wr S V, Wk m wr S V → Calls Tryz.prog 18 #[.agg V] wr fun e w' => Below wr.heap.size wr w' ∧ e = .returned (.tuple #[.agg #[.int .u8 0, .int .u8 0, .int .u8 0, .bool false, .bool false, .int .i64 0, .slice none 0 0], .bool false])) (S0 : Nat → Prop) (V0 : Array Value)
    (hW : Wk 0 w S0 V0) (hI : M.I w S0 (st 0)) :
    Calls Tryz.prog 12 #[.agg V0, .iface 32 (.pointer (some M.ga)), M.wv, .int .i64 (n : Int)] w (RunEnd M st Wk w S0 m) := by
  have i47 : (Tryz.prog.info? 54).map (·.size) = some 47 := by kernel_rfl
  have i7 : (Tryz.prog.info? 80).map (·.size) = some 7 := by kernel_rfl
  have hb3 : ∀ a b, Below w.heap.size w ((w.alloc a).alloc b) := fun a b => ((Below.refl w.heap.size w).alloc (Nat.le_refl _) a).alloc (by simp) b
  go_enter Tryz.func12, Tryz.ntmps12
  go_wp2_with fail
  go_loopw [9] (fun i wr => ∃ k : Nat, i = .int .i64 k ∧ k ≤ m ∧ RunAt M w.heap.size st Wk w S0 k wr) (fun i _ => n - (intOf i).toNat)
  case atStart =>
    refine ⟨0, rfl, by omega, S0, V0, H.mv hW ((Mv.refl _ _).below (hb3 _ _)), Bus.below hI (hb3 _ _), (Mv.refl _ _).below (hb3 _ _), alloc2_0 _ _ _, ⟨_, ?_, alloc2_1 _ _ _⟩, Bus.new hI (Nat.le_refl _), Bus.new hI (Nat.le_succ _)⟩
    rfl
  case round =>
    obtain ⟨k, rfl, hk, S, V, hWk, hIk, hmv, hB, ⟨Z, hZs, hZ⟩, hs0, hs1⟩ := hrel
    have hV := H.sz hWk
    by_cases hlt : k < m
    · have q1 : (k : Int) < (n : Int) := by omega
      have hnx := H.next hlt hWk hIk
      go_wp2_with (guard_target =~ wpList _ _ _ (_ :: _) _ _; refine wpList_load_row rfl (.tmp 4) 54 rfl w.heap.size 54 V _ rfl hB Tryz.underlying54 rfl (by rw [i47, hV.1]) ?_)
      refine hnx.mono ?_
      rintro e w1 ⟨hb1, T, rfl, hT7, hT1, hdo⟩
      have hb0 : w.heap.size + 1 < wr.heap.size := (Array.getElem?_eq_some_iff.1 hZ).1
      have hn1 : ¬ S w1.heap.size := fun h => by have := M.lt hIk _ h; have := hb1.size; omega
      have hkb := hb1.size
      clear hnx
      go_wp2_with (guard_target =~ wpList _ _ _ (_ :: _) _ _; first
        | (refine wpList_store_row rfl (.tmp 10) (.tmp 22) 80 rfl w1.heap.size 0 80 _ T T rfl rfl (heap_alloc_new w1 _) (by rw [i7, hT7]) (by rw [hT7]; decide) hT1 (row_same (by rw [hT7]; rfl)) ?_
           intro w2 hT2 hW2
           have hb12 : Below w1.heap.size w1 w2 := ((Below.refl _ w1).alloc (Nat.le_refl _) _).trans (hW2.below (Nat.le_refl _)))
        | refine wpList_load_row rfl (.tmp 10) 80 rfl w1.heap.size 80 T _ rfl hT2 Tryz.underlying80 rfl (by rw [i7, hT7]) ?_)
      refine (hdo w2 hb12).mono ?_
      clear hdo
      rintro e w3 ⟨S', A', m', c', sA, sn, sc, rfl, hI3, hm3, hd3⟩
      have hbr := hb1.trans (hb12.mono hb1.size)
      obtain ⟨hB3, hs0'⟩ := hm3.keep0 (heap_below hB hbr) hs0
      obtain ⟨hZ3, hs1'⟩ := hm3.keep0 (heap_below hZ hbr) hs1
      have hmr : Mv S wr S' w3 := ((Mv.refl S wr).below hbr).trans hm3
      have hW3 := H.mv hWk hmr
      have hm03 := hmv.trans hmr
      have hsz3 : wr.heap.size ≤ w3.heap.size := hmr.size
      clear hB hZ hT2
      go_wp2_with (guard_target =~ wpList _ _ _ (_ :: _) _ _; first
        | (refine wpList_store_row rfl (.tmp 12) (.tmp 32) 86 rfl w3.heap.size 0 86 _ _ #[.int .u8 (res k), .slice A' m' c'] rfl rfl (heap_alloc_new w3 _) (by kernel_rfl) (by simp) rfl rfl ?_
           intro w4 hO4 hW4
           have hb34 : Below w3.heap.size w3 w4 := ((Below.refl _ w3).alloc (Nat.le_refl _) _).trans (hW4.below (Nat.le_refl _))
           have hB4 := heap_below hB3 hb34)
        | refine wpList_load_row rfl (.tmp 4) 54 rfl w.heap.size 54 V _ rfl hB4 Tryz.underlying54 rfl (by rw [i47, hV.1]) ?_
        | refine wpList_load_row rfl (.tmp 12) 86 rfl w3.heap.size 86 _ _ rfl hO4 Tryz.underlying86 rfl (by kernel_rfl) ?_)
      have hI4 := Bus.below hI3 hb34
      refine (H.ans hlt (H.mv hW3 ((Mv.refl S' w3).below hb34)) hI4 (hd3.below hb34) (by have := hb34.size; omega)).mono ?_
      rintro e w5 ⟨hb5, V', rfl, hW5⟩
      have hb35 := hb34.trans (hb5.mono hb34.size)
      have hB5 := heap_below hB3 hb35
      have hZ5 := heap_below hZ3 hb35
      have hI5 := Bus.below hI3 hb35
      have hV' := H.sz hW5
      clear hB4 hO4 hB3 hZ3 hI4 hI3 hd3
      go_wp2_with (guard_target =~ wpList _ _ _ (_ :: _) _ _; first
        | (refine wpList_store_row rfl (.tmp 4) (.tmp 36) 54 rfl w.heap.size 0 54 V V' V' rfl rfl hB5 (by rw [i47, hV'.1]) (by rw [hV.1, hV'.1]; decide) hV'.2 (row_same (by rw [hV.1, hV'.1])) ?_
           intro w6 hB6 hW6))
      go_round
      case rel =>
        exact ⟨k + 1, by go_num, by omega, S', V', H.bx hW5 hW6 (Nat.le_refl _) (Nat.le_succ _), Bus.wrote hI5 hW6 (M.base hI) hs0', (hm03.below hb35).wrote hW6 (Nat.le_refl _), hB6, ⟨Z, hZs, (hW6.other _ (by omega)).trans hZ5⟩, hs0', hs1'⟩
      case measure => simp [intOf]; omega
    · obtain rfl : k = m := by omega
      by_cases hkn : k < n
      · have q1 : (k : Int) < (n : Int) := by omega
        have hnx := hstop hkn wr S V hWk
        go_wp2_with (guard_target =~ wpList _ _ _ (_ :: _) _ _; refine wpList_load_row rfl (.tmp 4) 54 rfl w.heap.size 54 V _ rfl hB Tryz.underlying54 rfl (by rw [i47, hV.1]) ?_)
        refine hnx.mono ?_
        rintro e w1 ⟨hb1, rfl⟩
        have hb0 : w.heap.size + 1 < wr.heap.size := (Array.getElem?_eq_some_iff.1 hZ).1
        have hB1 := heap_below hB hb1
        have hZ1 := heap_below hZ hb1
        have hkb := hb1.size
        clear hnx
        go_wp2_with (guard_target =~ wpList _ _ _ (_ :: _) _ _; first
          | (refine wpList_store_row rfl (.tmp 10) (.tmp 22) 80 rfl w1.heap.size 0 80 _ _ #[.int .u8 0, .int .u8 0, .int .u8 0, .bool false, .bool false, .int .i64 0, .slice none 0 0] rfl rfl (heap_alloc_new w1 _) (by kernel_rfl) (Nat.le_refl 7) rfl rfl ?_
             intro w2 hT2 hW2
             have hb12 : Below w1.heap.size w1 w2 := ((Below.refl _ w1).alloc (Nat.le_refl _) _).trans (hW2.below (Nat.le_refl _))
             have hB2 := heap_below hB1 hb12
             have hZ2 := heap_below hZ1 hb12)
          | refine wpList_load_row rfl (.tmp 4) 54 rfl w.heap.size 54 V _ rfl hB2 Tryz.underlying54 rfl (by rw [i47, hV.1]) ?_
          | (refine wpList_store_row rfl (.tmp 8) (.tmp 26) 54 rfl (w.heap.size + 1) 0 54 Z V V rfl rfl hZ2 (by rw [i47, hV.1]) (by rw [hZs, hV.1]; decide) hV.2 (row_same (by rw [hZs, hV.1])) ?_
             intro w6 hB6 hW6))
        have hb := hb1.trans (hb12.mono hb1.size)
        exact ret_one _ _ _ _ rfl rfl hB6 Tryz.underlying54 rfl (by rw [i47, hV.1]) rfl ⟨S, V, rfl, H.bx (H.mv hWk ((Mv.refl _ _).below hb)) hW6 (Nat.le_succ _) (Nat.le_refl _), Bus.wrote (Bus.below hIk hb) hW6 (by have := M.base hI; omega) hs1, (hmv.below hb).wrote hW6 (Nat.le_succ _)⟩
      obtain rfl : k = n := by omega
      go_wp2_with (guard_target =~ wpList _ _ _ (_ :: _) _ _; first
        | refine wpList_load_row rfl (.tmp 4) 54 rfl w.heap.size 54 V _ rfl hB Tryz.underlying54 rfl (by rw [i47, hV.1]) ?_
        | (refine wpList_store_row rfl (.tmp 8) (.tmp 37) 54 rfl (w.heap.size + 1) 0 54 Z V V rfl rfl hZ (by rw [i47, hV.1]) (by rw [hZs, hV.1]; decide) hV.2 (row_same (by rw [hZs, hV.1])) ?_
           intro w6 hB6 hW6))
      exact ret_one _ _ _ _ rfl rfl hB6 Tryz.underlying54 rfl (by rw [i47, hV.1]) rfl ⟨S, V, rfl, H.bx hWk hW6 (Nat.le_succ _) (Nat.le_refl _), Bus.wrote hIk hW6 (by have := M.base hI; omega) hs1, hmv.wrote hW6 (Nat.le_succ _)⟩
end Go.Proofs.YtiajboiobjfcoaaGreatDoor
