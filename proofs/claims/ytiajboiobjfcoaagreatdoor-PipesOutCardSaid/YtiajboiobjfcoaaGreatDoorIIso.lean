/-
  What is proved here: transactions.Check accepts the transactions of isochronous and other pipes.
  Conditions: the fields lie in their ranges.
  What is proved here: what the law's run returns, out of what pipes.Next, transactions.Do and pipes.Answer return, step by step.
  Conditions: those contracts, as hypotheses.
  What is proved here: what the law's run returns for isochronous works that send.
  Conditions: what the work's and the device's cells hold.
-/
import Derived.Test.YtiajboiobjfcoaaGreatDoorICk
import Derived.Test.YtiajboiobjfcoaaGreatDoorIDo
import Derived.Test.YtiajboiobjfcoaaGreatDoorQBegOk
import Derived.Test.YtiajboiobjfcoaaGreatDoorOBus
import Derived.Test.YtiajboiobjfcoaaGreatDoorIPnx
import Derived.Test.YtiajboiobjfcoaaGreatDoorIBase
import Derived.Test.YtiajboiobjfcoaaGreatDoorIWire
namespace Go.Proofs.YtiajboiobjfcoaaGreatDoor
open Go.Proofs Go.RowKit
section
open Go.Sy
set_option maxRecDepth 1000000
noncomputable def tArg (what : Int) (mx : E) : V := .agg [.int .u8 (.x 0), .int .u8 (.x 1), .int .u8 (.n what), .bool (.eq (.x 3) (.n 1)), .bool (.eq (.x 4) (.n 1)), .int .i64 mx, .sarr 4096 1 (.x 2)]
noncomputable def tPc (n m : Int × Int) (a b : Int × Int) : Pc := ⟨[], [(0, 127), (0, 15), n, a, b, m]⟩
noncomputable def tRun (what : Int) (mx : E) (n m a b : Int × Int) : Bool := allChk (fun r => litI 0 r.v) (evFn Tryz.prog kw0 10 20 57 [tArg what mx] jMem (tPc n m a b))
theorem t_out0 : tRun 1 (.n 0) (0, 1024) (0, 0) (0, 1) (0, 0) = true := by kernel_rfl
theorem tck_tok {what : Int} {mx : E} {n m a b : Int × Int} (hr : tRun what mx n m a b = true) (hwh : 0 ≤ what ∧ what ≤ 255) (ad en : Int) (tg iso : Bool) (mxv : Int) (A : Option Addr) (k c : Nat) (h0 : 0 ≤ ad ∧ ad ≤ 127) (h1 : 0 ≤ en ∧ en ≤ 15)
  (hA : SlZ (.slice A k c) k A.isNone) (hn : n.1 ≤ (k : Int) ∧ (k : Int) ≤ n.2) (ha : a.1 ≤ b2i tg ∧ b2i tg ≤ a.2) (hb : b.1 ≤ b2i iso ∧ b2i iso ≤ b.2) (hm : m.1 ≤ mxv ∧ mxv ≤ m.2) (hmr : -9223372036854775808 ≤ mxv ∧ mxv ≤ 9223372036854775807)
  (he : ∀ ρ : Nat → Int, ρ 5 = mxv → mx.den ρ = mxv) : TckOk (.agg #[.int .u8 ad, .int .u8 en, .int .u8 what, .bool tg, .bool iso, .int .i64 mxv, .slice A k c]) := by
 intro w
 obtain ⟨pl, hpl⟩ := slz_place hA
 let ρ : Nat → Int := fun j => if j = 0 then ad else if j = 1 then en else if j = 2 then (k : Int) else if j = 3 then b2i tg else if j = 4 then b2i iso else if j = 5 then mxv else if j = 1063 then b2i A.isNone else 0
 have em := he ρ rfl
 have hq : PcR ρ (tPc n m a b) := by
  refine ⟨fun c hc => by simp [tPc] at hc, ?_⟩
  intro i lo hi h
  match i, h with
  | 0, h => obtain ⟨rfl, rfl⟩ := Prod.mk.inj (Option.some.inj (show some ((0 : Int), (127 : Int)) = some (lo, hi) from h)); exact h0
  | 1, h => obtain ⟨rfl, rfl⟩ := Prod.mk.inj (Option.some.inj (show some ((0 : Int), (15 : Int)) = some (lo, hi) from h)); exact h1
  | 2, h => obtain rfl := Option.some.inj (show some n = some (lo, hi) from h); exact hn
  | 3, h => obtain rfl := Option.some.inj (show some a = some (lo, hi) from h); exact ha
  | 4, h => obtain rfl := Option.some.inj (show some b = some (lo, hi) from h); exact hb
  | 5, h => obtain rfl := Option.some.inj (show some m = some (lo, hi) from h); exact hm
  | i + 6, h => exact absurd (show (none : Option (Int × Int)) = some (lo, hi) from h) (by simp)
 have hV : VR (cJ ρ pl (0, 0)) (tArg what mx) (.agg #[.int .u8 ad, .int .u8 en, .int .u8 what, .bool tg, .bool iso, .int .i64 mxv, .slice A k c]) := by
  refine VR.agg.2 ⟨_, rfl, VRs.cons (VR.int.2 ⟨rfl, h0.1, by show ad ≤ 255; omega⟩) (VRs.cons (VR.int.2 ⟨rfl, h1.1, by show en ≤ 255; omega⟩) (VRs.cons (VR.int.2 ⟨rfl, hwh⟩)
   (VRs.cons (vr_bool rfl) (VRs.cons (vr_bool rfl) (VRs.cons (VR.int.2 ⟨by rw [show mx.den (cJ ρ pl (0, 0)).ρ = mxv from em], by rw [show mx.den (cJ ρ pl (0, 0)).ρ = mxv from em]; exact hmr⟩) (VRs.cons ?_ VRs.nil))))))⟩
  exact hpl _ 4096 2 (show 4096 < 4098 by omega) rfl rfl rfl
 refine (con_runC plain kw0_ok (cJ_mem ρ pl (0, 0) w) (cJ_glob _ _ _) (cJ_wr _ _ _) hq (VRs.cons hV VRs.nil) hr).mono ?_
 rintro e' w' ⟨r, c', y, hc, hp, rfl, hv, hρ, hbel⟩
 exact ⟨by rw [litI_ok hc hv], hbel⟩
end
end Go.Proofs.YtiajboiobjfcoaaGreatDoor

namespace Go.Proofs.YtiajboiobjfcoaaGreatDoor
open Go.Proofs Go.RowKit
attribute [local go_sem] lt2 lt3 lt4 lt5
theorem row_same {V : Array Value} {cur : Array Value} (h : cur.size = V.size) : (cur.toList.take 0 ++ V.toList ++ cur.toList.drop (0 + V.size)).toArray = V := by
 rw [List.take_zero, List.nil_append, List.drop_of_length_le (by rw [Array.length_toList]; omega), List.append_nil, Array.toArray_toList]
structure Runs (M : Bus) (n : Nat) (b0 : Nat) (st : Nat → M.σ) (res : Nat → Int) (dat : Nat → List Int) (Wk : Nat → World → (Nat → Prop) → Array Value → Prop) : Prop where
 sz : ∀ {k wr S V}, Wk k wr S V → V.size = 47 ∧ V.toList.all (·.oneCell') = true
 mv : ∀ {k wr wr' S S' V}, Wk k wr S V → Mv S wr S' wr' → Wk k wr' S' V
 bx : ∀ {k wr wr' S V g}, Wk k wr S V → Wrote g wr wr' → b0 ≤ g → g ≤ b0 + 1 → Wk k wr' S V
 next : ∀ {k wr S V}, k < n → Wk k wr S V → M.I wr S (st k) → Calls Tryz.prog 18 #[.agg V] wr fun e w' => Below wr.heap.size wr w' ∧ ∃ T, e = .returned (.tuple #[.agg T, .bool true]) ∧ T.size = 7 ∧ T.toList.all (·.oneCell') = true ∧
  ∀ w2, Below w'.heap.size w' w2 → Calls Tryz.prog 31 #[.iface 32 (.pointer (some M.ga)), M.wv, .agg T] w2 (DoEnd M ((res k, dat k), st (k + 1)) w2 S)
 ans : ∀ {k wr S V A m c}, k < n → Wk k wr S V → M.I wr S (st (k + 1)) → D8 wr S A m c (dat k) → b0 + 1 < wr.heap.size → Calls Tryz.prog 19 #[.agg V, .agg #[.int .u8 (res k), .slice A m c]] wr fun e w' => Below wr.heap.size wr w' ∧ ∃ V', e = .returned (.agg V') ∧ Wk (k + 1) w' S V'
def RunAt (M : Bus) (b0 : Nat) (st : Nat → M.σ) (Wk : Nat → World → (Nat → Prop) → Array Value → Prop) (w : World) (S0 : Nat → Prop) (k : Nat) (wr : World) : Prop :=
 ∃ S V, Wk k wr S V ∧ M.I wr S (st k) ∧ Mv S0 w S wr ∧ wr.heap[b0]? = some (.cells V 54 (0, 0)) ∧ (∃ Z : Array Value, Z.size = 47 ∧ wr.heap[b0 + 1]? = some (.cells Z 54 (0, 0))) ∧ ¬ S b0 ∧ ¬ S (b0 + 1)
def RunEnd (M : Bus) (st : Nat → M.σ) (Wk : Nat → World → (Nat → Prop) → Array Value → Prop) (w : World) (S0 : Nat → Prop) (n : Nat) (e : Ending) (w' : World) : Prop :=
 ∃ S V, e = .returned (.agg V) ∧ Wk n w' S V ∧ M.I w' S (st n) ∧ Mv S0 w S w'
theorem Mv.keep0 {S S' : Nat → Prop} {a b : World} (h : Mv S a S' b) {g : Nat} {o : Obj} (hg : a.heap[g]? = some o) (hs : ¬ S g) : b.heap[g]? = some o ∧ ¬ S' g := ⟨h.heap hg hs, h.out (Array.getElem?_eq_some_iff.1 hg).1 hs⟩
end Go.Proofs.YtiajboiobjfcoaaGreatDoor

namespace Go.Proofs.YtiajboiobjfcoaaGreatDoor
open Go.Proofs Go.RowKit
theorem U8.on {w w' : World} {X : Nat → Prop} {A : Option Addr} {n c : Nat} {xs : List Int} (h : U8 w A n c xs) (hf : n = 0 ∨ ∃ a, A = some a ∧ X a.block) (hk : ∀ i, X i → w'.heap[i]? = w.heap[i]?) : U8 w' A n c xs := by
 obtain ⟨h1, h2, h3, h4⟩ := h
 refine ⟨h1, h2, h3, h4.imp id ?_⟩
 rintro ⟨a, rfl, h5⟩
 refine ⟨a, rfl, fun j hj => ?_⟩
 rcases hf with h0 | ⟨a', e, hl⟩
 ·omega
 ·cases e
  exact (World.cell?_of_block (w := w) (w' := w') (a := a.add j) (by rw [add_block']; exact hk _ hl)).trans (h5 j hj)
theorem Sls.on {w w' : World} {X : Nat → Prop} {A : Option Addr} {n c : Nat} {vs : List Value} (h : Sls w A n c vs) (hf : n = 0 ∨ ∃ a, A = some a ∧ X a.block) (hk : ∀ i, X i → w'.heap[i]? = w.heap[i]?) : Sls w' A n c vs := by
 obtain ⟨h1, h2, h3⟩ := h
 refine ⟨h1, h2, h3.imp id ?_⟩
 rintro ⟨a, rfl, h4⟩
 refine ⟨a, rfl, fun j v hj => ?_⟩
 rcases hf with h0 | ⟨a', e, hl⟩
 ·have := (List.getElem?_eq_some_iff.1 hj).1; omega
 ·cases e
  exact (World.cell?_of_block (w := w) (w' := w') (a := a.add j) (by rw [add_block']; exact hk _ hl)).trans (h4 j v hj)
def PkOn (X : Nat → Prop) (w : World) (A : Option Addr) (n c : Nat) (bs : List (List Int)) : Prop :=
 ∃ vs, Sls w A n c vs ∧ B8s w vs bs ∧ (n = 0 ∨ ∃ a, A = some a ∧ X a.block) ∧ (∀ (j : Nat) A n c, vs[j]? = some (.slice A n c) → n = 0 ∨ ∃ a, A = some a ∧ X a.block)
theorem PkOn.on {w w' : World} {X : Nat → Prop} {A : Option Addr} {n c : Nat} {bs : List (List Int)} (h : PkOn X w A n c bs) (hk : ∀ i, X i → w'.heap[i]? = w.heap[i]?) : PkOn X w' A n c bs := by
 obtain ⟨vs, h1, h2, h3, h4⟩ := h
 refine ⟨vs, h1.on h3 hk, ⟨h2.1, fun j v b hj hb => ?_⟩, h3, h4⟩
 obtain ⟨A, n, c, e, hu, hn⟩ := h2.2 j v b hj hb
 exact ⟨A, n, c, e, hu.on (h4 j A n c (by rw [hj, e])) hk, hn⟩
theorem PkOn.wide {w : World} {X Y : Nat → Prop} {A : Option Addr} {n c : Nat} {bs : List (List Int)} (h : PkOn X w A n c bs) (hk : ∀ i, X i → Y i) : PkOn Y w A n c bs := by
 obtain ⟨vs, h1, h2, h3, h4⟩ := h
 exact ⟨vs, h1, h2, h3.imp id fun ⟨a, e, h⟩ => ⟨a, e, hk _ h⟩, fun j A n c hj => (h4 j A n c hj).imp id fun ⟨a, e, h⟩ => ⟨a, e, hk _ h⟩⟩
theorem slz_of {A : Option Addr} {n c : Nat} (h : Pl A n) (hn : n ≤ 65536) : SlZ (.slice A n c) n A.isNone := by
 refine ⟨by omega, c, ?_⟩
 rcases Nat.eq_zero_or_pos n with h0 | h0
 ·subst h0; exact .inr ⟨rfl, A, rfl, rfl⟩
 ·rcases h with h | ⟨g, o, rfl⟩
  ·omega
  ·exact .inl ⟨h0, g, o, rfl⟩
section
variable (K : GrK) (hiso : K.iso = true) (G B0 B1 : Nat) (hG : B0 ≤ B1) (hGB : G < B1) (W : Wire B0) (hWo : ∀ i, W.own i → B0 ≤ i ∧ i < B1 ∧ i ≠ G)
end
end Go.Proofs.YtiajboiobjfcoaaGreatDoor
