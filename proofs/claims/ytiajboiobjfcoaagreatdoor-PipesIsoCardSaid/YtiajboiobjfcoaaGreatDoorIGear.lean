/-
  What is proved here: what the law's device does when it hears a packet.
  Conditions: what its block and its lists' cells hold.
-/
import Derived.Test.YtiajboiobjfcoaaGreatDoorISend
namespace Go.Proofs.YtiajboiobjfcoaaGreatDoor
open Go.Proofs Go.RowKit
attribute [local go_sem] lt2 lt3 lt4 lt5
abbrev Fx (G B0 : Nat) (i : Nat) : Prop := i < B0 ∧ i ≠ G
theorem U8.far {w w' : World} {G B0 : Nat} {A : Option Addr} {n c : Nat} {xs : List Int} (h : U8 w A n c xs) (hf : n = 0 ∨ ∃ a, A = some a ∧ Fx G B0 a.block) (hk : ∀ i, Fx G B0 i → w'.heap[i]? = w.heap[i]?) : U8 w' A n c xs := by
 obtain ⟨h1, h2, h3, h4⟩ := h
 refine ⟨h1, h2, h3, h4.imp id ?_⟩
 rintro ⟨a, rfl, h5⟩
 refine ⟨a, rfl, fun j hj => ?_⟩
 rcases hf with h0 | ⟨a', e, hl⟩
 ·omega
 ·cases e
  exact (World.cell?_of_block (w := w) (w' := w') (a := a.add j) (by rw [add_block']; exact hk _ hl)).trans (h5 j hj)
theorem Sls.far {w w' : World} {G B0 : Nat} {A : Option Addr} {n c : Nat} {vs : List Value} (h : Sls w A n c vs) (hf : n = 0 ∨ ∃ a, A = some a ∧ Fx G B0 a.block) (hk : ∀ i, Fx G B0 i → w'.heap[i]? = w.heap[i]?) : Sls w' A n c vs := by
 obtain ⟨h1, h2, h3⟩ := h
 refine ⟨h1, h2, h3.imp id ?_⟩
 rintro ⟨a, rfl, h4⟩
 refine ⟨a, rfl, fun j v hj => ?_⟩
 rcases hf with h0 | ⟨a', e, hl⟩
 ·have := (List.getElem?_eq_some_iff.1 hj).1; omega
 ·cases e
  exact (World.cell?_of_block (w := w) (w' := w') (a := a.add j) (by rw [add_block']; exact hk _ hl)).trans (h4 j v hj)
structure GrK where
 endp : Int
 inn : Bool
 iso : Bool
 ans : List Int
 aA : Option Addr
 an : Nat
 ac : Nat
 offs : List (List Int)
 vs : List Value
 oA : Option Addr
 on : Nat
 oc : Nat
structure GrS where
 tg : Bool
 at_ : Nat
 nx : Nat
 wt : Bool
 tk : Bool
 taken : List Int
 many : Nat
def grCells (K : GrK) (tv : Value) (s : GrS) : Array Value :=
 #[.int .u8 K.endp, .bool K.inn, .bool K.iso, .bool s.tg, .slice K.aA K.an K.ac, .int .i64 (s.at_ : Int), .slice K.oA K.on K.oc, .int .i64 (s.nx : Int), .bool s.wt, .bool s.tk, tv, .int .i64 (s.many : Int)]
def GrL (K : GrK) (G B0 : Nat) (w : World) : Prop :=
 U8 w K.aA K.an K.ac K.ans ∧ Sls w K.oA K.on K.oc K.vs ∧ B8s w K.vs K.offs ∧ (K.an = 0 ∨ ∃ a, K.aA = some a ∧ Fx G B0 a.block) ∧ (K.on = 0 ∨ ∃ a, K.oA = some a ∧ Fx G B0 a.block) ∧
  (∀ (j : Nat) A n c, K.vs[j]? = some (.slice A n c) → n = 0 ∨ ∃ a, A = some a ∧ Fx G B0 a.block)
structure GrAt (K : GrK) (G B0 B1 : Nat) (w : World) (tv : Value) (s : GrS) : Prop where
 box : w.heap[G]? = some (.cells (grCells K tv s) 34 (0, 0))
 own : w.ownsRow B1 5 1 tv s.taken.length (s.taken.map (Value.int .u8))
 rng : ∀ x ∈ s.taken, 0 ≤ x ∧ x ≤ 255
 lists : GrL K G B0 w
theorem GrL.far {K : GrK} {G B0 : Nat} {w w' : World} (h : GrL K G B0 w) (hk : ∀ i, Fx G B0 i → w'.heap[i]? = w.heap[i]?) : GrL K G B0 w' := by
 obtain ⟨h1, h2, h3, h4, h5, h6⟩ := h
 refine ⟨h1.far h4 hk, h2.far h5 hk, ⟨h3.1, fun j v b hj hb => ?_⟩, h4, h5, h6⟩
 obtain ⟨A, n, c, e, hu, hn⟩ := h3.2 j v b hj hb
 exact ⟨A, n, c, e, hu.far (h6 j A n c (by rw [hj, e])) hk, hn⟩
def GrS.room (s : GrS) : Prop := s.at_ ≤ 1000000000 ∧ s.nx ≤ 1000000000 ∧ s.many ≤ 1000000000 ∧ s.taken.length ≤ 1000000
theorem wrap1 {n : Nat} (h : n ≤ 1000000000) : IntKind.i64.wrap ((n : Int) + 1) = (n : Int) + 1 := IntWalk.i64_in _ (by omega)
theorem Mx.wr1 {X S S' : Nat → Prop} {a b c : World} {g : Nat} (h : Mx X S a S' b) (k : Wrote g b c) (hg : a.heap.size ≤ g) : Mx X S a S' c :=
 ⟨k.os.trans h.os, k.tape.trans h.tape, k.output.trans h.output, by rw [k.size]; exact h.size, fun i hi hs hx => (k.other i (by omega)).trans (h.block i hi hs hx), h.sub⟩
theorem Wrote.undrew {g : Nat} {w w' : World} (h : Wrote g w.drew w') : Wrote g w w' := ⟨h.os, h.tape, h.output, h.size, h.other⟩
theorem own_wg {w w' : World} {B size n g : Nat} {e : TypeId} {v : Value} {xs : List Value} (h : w.ownsRow B e size v n xs) (hW : Wrote g w w') (hne : ∀ i, v.ownBlock = some i → i ≠ g) : w'.ownsRow B e size v n xs := by
 refine ⟨h.1, h.2.imp id ?_⟩
 rintro ⟨k, cap, cur, rfl, hg, hh, h3⟩
 exact ⟨k, cap, cur, rfl, hg, (hW.other k (hne k rfl)).trans hh, h3⟩
theorem put10g {w : World} {g : Nat} {t : TypeId} {z0 z1 z2 z3 z4 z5 z6 z7 z8 z9 : Value} (h : w.heap[g]? = some (.cells #[z0, z1, z2, z3, z4, z5, z6, z7, z8, z9] t (0, 0))) (v0 v1 v2 v3 v4 v5 v6 v7 v8 v9 : Value) :
  ((((((((((w.setCell ⟨g, 0, none⟩ v0).setCell ⟨g, 1, none⟩ v1).setCell ⟨g, 2, none⟩ v2).setCell ⟨g, 3, none⟩ v3).setCell ⟨g, 4, none⟩ v4).setCell ⟨g, 5, none⟩ v5).setCell ⟨g, 6, none⟩ v6).setCell ⟨g, 7, none⟩ v7).setCell ⟨g, 8, none⟩ v8).setCell ⟨g, 9, none⟩ v9).heap[g]? = some (.cells #[v0, v1, v2, v3, v4, v5, v6, v7, v8, v9] t (0, 0)) ∧ Wrote g w ((((((((((w.setCell ⟨g, 0, none⟩ v0).setCell ⟨g, 1, none⟩ v1).setCell ⟨g, 2, none⟩ v2).setCell ⟨g, 3, none⟩ v3).setCell ⟨g, 4, none⟩ v4).setCell ⟨g, 5, none⟩ v5).setCell ⟨g, 6, none⟩ v6).setCell ⟨g, 7, none⟩ v7).setCell ⟨g, 8, none⟩ v8).setCell ⟨g, 9, none⟩ v9) := by
 have hP := (((((((((((Put1.refl h).set 0 v0).set 1 v1).set 2 v2).set 3 v3).set 4 v4).set 5 v5).set 6 v6).set 7 v7).set 8 v8).set 9 v9)
 exact ⟨by simpa using hP.heap, hP.wrote⟩
theorem Sls.elem2 {w : World} {A : Option Addr} {n c k : Nat} {vs : List Value} {bs : List (List Int)} (h : Sls w A n c vs) (hb : B8s w vs bs) (hk : k < n) :
  ∃ a Ak nk ck b, A = some a ∧ bs[k]? = some b ∧ vs[k]? = some (.slice Ak nk ck) ∧ w.cell? (a.add k) = some (.slice Ak nk ck) ∧ U8 w Ak nk ck b ∧ nk ≤ 65536 ∧ n ≤ c := by
 obtain ⟨a, Ak, nk, ck, b, rfl, eb, hc, hu, hn, hnc⟩ := h.elem hb hk
 obtain ⟨h1, h2, ⟨h3, _⟩ | ⟨a', e, h3⟩⟩ := h
 ·cases h3
 cases e
 have hv : k < vs.length := by omega
 have := h3 k _ (List.getElem?_eq_getElem hv)
 rw [hc] at this
 exact ⟨a, Ak, nk, ck, b, rfl, eb, by rw [List.getElem?_eq_getElem hv, ← Option.some.inj this], hc, hu, hn, hnc⟩
theorem heap_drew2 {w : World} {g : Nat} {o : Obj} (h : w.heap[g]? = some o) : w.drew.drew.heap[g]? = some o := h
abbrev no : Nat → Prop := fun _ => False
def GrS.giveIso (K : GrK) (s : GrS) : Option Pk × GrS :=
 (if K.on < s.nx + 1 then none else some ⟨3, 0, 0, K.offs[s.nx]?.getD []⟩, { s with nx := s.nx + 1 })
def GiveEnd (K : GrK) (G B0 B1 : Nat) (tv : Value) (r : Option Pk × GrS) (w : World) (e : Ending) (w' : World) : Prop :=
 ∃ q b A' n' c', e = .returned (.tuple #[pkV q (.slice A' n' c'), .bool b]) ∧ GrAt K G B0 B1 w' tv r.2 ∧ Mx (fun i => i = G) no w no w' ∧ U8 w' A' n' c' q.data ∧ (n' = 0 ∨ ∃ a, A' = some a ∧ Fx G B0 a.block) ∧ r.1 = (if b then some q else none)
set_option maxHeartbeats 4000000 in
set_option maxRecDepth 1000000 in
theorem give_iso (K : GrK) (hiso : K.iso = true) (G B0 B1 : Nat) (tv : Value) (s : GrS) (w : World) (h : GrAt K G B0 B1 w tv s) (hr : s.room) (hG : B0 ≤ B1) (hGB : G < B1) (hB : B1 ≤ w.heap.size) :
  Calls Tryz.prog 129 #[.pointer (some ⟨G, 0, none⟩)] w (GiveEnd K G B0 B1 tv (s.giveIso K) w) := by
 obtain ⟨endp, inn, iso, ans, aA, an, ac, offs, vs, oA, on, oc⟩ := K
 obtain ⟨tg, at_, nx, wt, tk, taken, many⟩ := s
 dsimp only at hiso
 subst hiso
 have hbox := h.box
 unfold grCells at hbox
 dsimp only at hbox
 have hw1 := wrap1 hr.2.1
 have hba : ∀ o, Below w.heap.size w (w.alloc o) := fun o => (Below.refl _ w).alloc (Nat.le_refl _) o
 have b2 := fun o => cell_of (heap_below hbox (hba o)) 2
 have b7 := fun o => cell_of (heap_below hbox (hba o)) 7
 have f7 := fun o => frozen_of (heap_below hbox (hba o)) 7
 go_enter Tryz.func129, Tryz.ntmps129
 go_upto_region 3 with fail
 obtain ⟨w1, hw1'⟩ : ∃ w1, (w.alloc (.cells #[.int .u8 0, .int .u8 0, .int .u8 0, .int .u16 0, .int .u8 0, .int .u8 0, .bool false, .bool false, .int .u8 0, .slice none 0 0] 144)).setCell ⟨G, 7, none⟩ (.int .i64 ((nx : Int) + 1)) = w1 := ⟨_, rfl⟩
 have hW1 : Wrote G (w.alloc (.cells #[.int .u8 0, .int .u8 0, .int .u8 0, .int .u16 0, .int .u8 0, .int .u8 0, .bool false, .bool false, .int .u8 0, .slice none 0 0] 144)) w1 := by rw [← hw1']; exact (Wrote.refl G _).setCell 7 _
 have hB1 : w1.heap[G]? = some (.cells #[.int .u8 endp, .bool inn, .bool true, .bool tg, .slice aA an ac, .int .i64 (at_ : Int), .slice oA on oc, .int .i64 ((nx : Int) + 1), .bool wt, .bool tk, tv, .int .i64 (many : Int)] 34 (0, 0)) := by rw [← hw1']; exact setCell_heap (heap_below hbox (hba _)) 7 _
 rw [hw1']
 clear hw1' b2 b7 f7
 have hGl : G < w.heap.size := (Array.getElem?_eq_some_iff.1 hbox).1
 have hR1 : w1.heap[w.heap.size]? = some (.cells #[.int .u8 0, .int .u8 0, .int .u8 0, .int .u16 0, .int .u8 0, .int .u8 0, .bool false, .bool false, .int .u8 0, .slice none 0 0] 144 (0, 0)) := (hW1.other _ (by omega)).trans (heap_alloc_new w _)
 have g6 := cell_of hB1 6
 have g7 := cell_of hB1 7
 have hw2 : IntKind.i64.wrap ((nx : Int) + 1 - 1) = (nx : Int) := by rw [IntWalk.i64_in _ (by have := hr.2.1; simp at this; omega)]; omega
 have hx1 : Mx (fun i => i = G) no w no w1 := ⟨hW1.os, hW1.tape, hW1.output, by rw [hW1.size]; exact (hba _).size, fun i hi _ hx => (hW1.other i hx).trans ((hba _).block i hi), fun _ _ h => h⟩
 have hend : ∀ w2 tv', Wrote w.heap.size w1 w2 → tv' = tv → GrAt ⟨endp, inn, true, ans, aA, an, ac, offs, vs, oA, on, oc⟩ G B0 B1 w2 tv' ⟨tg, at_, nx + 1, wt, tk, taken, many⟩ ∧ Mx (fun i => i = G) no w no w2 := by
  intro w2 tv' hW htv
  subst htv
  have hol := own_lt h.own
  have hoe := own_ge h.own
  have hx2 := hx1.wr1 hW (Nat.le_refl _)
  refine ⟨⟨?_, ?_, h.rng, h.lists.far (fun i hi => hx2.block i (by have := hi.1; omega) (fun h => h) hi.2)⟩, hx2⟩
  ·unfold grCells
   rw [hW.other G (by omega), hB1]
   simp
  ·exact own_wg (own_wg (own_below h.own (hba _)) hW1 (fun i hi => by have := hoe i hi; omega)) hW (fun i hi => by have := hol i hi; omega)
 by_cases hlt : (on : Int) < (nx : Int) + 1
 ·go_region
  all_goals
   go_upto_region 4 with fail
   go_wp2_with (guard_target =~ wpList _ _ _ (_ :: _) _ _; (refine wpList_store_row rfl (.tmp 2) (.tmp 26) 144 rfl w.heap.size 0 144 _ _ #[.int .u8 0, .int .u8 0, .int .u8 0, .int .u16 0, .int .u8 0, .int .u8 0, .bool false, .bool false, .int .u8 0, .slice none 0 0] rfl rfl hR1 (by kernel_rfl) (by simp) rfl rfl ?_; intro w2 hZ2 hW2))
   refine ret_cell _ _ _ _ _ rfl rfl rfl hZ2 Tryz.underlying144 rfl (by kernel_rfl) rfl ?_
   obtain ⟨e1, e2⟩ := hend w2 tv (by first | exact hW2 | exact hW2.undrew) rfl
   refine ⟨pk0, false, none, 0, 0, rfl, ?_, e2, D8.nil w2 no |>.1, .inl rfl, ?_⟩
   ·unfold GrS.giveIso; exact e1
   ·unfold GrS.giveIso; simp; omega
 ·have hnx : nx < on := by omega
  obtain ⟨a, Ak, nk, ck, b, rfl, eb, hnv, hck, huk, hnk, hnc⟩ := (h.lists.2.1).elem2 (h.lists.2.2.1) hnx
  have EB := Lib.hid eb
  have hfk := h.lists.2.2.2.2.2
  have hfk := h.lists.2.2.2.2.2 nx Ak nk ck hnv
  have hab : Fx G B0 a.block := by
   rcases h.lists.2.2.2.2.1 with h0 | ⟨a', e, hl⟩
   ·simp at h0; omega
   ·cases e; exact hl
  have hkeep1 : ∀ i, Fx G B0 i → w1.heap[i]? = w.heap[i]? := fun i hi => hx1.block i (by have := hi.1; omega) (fun h => h) hi.2
  have ck1 : w1.cell? (a.add nx) = some (.slice Ak nk ck) := (World.cell?_of_block (w := w) (w' := w1) (a := a.add nx) (by rw [add_block']; exact hkeep1 _ hab)).trans hck
  have HNV := Lib.hid hnv
  clear hnv eb hkeep1 hab
  have hw3 : IntKind.i64.wrap (nx : Int) = (nx : Int) := IntWalk.i64_in _ (by have := hr.2.1; simp at this; omega)
  have q3 : (nx : Int) < (on : Int) := by omega
  have r0 := cell_of hR1 0
  have r1 := cell_of hR1 1
  have r2 := cell_of hR1 2
  have r3 := cell_of hR1 3
  have r4 := cell_of hR1 4
  have r5 := cell_of hR1 5
  have r6 := cell_of hR1 6
  have r7 := cell_of hR1 7
  have r8 := cell_of hR1 8
  have r9 := cell_of hR1 9
  have f0 := frozen_of hR1 0
  have f1 := frozen_of hR1 1
  have f2 := frozen_of hR1 2
  have f3 := frozen_of hR1 3
  have f4 := frozen_of hR1 4
  have f5 := frozen_of hR1 5
  have f6 := frozen_of hR1 6
  have f7 := frozen_of hR1 7
  have f8 := frozen_of hR1 8
  have f9 := frozen_of hR1 9
  go_region
  all_goals
   go_upto_region 5 with fail
   go_region
   all_goals
    have hP := put10g hR1 (.int .u8 3) (.int .u8 0) (.int .u8 0) (.int .u16 0) (.int .u8 0) (.int .u8 0) (.bool false) (.bool false) (.int .u8 0) (.slice Ak nk ck)
    generalize ((((((((((w1.setCell ⟨w.heap.size, 0, none⟩ (.int .u8 3)).setCell ⟨w.heap.size, 1, none⟩ (.int .u8 0)).setCell ⟨w.heap.size, 2, none⟩ (.int .u8 0)).setCell ⟨w.heap.size, 3, none⟩ (.int .u16 0)).setCell ⟨w.heap.size, 4, none⟩ (.int .u8 0)).setCell ⟨w.heap.size, 5, none⟩ (.int .u8 0)).setCell ⟨w.heap.size, 6, none⟩ (.bool false)).setCell ⟨w.heap.size, 7, none⟩ (.bool false)).setCell ⟨w.heap.size, 8, none⟩ (.int .u8 0)).setCell ⟨w.heap.size, 9, none⟩ (.slice Ak nk ck)) = w2 at hP ⊢
    have hZ2 := heap_drew2 hP.1
    have hW2 := hP.2
    clear hP
    go_wp2_with fail
    refine ret_cell _ _ _ _ _ rfl rfl rfl hZ2 Tryz.underlying144 rfl (by kernel_rfl) rfl ?_
    obtain ⟨e1, e2⟩ := hend w2 tv hW2 rfl
    refine ⟨⟨3, 0, 0, b⟩, true, Ak, nk, ck, rfl, ?_, ?_, ?_, hfk, ?_⟩
    ·unfold GrS.giveIso; exact ⟨e1.box, e1.own, e1.rng, e1.lists⟩
    ·exact ⟨e2.os, e2.tape, e2.output, e2.size, e2.block, e2.sub⟩
    ·exact huk.far hfk (fun i hi => e2.block i (by have := hi.1; omega) (fun h => h) hi.2)
    ·unfold GrS.giveIso; simp [EB.out]; omega
end Go.Proofs.YtiajboiobjfcoaaGreatDoor
