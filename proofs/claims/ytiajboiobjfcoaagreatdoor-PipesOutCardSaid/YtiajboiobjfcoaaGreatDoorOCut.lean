/-
  What is proved here: what bulks.Cut returns, exactly.
  Conditions: what the slice's cells hold.
-/
import Derived.Test.YtiajboiobjfcoaaGreatDoorOPcs
import Derived.Maps.AppendAt
namespace Go.Proofs.YtiajboiobjfcoaaGreatDoor
open Go.Proofs Go.RowKit Go.Shelf
attribute [local go_sem] Oper.semAt_some lt2 lt3 lt4 lt5
attribute [-go_sem] Builtin.append_
set_option maxRecDepth 100000 in
set_option maxHeartbeats 4000000 in
theorem pieces_makesN (F : Fence) (n : Nat) (hF : F.fn 79) (hro : F.round = none) (A : Option Addr) (m c : Nat) (mx : Int) (z : Bool) (w : World) :
  CallsIn F n Tryz.prog 79 #[.slice A m c, .int .i64 mx, .bool z] w fun e w' => e = .returned (.func (.func 86) #[] #[.pointer (some ⟨w.heap.size, 0, none⟩), .pointer (some ⟨w.heap.size + 1, 0, none⟩), .pointer (some ⟨w.heap.size + 2, 0, none⟩)]) ∧
   w' = ((w.alloc (.cells #[.slice A m c] 23)).alloc (.cells #[.int .i64 mx] 3)).alloc (.cells #[.bool z] 4) := by
 refine callsIn_of_wp Tryz.func79 rfl hF ?_ hro
 simp only [Tryz.ntmps79, List.size_toArray, List.length_cons, List.length_nil, Nat.reduceAdd, Nat.reduceSub, Array.replicate_succ, Array.replicate_zero, List.push_toArray, List.append_toArray, List.nil_append, List.cons_append]
 gi_wp2
 go_ret
 exact ⟨rfl, rfl⟩
def FarV (B : Nat) (us : List Value) : Prop := ∀ v ∈ us, ∃ g n c, v = .slice (some ⟨g, 0, none⟩) n c ∧ B ≤ g
def CutN (w : World) (B cap : Nat) (L : List (List Int)) (k : Nat) (W : World) : Prop :=
 ∃ us bs u, (bs = L.take k ∧ FarV w.heap.size us) ∧ Boxed W B 22 (.slice (some ⟨w.heap.size, 0, none⟩) k cap) ∧ Boxed W (B + 1) 23 u ∧ W.ownsRow w.heap.size 23 1 (.slice (some ⟨w.heap.size, 0, none⟩) k cap) k us ∧ Els W us bs ∧ (∀ b ∈ bs, b.length ≤ 65536) ∧ Below w.heap.size w W ∧ B + 4 ≤ W.heap.size
theorem cutN_own {w : World} {B cap N : Nat} {L : List (List Int)} (hN : w.heap.size ≤ N) : OwnFrom N (CutN w B cap L) := by
 rintro k X Y row ⟨us, bs, u, hbs, h1, h2, h3, h4, h5, h6, h7⟩ hg hr
 have hne : ∀ (i : Nat) cs t, X.heap[i]? = some (.cells cs t (0, 0)) → some i ≠ row := by
  intro i cs t hi e
  obtain ⟨_, o, ho, hc⟩ := hr i e.symm
  rw [hi] at ho; cases ho; cases hc
 refine ⟨us, bs, u, hbs, h1.kept hg (hne _ _ _ h1), h2.kept hg (hne _ _ _ h2), h3.kept hg ?_, h4.heap fun g cs hgc => heap_grown hgc hg (fun e => hne _ _ _ hgc e.symm), h5, h6.grown hg h6.size (fun j e => Nat.le_trans hN (hr j e).1), Nat.le_trans h7 hg.size⟩
 rcases h3.2 with ⟨h, _⟩ | ⟨g, cp, cur, e, _, hgb, _⟩
 ·cases h
 ·refine .inr fun e' => ?_
  injection e with e1
  injection e1 with e1
  injection e1 with e1
  subst e1
  exact hne _ _ _ hgb e'
theorem cutN_set {w : World} {B cap : Nat} {L : List (List Int)} (hB : w.heap.size < B) (k : Nat) (W : World) (v : Value) (h : CutN w B cap L k W) : CutN w B cap L k (W.setCell ⟨B + 1, 0, none⟩ v) := by
 obtain ⟨us, bs, u, hbs, h1, h2, h3, h4, h5, h6, h7⟩ := h
 have hg := grownBy_setCell' W (B + 1) v
 refine ⟨us, bs, v, hbs, h1.kept hg (by simp), h2.set v, h3.kept hg (.inr (by simp [Value.ownBlock]; omega)), h4.heap fun g cs hgc => heap_grown hgc hg (fun e => ?_), h5, h6.setCell (p := ⟨B + 1, 0, none⟩) (by show w.heap.size ≤ B + 1; omega) v, Nat.le_trans h7 hg.size⟩
 injection e with e
 subst e
 rw [show W.heap[B + 1]? = _ from h2] at hgc
 simp at hgc
theorem keeps_of_below {A C : World} (h : Below A.heap.size A C) : KeepsOthers A C := ⟨h.size, fun _ _ ho _ => heap_below ho h⟩
theorem cutN_step {w W w3 w4 : World} {B cap k g c : Nat} {L : List (List Int)} {us : List Value} {bs : List (List Int)} {u : Value} {ys : List Int} {o : Obj} (hbs : bs = L.take k ∧ FarV w.heap.size us) (hge : W.heap.size ≤ g) (hLk : L[k]? = some ys) (hB : w.heap.size < B) (hy : ys.length ≤ 65536)
  (h1 : Boxed W B 22 (.slice (some ⟨w.heap.size, 0, none⟩) k cap)) (h2 : Boxed W (B + 1) 23 u) (h3 : W.ownsRow w.heap.size 23 1 (.slice (some ⟨w.heap.size, 0, none⟩) k cap) k us) (h4 : Els W us bs) (h5 : ∀ b ∈ bs, b.length ≤ 65536) (h6 : Below w.heap.size w W) (h7 : B + 4 ≤ W.heap.size)
  (hb : Below W.heap.size W w3) (hf : F8 w3 g ys.length c ys) (hown : w4.ownsRow w.heap.size 23 1 (.slice (some ⟨w.heap.size, 0, none⟩) (k + 1) cap) (k + 1) (us ++ [.slice (some ⟨g, 0, none⟩) ys.length c])) (hgr : (w3.alloc o).grownBy w4 (some w.heap.size)) :
  KeepsOthers W (w4.setCell ⟨B, 0, none⟩ (.slice (some ⟨w.heap.size, 0, none⟩) (k + 1) cap)) ∧ Same3 (B + 1) W (w4.setCell ⟨B, 0, none⟩ (.slice (some ⟨w.heap.size, 0, none⟩) (k + 1) cap)) ∧ CutN w B cap L (k + 1) (w4.setCell ⟨B, 0, none⟩ (.slice (some ⟨w.heap.size, 0, none⟩) (k + 1) cap)) := by
 have hg := grownBy_setCell' w4 B (.slice (some ⟨w.heap.size, 0, none⟩) (k + 1) cap)
 have hBox3 : Boxed w3 B 22 _ := heap_below h1 hb
 have hBox4 := (hBox3.alloc o).kept hgr (by simp; omega)
 have hX3 : Boxed w3 (B + 1) 23 u := heap_below h2 hb
 have hX4 := (hX3.alloc o).kept hgr (by simp; omega)
 have hw : Below w.heap.size w (w3.alloc o) := (h6.trans (hb.mono h6.size)).alloc (by have := h6.size; have := hb.size; omega) o
 have hsame : ∀ i, w.heap.size ≠ i → i < W.heap.size → i ≠ B → (w4.setCell ⟨B, 0, none⟩ (.slice (some ⟨w.heap.size, 0, none⟩) (k + 1) cap)).heap[i]? = W.heap[i]? := by
  intro i hi hl hB'
  have hl3 : i < w3.heap.size := Nat.lt_of_lt_of_le hl hb.size
  refine (Below.heap_setCell _ _ _ _ hB').trans ((hgr.block i (by simp; omega) (by simp; omega)).trans ((Below.heap_alloc _ _ _ hl3).trans (hb.block i hl)))
 refine ⟨?_, fun i hi => hsame _ (by omega) (by omega) (by omega), ?_⟩
 ·refine (keeps_of_below hb).trans (((KeepsOthers.alloc w3 o).trans (KeepsOthers.of_grownBy hgr fun j oo ej hj => ?_)).trans (KeepsOthers.setCell _ _ _))
  injection ej with ej
  subst ej
  rcases h3.2 with ⟨h, _⟩ | ⟨g', cp, cur, e, _, hgb, _⟩
  ·cases h
  ·injection e with e1
   injection e1 with e1
   injection e1 with e1
   subst e1
   have := (Below.heap_alloc w3 o _ (Nat.lt_of_lt_of_le (Array.getElem?_eq_some_iff.1 hgb).1 hb.size)).trans (heap_below hgb hb)
   rw [this] at hj
   cases hj
   rfl
 ·have hty : ∀ (g : Nat) cs, w3.heap[g]? = some (.cells cs 5 (0, 0)) → (w4.setCell ⟨B, 0, none⟩ (.slice (some ⟨w.heap.size, 0, none⟩) (k + 1) cap)).heap[g]? = some (.cells cs 5 (0, 0)) := by
   intro g cs hgc
   have hl3 : g < w3.heap.size := (Array.getElem?_eq_some_iff.1 hgc).1
   have hgB : g ≠ B := by rintro rfl; rw [show w3.heap[g]? = _ from hBox3] at hgc; simp at hgc
   have hg0 : g ≠ w.heap.size := by
    rintro rfl
    rcases (own_below h3 hb).2 with ⟨h, _⟩ | ⟨g', cp, cur, e, _, hgb, _⟩
    ·cases h
    ·injection e with e1
     injection e1 with e1
     injection e1 with e1
     subst e1
     rw [hgb] at hgc; simp at hgc
   exact (Below.heap_setCell _ _ _ _ hgB).trans ((hgr.block g (by simp; omega) (by simp; omega)).trans ((Below.heap_alloc _ _ _ hl3).trans hgc))
  refine ⟨us ++ [.slice (some ⟨g, 0, none⟩) ys.length c], bs ++ [ys], u, ⟨by rw [hbs.1, List.take_add_one, hLk]; rfl, fun v hv => by
   rcases List.mem_append.1 hv with h | h
   ·exact hbs.2 v h
   ·rw [List.mem_singleton] at h
    exact ⟨g, _, _, h, Nat.le_trans h6.size hge⟩⟩, hBox4.set _, hX4.kept hg (by simp), hown.kept hg (.inr (by simp [Value.ownBlock]; omega)), ?_, ?_, ?_, ?_⟩
  ·exact Els.heap ((h4.heap (keeps_below hb)).snoc ⟨g, c, rfl, hf⟩) hty
  ·intro b hb'
   rcases List.mem_append.1 hb' with h | h
   ·exact h5 b h
   ·rw [List.mem_singleton] at h; subst h; exact hy
  ·exact (hw.grown hgr hw.size (fun j e => by cases e; exact Nat.le_refl _)).setCell (p := ⟨B, 0, none⟩) (by show w.heap.size ≤ B; omega) _
  ·have := hgr.size; have := hb.size; have := hg.size; simp at *; omega
def CutX (w : World) (L : List (List Int)) (e : Ending) (w' : World) : Prop :=
 Below w.heap.size w w' ∧ ∃ g m cap us, e = .returned (.tuple #[.slice (some ⟨g, 0, none⟩) m m, .int .i64 0]) ∧ m = L.length ∧ w'.ownsRow w.heap.size 23 1 (.slice (some ⟨g, 0, none⟩) m cap) m us ∧ Els w' us L ∧ FarV w.heap.size us
set_option maxRecDepth 100000 in
set_option maxHeartbeats 4000000 in
theorem cut_N (A : Option Addr) (n c : Nat) (xs : List Int) (mx : Nat) (z : Bool) (w : World) (hU : U8 w A n c xs) (hmx : 1 ≤ mx ∧ mx ≤ 1024) (hn : n ≤ 65536) :
  Calls Tryz.prog 56 #[.slice A n c, .int .i64 (mx : Int), .bool z] w (CutX w (cutL mx z xs)) := by
 obtain ⟨i0, hi, hz0, hz1, hz2⟩ := info_parts info30
 have d1 : decide ((mx : Int) < 1) = false := by simp; omega
 have d2 : decide ((1024 : Int) < (mx : Int)) = false := by simp; omega
 have d3 : decide ((mx : Int) = 0) = false := by simp; omega
 obtain ⟨q, hq⟩ : ∃ q, n / mx = q := ⟨_, rfl⟩
 have hqi : (n : Int) / (mx : Int) = (q : Int) := by rw [← hq]; exact (Int.natCast_ediv n mx).symm
 have hq2 : q ≤ 65536 := by rw [← hq]; exact Nat.le_trans (Nat.div_le_self _ _) hn
 have hcnt : (cutL mx z xs).length ≤ q + 2 := by rw [← hq, ← hU.1]; exact cutL_count mx z xs hmx.1
 refine (callsIn_wide (n := 9)).1 ?_
 refine callsIn_of_wp_marks Tryz.func56 rfl trivial ?_ rfl
 simp only [Tryz.ntmps56, List.size_toArray, List.length_cons, List.length_nil, Nat.reduceAdd, Nat.reduceSub, Array.replicate_succ, Array.replicate_zero, List.push_toArray, List.append_toArray, List.nil_append, List.cons_append]
 gi_wp2_with (first
  | (gi_at_make; refine wpListIn_make_own _ rfl _ _ 22 rfl w.heap.size 23 i0 (.slice none 0 0) 1 Tryz.underlying22 hi hz0 hz1 .i64 .i64 _ (q + 2) rfl rfl (by simp) (by rw [hz2]; omega) (by unfold maxLen; omega) (Nat.le_refl _) ?_; intro w1 hown1 hgr1)
  | (refine ⟨trivial, ?_⟩; gi_at_call 79; refine (pieces_makesN _ _ trivial rfl _ _ _ _ _ _).mono ?_; rintro e w' ⟨rfl, rfl⟩))
 have hb1 : Below w.heap.size w w1 := (Below.refl _ w).grown hgr1 (Nat.le_refl _) (fun _ h => by cases h)
 obtain ⟨B, hBe⟩ : ∃ B, w1.heap.size = B := ⟨_, rfl⟩
 have hBs : w.heap.size < B := by rw [← hBe]; exact (hown1.lt w.heap.size rfl).2
 obtain ⟨W0, hW0⟩ : ∃ W0, ((((w1.alloc (Obj.cells #[Value.slice (some { block := w.heap.size, off := 0 }) 0 (q + 2)] 22)).alloc (Obj.cells #[Value.slice A n c] 23)).alloc (Obj.cells #[Value.int IntKind.i64 (mx : Int)] 3)).alloc (Obj.cells #[Value.bool z] 4)) = W0 := ⟨_, rfl⟩
 rw [hW0, hBe]
 have bO := Boxed.new w1 22 (.slice (some ⟨w.heap.size, 0, none⟩) 0 (q + 2))
 have bX := Boxed.new (w1.alloc (Obj.cells #[Value.slice (some ⟨w.heap.size, 0, none⟩) 0 (q + 2)] 22)) 23 (.slice A n c)
 have bM := Boxed.new ((w1.alloc (Obj.cells #[Value.slice (some ⟨w.heap.size, 0, none⟩) 0 (q + 2)] 22)).alloc (Obj.cells #[.slice A n c] 23)) 3 (.int .i64 (mx : Int))
 have bZ := Boxed.new (((w1.alloc (Obj.cells #[Value.slice (some ⟨w.heap.size, 0, none⟩) 0 (q + 2)] 22)).alloc (Obj.cells #[.slice A n c] 23)).alloc (Obj.cells #[.int .i64 (mx : Int)] 3)) 4 (.bool z)
 have hS0 : W0.heap.size = B + 4 := by rw [← hW0]; simp [hBe]
 have b0 := ((bO.alloc (.cells #[.slice A n c] 23)).alloc (.cells #[.int .i64 (mx : Int)] 3)).alloc (.cells #[.bool z] 4)
 have b1 := (bX.alloc (.cells #[.int .i64 (mx : Int)] 3)).alloc (.cells #[.bool z] 4)
 have b2 := bM.alloc (.cells #[.bool z] 4)
 have b01 : Below w.heap.size w W0 := by
  rw [← hW0]
  exact hb1.trans (((((Below.refl _ w1).alloc (by omega) _).alloc (by simp; omega) _).alloc (by simp; omega) _).alloc (by simp; omega) _)
 have o01 := (((hown1.alloc (.cells #[.slice (some ⟨w.heap.size, 0, none⟩) 0 (q + 2)] 22)).alloc (.cells #[.slice A n c] 23)).alloc (.cells #[.int .i64 (mx : Int)] 3)).alloc (.cells #[.bool z] 4)
 simp only [World.size_alloc, hBe] at b0 b1 b2 bZ
 rw [hW0] at b0 b1 b2 bZ o01
 clear bO bX bM hW0
 have hI0 : CutN w B (q + 2) (cutL mx z xs) 0 W0 := ⟨[], [], _, ⟨rfl, fun v hv => nomatch hv⟩, b0, b1, o01, ⟨rfl, fun j v b h => by simp at h⟩, fun b h => by simp at h, b01, by omega⟩
 have hX : W0.heap[B + 1]? = some (.cells #[.slice A n c] 23 (0, 0)) := b1
 have hXB : Boxes (B + 1) mx z W0 := ⟨b2, bZ⟩
 refine rangeFunc_boxN (B + 1) (cutL mx z xs).length (PieceN w (cutL mx z xs)) (by omega) rfl (by decide) (gf := 86) rfl trivial (enters_of Tryz.func86 (by kernel_rfl) rfl) (Kp := Same3 (B + 1)) ?seq ?kt ?kb (CutN w B (q + 2) (cutL mx z xs)) (cutN_own (by omega)) (cutN_set hBs) hI0
  (fun x => { tmps := #[.slice A n c, .int .i64 (mx : Int), .bool z, undef, undef, undef, .slice none 0 0, .int .i64 0, .pointer (some ⟨B, 0, none⟩), x, .int .i64 (mx : Int), .bool false, .bool false, .int .i64 (mx : Int), .bool false, .bool false, .slice A n c, .int .i64 (n : Int), .int .i64 (mx : Int), .int .i64 (q : Int), .int .i64 ((q : Int) + 2), .slice (some ⟨w.heap.size, 0, none⟩) 0 (q + 2), .slice A n c, .int .i64 (mx : Int), .bool z,
   .func (.func 86) #[] #[.pointer (some ⟨B + 1, 0, none⟩), .pointer (some ⟨B + 1 + 1, 0, none⟩), .pointer (some ⟨B + 1 + 2, 0, none⟩)], x, undef, undef, undef, undef, undef, undef, undef, undef, undef, undef, undef], defers := [] }) ?assign ?body ?done
 case seq =>
  intro l J W hbW hst hY h0
  exact pieces_inN _ _ trivial rfl (by decide) l (B + 1) mx n c A xs z w J hmx hn hU hst hY W (heap_below hX hbW) ⟨heap_below hXB.1 hbW, heap_below hXB.2 hbW⟩ h0
 case kt => exact fun h1 h2 i hi => (h2 i hi).trans (h1 i hi)
 case kb => exact fun W l o o' hl _ _ _ i hi => World.putObj_heap_other (by omega)
 case assign =>
  intro l k x W K hP hK
  obtain ⟨A', m, c', ys, rfl, hu, hm, hLk⟩ := hP
  gi_wp2
  exact hK
 case body =>
  rintro l k x W ⟨A', m, c', ys, rfl, hu, hm, hLk⟩ ⟨us, bs, u, hbs, h1, h2, h3, h4, h5, h6, h7⟩ hk
  have hk := Nat.lt_of_lt_of_le hk hcnt
  have HLK := Lib.hid hLk
  have HBS := Lib.hid hbs
  clear hLk hbs
  have c1 := h1.cell
  have hu1 := hu.below h6
  have hl := h3.1
  have hmix : Tryz.prog.follows .mixedOrders = true := by kernel_rfl
  have hd9 : 1 ≤ 9 - 1 - 1 := by decide
  show Code.wpIn _ _ _ _ _ { tmps := #[.slice A n c, .int .i64 (mx : Int), .bool z, undef, undef, undef, .slice none 0 0, .int .i64 0, .pointer (some ⟨B, 0, none⟩), .slice A' m c', .int .i64 (mx : Int), .bool false, .bool false, .int .i64 (mx : Int), .bool false, .bool false, .slice A n c, .int .i64 (n : Int), .int .i64 (mx : Int), .int .i64 (q : Int), .int .i64 ((q : Int) + 2), .slice (some ⟨w.heap.size, 0, none⟩) 0 (q + 2), .slice A n c, .int .i64 (mx : Int), .bool z,
   .func (.func 86) #[] #[.pointer (some ⟨B + 1, 0, none⟩), .pointer (some ⟨B + 1 + 1, 0, none⟩), .pointer (some ⟨B + 1 + 2, 0, none⟩)], .slice A' m c', undef, undef, undef, undef, undef, undef, undef, undef, undef, undef, undef], defers := [] } W
  gi_wp2_with fail
  gi_region_with_o (first
   | (refine ⟨trivial, ?_⟩; gi_at_call 63; refine (CallsIn.inRound l (callsIn_wide.2 (clone_x _ _ _ ys _ (by first | exact hu1 | exact hu1.drew) hm))).mono ?_; rintro e w3 ⟨gg, cc, rfl, hf8, hge, hbl⟩; have hbl3 : Below W.heap.size W w3 := (by first | exact hbl | exact below_undrew hbl); have hB3 : Boxed w3 B 22 (.slice (some ⟨w.heap.size, 0, none⟩) k (q + 2)) := heap_below h1 hbl3; have hc3 := hB3.cell; have hc3a := (hB3.alloc (.cells #[.slice (some ⟨gg, 0, none⟩) ys.length cc] 23)).cell; have ho3 := own_below h3 hbl3; obtain ⟨w4, hrun, hown4, hgr4⟩ := run_append_fits (P := Tryz.prog) (w3.alloc (.cells #[.slice (some ⟨gg, 0, none⟩) ys.length cc] 23)) w.heap.size 22 22 23 i0 1 Tryz.underlying22 hi hz1 w.heap.size k (q + 2) us (ho3.alloc _) ⟨w3.heap.size, 0, none⟩ 1 1 [.slice (some ⟨gg, 0, none⟩) ys.length cc] rfl (cell_one_new _ _ _) (by simp [Value.oneCell']) (by omega); have hB4 := (hB3.alloc (.cells #[.slice (some ⟨gg, 0, none⟩) ys.length cc] 23)).kept hgr4 (by simp; omega); have hc4 := hB4.cell; have hf4 := hB4.frozen))
  all_goals exact cutN_step HBS.out (by first | exact hge | (simpa using hge)) HLK.out hBs (by rw [hu.1]; exact hm) h1 h2 h3 h4 h5 h6 h7 hbl3 hf8 hown4 hgr4
 case done =>
  rintro D W ⟨us, bs, u, hbs, h1, h2, h3, h4, h5, h6, h7⟩ hD hDw
  rw [List.take_of_length_le (Nat.le_refl _)] at hbs
  obtain ⟨rfl, hfv⟩ := hbs
  have c1 := h1.cell
  clear hI0 hX hXB
  gi_wp2
  refine ⟨by simp, .inl ⟨_, _, rfl, run_takeDeferred hD, ?_⟩⟩
  have hBb : Below w.heap.size w (W.putObj D (.deferred none)) := h6.trans (belowK_b (w := w) (Nat.le_refl _) W D _ _ (by omega) hD rfl rfl)
  refine ⟨_, results_tmp2 rfl _ _ _, hBb, w.heap.size, _, q + 2, us, rfl, rfl, ownsRow_putObj h3 _ hD rfl, h4.heap fun g cs hgc => (World.putObj_heap_other ?_).trans hgc, hfv⟩
  rintro rfl
  rw [hgc] at hD
  cases hD
end Go.Proofs.YtiajboiobjfcoaaGreatDoor
