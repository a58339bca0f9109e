/-
  What is proved here: what pipes.Answer returns for the work of a stream IN.
  Conditions: what bulks.Next and bulks.Answer return; what the bytes' cells hold.
-/
import Derived.Test.YtiajboiobjfcoaaGreatDoorOPans
namespace Go.Proofs.YtiajboiobjfcoaaGreatDoor
open Go.Proofs Go.RowKit
attribute [local go_sem] lt2 lt3 lt4 lt5
def PansIn (P : World → Bool → Option Addr → Nat → Nat → Option Addr → Nat → Nat → Int → Int → Bool → Int → Prop) (ad en : Int) (inn : Bool) (k mx per sp hu po : Int) (tg ha z : Bool) (len : Int) (im n : Nat) (zs : List Int) (out : Int) (w : World) (e0 : Ending) (w' : World) : Prop :=
 Below w.heap.size w w' ∧ ∃ btg' LA' m' lc' DA' dn' dc' act' er' ov' e' IA' ic', e0 = .returned (.agg (strV ad en inn k mx per sp hu po tg ha btg' z len LA' m' lc' DA' dn' dc' act' er' ov' e' IA' (im + n) ic' out)) ∧ P w' btg' LA' m' lc' DA' dn' dc' act' er' ov' e' ∧ w'.ownsRow w.heap.size 5 1 (.slice IA' (im + n) ic') (im + n) (zs.map (Value.int .u8))
set_option maxHeartbeats 8000000 in
set_option maxRecDepth 1000000 in
theorem pansB_again (ad en : Int) (inn : Bool) (k mx per sp hu po : Int) (tg ha btg z : Bool) (len : Int) (LA : Option Addr) (m lc : Nat) (DA : Option Addr) (dn dc : Nat) (act er : Int) (ov : Bool) (e : Int) (IA : Option Addr) (im ic : Nat) (out : Int) (what res : Int) (tg' : Bool) (mx' : Int) (xs : List Int) (A : Option Addr) (n c : Nat) (w : World) (P : World → Bool → Option Addr → Nat → Nat → Option Addr → Nat → Nat → Int → Int → Bool → Int → Prop)
  (k0 : (k == 0) = false) (k1 : (k == 1) = false) (hres : res = 2 ∨ res = 6)
  (hn : ∀ w', Below w.heap.size w w' → Calls Tryz.prog 37 #[.agg #[.bool inn, .int .u8 en, .int .i64 mx, .bool btg, .slice none 0 0, .bool z, .int .i64 len, .slice LA m lc, .slice DA dn dc, .int .i64 act, .int .i64 er, .bool ov, .int .i64 e]] w' fun e w2 => Below w'.heap.size w' w2 ∧ ∃ A n c, e = .returned (.tuple #[.agg #[.int .u8 0, .int .u8 en, .int .u8 what, .bool tg', .bool false, .int .i64 mx', .slice A n c], .bool true]) ∧ New8 w' w2 A n c xs ∧ Pl A n)
  (hba : ∀ w', Below w.heap.size w w' → Calls Tryz.prog 40 #[.agg #[.bool inn, .int .u8 en, .int .i64 mx, .bool btg, .slice none 0 0, .bool z, .int .i64 len, .slice LA m lc, .slice DA dn dc, .int .i64 act, .int .i64 er, .bool ov, .int .i64 e], .agg #[.int .u8 res, .slice A n c]] w' fun e w2 => Below w'.heap.size w' w2 ∧ ∃ btg' LA' m' lc' DA' dn' dc' act' er' ov' e', e = .returned (.agg #[.bool inn, .int .u8 en, .int .i64 mx, .bool btg', .slice none 0 0, .bool z, .int .i64 len, .slice LA' m' lc', .slice DA' dn' dc', .int .i64 act', .int .i64 er', .bool ov', .int .i64 e']) ∧ P w2 btg' LA' m' lc' DA' dn' dc' act' er' ov' e')
  (hP : ∀ w2 w3 btg' LA' m' lc' DA' dn' dc' act' er' ov' e', (∀ i, i ≠ w.heap.size → i ≠ w.heap.size + 1 + 1 → i < w2.heap.size → w3.heap[i]? = w2.heap[i]?) → P w2 btg' LA' m' lc' DA' dn' dc' act' er' ov' e' → P w3 btg' LA' m' lc' DA' dn' dc' act' er' ov' e') :
  Calls Tryz.prog 19 #[.agg #[.bool true, .int .u8 ad, .int .u8 en, .bool inn, .int .u8 k, .int .i64 mx, .int .i64 per, .int .u8 sp, .int .u8 hu, .int .u8 po, .bool tg, .bool ha, .int .u8 0, .int .u8 0, .int .u8 0, .int .u16 0, .int .u16 0, .int .u16 0, .slice none 0 0, .int .i64 0, .bool false, .int .i64 0, .slice none 0 0, .int .i64 0, .int .i64 0, .bool inn, .int .u8 en, .int .i64 mx, .bool btg, .slice none 0 0, .bool z, .int .i64 len, .slice LA m lc, .slice DA dn dc, .int .i64 act, .int .i64 er, .bool ov, .int .i64 e, .bool false, .int .u8 0, .int .i64 0, .slice none 0 0, .int .i64 0, .int .i64 0, .slice none 0 0, .slice IA im ic, .int .i64 out], .agg #[.int .u8 res, .slice A n c]] w (PansEnd P ad en inn k mx per sp hu po tg ha z len IA im ic out w) := by
 have hb3 : ∀ a b c, Below w.heap.size w (((w.alloc a).alloc b).alloc c) := fun a b c => (((Below.refl w.heap.size w).alloc (Nat.le_refl _) a).alloc (by simp) b).alloc (by simp; omega) c
 go_enter Tryz.func19, Tryz.ntmps19
 go_upto_region 1 with fail
 obtain ⟨w0, hw0⟩ : ∃ w0, ((w.alloc (.cells #[.bool true, .int .u8 ad, .int .u8 en, .bool inn, .int .u8 k, .int .i64 mx, .int .i64 per, .int .u8 sp, .int .u8 hu, .int .u8 po, .bool tg, .bool ha, .int .u8 0, .int .u8 0, .int .u8 0, .int .u16 0, .int .u16 0, .int .u16 0, .slice none 0 0, .int .i64 0, .bool false, .int .i64 0, .slice none 0 0, .int .i64 0, .int .i64 0, .bool inn, .int .u8 en, .int .i64 mx, .bool btg, .slice none 0 0, .bool z, .int .i64 len, .slice LA m lc, .slice DA dn dc, .int .i64 act, .int .i64 er, .bool ov, .int .i64 e, .bool false, .int .u8 0, .int .i64 0, .slice none 0 0, .int .i64 0, .int .i64 0, .slice none 0 0, .slice IA im ic, .int .i64 out] 54)).alloc (.cells #[.int .u8 res, .slice A n c] 86)).alloc (.cells #[.bool false, .int .u8 0, .int .u8 0, .bool false, .int .u8 0, .int .i64 0, .int .i64 0, .int .u8 0, .int .u8 0, .int .u8 0, .bool false, .bool false, .int .u8 0, .int .u8 0, .int .u8 0, .int .u16 0, .int .u16 0, .int .u16 0, .slice none 0 0, .int .i64 0, .bool false, .int .i64 0, .slice none 0 0, .int .i64 0, .int .i64 0, .bool false, .int .u8 0, .int .i64 0, .bool false, .slice none 0 0, .bool false, .int .i64 0, .slice none 0 0, .slice none 0 0, .int .i64 0, .int .i64 0, .bool false, .int .i64 0, .bool false, .int .u8 0, .int .i64 0, .slice none 0 0, .int .i64 0, .int .i64 0, .slice none 0 0, .slice none 0 0, .int .i64 0] 54) = w0 := ⟨_, rfl⟩
 have hb0 : Below w.heap.size w w0 := by rw [← hw0]; exact hb3 _ _ _
 have hX0 : w0.heap[w.heap.size]? = some (.cells #[.bool true, .int .u8 ad, .int .u8 en, .bool inn, .int .u8 k, .int .i64 mx, .int .i64 per, .int .u8 sp, .int .u8 hu, .int .u8 po, .bool tg, .bool ha, .int .u8 0, .int .u8 0, .int .u8 0, .int .u16 0, .int .u16 0, .int .u16 0, .slice none 0 0, .int .i64 0, .bool false, .int .i64 0, .slice none 0 0, .int .i64 0, .int .i64 0, .bool inn, .int .u8 en, .int .i64 mx, .bool btg, .slice none 0 0, .bool z, .int .i64 len, .slice LA m lc, .slice DA dn dc, .int .i64 act, .int .i64 er, .bool ov, .int .i64 e, .bool false, .int .u8 0, .int .i64 0, .slice none 0 0, .int .i64 0, .int .i64 0, .slice none 0 0, .slice IA im ic, .int .i64 out] 54 (0, 0)) := by rw [← hw0]; exact alloc3_0 _ _ _ _
 have hX1 : w0.heap[w.heap.size + 1]? = some (.cells #[.int .u8 res, .slice A n c] 86 (0, 0)) := by rw [← hw0]; exact alloc3_1 _ _ _ _
 have hX2 : w0.heap[w.heap.size + 1 + 1]? = some (.cells #[.bool false, .int .u8 0, .int .u8 0, .bool false, .int .u8 0, .int .i64 0, .int .i64 0, .int .u8 0, .int .u8 0, .int .u8 0, .bool false, .bool false, .int .u8 0, .int .u8 0, .int .u8 0, .int .u16 0, .int .u16 0, .int .u16 0, .slice none 0 0, .int .i64 0, .bool false, .int .i64 0, .slice none 0 0, .int .i64 0, .int .i64 0, .bool false, .int .u8 0, .int .i64 0, .bool false, .slice none 0 0, .bool false, .int .i64 0, .slice none 0 0, .slice none 0 0, .int .i64 0, .int .i64 0, .bool false, .int .i64 0, .bool false, .int .u8 0, .int .i64 0, .slice none 0 0, .int .i64 0, .int .i64 0, .slice none 0 0, .slice none 0 0, .int .i64 0] 54 (0, 0)) := by rw [← hw0]; exact alloc3_2 _ _ _ _
 rw [hw0]
 clear hw0 hb3
 have hnext := pipe_nextB ad en inn k mx per sp hu po tg ha (.int .u8 0) (.int .u8 0) (.int .u8 0) (.int .u16 0) (.int .u16 0) (.int .u16 0) (.slice none 0 0) (.int .i64 0) (.bool false) (.int .i64 0) (.slice none 0 0) (.int .i64 0) (.int .i64 0) (.bool inn) (.int .u8 en) (.int .i64 mx) (.bool btg) (.slice none 0 0) (.bool z) (.int .i64 len) (.slice LA m lc) (.slice DA dn dc) (.int .i64 act) (.int .i64 er) (.bool ov) (.int .i64 e) (.bool false) (.int .u8 0) (.int .i64 0) (.slice none 0 0) (.int .i64 0) (.int .i64 0) (.slice none 0 0) (.slice IA im ic) (.int .i64 out) en what tg' false mx' xs w0 k0 k1 (fun w' hbw => hn w' (hb0.trans (hbw.mono hb0.size)))
 have HN := Lib.hid hn
 have HP := Lib.hid hP
 have HBA := Lib.hid hba
 clear hn hP hba
 go_wp2_with (guard_target =~ wpList _ _ _ (_ :: _) _ _; refine wpList_load_row rfl (.tmp 2) 54 rfl w.heap.size 54 _ _ rfl hX0 Tryz.underlying54 rfl (by kernel_rfl) ?_)
 refine hnext.mono ?_
 clear hnext
 rintro e0 w1 ⟨hb1, TA, tn, tc, rfl, hN, _⟩
 have htl : xs.length = tn := hN.1.1
 clear hN
 go_upto_region 4 with fail
 obtain ⟨w2, hw2⟩ : ∃ w2, w1.alloc (.cells #[.int .u8 ad, .int .u8 en, .int .u8 what, .bool tg', .bool false, .int .i64 mx', .slice TA tn tc] 80) = w2 := ⟨_, rfl⟩
 have hb2 : Below w1.heap.size w1 w2 := by rw [← hw2]; exact (Below.refl _ _).alloc (Nat.le_refl _) _
 have hTb : w2.heap[w1.heap.size]? = some (.cells #[.int .u8 ad, .int .u8 en, .int .u8 what, .bool tg', .bool false, .int .i64 mx', .slice TA tn tc] 80 (0, 0)) := by rw [← hw2]; exact heap_alloc_new w1 _
 rw [hw2]
 clear hw2
 have hsz1 : w.heap.size + 1 + 1 < w1.heap.size := by have := hb1.size; have := (Array.getElem?_eq_some_iff.1 hX2).1; omega
 have hb12 := hb1.trans (hb2.mono hb1.size)
 replace hX0 := heap_below hX0 hb12
 replace hX1 := heap_below hX1 hb12
 replace hX2 := heap_below hX2 hb12
 have hbw := hb0.trans (hb12.mono hb0.size)
 have hsz2 : w1.heap.size < w2.heap.size := (Array.getElem?_eq_some_iff.1 hTb).1
 clear hb0 hb1 hb2 hb12
 have k4 := cell_of hX0 4
 have k25 := cell_of hX0 25
 have k26 := cell_of hX0 26
 have k27 := cell_of hX0 27
 have k28 := cell_of hX0 28
 have k29 := cell_of hX0 29
 have k30 := cell_of hX0 30
 have k31 := cell_of hX0 31
 have k32 := cell_of hX0 32
 have k33 := cell_of hX0 33
 have k34 := cell_of hX0 34
 have k35 := cell_of hX0 35
 have k36 := cell_of hX0 36
 have k37 := cell_of hX0 37
 have hpa := HBA.out w2 hbw
 go_upto_region 5 with fail
 go_wp2_with (guard_target =~ wpList _ _ _ (_ :: _) _ _; refine wpList_load_row rfl (.tmp 3) 86 rfl (w.heap.size + 1) 86 _ _ rfl hX1 Tryz.underlying86 rfl (by kernel_rfl) ?_)
 refine hpa.mono ?_
 clear hpa
 rintro e0 w3 ⟨hb3, btg', LA', m', lc', DA', dn', dc', act', er', ov', e', rfl, hPP⟩
 have HPP := Lib.hid hPP
 clear hPP
 clear k4 k25 k26 k27 k28 k29 k30 k31 k32 k33 k34 k35 k36 k37
 replace hX0 := heap_below hX0 hb3
 replace hX1 := heap_below hX1 hb3
 replace hX2 := heap_below hX2 hb3
 replace hTb := heap_below hTb hb3
 have hbw3 := hbw.trans (hb3.mono hbw.size)
 have hs3 := hb3.size
 have hne : (res == 1) = false := by rcases hres with rfl | rfl <;> rfl
 go_wp2_with (guard_target =~ wpList _ _ _ (_ :: _) _ _; first
  | (refine wpList_store_row rfl (.tmp 22) (.tmp 21) 47 rfl w.heap.size 25 54 _ _ #[.bool true, .int .u8 ad, .int .u8 en, .bool inn, .int .u8 k, .int .i64 mx, .int .i64 per, .int .u8 sp, .int .u8 hu, .int .u8 po, .bool tg, .bool ha, .int .u8 0, .int .u8 0, .int .u8 0, .int .u16 0, .int .u16 0, .int .u16 0, .slice none 0 0, .int .i64 0, .bool false, .int .i64 0, .slice none 0 0, .int .i64 0, .int .i64 0, .bool inn, .int .u8 en, .int .i64 mx, .bool btg', .slice none 0 0, .bool z, .int .i64 len, .slice LA' m' lc', .slice DA' dn' dc', .int .i64 act', .int .i64 er', .bool ov', .int .i64 e', .bool false, .int .u8 0, .int .i64 0, .slice none 0 0, .int .i64 0, .int .i64 0, .slice none 0 0, .slice IA im ic, .int .i64 out] rfl rfl hX0 (by kernel_rfl) (by simp) rfl rfl ?_; intro w4 hZ4 hW4; have hX14 := (hW4.other (w.heap.size + 1) (by omega)).trans hX1; have hX24 := (hW4.other (w.heap.size + 1 + 1) (by omega)).trans hX2; have hT4 := (hW4.other w1.heap.size (by omega)).trans hTb; have o0 := cell_of hX14 0; have t2 := cell_of hT4 2; have t6 := cell_of hT4 6)
  | refine wpList_load_row rfl (.tmp 2) 54 rfl w.heap.size 54 _ _ rfl hZ4 Tryz.underlying54 rfl (by kernel_rfl) ?_
  | (refine wpList_store_row rfl (.tmp 4) (.tmp 40) 54 rfl (w.heap.size + 1 + 1) 0 54 _ _ #[.bool true, .int .u8 ad, .int .u8 en, .bool inn, .int .u8 k, .int .i64 mx, .int .i64 per, .int .u8 sp, .int .u8 hu, .int .u8 po, .bool tg, .bool ha, .int .u8 0, .int .u8 0, .int .u8 0, .int .u16 0, .int .u16 0, .int .u16 0, .slice none 0 0, .int .i64 0, .bool false, .int .i64 0, .slice none 0 0, .int .i64 0, .int .i64 0, .bool inn, .int .u8 en, .int .i64 mx, .bool btg', .slice none 0 0, .bool z, .int .i64 len, .slice LA' m' lc', .slice DA' dn' dc', .int .i64 act', .int .i64 er', .bool ov', .int .i64 e', .bool false, .int .u8 0, .int .i64 0, .slice none 0 0, .int .i64 0, .int .i64 0, .slice none 0 0, .slice IA im ic, .int .i64 out] rfl rfl hX24 (by kernel_rfl) (Nat.le_refl 47) rfl rfl ?_; intro w6 hZ6 hW6))
 exact ret_one _ _ _ _ rfl rfl hZ6 Tryz.underlying54 rfl (by kernel_rfl) rfl ⟨(hbw3.trans (hW4.below (Nat.le_refl _))).trans (hW6.below (by omega)), btg', LA', m', lc', DA', dn', dc', act', er', ov', e', rfl,
  HP.out w3 w6 _ _ _ _ _ _ _ _ _ _ _ (fun i h1 h2 _ => (hW6.other i h2).trans (hW4.other i h1)) HPP.out⟩
set_option maxHeartbeats 8000000 in
set_option maxRecDepth 1000000 in
theorem pansB_in (ad en : Int) (inn : Bool) (k mx per sp hu po : Int) (tg ha btg z : Bool) (len : Int) (LA : Option Addr) (m lc : Nat) (DA : Option Addr) (dn dc : Nat) (act er : Int) (ov : Bool) (e : Int) (IA : Option Addr) (im ic : Nat) (out : Int) (ins ys : List Int) (tg' : Bool) (mx' : Int) (xs : List Int) (A : Option Addr) (n c : Nat) (w : World) (P : World → Bool → Option Addr → Nat → Nat → Option Addr → Nat → Nat → Int → Int → Bool → Int → Prop)
  (k0 : (k == 0) = false) (k1 : (k == 1) = false) (hU : U8 w A n c ys) (hI : U8 w IA im ic ins) (hn1 : n ≤ 1024) (him : im ≤ 1024)
  (hn : ∀ w', Below w.heap.size w w' → Calls Tryz.prog 37 #[.agg #[.bool inn, .int .u8 en, .int .i64 mx, .bool btg, .slice none 0 0, .bool z, .int .i64 len, .slice LA m lc, .slice DA dn dc, .int .i64 act, .int .i64 er, .bool ov, .int .i64 e]] w' fun e w2 => Below w'.heap.size w' w2 ∧ ∃ A n c, e = .returned (.tuple #[.agg #[.int .u8 0, .int .u8 en, .int .u8 9, .bool tg', .bool false, .int .i64 mx', .slice A n c], .bool true]) ∧ New8 w' w2 A n c xs ∧ Pl A n)
  (hba : ∀ w', Below w.heap.size w w' → w.heap.size + 1 + 1 < w'.heap.size → Calls Tryz.prog 40 #[.agg #[.bool inn, .int .u8 en, .int .i64 mx, .bool btg, .slice none 0 0, .bool z, .int .i64 len, .slice LA m lc, .slice DA dn dc, .int .i64 act, .int .i64 er, .bool ov, .int .i64 e], .agg #[.int .u8 1, .slice A n c]] w' fun e w2 => Below w'.heap.size w' w2 ∧ ∃ btg' LA' m' lc' DA' dn' dc' act' er' ov' e', e = .returned (.agg #[.bool inn, .int .u8 en, .int .i64 mx, .bool btg', .slice none 0 0, .bool z, .int .i64 len, .slice LA' m' lc', .slice DA' dn' dc', .int .i64 act', .int .i64 er', .bool ov', .int .i64 e']) ∧ P w2 btg' LA' m' lc' DA' dn' dc' act' er' ov' e')
  (hP : ∀ w2 w3 btg' LA' m' lc' DA' dn' dc' act' er' ov' e', (∀ i, i ≠ w.heap.size → i ≠ w.heap.size + 1 + 1 → i < w2.heap.size → w3.heap[i]? = w2.heap[i]?) → P w2 btg' LA' m' lc' DA' dn' dc' act' er' ov' e' → P w3 btg' LA' m' lc' DA' dn' dc' act' er' ov' e') :
  Calls Tryz.prog 19 #[.agg #[.bool true, .int .u8 ad, .int .u8 en, .bool inn, .int .u8 k, .int .i64 mx, .int .i64 per, .int .u8 sp, .int .u8 hu, .int .u8 po, .bool tg, .bool ha, .int .u8 0, .int .u8 0, .int .u8 0, .int .u16 0, .int .u16 0, .int .u16 0, .slice none 0 0, .int .i64 0, .bool false, .int .i64 0, .slice none 0 0, .int .i64 0, .int .i64 0, .bool inn, .int .u8 en, .int .i64 mx, .bool btg, .slice none 0 0, .bool z, .int .i64 len, .slice LA m lc, .slice DA dn dc, .int .i64 act, .int .i64 er, .bool ov, .int .i64 e, .bool false, .int .u8 0, .int .i64 0, .slice none 0 0, .int .i64 0, .int .i64 0, .slice none 0 0, .slice IA im ic, .int .i64 out], .agg #[.int .u8 1, .slice A n c]] w (PansIn P ad en inn k mx per sp hu po tg ha z len im n (ins ++ ys) out w) := by
 have hb3 : ∀ a b c, Below w.heap.size w (((w.alloc a).alloc b).alloc c) := fun a b c => (((Below.refl w.heap.size w).alloc (Nat.le_refl _) a).alloc (by simp) b).alloc (by simp; omega) c
 go_enter Tryz.func19, Tryz.ntmps19
 go_upto_region 1 with fail
 obtain ⟨w0, hw0⟩ : ∃ w0, ((w.alloc (.cells #[.bool true, .int .u8 ad, .int .u8 en, .bool inn, .int .u8 k, .int .i64 mx, .int .i64 per, .int .u8 sp, .int .u8 hu, .int .u8 po, .bool tg, .bool ha, .int .u8 0, .int .u8 0, .int .u8 0, .int .u16 0, .int .u16 0, .int .u16 0, .slice none 0 0, .int .i64 0, .bool false, .int .i64 0, .slice none 0 0, .int .i64 0, .int .i64 0, .bool inn, .int .u8 en, .int .i64 mx, .bool btg, .slice none 0 0, .bool z, .int .i64 len, .slice LA m lc, .slice DA dn dc, .int .i64 act, .int .i64 er, .bool ov, .int .i64 e, .bool false, .int .u8 0, .int .i64 0, .slice none 0 0, .int .i64 0, .int .i64 0, .slice none 0 0, .slice IA im ic, .int .i64 out] 54)).alloc (.cells #[.int .u8 1, .slice A n c] 86)).alloc (.cells #[.bool false, .int .u8 0, .int .u8 0, .bool false, .int .u8 0, .int .i64 0, .int .i64 0, .int .u8 0, .int .u8 0, .int .u8 0, .bool false, .bool false, .int .u8 0, .int .u8 0, .int .u8 0, .int .u16 0, .int .u16 0, .int .u16 0, .slice none 0 0, .int .i64 0, .bool false, .int .i64 0, .slice none 0 0, .int .i64 0, .int .i64 0, .bool false, .int .u8 0, .int .i64 0, .bool false, .slice none 0 0, .bool false, .int .i64 0, .slice none 0 0, .slice none 0 0, .int .i64 0, .int .i64 0, .bool false, .int .i64 0, .bool false, .int .u8 0, .int .i64 0, .slice none 0 0, .int .i64 0, .int .i64 0, .slice none 0 0, .slice none 0 0, .int .i64 0] 54) = w0 := ⟨_, rfl⟩
 have hb0 : Below w.heap.size w w0 := by rw [← hw0]; exact hb3 _ _ _
 have hX0 : w0.heap[w.heap.size]? = some (.cells #[.bool true, .int .u8 ad, .int .u8 en, .bool inn, .int .u8 k, .int .i64 mx, .int .i64 per, .int .u8 sp, .int .u8 hu, .int .u8 po, .bool tg, .bool ha, .int .u8 0, .int .u8 0, .int .u8 0, .int .u16 0, .int .u16 0, .int .u16 0, .slice none 0 0, .int .i64 0, .bool false, .int .i64 0, .slice none 0 0, .int .i64 0, .int .i64 0, .bool inn, .int .u8 en, .int .i64 mx, .bool btg, .slice none 0 0, .bool z, .int .i64 len, .slice LA m lc, .slice DA dn dc, .int .i64 act, .int .i64 er, .bool ov, .int .i64 e, .bool false, .int .u8 0, .int .i64 0, .slice none 0 0, .int .i64 0, .int .i64 0, .slice none 0 0, .slice IA im ic, .int .i64 out] 54 (0, 0)) := by rw [← hw0]; exact alloc3_0 _ _ _ _
 have hX1 : w0.heap[w.heap.size + 1]? = some (.cells #[.int .u8 1, .slice A n c] 86 (0, 0)) := by rw [← hw0]; exact alloc3_1 _ _ _ _
 have hX2 : w0.heap[w.heap.size + 1 + 1]? = some (.cells #[.bool false, .int .u8 0, .int .u8 0, .bool false, .int .u8 0, .int .i64 0, .int .i64 0, .int .u8 0, .int .u8 0, .int .u8 0, .bool false, .bool false, .int .u8 0, .int .u8 0, .int .u8 0, .int .u16 0, .int .u16 0, .int .u16 0, .slice none 0 0, .int .i64 0, .bool false, .int .i64 0, .slice none 0 0, .int .i64 0, .int .i64 0, .bool false, .int .u8 0, .int .i64 0, .bool false, .slice none 0 0, .bool false, .int .i64 0, .slice none 0 0, .slice none 0 0, .int .i64 0, .int .i64 0, .bool false, .int .i64 0, .bool false, .int .u8 0, .int .i64 0, .slice none 0 0, .int .i64 0, .int .i64 0, .slice none 0 0, .slice none 0 0, .int .i64 0] 54 (0, 0)) := by rw [← hw0]; exact alloc3_2 _ _ _ _
 rw [hw0]
 clear hw0 hb3
 have hnext := pipe_nextB ad en inn k mx per sp hu po tg ha (.int .u8 0) (.int .u8 0) (.int .u8 0) (.int .u16 0) (.int .u16 0) (.int .u16 0) (.slice none 0 0) (.int .i64 0) (.bool false) (.int .i64 0) (.slice none 0 0) (.int .i64 0) (.int .i64 0) (.bool inn) (.int .u8 en) (.int .i64 mx) (.bool btg) (.slice none 0 0) (.bool z) (.int .i64 len) (.slice LA m lc) (.slice DA dn dc) (.int .i64 act) (.int .i64 er) (.bool ov) (.int .i64 e) (.bool false) (.int .u8 0) (.int .i64 0) (.slice none 0 0) (.int .i64 0) (.int .i64 0) (.slice none 0 0) (.slice IA im ic) (.int .i64 out) en 9 tg' false mx' xs w0 k0 k1 (fun w' hbw => hn w' (hb0.trans (hbw.mono hb0.size)))
 have HN := Lib.hid hn
 have HP := Lib.hid hP
 have HBA := Lib.hid hba
 clear hn hP hba
 go_wp2_with (guard_target =~ wpList _ _ _ (_ :: _) _ _; refine wpList_load_row rfl (.tmp 2) 54 rfl w.heap.size 54 _ _ rfl hX0 Tryz.underlying54 rfl (by kernel_rfl) ?_)
 refine hnext.mono ?_
 clear hnext
 rintro e0 w1 ⟨hb1, TA, tn, tc, rfl, hN, _⟩
 have htl : xs.length = tn := hN.1.1
 clear hN
 go_upto_region 4 with fail
 obtain ⟨w2, hw2⟩ : ∃ w2, w1.alloc (.cells #[.int .u8 ad, .int .u8 en, .int .u8 9, .bool tg', .bool false, .int .i64 mx', .slice TA tn tc] 80) = w2 := ⟨_, rfl⟩
 have hb2 : Below w1.heap.size w1 w2 := by rw [← hw2]; exact (Below.refl _ _).alloc (Nat.le_refl _) _
 have hTb : w2.heap[w1.heap.size]? = some (.cells #[.int .u8 ad, .int .u8 en, .int .u8 9, .bool tg', .bool false, .int .i64 mx', .slice TA tn tc] 80 (0, 0)) := by rw [← hw2]; exact heap_alloc_new w1 _
 rw [hw2]
 clear hw2
 have hsz1 : w.heap.size + 1 + 1 < w1.heap.size := by have := hb1.size; have := (Array.getElem?_eq_some_iff.1 hX2).1; omega
 have hb12 := hb1.trans (hb2.mono hb1.size)
 replace hX0 := heap_below hX0 hb12
 replace hX1 := heap_below hX1 hb12
 replace hX2 := heap_below hX2 hb12
 have hbw := hb0.trans (hb12.mono hb0.size)
 have hsz2 : w1.heap.size < w2.heap.size := (Array.getElem?_eq_some_iff.1 hTb).1
 clear hb0 hb1 hb2 hb12
 have k4 := cell_of hX0 4
 have k25 := cell_of hX0 25
 have k26 := cell_of hX0 26
 have k27 := cell_of hX0 27
 have k28 := cell_of hX0 28
 have k29 := cell_of hX0 29
 have k30 := cell_of hX0 30
 have k31 := cell_of hX0 31
 have k32 := cell_of hX0 32
 have k33 := cell_of hX0 33
 have k34 := cell_of hX0 34
 have k35 := cell_of hX0 35
 have k36 := cell_of hX0 36
 have k37 := cell_of hX0 37
 have hpa := HBA.out w2 hbw (by omega)
 go_upto_region 5 with fail
 go_wp2_with (guard_target =~ wpList _ _ _ (_ :: _) _ _; refine wpList_load_row rfl (.tmp 3) 86 rfl (w.heap.size + 1) 86 _ _ rfl hX1 Tryz.underlying86 rfl (by kernel_rfl) ?_)
 refine hpa.mono ?_
 clear hpa
 rintro e0 w3 ⟨hb3, btg', LA', m', lc', DA', dn', dc', act', er', ov', e', rfl, hPP⟩
 have HPP := Lib.hid hPP
 clear hPP
 clear k4 k25 k26 k27 k28 k29 k30 k31 k32 k33 k34 k35 k36 k37
 replace hX0 := heap_below hX0 hb3
 replace hX1 := heap_below hX1 hb3
 replace hX2 := heap_below hX2 hb3
 replace hTb := heap_below hTb hb3
 have hbw3 := hbw.trans (hb3.mono hbw.size)
 have hs3 := hb3.size
 go_wp2_with (guard_target =~ wpList _ _ _ (_ :: _) _ _; (refine wpList_store_row rfl (.tmp 22) (.tmp 21) 47 rfl w.heap.size 25 54 _ _ #[.bool true, .int .u8 ad, .int .u8 en, .bool inn, .int .u8 k, .int .i64 mx, .int .i64 per, .int .u8 sp, .int .u8 hu, .int .u8 po, .bool tg, .bool ha, .int .u8 0, .int .u8 0, .int .u8 0, .int .u16 0, .int .u16 0, .int .u16 0, .slice none 0 0, .int .i64 0, .bool false, .int .i64 0, .slice none 0 0, .int .i64 0, .int .i64 0, .bool inn, .int .u8 en, .int .i64 mx, .bool btg', .slice none 0 0, .bool z, .int .i64 len, .slice LA' m' lc', .slice DA' dn' dc', .int .i64 act', .int .i64 er', .bool ov', .int .i64 e', .bool false, .int .u8 0, .int .i64 0, .slice none 0 0, .int .i64 0, .int .i64 0, .slice none 0 0, .slice IA im ic, .int .i64 out] rfl rfl hX0 (by kernel_rfl) (by simp) rfl rfl ?_; intro w4 hZ4 hW4; have hX14 := (hW4.other (w.heap.size + 1) (by omega)).trans hX1; have hX24 := (hW4.other (w.heap.size + 1 + 1) (by omega)).trans hX2; have hT4 := (hW4.other w1.heap.size (by omega)).trans hTb; have o0 := cell_of hX14 0; have o1 := cell_of hX14 1; have t2 := cell_of hT4 2; have z45 := cell_of hZ4 45))
 have hb4 := hbw3.trans (hW4.below (Nat.le_refl _))
 refine (concat_ret w4.heap.size IA A im ic n c ins ys _ (heap_alloc_new w4 _) ((hI.below hb4).below ((Below.refl _ _).alloc (Nat.le_refl _) _)) ((hU.below hb4).below ((Below.refl _ _).alloc (Nat.le_refl _) _)) him hn1).mono ?_
 rintro e0 w5 ⟨hb5, T5, tm5, tc5, rfl, ho5⟩
 have hba : Below w4.heap.size w4 w5 := ((Below.refl _ w4).alloc (Nat.le_refl _) _).trans (hb5.mono (by simp))
 clear hb5 o0 o1 t2 z45
 obtain rfl : tm5 = im + n := by
  have := ho5.2
  rcases this with ⟨h, h0⟩ | ⟨g, cap, cur, h, _⟩
  ·injection h with _ h2 _; omega
  ·injection h with _ h2 _
 have hZ5 := heap_below hZ4 hba
 have hX25 := heap_below hX24 hba
 have f45 := frozen_of hZ5 45
 have y45 := cell_of hZ5 45
 have hs4 : w4.heap.size = w3.heap.size := hW4.size
 have hS : (w5.setCell ⟨w.heap.size, 45, none⟩ (.slice T5 (im + n) tc5)).heap[w.heap.size]? = some (.cells #[.bool true, .int .u8 ad, .int .u8 en, .bool inn, .int .u8 k, .int .i64 mx, .int .i64 per, .int .u8 sp, .int .u8 hu, .int .u8 po, .bool tg, .bool ha, .int .u8 0, .int .u8 0, .int .u8 0, .int .u16 0, .int .u16 0, .int .u16 0, .slice none 0 0, .int .i64 0, .bool false, .int .i64 0, .slice none 0 0, .int .i64 0, .int .i64 0, .bool inn, .int .u8 en, .int .i64 mx, .bool btg', .slice none 0 0, .bool z, .int .i64 len, .slice LA' m' lc', .slice DA' dn' dc', .int .i64 act', .int .i64 er', .bool ov', .int .i64 e', .bool false, .int .u8 0, .int .i64 0, .slice none 0 0, .int .i64 0, .int .i64 0, .slice none 0 0, .slice T5 (im + n) tc5, .int .i64 out] 54 (0, 0)) := setCell_heap hZ5 45 _
 have hW6 := (Wrote.refl w.heap.size w5).setCell 45 (.slice T5 (im + n) tc5)
 have hX26 := (hW6.other (w.heap.size + 1 + 1) (by omega)).trans hX25
 go_wp2_with (guard_target =~ wpList _ _ _ (_ :: _) _ _; first
  | refine wpList_load_row rfl (.tmp 2) 54 rfl w.heap.size 54 _ _ rfl hS Tryz.underlying54 rfl (by kernel_rfl) ?_
  | (refine wpList_store_row rfl (.tmp 4) (.tmp 61) 54 rfl (w.heap.size + 1 + 1) 0 54 _ _ #[.bool true, .int .u8 ad, .int .u8 en, .bool inn, .int .u8 k, .int .i64 mx, .int .i64 per, .int .u8 sp, .int .u8 hu, .int .u8 po, .bool tg, .bool ha, .int .u8 0, .int .u8 0, .int .u8 0, .int .u16 0, .int .u16 0, .int .u16 0, .slice none 0 0, .int .i64 0, .bool false, .int .i64 0, .slice none 0 0, .int .i64 0, .int .i64 0, .bool inn, .int .u8 en, .int .i64 mx, .bool btg', .slice none 0 0, .bool z, .int .i64 len, .slice LA' m' lc', .slice DA' dn' dc', .int .i64 act', .int .i64 er', .bool ov', .int .i64 e', .bool false, .int .u8 0, .int .i64 0, .slice none 0 0, .int .i64 0, .int .i64 0, .slice none 0 0, .slice T5 (im + n) tc5, .int .i64 out] rfl rfl hX26 (by kernel_rfl) (by simp) rfl rfl ?_; intro w7 hZ7 hW7))
 refine ret_one _ _ _ _ rfl rfl hZ7 Tryz.underlying54 rfl (by kernel_rfl) rfl ⟨((hb4.trans (hba.mono hb4.size)).trans (hW6.below (Nat.le_refl _))).trans (hW7.below (by omega)), btg', LA', m', lc', DA', dn', dc', act', er', ov', e', T5, tc5, rfl,
  HP.out w3 w7 _ _ _ _ _ _ _ _ _ _ _ (fun i h1 h2 h3 => (hW7.other i h2).trans ((hW6.other i h1).trans ((hba.block i (by omega)).trans (hW4.other i h1)))) HPP.out, ?_⟩
 have ho := own_base ho5 (show w.heap.size ≤ _ by simp; omega)
 have hlt := own_ge ho5
 refine own_wg (own_wg ho hW6 (fun i hi => ?_)) hW7 (fun i hi => ?_)
 all_goals
  have h8 := hlt i hi
  simp at h8
  omega
end Go.Proofs.YtiajboiobjfcoaaGreatDoor
