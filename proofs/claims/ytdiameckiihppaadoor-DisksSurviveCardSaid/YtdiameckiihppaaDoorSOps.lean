/-
  What is proved here: the four commands of the law, from the law's run on.
  Conditions: the tables of commands are laid; what the disk's blocks hold.
-/
import Derived.Test.YtdiameckiihppaaDoorSDo
import Derived.Test.YtdiameckiihppaaDoorSCmd
namespace Go.Proofs.YtdiameckiihppaaDoor
open Go.Proofs Go.RowKit Go.Sy

theorem laid_bel {w w' : World} (h : LaidW w dG) (hb : Below w.heap.size w w') : LaidW w' dG := laid_keep h fun i hi => hb.block i hi

theorem op_rdy (L : Nat → Prop) (d : Nat) (st : St) (O : Value) (w : World) (h : DiskAt L d st w) (hp : st.pend = true) (hL : LaidW w dG) :
    Calls Tryd.prog 7 #[.pointer (some ⟨d, 0, none⟩), cmdV 0 0 0, O] w (DoesR false L d (fun st' => st' = { st with pend := false }) none w) := by
  refine lrun_ret false L d st 0 0 0 6 O _ none w h fun w' hb => (enc_rdy w' (laid_bel hL hb)).mono ?_
  rintro e w'' ⟨hb2, g, q, rfl, hU⟩
  refine ⟨hb2, g, q, rfl, ?_⟩
  have hbb := hb.trans (hb2.mono hb.size)
  refine (pend_ret L d st _ O w'' (h.below hbb) hp fun w3 hb3 => ?_).mono ?_
  · refine (dec_rdy g q w3 (laid_bel (laid_bel hL hbb) hb3) (hU.below hb3)).mono ?_
    exact fun e w4 h => h
  · rintro e w3 ⟨rfl, hd, hk⟩
    exact ⟨_, rfl, _, rfl, hd, hk, rfl⟩

theorem op_blk {op : Int} (ho : op = 42 ∨ op = 40) (L : Nat → Prop) (d : Nat) (st : St) (n : Nat) (hn : n < st.B) (O : Value) (R : St → Prop) (o : Option (List Int)) (w : World) (h : DiskAt L d st w) (hp : st.pend = false) (hL : LaidW w dG)
    (h40 : op = 40 → CmdOk 42 d st op n 1 O R o w) (h42 : op = 42 → CmdOk 43 d st op n 1 O R o w) :
    Calls Tryd.prog 7 #[.pointer (some ⟨d, 0, none⟩), cmdV op n 1, O] w (DoesR true L d R o w) := by
  have h16 : st.B ≤ 16 := by
    obtain ⟨_, _, _, _, _, _, _, _, _, hI⟩ := h
    exact hI.len.2.2.2
  refine lrun_ret true L d st op n 1 10 O R o w h fun w' hb => (enc_blk op ho n (by omega) w' (laid_bel hL hb)).mono ?_
  rintro e w'' ⟨hb2, g, q, rfl, hU⟩
  refine ⟨hb2, g, q, rfl, ?_⟩
  have hbb := hb.trans (hb2.mono hb.size)
  refine (run_ret L d st op n 1 _ O R o w'' (h.below hbb) hp (by omega) (by omega) (by rcases ho with rfl | rfl <;> simp) (fun w3 hb3 => ?_) (fun e L' w3 hb3 => h40 e L' w3 (hbb.trans (hb3.mono hbb.size))) (fun e L' w3 hb3 => h42 e L' w3 (hbb.trans (hb3.mono hbb.size))) (fun e => by rcases ho with rfl | rfl <;> cases e)).mono ?_
  · exact (dec_blk op ho n (by omega) g q w3 (laid_bel (laid_bel hL hbb) hb3) (hU.below hb3)).mono fun e w4 h => h
  · rintro e w3 ⟨v, rfl, h⟩
    exact ⟨v, rfl, h⟩

theorem op_write (L : Nat → Prop) (d : Nat) (st : St) (n : Nat) (hn : n < st.B) (B : Option Addr) (cb : Nat) (xs : List Int) (w : World) (h : DiskAt L d st w) (hp : st.pend = false) (hL : LaidW w dG) (hU : U8 w B 64 cb xs) :
    Calls Tryd.prog 7 #[.pointer (some ⟨d, 0, none⟩), cmdV 42 n 1, .slice B 64 cb] w (DoesR true L d (fun st' => ∃ A c, st' = st.keep ⟨n, A, c, xs⟩) none w) := by
  have h16 : st.B ≤ 16 := by
    obtain ⟨_, _, _, _, _, _, _, _, _, hI⟩ := h
    exact hI.len.2.2.2
  refine op_blk (.inl rfl) L d st n hn _ _ none w h hp hL (fun e => by cases e) fun _ L' w' hb hd => (writes_ret L' d st n B cb xs w' hd (by omega) (hU.below hb)).mono ?_
  rintro e w2 ⟨rfl, A, c, hd2, hk2⟩
  exact ⟨_, rfl, _, ⟨A, c, rfl⟩, hd2, hk2, rfl⟩
theorem op_read (L : Nat → Prop) (d : Nat) (st : St) (n : Nat) (hn : n < st.B) (O : Value) (w : World) (h : DiskAt L d st w) (hp : st.pend = false) (hL : LaidW w dG) :
    Calls Tryd.prog 7 #[.pointer (some ⟨d, 0, none⟩), cmdV 40 n 1, O] w (DoesR true L d (fun st' => st' = st) (some (st.val n)) w) := by
  have h16 : st.B ≤ 16 := by
    obtain ⟨_, _, _, _, _, _, _, _, _, hI⟩ := h
    exact hI.len.2.2.2
  refine op_blk (.inr rfl) L d st n hn _ _ _ w h hp hL (fun _ L' w' hb hd => (reads_ret L' d st n O w' hd (by omega)).mono ?_) (fun e => by cases e)
  rintro e w2 ⟨hb2, A, c, rfl, hR⟩
  exact ⟨_, rfl, st, rfl, hd.below hb2, Kp.below hb2, A, c, rfl, hR⟩

theorem op_sync (L : Nat → Prop) (d : Nat) (st : St) (O : Value) (w : World) (h : DiskAt L d st w) (hp : st.pend = false) (hB : ∀ e ∈ st.cache, e.n < st.B) (hL : LaidW w dG) :
    Calls Tryd.prog 7 #[.pointer (some ⟨d, 0, none⟩), cmdV 53 0 0, O] w (DoesR true L d (fun st' => st' = st.sync) none w) := by
  refine lrun_ret true L d st 53 0 0 10 O _ none w h fun w' hb => (enc_sync w' (laid_bel hL hb)).mono ?_
  rintro e w'' ⟨hb2, g, q, rfl, hU⟩
  refine ⟨hb2, g, q, rfl, ?_⟩
  have hbb := hb.trans (hb2.mono hb.size)
  refine (run_ret L d st 53 0 0 _ O (fun st' => st' = st.sync) none w'' (h.below hbb) hp (by omega) (by omega) (.inr (.inr rfl)) (fun w3 hb3 => ?_) (fun e => by cases e) (fun e => by cases e) (fun _ L' w3 hb3 hd3 => (sync_ret L' d st O w3 hd3 hB).mono ?_)).mono ?_
  · exact (dec_sync g q w3 (laid_bel (laid_bel hL hbb) hb3) (hU.below hb3)).mono fun e w4 h => h
  · rintro e w4 ⟨rfl, hd4, hk4⟩
    exact ⟨_, rfl, _, rfl, hd4, hk4, rfl⟩
  · rintro e w3 ⟨v, rfl, h⟩
    exact ⟨v, rfl, h⟩
end Go.Proofs.YtdiameckiihppaaDoor
