/-
  What is proved here: the law's walk.
  Conditions: the tables of commands are laid; the arguments read as lists.
-/
import Derived.Test.YtdiameckiihppaaDoorSMem
import Derived.Test.YtdiameckiihppaaDoorSFill
namespace Go.Proofs.YtdiameckiihppaaDoor
open Go.Proofs Go.RowKit Go.Sy

attribute [local go_sem] lt2 lt3 lt4 lt5
attribute [-go_sem] Builtin.append_

/-- the law's state between two writes -/
def LoopS (W : World) (d cb sa B C : Nat) (yC : Array Value) (k : Nat) (w : World) : Prop :=
  ∃ L st safe since, MemL W L d (W.heap.size + 1) cb sa (sa + 1) B C yC st safe since w ∧ Inv st safe since ∧ st.B = B ∧ ∀ n, (since n).length ≤ k
/-- the clearing of the rows -/
def ClrS (W : World) (d cb sa B C : Nat) (yC : Array Value) (st : St) (safe : Nat → List Int) (since : Nat → List (List Int)) (n : Nat) (w : World) : Prop :=
  ∃ L safe' since', MemL W L d (W.heap.size + 1) cb sa (sa + 1) B C yC st safe' since' w ∧ (∀ j, j < n → safe' j = ((since j).getLast?).getD (safe j) ∧ since' j = []) ∧ ∀ j, n ≤ j → safe' j = safe j ∧ since' j = since j

theorem clr_end {W : World} {d cb sa B C : Nat} {yC : Array Value} {st : St} {safe : Nat → List Int} {since : Nat → List (List Int)} {w : World} (h : ClrS W d cb sa B C yC st.sync safe since 16 w) (hI : Inv st safe since) (hB : st.B = B) (k : Nat) : LoopS W d cb sa B C yC k w := by
  obtain ⟨L, safe', since', hM, h1, _⟩ := h
  exact ⟨L, st.sync, _, _, (hM.ext fun j hj => (h1 j hj).1).ext2 fun j hj => (h1 j hj).2, hI.sync, hB, fun n => Nat.zero_le _⟩

theorem clr_step {W : World} {d cb sa B C : Nat} {yC : Array Value} {st : St} {safe : Nat → List Int} {since : Nat → List (List Int)} {n : Nat} {L : Nat → Prop} {safe' : Nat → List Int} {since' : Nat → List (List Int)} {w : World} (hM : MemL W L d (W.heap.size + 1) cb sa (sa + 1) B C yC st safe' since' w) (hn : n < 16)
    (h1 : ∀ j, j < n → safe' j = ((since j).getLast?).getD (safe j) ∧ since' j = []) (h2 : ∀ j, n < j → safe' j = safe j ∧ since' j = since j) (h3 : safe' n = ((since n).getLast?).getD (safe n)) : ClrS W d cb sa B C yC st safe since (n + 1) (w.setCell ⟨sa + 1, n, none⟩ (.slice none 0 0)) :=
  ⟨L, safe', _, hM.clr hn, fun j hj => by
    unfold upd
    by_cases e : j = n
    · subst e
      rw [if_pos rfl]
      exact ⟨h3, rfl⟩
    · rw [if_neg e]
      exact h1 j (by omega), fun j hj => by
    unfold upd
    rw [if_neg (by omega)]
    exact h2 j (by omega)⟩

/-- a number -/
def IsI (v : Value) : Prop := ∃ D : Int, v = .int .i64 D

set_option maxHeartbeats 8000000 in
set_option maxRecDepth 1000000 in
theorem law_walk (b c dn : Int) (lk : Bool) (LA : Option Addr) (ln lc : Nat) (xs : List Int) (WA : Option Addr) (wn wp : Nat) (bs : List Bool) (W : World) (hL : LaidW W dG) (hU : U8 W LA ln lc xs) (hW : BL W WA wn wp bs)
    (hb : 0 ≤ b ∧ b ≤ 255) (hc : 0 ≤ c ∧ c ≤ 255) (hd : 0 ≤ dn ∧ dn ≤ 255) :
    Calls Tryd.prog 3 #[.agg #[.int .u8 b, .int .u8 c, .bool lk], .agg #[.slice LA ln lc, .int .u8 dn, .slice WA wn wp]] W (LawEnd W) := by
  have hlive := fun w' (hb : Below W.heap.size W w') => lives_calls w' (laid_bel hL hb)
  go_enter Tryd.func3, Tryd.ntmps3
  by_cases hl20 : ln ≤ 20
  · have q1 : ¬ (20 : Int) < (ln : Int) := by omega
    go_upto_region 5 with fail
    have hb2 : Below W.heap.size W ((W.alloc (.cells #[.int .u8 b, .int .u8 c, .bool false] 23 (0, 0))).alloc (.cells #[.slice LA ln lc, .int .u8 dn, .slice WA wn wp] 27 (0, 0))) := ((Below.refl W.heap.size W).alloc (Nat.le_refl _) _).alloc (by simp) _
    have c0 := alloc2_0 W (.cells #[.int .u8 b, .int .u8 c, .bool false] 23 (0, 0)) (.cells #[.slice LA ln lc, .int .u8 dn, .slice WA wn wp] 27 (0, 0))
    have c1 := alloc2_1 W (.cells #[.int .u8 b, .int .u8 c, .bool false] 23 (0, 0)) (.cells #[.slice LA ln lc, .int .u8 dn, .slice WA wn wp] 27 (0, 0))
    generalize ((W.alloc (.cells #[.int .u8 b, .int .u8 c, .bool false] 23 (0, 0))).alloc (.cells #[.slice LA ln lc, .int .u8 dn, .slice WA wn wp] 27 (0, 0))) = w2 at *
    have x0 := cell_of c0 0
    have x1 := cell_of c0 1
    have x2 := cell_of c0 2
    obtain ⟨B, C, hof, hB, hC⟩ : ∃ B C : Nat, Calls Tryd.prog 5 #[.agg #[.int .u8 b, .int .u8 c, .bool false]] w2 (fun e w' => e = .returned (.agg (cfgC B C)) ∧ Below w2.heap.size w2 w') ∧ (1 ≤ B ∧ B ≤ 16) ∧ C ≤ 5 :=
      ⟨(1 + b % 16).toNat, (c % 6).toNat, of_ret b c w2 hb hc, by omega, by omega⟩
    have H2 := Lib.hid (⟨hb2, c1, hB, hC⟩ : _ ∧ _ ∧ _ ∧ _)
    have HA := Lib.hid (⟨hL, hU, hW, hlive, hd, hl20⟩ : _ ∧ _ ∧ _ ∧ _ ∧ _ ∧ _)
    clear hb2 c0 c1 hB hC hL hU hW hlive hd hl20 hb hc q1
    unfold cfgC at hof
    go_wp2_with fail
    refine hof.mono ?_
    rintro e w3 ⟨rfl, hb3⟩
    have HB3 := Lib.hid hb3
    clear hb3 hof x0 x1 x2
    go_upto_region 6 with fail
    have hcb := heap_alloc_new w3 (.cells (cfgC B C) 32 (0, 0))
    have hb34 : Below w3.heap.size w3 (w3.alloc (.cells (cfgC B C) 32 (0, 0))) := (Below.refl _ _).alloc (Nat.le_refl _) _
    unfold cfgC at hcb hb34
    generalize w3.alloc (.cells #[.int .i64 B, .int .i64 64, .int .i64 C, .bool false, .string ⟨#[86]⟩, .string ⟨#[80]⟩, .string ⟨#[82]⟩, .bool false] 32 (0, 0)) = w4 at *
    have hb24 : Below w2.heap.size w2 w4 := HB3.out.trans (hb34.mono HB3.out.size)
    have hb4 : Below W.heap.size W w4 := H2.out.1.trans (hb24.mono H2.out.1.size)
    have hk1 : w4.heap[W.heap.size + 1]? = _ := (hb24.block _ (Array.getElem?_eq_some_iff.1 H2.out.2.1).1).trans H2.out.2.1
    have hnew := new_ret B C w4 H2.out.2.2.1 H2.out.2.2.2 (laid_bel HA.out.1 hb4)
    have H4 := Lib.hid (⟨hb4, hk1, hcb⟩ : _ ∧ _ ∧ _)
    unfold cfgC at hnew
    clear hb34 hb24 hb4 hk1 HB3
    go_wp2_with (refine wpList_load_row rfl (.tmp 6) 32 rfl w3.heap.size 32 _ _ rfl hcb Tryd.underlying32 rfl (by kernel_rfl) ?_)
    refine hnew.mono ?_
    rintro e w5 ⟨hb5, d, rfl, hdk⟩
    have hdk := hdk (fun i => i < w4.heap.size) (fun i hi => hi)
    have hb05 := H4.out.1.trans (hb5.mono H4.out.1.size)
    have hrdy := op_rdy (fun i => i < w4.heap.size) d (st0 B C) (.slice none 0 0) w5 hdk rfl (laid_bel HA.out.1 hb05)
    have H5 := Lib.hid (⟨hb5, hb05⟩ : _ ∧ _)
    unfold cmdV at hrdy
    clear hb5 hb05 hdk hnew hcb
    go_wp2_with fail
    refine hrdy.mono ?_
    rintro e w6 ⟨v, rfl, st1, rfl, hd6, hk6, _⟩
    have H6 := Lib.hid (⟨hd6, hk6⟩ : _ ∧ _)
    clear hd6 hk6 hrdy
    go_upto_region 12 with fail
    obtain ⟨L8, hM8⟩ := mem_start (W := W) (k1 := W.heap.size + 1) (cb := w3.heap.size) (B := B) (C := C) (yC := #[.slice LA ln lc, .int .u8 dn, .slice WA wn wp]) H6.out.1
      (by
        have h1 := H5.out.2
        have h2 := H6.out.2
        have h3 := H5.out.1.size
        have h4 := H4.out.1.size
        exact ⟨h2.os.trans h1.os, h2.tape.trans h1.tape, h2.output.trans h1.output, Nat.le_trans h1.size h2.size, fun i hi => (h2.block i (by omega) (by omega)).trans (h1.block i hi)⟩)
      (fun i hi => by have := H4.out.1.size; omega)
      (by
        have hl := (Array.getElem?_eq_some_iff.1 H4.out.2.1).1
        have h3 := H5.out.1.size
        exact (H6.out.2.block _ (by omega) hl).trans ((H5.out.1.block _ hl).trans H4.out.2.1))
      (Array.getElem?_eq_some_iff.1 H4.out.2.1).1
      (by
        have hl := (Array.getElem?_eq_some_iff.1 H4.out.2.2).1
        have h3 := H5.out.1.size
        exact (H6.out.2.block _ (by omega) hl).trans ((H5.out.1.block _ hl).trans H4.out.2.2))
      (Array.getElem?_eq_some_iff.1 H4.out.2.2).1
    unfold str16 sl16 at hM8
    generalize hsa : w6.heap.size = sa at *
    generalize hcb : w3.heap.size = cb at *
    generalize ((w6.alloc (.cells #[.string ⟨#[]⟩, .string ⟨#[]⟩, .string ⟨#[]⟩, .string ⟨#[]⟩, .string ⟨#[]⟩, .string ⟨#[]⟩, .string ⟨#[]⟩, .string ⟨#[]⟩, .string ⟨#[]⟩, .string ⟨#[]⟩, .string ⟨#[]⟩, .string ⟨#[]⟩, .string ⟨#[]⟩, .string ⟨#[]⟩, .string ⟨#[]⟩, .string ⟨#[]⟩] 45 (0, 0))).alloc (.cells #[.slice none 0 0, .slice none 0 0, .slice none 0 0, .slice none 0 0, .slice none 0 0, .slice none 0 0, .slice none 0 0, .slice none 0 0, .slice none 0 0, .slice none 0 0, .slice none 0 0, .slice none 0 0, .slice none 0 0, .slice none 0 0, .slice none 0 0, .slice none 0 0] 47 (0, 0))) = w8 at *
    have HM8 := Lib.hid hM8
    have HBC := Lib.hid H2.out.2.2
    clear hM8 hsa hcb H2 H4 H5 H6
    go_wp2_with fail
    go_loopw [11] (fun i wr => ∃ k : Nat, i = .int .i64 k ∧ k ≤ 16 ∧ Hid (∃ L safe, MemL W L d (W.heap.size + 1) cb sa (sa + 1) B C #[.slice LA ln lc, .int .u8 dn, .slice WA wn wp] { st0 B C with pend := false } safe (fun _ => []) wr ∧ ∀ j, j < k → safe j = zeros)) (fun i _ => 16 - (intOf i).toNat)
    case atStart => exact ⟨0, rfl, by omega, Lib.hid ⟨L8, _, HM8.out, fun j hj => by omega⟩⟩
    case round =>
      obtain ⟨k, rfl, hk, HH⟩ := hrel
      by_cases hk16 : k < 16
      · obtain ⟨L, safe, hM, hz⟩ := HH.out
        obtain ⟨SA, e1, e2, e3⟩ := hM.hsa
        obtain ⟨mc, hmk, hmc⟩ := make64 wr
        have hbw : Below wr.heap.size wr (wr.alloc (.cells mc 5)) := (Below.refl _ _).alloc (Nat.le_refl _) _
        have htx : (convert 24 9 (.slice (some ⟨wr.heap.size, 0, none⟩) 64 64)).run Tryd.prog (wr.alloc (.cells mc 5)) = .ok (.string (strOfNums zeros)) (wr.alloc (.cells mc 5)) :=
          (row64 (heap_alloc_new wr (.cells mc 5)) hmc (by decide) zeros_b).u8.text (e := 5) rfl rfl rfl 0
        have e1' := (hbw.block _ (Array.getElem?_eq_some_iff.1 e1).1).trans e1
        have z1 : (wr.alloc (.cells mc 5)).cell? ⟨sa, k, none⟩ = some (.string (strOfNums (safe k))) := (cell_of e1' k).trans (e3 k hk16)
        have f1 := frozen_of e1' k
        have hM2 := (hM.below hbw).setSafe hk16 zeros
        have HM := Lib.hid (⟨hM2, hz⟩ : _ ∧ _)
        have q2 : (k : Int) < 16 := by omega
        clear hM hz e1 e2 e3 hmc hbw e1' hM2
        go_wp2_with fail
        go_roundw
        case rel =>
          refine ⟨k + 1, by go_num, by omega, Lib.hid ⟨_, _, HM.out.1, fun j hj => ?_⟩⟩
          unfold upd
          split
          · rfl
          · exact HM.out.2 j (by omega)
        case measure => simp [intOf]; omega
      · obtain rfl : k = 16 := by omega
        have HM : Hid (∃ L, MemL W L d (W.heap.size + 1) cb sa (sa + 1) B C #[.slice LA ln lc, .int .u8 dn, .slice WA wn wp] { st0 B C with pend := false } (fun _ => zeros) (fun _ => []) wr) := by
          obtain ⟨L, safe, hM, hz⟩ := HH.out
          exact Lib.hid ⟨L, hM.ext hz⟩
        clear HH hk hk16 HM8
        have k1 : wr.cell? ⟨W.heap.size + 1, 1, none⟩ = some (.int .u8 dn) := by
          obtain ⟨L, hM⟩ := HM.out
          exact cell_of hM.hk1 1
        have hdn := HA.out.2.2.2.2.1
        have hln := HA.out.2.2.2.2.2
        obtain ⟨hd1, hd2⟩ := hdn
        go_upto_region 17 with fail
        go_cut [11, 60] from 50 to 59 (fun _ v wx => v = .bool (decide ((0 : Int) < (ln : Int))) ∧ wx = wr)
        case first =>
          go_wp2_with fail
          go_meet
          exact ⟨by simp, rfl⟩
        case rest =>
        obtain ⟨rfl, rfl⟩ := hcut
        rename_i K hK
        refine hK _ _ ?_
        clear hK K
        go_cut [12] from 60 to 67 (fun v wx => IsI v ∧ wx = wc)
        case first =>
          by_cases h0 : (0 : Int) < (ln : Int)
          · go_wp2_with fail
            go_meet
            exact ⟨⟨_, rfl⟩, rfl⟩
          · go_wp2_with fail
            go_meet
            exact ⟨⟨_, rfl⟩, rfl⟩
        case rest =>
        obtain ⟨⟨D, rfl⟩, rfl⟩ := hcut
        have HS : Hid (LoopS W d cb sa B C #[.slice LA ln lc, .int .u8 dn, .slice WA wn wp] 0 wc) := by
          obtain ⟨L, hM⟩ := HM.out
          exact Lib.hid ⟨L, _, _, _, hM, inv_start B C, rfl, fun n => Nat.le_refl _⟩
        obtain ⟨yC, hyC⟩ : ∃ yC : Array Value, #[.slice LA ln lc, .int .u8 dn, .slice WA wn wp] = yC := ⟨_, rfl⟩
        rw [hyC] at HS
        have HYC := Lib.hid hyC
        clear HM k1 hd1 hd2 hyC
        go_wp2_with fail
        go_loopw [13] (fun i wr => ∃ k : Nat, i = .int .i64 k ∧ k ≤ ln ∧ Hid (LoopS W d cb sa B C yC k wr)) (fun i _ => ln + 1 - (intOf i).toNat)
        case atStart => exact ⟨0, rfl, Nat.zero_le _, HS⟩
        case round =>
          obtain ⟨k, rfl, hk, HK⟩ := hrel
          have q2 : (k : Int) ≤ (ln : Int) := by omega
          obtain ⟨q, hq⟩ : ∃ q, ((k : Int) == D) = q := ⟨_, rfl⟩
          go_upto_region 22 with fail
          go_cut [76] from 74 to 76 (fun v wx => v = .bool q ∧ wx = wr)
          case first =>
            go_wp2_with fail
            go_meet
            exact ⟨rfl, rfl⟩
          case rest =>
          obtain ⟨rfl, rfl⟩ := hcut
          clear hq
          rename_i K hK
          refine hK _ _ ?_
          clear hK K
          go_cut [14, 15, 16] from 76 to 107 (fun _ _ _ wx => Hid (LoopS W d cb sa B C yC k wx))
          case first =>
            cases q
            · go_wp2_with fail
              go_meet
              exact HK
            · obtain ⟨L, st, safe, since, hM, hI, hB, hlen⟩ := HK.out
              have hsy := op_sync L d st (.slice none 0 0) wc hM.dk hI.pend hI.lt (laid_bel HA.out.1 hM.bel)
              unfold cmdV at hsy
              have HX := Lib.hid (⟨hM, hI, hB, hlen⟩ : _ ∧ _ ∧ _ ∧ _)
              clear hM hI hB hlen HK
              go_wp2_with fail
              refine hsy.mono ?_
              rintro e w7 ⟨v, rfl, st', rfl, hd7, hk7, _⟩
              have HM7 := Lib.hid (HX.out.1.call hk7 hd7)
              clear hd7 hk7 hsy
              go_wp2_with fail
              go_loopw [16] (fun i wr => ∃ n : Nat, i = .int .i64 n ∧ n ≤ 16 ∧ Hid (ClrS W d cb sa B C yC st.sync safe since n wr)) (fun i _ => 16 - (intOf i).toNat)
              case atStart => exact ⟨0, rfl, by omega, Lib.hid ⟨L, safe, since, HM7.out, fun j hj => by omega, fun j _ => ⟨rfl, rfl⟩⟩⟩
              case round =>
                obtain ⟨n, rfl, hn, HC⟩ := hrel
                by_cases hn16 : n < 16
                · obtain ⟨L2, safe', since', hMc, h1, h2⟩ := HC.out
                  obtain ⟨SC, r, g1, g2, g3, g4⟩ := hMc.hsc
                  obtain ⟨p1, p2, p3⟩ := g3 n hn16
                  obtain ⟨A, m, cap, hr⟩ : ∃ A m cap, r n = (A, m, cap) := ⟨_, _, _, rfl⟩
                  rw [hr] at p1 p2 p3
                  dsimp only [Sl.v] at p1 p2 p3
                  have z1 : wr.cell? ⟨sa + 1, n, none⟩ = some (.slice A m cap) := (cell_of g1 n).trans p1
                  have f1 := frozen_of g1 n
                  have q3 : (n : Int) < 16 := by omega
                  have hml : m = (since' n).length := by have := p2.1; simpa [strs] using this.symm
                  cases m with
                  | zero =>
                    have hs0 : since' n = [] := List.length_eq_zero_iff.1 hml.symm
                    have hnx := clr_step hMc hn16 h1 (fun j hj => h2 j (by omega)) (by rw [(h2 n (Nat.le_refl _)).1, ← (h2 n (Nat.le_refl _)).2, hs0]; rfl)
                    have HN := Lib.hid hnx
                    clear hnx hMc h1 h2 g1 g2 g3 g4 p1 p2 p3 hr hml hs0
                    go_wp2_with fail
                    go_roundw
                    case rel => exact ⟨n + 1, by go_num, by omega, HN⟩
                    case measure => simp [intOf]; omega
                  | succ m =>
                    obtain ⟨_, p5, _, ⟨p6, _⟩ | ⟨rb, off, cs, rfl, hrb, hrs, hrc⟩⟩ := id p2
                    · subst p6; have := p2.2.2.2; simp at this
                    obtain ⟨last, hlast⟩ : ∃ last, (since' n)[m]? = some last := ⟨_, List.getElem?_eq_getElem (by omega)⟩
                    have z2 : wr.cell? ⟨rb, off + m, none⟩ = some (.string (strOfNums last)) := (cell_of hrb _).trans ((hrc m (by omega)).trans (by unfold strs; rw [List.getElem?_map, hlast]; rfl))
                    have hgl : (since' n).getLast? = some last := by rw [List.getLast?_eq_getElem?, ← hml, Nat.add_sub_cancel]; exact hlast
                    obtain ⟨SA, e1, e2, e3⟩ := hMc.hsa
                    have z3 : wr.cell? ⟨sa, n, none⟩ = some (.string (strOfNums (safe' n))) := (cell_of e1 n).trans (e3 n hn16)
                    have f3 := frozen_of e1 n
                    have q4 : (m : Int) < ((m + 1 : Nat) : Int) := by omega
                    have q5 : (m : Int) ≤ (cap : Int) := by omega
                    have hm20 : m ≤ 20 := by have h5 := HX.out.2.2.2 n; rw [← (h2 n (Nat.le_refl _)).2, ← hml] at h5; have := HA.out.2.2.2.2.2; omega
                    have HX2 := Lib.hid (⟨hMc, h1, h2, hgl⟩ : _ ∧ _ ∧ _ ∧ _)
                    clear hMc h1 h2 g1 g2 g3 g4 p1 p2 p3 p5 hr hml hlast hgl e1 e2 e3 hrb hrs hrc
                    go_upto_region 30 with fail
                    refine region_last (by kernel_rfl) rfl rfl (by kernel_rfl) (by kernel_rfl) (by kernel_rfl) (by kernel_rfl) ?_
                    dsimp only [List.dropLast, List.getLast?, List.getLast]
                    repeat (go_big_quiet_step (fail))
                    refine wpQuiet_nil ?_
                    rintro _ ⟨nq, rfl⟩
                    refine op_any (n := .skip) (w' := (wr.drewN nq).setCell ⟨sa, n, none⟩ (.string (strOfNums last))) (by unfold execOp; simp [go_sem, z3, f3]) ?_
                    rw [Oper.upon_skip]
                    have hM2 := (HX2.out.1.drewN nq).setSafe hn16 last
                    obtain ⟨SC2, r2, g1, g2, g3, g4⟩ := hM2.hsc
                    have z4 : ((wr.drewN nq).setCell ⟨sa, n, none⟩ (.string (strOfNums last))).cell? ⟨sa + 1, n, none⟩ = some (r2 n).v := (cell_of g1 n).trans (g3 n hn16).1
                    have f4 := frozen_of g1 n
                    have hnx := clr_step hM2 hn16 (fun j hj => by unfold upd; rw [if_neg (by omega)]; exact HX2.out.2.1 j hj) (fun j hj => by unfold upd; rw [if_neg (by omega)]; exact HX2.out.2.2.1 j (by omega)) (by
                      unfold upd
                      rw [if_pos rfl, ← (HX2.out.2.2.1 n (Nat.le_refl _)).2, HX2.out.2.2.2]; rfl)
                    have HN := Lib.hid hnx
                    clear hnx hM2 g2 g3 g4 z1 z2 z3 f1 f3
                    generalize (wr.drewN nq).setCell ⟨sa, n, none⟩ (.string (strOfNums last)) = w9 at *
                    rename_i K hK
                    refine hK _ _ ?_
                    clear hK K
                    dsimp only [Act.put]
                    go_wp2_with fail
                    go_roundw
                    case rel => exact ⟨n + 1, by go_num, by omega, HN⟩
                    case measure => simp [intOf]; omega
                · obtain rfl : n = 16 := by omega
                  go_wp2_with fail
                  go_meet
                  exact Lib.hid (clr_end HC.out HX.out.2.1 HX.out.2.2.1 k)
          case rest =>
          by_cases hkl : k < ln
          · obtain ⟨L, st, safe, since, hM, hI, hB, hlen⟩ := hcut.out
            obtain ⟨a, x, rfl, hx, hx0, hx1, hcx⟩ := (HA.out.2.1.below hM.bel).cell hkl
            have hBC := HBC.out.1
            obtain ⟨n, hn, hnB⟩ : ∃ n : Nat, x % (B : Int) = (n : Int) ∧ n < B := ⟨(x % (B : Int)).toNat, by have := Int.emod_nonneg x (show (B : Int) ≠ 0 by omega); omega, by have := Int.emod_lt_of_pos x (show (0 : Int) < B by omega); omega⟩
            have hcb0 : wc.cell? ⟨cb, 0, none⟩ = some (.int .i64 B) := cell_of hM.hcb 0
            have hlc := HA.out.2.1.2.2.1
            have q3 : (k : Int) < (ln : Int) := by omega
            have q4 : (k : Int) ≤ (lc : Int) := by omega
            have q5 : ((k : Int) == (ln : Int)) = false := by simp; omega
            have q6 : ((B : Int) == 0) = false := by simp; omega
            have hB1 : 1 ≤ B := hBC.1
            have q7 : k ≤ 20 := by have := HA.out.2.2.2.2.2; omega
            have HX := Lib.hid (⟨hM, hI, hB, hlen, hnB, hBC⟩ : _ ∧ _ ∧ _ ∧ _ ∧ _ ∧ _)
            clear hM hI hB hlen hx hBC hlc hnB
            go_upto_region 33 with fail
            go_quiet (fail)
            rw [hn]
            obtain ⟨w7, hw7⟩ : ∃ w7, wc.drewN nq = w7 := ⟨_, rfl⟩
            rw [hw7]
            have hM7 := HX.out.1.drewN nq
            rw [hw7] at hM7
            have hfl := fill_ret k w7 (by omega)
            have HM7 := Lib.hid hM7
            clear hn hw7 hcb0 hcx hM7 q6
            go_wp2_with fail
            refine hfl.mono ?_
            rintro e w8 ⟨hb8, rfl, hR8⟩
            have hM8 := HM7.out.below hb8
            have hin8 : Wid L w7.heap.size w8.heap.size w7.heap.size := .inr ⟨Nat.le_refl _, (hR8.lt _ rfl)⟩
            have hn15 : n ≤ 15 := by have := HX.out.2.2.2.2.1; have := HX.out.2.2.2.2.2; omega
            have hwr := op_write _ d st n (by rw [HX.out.2.2.1]; exact HX.out.2.2.2.2.1) (some ⟨w7.heap.size, 0, none⟩) 64 (fill k) w8 hM8.dk HX.out.2.1.pend (laid_bel HA.out.1 hM8.bel) hR8.u8
            unfold cmdV at hwr
            have H8 := Lib.hid (⟨hM8, hin8, hR8⟩ : _ ∧ _ ∧ _)
            clear hfl hb8 hR8 hM8 hin8
            go_wp2_with fail
            refine hwr.mono ?_
            rintro e w9 ⟨v9, rfl, st9, ⟨A9, c9, rfl⟩, hd9, hk9, _⟩
            have hM9 := H8.out.1.call hk9 hd9
            obtain ⟨hI9, hv9, hB9⟩ := HX.out.2.1.write ⟨n, A9, c9, fill k⟩ (by rw [HX.out.2.2.1]; exact HX.out.2.2.2.2.1)
            have hR9 : RowB w9 (some ⟨w7.heap.size, 0, none⟩) 64 64 (fill k) := H8.out.2.2.keep fun a ea => by cases ea; exact hk9.block _ (H8.out.2.2.lt _ rfl) H8.out.2.1
            have hrd := op_read _ d (st.keep ⟨n, A9, c9, fill k⟩) n (by rw [hB9, HX.out.2.2.1]; exact HX.out.2.2.2.2.1) (.slice none 0 0) w9 hM9.dk hI9.pend (laid_bel HA.out.1 hM9.bel)
            unfold cmdV at hrd
            have H9 := Lib.hid (⟨hM9, hI9, hv9, hB9, hR9⟩ : _ ∧ _ ∧ _ ∧ _ ∧ _)
            clear hwr hd9 hk9 hM9 hI9 hv9 hB9 hR9
            go_wp2_with fail
            refine hrd.mono ?_
            rintro e w10 ⟨v10, rfl, st10, rfl, hd10, hk10, A10, c10, rfl, hR10⟩
            have hM10 := H9.out.1.call hk10 hd10
            have hR10b : RowB w10 (some ⟨w7.heap.size, 0, none⟩) 64 64 (fill k) := H9.out.2.2.2.2.keep fun a ea => by cases ea; exact hk10.block _ (H9.out.2.2.2.2.lt _ rfl) H8.out.2.1
            have hv10 : (st.keep ⟨n, A9, c9, fill k⟩).val n = fill k := H9.out.2.2.1
            rw [hv10] at hR10
            have t1 : (convert 24 9 (.slice A10 64 c10)).run Tryd.prog w10 = .ok (.string (strOfNums (fill k))) w10 := hR10.u8.text (e := 5) rfl rfl rfl 0
            have t2 : (convert 24 9 (.slice (some ⟨w7.heap.size, 0, none⟩) 64 64)).run Tryd.prog w10 = .ok (.string (strOfNums (fill k))) w10 := hR10b.u8.text (e := 5) rfl rfl rfl 0
            have H10 := Lib.hid (⟨hM10, hR10b⟩ : _ ∧ _)
            clear hrd hd10 hk10 hM10 hR10 hR10b hv10
            go_upto_region 39 with fail
            clear t1 t2
            have hn16 : n < 16 := by omega
            obtain ⟨A, m, cap, A', cap', w11, z1, z2, hrun, z3, f3, L', hM11⟩ := H10.out.1.app hn16 (fill k) (by have := HX.out.2.2.2.1 n; omega)
            have t3 : (convert 24 9 (.slice (some ⟨w7.heap.size, 0, none⟩) 64 64)).run Tryd.prog w10.drew = .ok (.string (strOfNums (fill k))) w10.drew := H10.out.2.u8.drew.text (e := 5) rfl rfl rfl 0
            have q9 : (n : Int) < 16 := by omega
            have HF : Hid (LoopS W d cb sa B C yC (k + 1) (w11.setCell ⟨sa + 1, n, none⟩ (.slice A' (m + 1) cap'))) := Lib.hid
              ⟨L', st.keep ⟨n, A9, c9, fill k⟩, safe, _, hM11.ext2 (since' := fun j => if j = n then since j ++ [fill k] else since j) (fun j _ => by
                unfold upd
                by_cases e : j = n
                · rw [if_pos e, if_pos e, e]
                · rw [if_neg e, if_neg e]), H9.out.2.1, H9.out.2.2.2.1.trans HX.out.2.2.1, fun j => by
                  have := HX.out.2.2.2.1 j
                  split
                  · rw [List.length_append]; simp; omega
                  · omega⟩
            clear hM11
            go_region
            all_goals
              go_wp2_with fail
              go_roundw
              case rel => exact ⟨k + 1, by go_num, by omega, HF⟩
              case measure => simp [intOf]; omega
          · have q5 : ((k : Int) == (ln : Int)) = true := by simp; omega
            obtain ⟨L, st, safe, since, hM, hI, hB, hlen⟩ := hcut.out
            have y2 : wc.cell? ⟨W.heap.size + 1, 2, none⟩ = some (.slice WA wn wp) := by
              have := cell_of hM.hk1 2
              rw [← HYC.out] at this
              exact this
            have hctr := cut_ret L d st WA wn wp bs wc hM.dk (HA.out.2.2.1.keep fun p u _ hc => by
              have h1 := hM.bel.block p.block (World.block_lt_of_cell? _ _ hc)
              unfold World.cell? at hc ⊢
              rw [h1]; exact hc) (fun a ea h0 => hM.old _ (by
                obtain ⟨_, _, ⟨h3, _⟩ | ⟨a', ea', h3⟩⟩ := HA.out.2.2.1
                · rw [h3] at ea; cases ea
                · rw [ea'] at ea
                  injection ea with ea
                  subst ea
                  have := World.block_lt_of_cell? _ _ (h3 0 h0)
                  rwa [add_zero_] at this))
            have HX := Lib.hid (⟨hM, hI, hB, hlen⟩ : _ ∧ _ ∧ _ ∧ _)
            clear hM hI hB hlen
            go_wp2_with fail
            refine hctr.mono ?_
            rintro e w12 ⟨rfl, hd12, hk12⟩
            have HM12 : Hid (MemL W L d (W.heap.size + 1) cb sa (sa + 1) B C yC (st.cut bs) safe since w12) := Lib.hid (HX.out.1.call hk12 hd12)
            clear hctr hd12 hk12 y2
            go_wp2_with fail
            go_loopw [23] (fun i wr => ∃ n : Nat, i = .int .i64 n ∧ n ≤ B ∧ Hid (∃ L, MemL W L d (W.heap.size + 1) cb sa (sa + 1) B C yC (st.cut bs) safe since wr)) (fun i _ => B - (intOf i).toNat)
            case atStart => exact ⟨0, rfl, Nat.zero_le _, Lib.hid ⟨L, HM12.out⟩⟩
            case round =>
              obtain ⟨n, rfl, hnB, HN⟩ := hrel
              obtain ⟨L2, hM⟩ := HN.out
              have x0 : wr.cell? ⟨cb, 0, none⟩ = some (.int .i64 B) := cell_of hM.hcb 0
              by_cases hn : n < B
              · have hblk := block_ret L2 d (st.cut bs) n wr hM.dk (show n < st.B by rw [HX.out.2.2.1]; exact hn)
                have q6 : (n : Int) < (B : Int) := by omega
                have hn16 : n < 16 := by have := HBC.out.1.2; omega
                have HM := Lib.hid hM
                have hX := HX.out.2.1.cut bs n (by rw [HX.out.2.2.1]; exact hn)
                obtain ⟨X, hXe⟩ : ∃ X, medB (st.cut bs).med n = X := ⟨_, rfl⟩
                rw [hXe] at hblk hX
                have HXX := Lib.hid hX
                clear hM hX hXe
                go_wp2_with fail
                refine hblk.mono ?_
                rintro e w14 ⟨hb14, A14, c14, rfl, hR14⟩
                have hM14 := HM.out.below hb14
                obtain ⟨SA, e1, e2, e3⟩ := hM14.hsa
                have z1 : w14.cell? ⟨sa, n, none⟩ = some (.string (strOfNums (safe n))) := (cell_of e1 n).trans (e3 n hn16)
                have tx := fun q => hR14.u8.text (P := Tryd.prog) (src := 24) (dst := 9) (e := 5) rfl rfl rfl q
                have q7 : (n : Int) < 16 := by omega
                obtain ⟨g, hg⟩ : ∃ g, ((strOfNums X).toList == (strOfNums (safe n)).toList) = g := ⟨_, rfl⟩
                have H14 := Lib.hid (⟨hM14, hR14⟩ : _ ∧ _)
                clear hblk hb14 hM14 hR14 e1 e2 e3
                go_upto_region 45 with fail
                go_quiet (fail)
                have HG : Hid (g = true ∨ X ∈ since n) := Lib.hid (by
                  cases g with
                  | true => exact .inl rfl
                  | false =>
                    right
                    rcases HXX.out with e | e
                    · rw [e] at hg; simp at hg
                    · exact e)
                obtain ⟨w15, hw15⟩ : ∃ w15, w14.drewN nq = w15 := ⟨_, rfl⟩
                rw [hw15]
                have hM15 := H14.out.1.drewN nq
                have hR15 : RowB w15 A14 64 c14 X := by rw [← hw15]; exact H14.out.2.keep fun _ _ => rfl
                rw [hw15] at hM15
                obtain ⟨SC, r, g1, g2, g3, g4⟩ := hM15.hsc
                obtain ⟨p1, p2, p3⟩ := g3 n hn16
                obtain ⟨A, m, cap, hr⟩ : ∃ A m cap, r n = (A, m, cap) := ⟨_, _, _, rfl⟩
                rw [hr] at p1 p2 p3
                dsimp only [Sl.v] at p1 p2 p3
                have hml : (since n).length = m := by have := p2.1; simpa [strs] using this
                have y1 : w15.cell? ⟨sa + 1, n, none⟩ = some (.slice A m cap) := (cell_of g1 n).trans p1
                have tx := fun q => hR15.u8.text (P := Tryd.prog) (src := 24) (dst := 9) (e := 5) rfl rfl rfl q
                have hm20 : m ≤ 20 := by have h5 := HX.out.2.2.2 n; rw [hml] at h5; have := HA.out.2.2.2.2.2; omega
                have hmc : m ≤ cap := p2.2.1
                have H15 := Lib.hid (⟨hM15, p2, hml⟩ : _ ∧ _ ∧ _)
                clear hw15 hM15 hR15 g1 g2 g3 g4 p1 p2 p3 hr hml z1 hg
                go_wp2_with fail
                go_loopw [26, 27] (fun gv i wr => ∃ (j : Nat) (g : Bool) (q : Nat), i = .int .i64 j ∧ j ≤ m ∧ gv = .bool g ∧ wr = w15.drewN q ∧ Hid (g = true ∨ ∃ t, j ≤ t ∧ (since n)[t]? = some X)) (fun _ i _ => m - (intOf i).toNat)
                case atStart =>
                  refine ⟨0, g, 0, rfl, Nat.zero_le _, rfl, rfl, Lib.hid (HG.out.imp id fun h => ?_)⟩
                  obtain ⟨t, ht⟩ := List.getElem?_of_mem h
                  exact ⟨t, Nat.zero_le _, ht⟩
                case round =>
                  obtain ⟨j, g, q, rfl, hjm, rfl, rfl, HW⟩ := hrel
                  have txq := tx q
                  by_cases hj : j < m
                  · have q8 : (j : Int) < (m : Int) := by omega
                    cases g
                    · obtain ⟨_, p5, _, ⟨_, p6, _⟩ | ⟨rb, off, cs, rfl, hrb, hrs, hrc⟩⟩ := id H15.out.2.1
                      · omega
                      obtain ⟨Y, hY⟩ : ∃ Y, (since n)[j]? = some Y := ⟨_, List.getElem?_eq_getElem (by rw [H15.out.2.2]; exact hj)⟩
                      have z2 : w15.cell? ⟨rb, off + j, none⟩ = some (.string (strOfNums Y)) := (cell_of hrb _).trans ((hrc j hj).trans (by unfold strs; rw [List.getElem?_map, hY]; rfl))
                      have q9 : (j : Int) ≤ (cap : Int) := by omega
                      obtain ⟨g2, hg2⟩ : ∃ g2, ((strOfNums X).toList == (strOfNums Y).toList) = g2 := ⟨_, rfl⟩
                      have HW2 : Hid (g2 = true ∨ ∃ t, j + 1 ≤ t ∧ (since n)[t]? = some X) := Lib.hid (by
                        rcases HW.out with e | ⟨t, h1, h2⟩
                        · cases e
                        · by_cases e : t = j
                          · subst e
                            rw [hY] at h2
                            injection h2 with h2
                            subst h2
                            left
                            rw [← hg2]; simp
                          · exact .inr ⟨t, by omega, h2⟩)
                      clear hrb hrs hrc hY HW p5
                      go_upto_region 49 with fail
                      go_quiet (fail)
                      have HG2 := Lib.hid hg2
                      clear hg2
                      go_wp2_with fail
                      go_roundw
                      case rel => exact ⟨j + 1, g2, _, by go_num, by omega, rfl, rfl, HW2⟩
                      case measure => simp [intOf]; omega
                    · clear HW
                      go_upto_region 49 with fail
                      go_quiet (fail)
                      go_wp2_with fail
                      go_roundw
                      case rel => exact ⟨j + 1, true, _, by go_num, by omega, rfl, rfl, Lib.hid (.inl rfl)⟩
                      case measure => simp [intOf]; omega
                  · have hgt : g = true := by
                      rcases HW.out with e | ⟨t, h1, h2⟩
                      · exact e
                      · have := (List.getElem?_eq_some_iff.1 h2).1
                        have := H15.out.2.2
                        omega
                    subst hgt
                    have q8 : ¬ (j : Int) < (m : Int) := by omega
                    clear HW
                    go_wp2_with fail
                    go_roundw
                    case rel => exact ⟨n + 1, by go_num, by omega, Lib.hid ⟨_, H15.out.1.drewN q⟩⟩
                    case measure => simp [intOf]; omega
              · have hcd := cached_ret L2 d (st.cut bs) wr hM.dk rfl
                have q6 : ¬ (n : Int) < (B : Int) := by omega
                have hlv := fun w' h => HA.out.2.2.2.1 w' (hM.bel.trans (h : Below W.heap.size wr w'))
                have HM := Lib.hid hM.bel
                clear hM
                go_wp2_with fail
                refine hcd.mono ?_
                rintro e w16 ⟨hb16, A16, c16, rfl⟩
                have hlv := hlv w16 (hb16.mono HM.out.size)
                have HB16 := Lib.hid (HM.out.trans (hb16.mono HM.out.size))
                clear hb16 hcd
                go_wp2_with fail
                refine hlv.mono ?_
                rintro e w17 ⟨rfl, hb17⟩
                have HB17 := Lib.hid hb17
                clear hb17 hlv
                go_wp2_with fail
                go_ret
                exact ⟨rfl, HB16.out.trans (HB17.out.mono HB16.out.size)⟩
  · have q1 : (20 : Int) < (ln : Int) := by omega
    go_wp2_with fail
    refine (hlive _ (((Below.refl _ _).alloc (Nat.le_refl _) _).alloc (by simp) _)).mono ?_
    rintro e w' ⟨rfl, hb2⟩
    go_wp2_with fail
    go_ret
    exact ⟨rfl, (((Below.refl _ _).alloc (Nat.le_refl _) _).alloc (by simp) _).trans (hb2.mono (by simp; omega))⟩
end Go.Proofs.YtdiameckiihppaaDoor
