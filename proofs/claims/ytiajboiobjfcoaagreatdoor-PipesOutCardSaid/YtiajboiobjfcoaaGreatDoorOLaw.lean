/-
  What is proved here: what plugboardlaw23.PipesOut returns.
  Conditions: what its argument's cells hold; what the law's examples return.
-/
import Derived.Test.YtiajboiobjfcoaaGreatDoorOCalls
import Derived.Test.YtiajboiobjfcoaaGreatDoorOR10
import Derived.Test.YtiajboiobjfcoaaGreatDoorIWire
import Derived.Deep.CutRange
import Derived.Deep.CutBlock
import Derived.Deep.DeepCutAuto
namespace Go.Proofs.YtiajboiobjfcoaaGreatDoor
open Go.Proofs Go.RowKit
attribute [local go_sem] lt2 lt3 lt4 lt5
attribute [-go_sem] Builtin.append_
open Go.Sy in
theorem laid_below {W w : World} {g : List (Nat × List V)} (hw : LaidW W g) (hb : Below W.heap.size W w) : LaidW w g := by
 obtain ⟨bs, h⟩ := hw
 refine ⟨bs, fun ρ x hx => ⟨(h ρ x hx).1, ?_⟩⟩
 have h2 := (h ρ x hx).2
 have hl : (lyB x).live (cx0 bs ρ) := by rcases lyB_cases x with ⟨_, e⟩ | ⟨_, e⟩ <;> rw [e] <;> trivial
 exact h2.world (hb.block _ (h2.lt hl))
def LoopO (w : World) (ws : List Int) (aA : Option Addr) (an ac G B1 L R P : Nat) (h1 : w.heap.size ≤ B1) (h2 : G < B1) (h3 : ∀ i, (i = L ∨ i = R) → w.heap.size ≤ i ∧ i < B1 ∧ i ≠ G) (xC : Array Value) (kind per : Int) (js : List (List Int)) (i : Nat) (sv : Value) (wr : World) : Prop :=
 ∃ (S : Nat → Prop) (t : List Int) (g : GrS) (tg ha : Bool) (sent : List Int),
  (mO ws aA an ac G w.heap.size B1 L R h1 h2 h3).I wr S (t, g) ∧ Below w.heap.size w wr ∧ (∀ i, S i → w.heap.size ≤ i) ∧
  wr.heap[w.heap.size]? = some (.cells xC 25 (0, 0)) ∧ ¬ S w.heap.size ∧
  wr.heap[P]? = some (.cells (spC kind per false tg ha) 30 (0, 0)) ∧ ¬ S P ∧
  wr.ownsRow B1 5 1 sv sent.length (sent.map (Value.int .u8)) ∧ (∀ i, sv.ownBlock = some i → ¬ S i) ∧ (∀ x ∈ sent, 0 ≤ x ∧ x ≤ 255) ∧
  (ha = false → g.taken = sent ∧ g.tg = tg) ∧ sent.length ≤ sumTo js i ∧ g.at_ ≤ 800 * i ∧ g.many ≤ sumTo js i + 2 * i ∧ g.nx = 0
set_option maxHeartbeats 8000000 in
set_option maxRecDepth 1000000 in
theorem out_law (jA : Option Addr) (jn jc : Nat) (sA : Option Addr) (sn sc : Nat) (fA : Option Addr) (fn fc : Nat) (aA : Option Addr) (an ac : Nat) (z intr : Bool) (vs : List Value) (js : List (List Int)) (ss fs ws : List Int) (w : World)
    (hS : Sls w jA jn jc vs) (hll : vs.length = js.length) (hjn : jn ≤ 1000000000000000) (hle : ∀ (j : Nat) v b, vs[j]? = some v → js[j]? = some b → ∃ A n c, v = .slice A n c ∧ U8 w A n c b ∧ n ≤ 1000000000000000 ∧ Pl A n)
    (hss : U8 w sA sn sc ss) (hfs : U8 w fA fn fc fs) (hws : U8 w aA an ac ws)
    (hlives : ∀ w', Below w.heap.size w w' → Calls Tryz.prog 7 #[] w' (Go.Sy.LawEnd w')) (hlaid : Go.Sy.LaidW w stG) (hsm : smallB jn js fn an = true) :
    Calls Tryz.prog 3 #[.agg (sC jA jn jc sA sn sc fA fn fc aA an ac z intr)] w (Go.Sy.LawEnd w) := by
  have hsm' := of_decide_eq_true hsm
  have HSM := Lib.hid hsm'
  have hsmall := fun w' (hb : Below w.heap.size w w') => small_ret jA jn jc sA sn sc fA fn fc aA an ac z intr vs js w' (hS.below hb) hll hjn (fun j v b hv hb' => by
    obtain ⟨A, n, c, e, hu, hn, _⟩ := hle j v b hv hb'
    exact ⟨A, n, c, e, hu.below hb, hn⟩)
  simp only [hsm] at hsmall
  have HLE := Lib.hid hle
  have HLI := Lib.hid hlives
  have hb0 : Below w.heap.size w (w.alloc (.cells (sC jA jn jc sA sn sc fA fn fc aA an ac z intr) 25)) := (Below.refl w.heap.size w).alloc (Nat.le_refl _) _
  have hX0 := heap_alloc_new w (.cells (sC jA jn jc sA sn sc fA fn fc aA an ac z intr) 25)
  clear hsm hsm' hle hlives
  generalize hxC : sC jA jn jc sA sn sc fA fn fc aA an ac z intr = xC at *
  have hxs : xC.size = 6 := by rw [← hxC]; rfl
  have x0 : xC[0]? = some (.slice jA jn jc) := by rw [← hxC]; rfl
  have x1 : xC[1]? = some (.slice sA sn sc) := by rw [← hxC]; rfl
  have x2 : xC[2]? = some (.slice fA fn fc) := by rw [← hxC]; rfl
  have x3 : xC[3]? = some (.slice aA an ac) := by rw [← hxC]; rfl
  have x4 : xC[4]? = some (.bool z) := by rw [← hxC]; rfl
  have x5 : xC[5]? = some (.bool intr) := by rw [← hxC]; rfl
  have i6 : (Tryz.prog.info? 25).map (·.size) = some 6 := by kernel_rfl
  have hxv : (Value.agg xC).cells = xC := rfl
  go_enter Tryz.func3, Tryz.ntmps3
  go_upto_region 1 with fail
  go_wp2_with (guard_target =~ wpList _ _ _ (_ :: _) _ _; refine wpList_load_row rfl (.tmp 1) 25 rfl w.heap.size 25 _ _ rfl hX0 Tryz.underlying25 rfl (by rw [i6, hxs]) ?_)
  refine (hsmall _ hb0).mono ?_
  rintro e w1 ⟨rfl, hb1⟩
  clear hsmall
  have hX1 := heap_below hX0 hb1
  have hXl : w.heap.size < w1.heap.size := (Array.getElem?_eq_some_iff.1 hX1).1
  have hbw1 := hb0.trans (hb1.mono hb0.size)
  have c5 := (cell_of hX1 5).trans x5
  clear hX0
  go_wp2_with fail
  refine (stream_ret false intr w1).mono ?_
  rintro e w2 ⟨rfl, hb2⟩
  have hX2 := heap_below hX1 hb2
  have hbw2 := hbw1.trans (hb2.mono hbw1.size)
  obtain ⟨kind, hkd⟩ : ∃ k : Int, (if intr = true then 3 else 2) = k := ⟨_, rfl⟩
  obtain ⟨per, hpr⟩ : ∃ k : Int, (if intr = true then 8 else 0) = k := ⟨_, rfl⟩
  have hkp : SpK kind per := by
    cases intr
    · exact .inl ⟨hkd.symm, hpr.symm⟩
    · exact .inr ⟨hkd.symm, hpr.symm⟩
  rw [hkd, hpr]
  have HKP := Lib.hid hkp
  clear hkd hpr hkp c5 hX1
  go_wp2_with (guard_target =~ wpList _ _ _ (_ :: _) _ _; first
    | (refine wpList_store_row rfl (.tmp 3) (.tmp 19) 30 rfl w2.heap.size 0 30 _ _ (spC kind per false false false) rfl rfl (heap_alloc_new w2 _) (by kernel_rfl) (Nat.le_refl 11) rfl (row_same rfl) ?_
       intro w3 hP3 hW3
       have hb23 : Below w2.heap.size w2 w3 := ((Below.refl _ w2).alloc (Nat.le_refl _) _).trans (hW3.below (Nat.le_refl _))
       have hX3 := heap_below hX2 hb23
       have hbw3 := hbw2.trans (hb23.mono hbw2.size)
       have c3 := (cell_of hX3 3).trans x3
       have hGn : ∀ o, (w3.alloc o).heap[w.heap.size]? = some (.cells xC 25 (0, 0)) := fun o => heap_below hX3 ((Below.refl _ w3).alloc (Nat.le_refl _) o)
       have c2 := fun o => (cell_of (hGn o) 2).trans x2))
  have hsz3 : w2.heap.size < w3.heap.size := (Array.getElem?_eq_some_iff.1 hP3).1
  have hG4 := heap_alloc_new w3 (.cells #[.int .u8 2, .bool false, .bool false, .bool false, .slice aA an ac, .int .i64 0, .slice none 0 0, .int .i64 0, .bool false, .bool false, .slice none 0 0, .int .i64 0] 34)
  have hb34 := (Below.refl w3.heap.size w3).alloc (Nat.le_refl _) (.cells #[.int .u8 2, .bool false, .bool false, .bool false, .slice aA an ac, .int .i64 0, .slice none 0 0, .int .i64 0, .bool false, .bool false, .slice none 0 0, .int .i64 0] 34)
  have hbw4 := hbw3.trans (hb34.mono hbw3.size)
  refine (wire_ret fA fn fc fs _ (hfs.below hbw4) (by have := HSM.out; omega)).mono ?_
  rintro e w5 ⟨L, R, rfl, hL, hb45, hL1, hR1⟩
  have hsz4 : (w3.alloc (.cells #[.int .u8 2, .bool false, .bool false, .bool false, .slice aA an ac, .int .i64 0, .slice none 0 0, .int .i64 0, .bool false, .bool false, .slice none 0 0, .int .i64 0] 34)).heap.size = w3.heap.size + 1 := by simp
  rw [hsz4] at hb45 hL1 hR1
  have hX5 := heap_below (heap_below hX3 hb34) (by rw [← hsz4] at hb45; exact hb45)
  have hP5 := heap_below (heap_below hP3 hb34) (by rw [← hsz4] at hb45; exact hb45)
  have hG5 := heap_below hG4 (by rw [← hsz4] at hb45; exact hb45)
  have hsw3 := hbw3.size
  have hsw2 := hbw2.size
  have hbw5 := hbw4.trans (hb45.mono (by omega))
  obtain ⟨G, hGe⟩ : ∃ G, w3.heap.size = G := ⟨_, rfl⟩
  obtain ⟨P, hPe⟩ : ∃ P, w2.heap.size = P := ⟨_, rfl⟩
  obtain ⟨B1, hBe⟩ : ∃ B1, w5.heap.size = B1 := ⟨_, rfl⟩
  have hLl := hL.lt
  have hs12 := hb2.size
  rw [hGe] at hsz3 hsz4 hb45 hL1 hR1 hG5 hsw3
  rw [hPe] at hsz3 hP5 hsw2 hs12
  rw [hBe] at hLl
  have h2 : G < B1 := by have := hb45.size; omega
  have h1 : w.heap.size ≤ B1 := by omega
  have h3 : ∀ i, (i = L ∨ i = R) → w.heap.size ≤ i ∧ i < B1 ∧ i ≠ G := by
    rintro i (rfl | rfl) <;> omega
  have hstart : LoopO w ws aA an ac G B1 L R P h1 h2 h3 xC kind per js 0 (.slice none 0 0) w5 := by
    refine ⟨fun i => i = G ∨ i = L ∨ i = R, fs.map faultOf, ⟨false, 0, 0, false, false, [], 0⟩, false, false, [], ?_, hbw5, fun i hi => ?_, hX5, ?_, hP5, ?_, World.ownsRow_nil _ _ _ _, fun i hi => by simp [Value.ownBlock] at hi, fun x hx => (nomatch hx), fun _ => ⟨rfl, rfl⟩, by simp, by simp, by simp, rfl⟩
    · refine ⟨.slice none 0 0, ⟨hG5, World.ownsRow_nil _ _ _ _, fun x hx => (nomatch hx), ?_⟩, hL, fun i => ⟨fun h => h.elim .inl fun h => .inr (.inr h), fun h => h.elim .inl fun h => h.elim (fun h => by simp [Value.ownBlock] at h) .inr⟩, by omega, rfl⟩
      refine ⟨hws.below hbw5, (⟨rfl, Nat.le_refl _, .inl ⟨rfl, rfl, rfl⟩⟩ : Sls w5 none 0 0 []), ⟨rfl, fun j v b hj => by simp [kO] at hj⟩, ?_, .inl rfl, fun j A n c hj => by simp [kO] at hj⟩
      rcases u8_lt hws with h0 | h0
      · exact .inl h0
      · rcases hws.2.2.2 with ⟨_, h, _⟩ | ⟨a, rfl, _⟩
        · exact .inl h
        · exact .inr ⟨a, rfl, h0 a rfl, by have := h0 a rfl; omega⟩
    · rcases hi with rfl | hi
      · omega
      · exact (h3 i hi).1
    · rintro (h | h | h) <;> omega
    · rintro (h | h | h) <;> omega
  have hXB : w.heap.size < B1 := by omega
  have hPB : P < B1 := by omega
  have hXP : w.heap.size < P := by omega
  have HST := Lib.hid hstart
  clear hstart hX5 hP5 hG5 hbw5 hb45 hL hL1 hR1 hLl hXl hb34 hbw4 hG4 hX3 hP3 hbw3 hb23 hW3 c3 c2 hGn hbw2 hX2 hb2 hbw1 hb1 hsz3 hsz4 hsw3 hsw2 hs12 hb0
  go_wp2_with fail
  go_loopw [6, 7] (fun sv i wr => ∃ k : Nat, i = .int .i64 k ∧ k ≤ jn ∧ LoopO w ws aA an ac G B1 L R P h1 h2 h3 xC kind per js k sv wr) (fun _ i _ => jn - (intOf i).toNat)
  case atStart => exact ⟨0, rfl, by omega, HST.out⟩
  case round =>
    obtain ⟨k, rfl, hk, hL⟩ := hrel
    obtain ⟨S, t, g, tg, ha, sent, hI, hbw, hSge, hX, hXS, hP, hPS, hown, hoS, hsr, hinv, hsl, hat, hmany, hnx⟩ := hL
    have c0 := (cell_of hX 0).trans x0
    have p10 : wr.cell? ⟨P, 10, none⟩ = some (.bool ha) := cell_of hP 10
    by_cases hlt : k < jn ∧ ha = false
    · obtain ⟨hlt, rfl⟩ := hlt
      have q4 : (k : Int) < (jn : Int) := by omega
      have hsm := HSM.out
      have hvl := hS.1
      have hkv : k < vs.length := by omega
      obtain ⟨b, hbk⟩ : ∃ b, js[k]? = some b := ⟨_, List.getElem?_eq_getElem (by omega)⟩
      obtain ⟨A1, m, c, hv, hu, _, hPl⟩ := HLE.out k _ b (List.getElem?_eq_getElem hkv) hbk
      have hvk : vs[k]? = some (.slice A1 m c) := by rw [List.getElem?_eq_getElem hkv, hv]
      obtain ⟨_, hjc, ⟨_, h0, _⟩ | ⟨ja, rfl, hca⟩⟩ := id hS
      · omega
      have ck := (hbw.cell (World.block_lt_of_cell? _ _ (hca k _ hvk))).trans (hca k _ hvk)
      have hml : b.length = m := hu.1
      have hsk : sumTo js (k + 1) = sumTo js k + m := by rw [sumTo_succ, hbk]; simp [hml]
      have hsf : sumTo js (k + 1) ≤ 300 := by
        have := take_flat_le js (k + 1)
        rw [← sumTo_flat] at this
        omega
      obtain ⟨hsame, htg⟩ := hinv rfl
      have hu1 := hu.below hbw
      have HCA := Lib.hid hca
      have HVK := Lib.hid hvk
      have c4 := (cell_of hX 4).trans x4
      have hcat := HKP.out
      clear hca hvk hv hinv
      go_upto_region 10 with fail
      refine r10 (wC := wr) (kind := kind) (per := per) (tg := tg) (z := z) (Lk := cutL 8 z b) (X := w.heap.size) (Pb := P) (pC := spC kind per false tg false) (ja := ja) (jn := jn) (jc := jc) (k := k) (A1 := A1) (m := m) (c := c) (by kernel_rfl) rfl
        ⟨_, rfl, rfl, rfl, rfl, by kernel_rfl⟩ ⟨_, rfl, rfl, rfl, rfl, by kernel_rfl⟩ ⟨_, rfl, rfl, rfl, rfl, by kernel_rfl⟩ ⟨_, rfl, rfl, rfl, rfl, by kernel_rfl⟩ ⟨_, rfl, rfl, rfl, rfl, by kernel_rfl⟩ ⟨_, rfl, rfl, rfl, rfl, by kernel_rfl⟩ ⟨_, rfl, rfl, rfl, rfl, by kernel_rfl⟩ ⟨_, rfl, rfl, rfl, rfl, by kernel_rfl⟩ ⟨_, rfl, rfl, rfl, rfl, by kernel_rfl⟩ ⟨_, rfl, rfl, rfl, rfl, by kernel_rfl⟩ ⟨_, rfl, rfl, rfl, rfl, by kernel_rfl⟩ ⟨_, rfl, rfl, rfl, rfl, by kernel_rfl⟩ ⟨_, rfl, rfl, rfl, rfl, by kernel_rfl⟩ ⟨_, rfl, rfl, rfl, rfl, by kernel_rfl⟩ ⟨_, rfl, rfl, rfl, rfl, by kernel_rfl⟩ ⟨_, rfl, rfl, rfl, rfl, by kernel_rfl⟩
        rfl rfl rfl rfl hP rfl rfl c0 c4 ck hlt (fun w' hw' => beg_str hcat tg z A1 m c b w' (hu1.below hw') hPl (by omega)) ?_
      intro a w2 V A hF h8 h9 hRB
      rw [hF.puts]
      simp only [List.foldl_cons, List.foldl_nil, h8, h9]
      generalize a.eval (.tmp 40) = y40
      generalize a.eval (.tmp 41) = y41
      generalize a.eval (.tmp 42) = y42
      generalize a.eval (.tmp 43) = y43
      generalize a.eval (.tmp 44) = y44
      generalize a.eval (.tmp 45) = y45
      generalize a.eval (.tmp 46) = y46
      generalize a.eval (.tmp 47) = y47
      generalize a.eval (.tmp 48) = y48
      generalize a.eval (.tmp 49) = y49
      generalize a.eval (.tmp 39) = y39
      generalize a.eval (.tmp 50) = y50
      generalize a.eval (.tmp 51) = y51
      simp only [Act.put, List.setIfInBounds_toArray, List.set_cons_succ, List.set_cons_zero]
      obtain ⟨⟨hbr2, hhas⟩, _, LA, lc, rfl, hplA, hpk⟩ := hRB
      have hVA := (hhas _ (List.mem_singleton.2 rfl)).1
      have hAge := (hhas _ (List.mem_singleton.2 rfl)).2
      have hI2 := Bus.below hI hbr2
      have hX2 := heap_below hX hbr2
      have hP2 := heap_below hP hbr2
      have hown2 := own_below hown hbr2
      have hbw2 := hbw.trans (hbr2.mono hbw.size)
      obtain ⟨tv, hGA, _, _, _, _⟩ := id hI2
      have c11 : w2.cell? ⟨G, 11, none⟩ = some (.int .i64 (g.many : Int)) := cell_of hGA.box 11
      have hSlt : ∀ i, S i → i < wr.heap.size := fun i hi => (mO ws aA an ac G w.heap.size B1 L R h1 h2 h3).lt hI i hi
      have hAS : ¬ S A := fun hs => by have := hSlt _ hs; simp at hAge; omega
      have HGA := Lib.hid hGA
      clear hGA
      go_upto_region 14 with fail
      have hsyn : Syn (cutL 8 z b) sent g.many (h00 tg) g := by
        have hpos := cutL_pos z b
        exact ⟨.inl ⟨htg, by rw [hsame]; simp [h00], rfl⟩, by simp [h00], fun _ => ⟨by show 0 < _; omega, rfl, by show 0 < 3; omega⟩, fun h => by simp [h00] at h⟩
      have hst8 := stepsOf_le ss k
      refine r14 (wC := w2) (S0 := S) (R1 := R1O ws aA an ac G w.heap.size B1 L R h1 h2 h3 w2 S kind per tg z b (t, g) (stepsOf ss k)) (R2 := R2O ws aA an ac G w.heap.size B1 L R h1 h2 h3 w2 S kind per tg z b (t, g) (stepsOf ss k)) (G := G) (L := L) (X := w.heap.size) (bW := A) (xC := xC) (ix := (k : Int)) (st := (stepsOf ss k : Int)) (by kernel_rfl) rfl
        ⟨_, rfl, rfl, rfl, rfl, by kernel_rfl⟩ ⟨_, rfl, rfl, rfl, rfl, by kernel_rfl⟩ ⟨_, rfl, rfl, rfl, rfl, by kernel_rfl⟩ ⟨_, rfl, rfl, rfl, rfl, by kernel_rfl⟩ ⟨_, rfl, rfl, rfl, rfl, by kernel_rfl⟩ ⟨_, rfl, rfl, rfl, rfl, by kernel_rfl⟩ ⟨_, rfl, rfl, rfl, rfl, by kernel_rfl⟩ ⟨_, rfl, rfl, rfl, rfl, by kernel_rfl⟩ ⟨_, rfl, rfl, rfl, rfl, by kernel_rfl⟩ ⟨_, rfl, rfl, rfl, rfl, by kernel_rfl⟩ ⟨_, rfl, rfl, rfl, rfl, by kernel_rfl⟩ ⟨_, rfl, rfl, rfl, rfl, by kernel_rfl⟩ ⟨_, rfl, rfl, rfl, rfl, by kernel_rfl⟩ ⟨_, rfl, rfl, rfl, rfl, by kernel_rfl⟩ ⟨_, rfl, rfl, rfl, rfl, by kernel_rfl⟩ ⟨_, rfl, rfl, rfl, rfl, by kernel_rfl⟩ ⟨_, rfl, rfl, rfl, rfl, by kernel_rfl⟩
        rfl rfl rfl rfl rfl rfl hVA hAS rfl hX2 hXS hxs rfl rfl
        (r1_good ws aA an ac G w.heap.size B1 L R h1 h2 h3 w2 S kind per tg z b (t, g) (stepsOf ss k)) (r2_good ws aA an ac G w.heap.size B1 L R h1 h2 h3 w2 S kind per tg z b (t, g) (stepsOf ss k)) (fun h => r2_sz ws aA an ac G w.heap.size B1 L R h1 h2 h3 w2 S kind per tg z b (t, g) (stepsOf ss k) h)
        (fun o h hb hW hH hs => r2_wr ws aA an ac G w.heap.size B1 L R h1 h2 h3 w2 S kind per tg z b (t, g) (stepsOf ss k) hbw2.size o h hb hW hH hs)
        (fun w' hw' => ?_)
        (run_c ws aA an ac G w.heap.size B1 L R h1 h2 h3 w2 S kind per tg z b (t, g) (stepsOf ss k) hcat sent g.many hI2 hsyn LA lc hplA ?_ hst8 ?_ ?_ ?_ ?_ ?_)
        (stop_c ws aA an ac G w.heap.size B1 L R h1 h2 h3 w2 S kind per tg z b (t, g) (stepsOf ss k) hcat sent g.many hsyn ?_ ?_) ?_
      · rw [← hxC]
        exact steps_ret _ _ _ _ _ _ _ _ _ _ _ _ _ _ ss k w' (hss.below (hbw2.trans (hw'.mono hbw2.size))) (by omega)
      · exact hpk.wide fun i hi => by
          obtain ⟨h, cs, t', h7, _⟩ := hi
          exact ⟨(Array.getElem?_eq_some_iff.1 h7).1, fun hs => by have := hSlt _ hs; omega⟩
      · omega
      · omega
      · show g.at_ ≤ 100000
        omega
      · show g.nx ≤ 1000
        omega
      · omega
      · omega
      · exact fun w' hmv => laid_below hlaid (hbw2.trans ⟨hmv.os, hmv.tape, hmv.output, hmv.size, fun i hi => hmv.block i (by have := hbw2.size; omega) (fun hs => by have := hSge _ hs; omega)⟩)
      intro a' w3 Vr Vq A' B' hF' h11 h12 hR2 hne
      rw [hF'.puts]
      simp only [List.foldl_cons, List.foldl_nil, h11, h12]
      generalize a'.eval (.tmp 59) = z59
      generalize a'.eval (.tmp 60) = z60
      generalize a'.eval (.tmp 61) = z61
      generalize a'.eval (.tmp 62) = z62
      generalize a'.eval (.tmp 63) = z63
      generalize a'.eval (.tmp 64) = z64
      generalize a'.eval (.tmp 65) = z65
      generalize a'.eval (.tmp 66) = z66
      generalize a'.eval (.tmp 67) = z67
      generalize a'.eval (.tmp 68) = z68
      generalize a'.eval (.tmp 58) = z58
      generalize a'.eval (.tmp 69) = z69
      generalize a'.eval (.tmp 70) = z70
      simp only [Act.put, List.setIfInBounds_toArray, List.set_cons_succ, List.set_cons_zero]
      obtain ⟨hhas3, S', mm, A2, cap, ⟨hmm, hov, hmv, hbs3, hI3⟩, rfl, rfl⟩ := hR2
      have hfacts := strK_facts (lineWire w.heap.size L R) (kO ws aA an ac) (cutL 8 z b) (t, g) (h00 tg) sent g.many hsyn mm hov mm (Nat.le_refl _)
      obtain ⟨hh, hhe⟩ : ∃ hh, (stK ws aA an ac w.heap.size L R tg z b (t, g) mm).2 = hh := ⟨_, rfl⟩
      obtain ⟨⟨t3, g3⟩, hge3⟩ : ∃ x, (stK ws aA an ac w.heap.size L R tg z b (t, g) mm).1 = x := ⟨_, rfl⟩
      have hfacts2 : Syn (cutL 8 z b) sent g.many hh g3 ∧ g3.at_ ≤ g.at_ + mm ∧ g3.nx = g.nx := by
        have e1 : (strK (lineWire w.heap.size L R) (kO ws aA an ac) (cutL 8 z b) (t, g) (h00 tg) mm).2 = hh := hhe
        have e2 : (strK (lineWire w.heap.size L R) (kO ws aA an ac) (cutL 8 z b) (t, g) (h00 tg) mm).1 = (t3, g3) := hge3
        rw [e1, e2] at hfacts
        exact hfacts
      obtain ⟨hsy3, hat3, hnx3⟩ := hfacts2
      have hfin := out_fin hsy3
      rw [hge3] at hI3
      rw [hhe] at hhas3
      have hA3 := (hhas3 _ (List.mem_cons_self ..)).1
      have hAge3 := (hhas3 _ (List.mem_cons_self ..)).2
      have hB3 := (hhas3 _ (List.mem_cons_of_mem _ (List.mem_cons_self ..))).1
      have hBge3 := (hhas3 _ (List.mem_cons_of_mem _ (List.mem_cons_self ..))).2
      have hAS3 := hbs3 _ (List.mem_cons_self ..)
      have hBS3 := hbs3 _ (List.mem_cons_of_mem _ (List.mem_cons_self ..))
      dsimp only at hA3 hB3 hAge3 hBge3 hAS3 hBS3
      have hX3 := hmv.heap hX2 hXS
      have hP3 := hmv.heap hP2 hPS
      have hXS3 := hmv.out (Array.getElem?_eq_some_iff.1 hX2).1 hXS
      have hPS3 := hmv.out (Array.getElem?_eq_some_iff.1 hP2).1 hPS
      have hown3 : w3.ownsRow B1 5 1 u6 sent.length (sent.map (Value.int .u8)) := by
        refine ⟨hown2.1, hown2.2.imp id ?_⟩
        rintro ⟨q, cap, cur, rfl, hq, hh, h3⟩
        exact ⟨q, cap, cur, rfl, hq, hmv.heap hh (hoS q rfl), h3⟩
      have HOL2 : Hid (∀ i, u6.ownBlock = some i → i < w2.heap.size) := Lib.hid (fun i hi => (hown2.lt i hi).2)
      have hoS3 : ∀ i, u6.ownBlock = some i → ¬ S' i := fun i hi hs => hoS i hi (hmv.sub i (hown2.lt i hi).2 hs)
      have hbw3 : Below w.heap.size w w3 := hbw2.trans ⟨hmv.os, hmv.tape, hmv.output, hmv.size, fun i hi => hmv.block i (by have := hbw2.size; omega) (fun hs => by have := hSge _ hs; omega)⟩
      have hSge3 : ∀ i, S' i → w.heap.size ≤ i := fun i hi => by
        by_cases hlt : i < w2.heap.size
        · exact hSge i (hmv.sub i hlt hi)
        · have := hbw2.size; omega
      obtain ⟨act, hact⟩ : ∃ act, sumTo (cutL 8 z b) hh.k = act := ⟨_, rfl⟩
      obtain ⟨e3, he3⟩ : ∃ e3, stE hh = e3 := ⟨_, rfl⟩
      obtain ⟨ha3, hha3⟩ : ∃ ha3, stHa hh = ha3 := ⟨_, rfl⟩
      obtain ⟨tg3, htg3⟩ : ∃ tg3, hh.tg = tg3 := ⟨_, rfl⟩
      rw [hact, he3, hha3, htg3] at hfin
      rw [hact, he3] at hA3
      rw [hha3, htg3] at hB3
      have HFIN := Lib.hid hfin
      have HI3 := Lib.hid hI3
      have ck3 := (hbw3.cell (World.block_lt_of_cell? _ _ (HCA.out k _ HVK.out))).trans (HCA.out k _ HVK.out)
      have c03 := (cell_of hX3 0).trans x0
      have a0 : w3.cell? ⟨A', 0, none⟩ = some (.int .i64 e3) := cell_of hA3 0
      have a1 : w3.cell? ⟨A', 1, none⟩ = some (.slice A2 0 cap) := cell_of hA3 1
      have a2 : w3.cell? ⟨A', 2, none⟩ = some (.int .i64 (act : Int)) := cell_of hA3 2
      have a3 : w3.cell? ⟨A', 3, none⟩ = some (.slice none 0 0) := cell_of hA3 3
      have hle := hfin.le
      have d1 : decide ((act : Int) < 0) = false := by simp
      have d2 : decide (m < act) = false := by simp; omega
      clear hfin hhas3 hbs3 hov hfacts hsy3 hha3 he3 hact htg3 hhe hge3 hI3 ck c0 c4 c11 p10 hVA hpk hhas hX hP hX2 hP2 hown hown2
      go_upto_region 15 with fail
      go_quiet (fail)
      go_upto_region 17 with fail
      have hB1 : B1 ≤ w3.heap.size := by
        obtain ⟨_, _, _, _, hB, _⟩ := HI3.out
        exact hB
      have hact300 : act ≤ 300 := by omega
      have hu3 : U8 (w3.drewN (nq + 1)) A1 act c (b.take act) := ((hu.below hbw3).take (by omega)).drewN (nq + 1)
      obtain ⟨sv, w4, hrun, hown4, hgr4, hat4⟩ := app8 (w := w3.drewN (nq + 1)) (B1 := B1) (tv := u6) (ys := sent) (xs := b.take act) (A := A1) (n := act) (c := c) hown3 hu3 (by omega) (by omega) hB1
      have HOWN4 := Lib.hid hown4
      have HGR4 := Lib.hid hgr4
      have HAT4 := Lib.hid hat4
      have q5 : (act : Int) ≤ (c : Int) := by have := hu.2.2.1; omega
      have q6 : (0 : Int) ≤ (act : Int) := by omega
      have hA1 : A1 = none ∧ m = 0 ∧ c = 0 ∨ ∃ a, A1 = some a := hu.2.2.2.imp id (fun ⟨a, h, _⟩ => ⟨a, h⟩)
      have hown3' := hown3
      have hol2 : ∀ i, u6.ownBlock = some i → i < w2.heap.size := HOL2.out
      clear hown4 hgr4 hat4 hown3
      go_region
      have hkeep4 : ∀ i, i < w3.heap.size → u6.ownBlock ≠ some i → w4.heap[i]? = w3.heap[i]? := fun i hi hne => HGR4.out.block i hi (fun e => hne e.symm)
      have hown6 := hown3'
      have hol6 : ∀ i, u6.ownBlock = some i → B1 ≤ i ∧ i < w2.heap.size := fun i hi => ⟨(hown6.lt i hi).1, hol2 i hi⟩
      have hA2s : w2.heap.size ≤ A' := hAge3
      have hB2s : w2.heap.size ≤ B' := hBge3
      have hA4 := (hkeep4 A' (Array.getElem?_eq_some_iff.1 hA3).1 (fun e => by have := (hol6 _ e).2; omega)).trans hA3
      have hB4 := (hkeep4 B' (Array.getElem?_eq_some_iff.1 hB3).1 (fun e => by have := (hol6 _ e).2; omega)).trans hB3
      have hX4 := (hkeep4 _ (Array.getElem?_eq_some_iff.1 hX3).1 (fun e => by have := (hol6 _ e).1; omega)).trans hX3
      have hP4 := (hkeep4 _ (Array.getElem?_eq_some_iff.1 hP3).1 (fun e => by have := (hol6 _ e).1; omega)).trans hP3
      have hs4 : w3.heap.size ≤ w4.heap.size := HGR4.out.size
      have hI4 : (mO ws aA an ac G w.heap.size B1 L R h1 h2 h3).I w4 S' (t3, g3) := Bus.keep (mO ws aA an ac G w.heap.size B1 L R h1 h2 h3) HI3.out (fun i hi => by
        rcases hi with hi | hi
        · have hi : i < w.heap.size := hi
          exact hkeep4 i (by have := hbw3.size; omega) (fun e => by have := (hol6 _ e).1; omega)
        · exact hkeep4 i ((mO ws aA an ac G w.heap.size B1 L R h1 h2 h3).lt HI3.out i hi) (fun e => hoS3 i e hi)) hs4
      have hbw4 : Below w.heap.size w w4 := hbw3.trans ⟨HGR4.out.os, HGR4.out.tape, HGR4.out.output, hs4, fun i hi => hkeep4 i (by have := hbw3.size; omega) (fun e => by have := (hol6 _ e).1; omega)⟩
      obtain ⟨tv3, hGA4, _, _, _, _⟩ := id hI4
      obtain ⟨n4, hn4⟩ : ∃ n4, (sent ++ b.take act).length = n4 := ⟨_, rfl⟩
      obtain ⟨T, hT⟩ : ∃ T, g3.taken.length = T := ⟨_, rfl⟩
      have hsr4 : ∀ x ∈ sent ++ b.take act, 0 ≤ x ∧ x ≤ 255 := fun x hx => (List.mem_append.1 hx).elim (hsr x) (fun h => hu.2.1 x (List.mem_of_mem_take h))
      have hown4 := HOWN4.out
      rw [hn4] at hown4
      obtain ⟨sA4, sc4, rfl, hU4, _⟩ := u8_row hsr4 hown4
      have hownT := hGA4.own
      rw [hT] at hownT
      obtain ⟨tA, tc, rfl, hUT, _⟩ := u8_row hGA4.rng hownT
      have hfin := HFIN.out
      have hpre : sent ++ b.take act = g3.taken.take n4 := by rw [← hn4]; exact hfin.pre
      have hn4e : n4 = sent.length + act := by rw [← hn4, List.length_append, List.length_take]; omega
      rw [hpre] at hU4
      have hun : ∀ q, Calls Tryz.prog 14 #[.slice sA4 n4 sc4, .slice tA T tc] (w4.drewN q) fun e w' => e = .returned (.bool true) ∧ ∃ m, w' = (w4.drewN q).drewN m := fun q => begins_ret sA4 tA n4 sc4 T tc g3.taken (w4.drewN q) (hU4.drewN q) (hUT.drewN q)
      have hfar := hfin.far
      rw [hn4, hT] at hfar
      have g3c : w4.cell? ⟨G, 3, none⟩ = some (.bool g3.tg) := cell_of hGA4.box 3
      have g10 : w4.cell? ⟨G, 10, none⟩ = some (.slice tA T tc) := cell_of hGA4.box 10
      have g11 : w4.cell? ⟨G, 11, none⟩ = some (.int .i64 (g3.many : Int)) := cell_of hGA4.box 11
      have b9 : w4.cell? ⟨B', 9, none⟩ = some (.bool tg3) := cell_of hB4 9
      have b10 : w4.cell? ⟨B', 10, none⟩ = some (.bool ha3) := cell_of hB4 10
      have f0 : w4.cell? ⟨A', 0, none⟩ = some (.int .i64 e3) := cell_of hA4 0
      have f2 : w4.cell? ⟨A', 2, none⟩ = some (.int .i64 (act : Int)) := cell_of hA4 2
      have hw8 : IntKind.i64.wrap ((n4 : Int) + 8) = (n4 : Int) + 8 := IntWalk.i64_in _ (by omega)
      have d3 : decide (n4 + 8 < T) = false := by simp; omega
      have d4 : decide ((n4 : Int) + 8 < (T : Int)) = false := by simp; omega
      have HN4E := Lib.hid hn4e
      have HN4 := Lib.hid hn4
      have HT := Lib.hid hT
      clear hn4e hn4 hT
      have hrelW : ∀ w6, Wrote P w4 w6 → w6.heap[P]? = some (.cells (spC kind per false tg3 ha3) 30 (0, 0)) → LoopO w ws aA an ac G B1 L R P h1 h2 h3 xC kind per js (k + 1) (.slice sA4 n4 sc4) w6 := by
        intro w6 hW6 hP6
        have hsv : ∀ i, (Value.slice sA4 n4 sc4).ownBlock = some i → ¬ S' i ∧ i ≠ P := fun i hi => by
          rcases HAT4.out i hi with h | h
          · exact ⟨hoS3 i h, fun e => by have := (hol6 i h).1; omega⟩
          · have h : w3.heap.size ≤ i := h
            exact ⟨fun hs => by have := (mO ws aA an ac G w.heap.size B1 L R h1 h2 h3).lt HI3.out i hs; omega, fun e => by have := (Array.getElem?_eq_some_iff.1 hP3).1; omega⟩
        refine ⟨S', t3, g3, tg3, ha3, sent ++ b.take act, Bus.wrote hI4 hW6 (by show w.heap.size ≤ P; omega) hPS3, hbw4.trans (hW6.below (by omega)), hSge3, (hW6.other _ (by omega)).trans hX4, hXS3, hP6, hPS3, ?_, fun i hi => (hsv i hi).1, hsr4, fun h => ?_, ?_, ?_, ?_, ?_⟩
        · rw [HN4.out]
          exact own_wg (by have h := HOWN4.out; rw [HN4.out] at h; exact h) hW6 (fun i hi => (hsv i hi).2)
        · exact hfin.same h
        · rw [HN4.out, HN4E.out, hsk]; omega
        · omega
        · have hmy := hfin.many
          rw [hsk]
          omega
        · rw [hnx3]; exact hnx
      have HREL := Lib.hid hrelW
      have HP4 := Lib.hid hP4
      have HB4 := Lib.hid hB4
      have pq9 : w4.cell? ⟨P, 9, none⟩ = some (.bool tg) := cell_of hP4 9
      have pf9 := frozen_of hP4 9
      have pq10 : w4.cell? ⟨P, 10, none⟩ = some (.bool false) := cell_of hP4 10
      have pf10 := frozen_of hP4 10
      clear hrelW
      have HGA4 := Lib.hid hGA4
      have HSAME := Lib.hid hfin.same
      have HGOOD := Lib.hid hfin.good
      have HBAD := Lib.hid hfin.bad
      have HMANY := Lib.hid hfin.many
      have HI4 := Lib.hid hI4
      clear hfin hpre hU4 hUT hsr4 hown4 hownT hGA4 hI4 hkeep4 hol6 hown6 a0 a1 a2 a3 c03 ck3 hA3 hB3 hX3 hP3 d1 d2 hrun
      go_upto_region 18 with fail
      go_cut [146] from 105 to 145 (fun c wx => c = .bool false ∧ ∃ q, wx = w4.drewN q)
      case first =>
        cases ha3 with
        | false =>
          obtain ⟨hsm1, hsm2⟩ := HSAME.out rfl
          obtain rfl : T = n4 := by rw [← HT.out, hsm1]; exact HN4.out
          rw [hsm2] at g3c
          go_quiet ((go_at_call 14; exact Calls.quiet_of (hun _)))
          go_wp2_with fail
          go_meet
          exact ⟨rfl, _, rfl⟩
        | true =>
          go_quiet ((go_at_call 14; exact Calls.quiet_of (hun _)))
          go_wp2_with fail
          go_meet
          exact ⟨rfl, _, rfl⟩
      case rest =>
        obtain ⟨rfl, q1, rfl⟩ := hcut
        go_upto_region 20 with fail
        go_cut [183] from 147 to 182 (fun c wx => c = .bool false ∧ ∃ q, wx = w4.drewN q)
        case first =>
          by_cases he0 : e3 = 0
          · subst he0
            obtain ⟨hha0, hg2, hg3⟩ := HGOOD.out rfl
            subst hha0
            obtain rfl : act = m := by omega
            obtain ⟨pn, hpn⟩ : ∃ pn, (if z = true ∧ act % 8 = 0 then act / 8 + 1 else (act + 7) / 8) = pn := ⟨_, rfl⟩
            have hparts : ∀ wq : World, Calls Tryz.prog 15 #[.int .i64 (act : Int), .bool z] wq fun e w' => e = .returned (.int .i64 (pn : Int)) ∧ w' = wq := fun wq => by
              rw [← hpn]; exact parts_ret act z (by omega) wq
            have hsub : 0 < act → g3.many = g.many + pn := fun h => by rw [hg3 h, hpn]
            have HSUB := Lib.hid hsub
            have c4 : w4.cell? ⟨w.heap.size, 4, none⟩ = some (.bool z) := (cell_of hX4 4).trans x4
            have c04 : w4.cell? ⟨w.heap.size, 0, none⟩ = some (.slice (some ja) jn jc) := (cell_of hX4 0).trans x0
            have ck4 := (hbw4.cell (World.block_lt_of_cell? _ _ (HCA.out k _ HVK.out))).trans (HCA.out k _ HVK.out)
            clear hg2 hg3 hpn hsub
            by_cases h0 : 0 < act
            · have d5 : decide (0 < act) = true := by simp [h0]
              have hs := HSUB.out h0
              have hmy := HMANY.out
              obtain ⟨G3, hG3⟩ : ∃ G3, g3.many = G3 := ⟨_, rfl⟩
              rw [hG3] at g11 hs hmy
              obtain ⟨G2, hG2⟩ : ∃ G2, g.many = G2 := ⟨_, rfl⟩
              have hws : IntKind.i64.wrap ((G3 : Int) - (g.many : Int)) = (pn : Int) := by rw [hs]; exact (by rw [show ((g.many + pn : Nat) : Int) - (g.many : Int) = (pn : Int) by omega]; exact IntWalk.i64_in _ (by omega))
              clear hs hmy hG3 hG2
              go_quiet ((go_at_call 15; exact (hparts _).mono fun _ _ h => ⟨h.1, _, h.2⟩))
              go_wp2_with fail
              go_meet
              exact ⟨rfl, _, rfl⟩
            · have d5 : decide (0 < act) = false := by simp [h0]
              go_quiet (fail)
              go_wp2_with fail
              go_meet
              exact ⟨rfl, _, rfl⟩
          · have he1 : (e3 == 0) = false := by simp [he0]
            go_quiet (fail)
            go_wp2_with fail
            go_meet
            exact ⟨rfl, _, rfl⟩
        case rest =>
          obtain ⟨rfl, q2, rfl⟩ := hcut
          go_upto_region 22 with fail
          go_cut [196] from 184 to 195 (fun c wx => c = .bool false ∧ ∃ q, wx = w4.drewN q)
          case first =>
            by_cases he0 : e3 = 0
            · subst he0
              go_wp2_with fail
              go_meet
              exact ⟨rfl, _, rfl⟩
            · have he2 : (e3 != 0) = true := by simp [he0]
              by_cases he17 : e3 = 17
              · subst he17
                go_wp2_with fail
                go_meet
                exact ⟨rfl, _, rfl⟩
              · have he3 : (e3 != 17) = true := by simp [he17]
                have hhat := HBAD.out he0 he17
                subst hhat
                go_wp2_with fail
                go_meet
                exact ⟨rfl, _, rfl⟩
          case rest =>
            obtain ⟨rfl, q3, rfl⟩ := hcut
            go_upto_region 26 with fail
            obtain ⟨w6, hw6⟩ : ∃ w6, (((w4.drewN q3).setCell ⟨P, 9, none⟩ (.bool tg3)).setCell ⟨P, 10, none⟩ (.bool ha3)) = w6 := ⟨_, rfl⟩
            have hW6 : Wrote P w4 w6 := by rw [← hw6]; exact (((Wrote.refl P w4).drewN _).setCell 9 _).setCell 10 _
            have hP6 : w6.heap[P]? = some (.cells (spC kind per false tg3 ha3) 30 (0, 0)) := by rw [← hw6]; exact (((Put1.refl (w := w4.drewN q3) HP4.out).set 9 (.bool tg3)).set 10 (.bool ha3)).heap
            have hB6 : w6.heap[B']? = some (.cells (spC kind per false tg3 ha3) 30 (0, 0)) := (hW6.other B' (by omega)).trans HB4.out
            rw [hw6]
            clear hw6 pq9 pf9 pq10 pf10 g3c g10 g11 b9 b10 f0 f2 hun
            unfold spC at hP6 hB6
            go_wp2_with (guard_target =~ wpList _ _ _ (_ :: _) _ _; first
              | refine wpList_load_row rfl (.tmp 3) 30 rfl P 30 _ _ rfl hP6 Tryz.underlying30 rfl (by kernel_rfl) ?_
              | refine wpList_load_row rfl (.tmp 12) 30 rfl B' 30 _ _ rfl hB6 Tryz.underlying30 rfl (by kernel_rfl) ?_)
            go_round
            case rel => exact ⟨k + 1, by go_num, by omega, HREL.out w6 hW6 hP6⟩
            case measure => simp [intOf]; omega
    · have hlv := fun w' (hb : Below wr.heap.size wr w') => HLI.out w' (hbw.trans (hb.mono hbw.size))
      by_cases hk2 : k < jn
      · have q4 : (k : Int) < (jn : Int) := by omega
        obtain rfl : ha = true := by cases ha; exact absurd ⟨hk2, rfl⟩ hlt; rfl
        clear hlt
        go_wp2_with fail
        refine (hlv wr (Below.refl _ _)).mono ?_
        rintro e w7 ⟨rfl, hb7⟩
        go_wp2_with fail
        go_ret
        exact ⟨rfl, hbw.trans (hb7.mono hbw.size)⟩
      · have q4 : ¬ (k : Int) < (jn : Int) := by omega
        clear hlt
        go_wp2_with fail
        refine (hlv wr (Below.refl _ _)).mono ?_
        rintro e w7 ⟨rfl, hb7⟩
        go_wp2_with fail
        go_ret
        exact ⟨rfl, hbw.trans (hb7.mono hbw.size)⟩
end Go.Proofs.YtiajboiobjfcoaaGreatDoor
