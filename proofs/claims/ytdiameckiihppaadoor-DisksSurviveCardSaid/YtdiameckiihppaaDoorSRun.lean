/-
  What is proved here: run carries out the law's commands.
  Conditions: what Decode returns; what the disk's blocks hold.
-/
import Derived.Test.YtdiameckiihppaaDoorSDecode
namespace Go.Proofs.YtdiameckiihppaaDoor
open Go.Proofs Go.RowKit

attribute [local go_sem] lt2 lt3 lt4 lt5

/-- the table of commands -/
theorem tab_put {w : World} {m clk : Nat} {es : Array MapEntry} (hb : w.heap[m]? = some (.map es clk)) (k : Int) (v : Value) (hk : ∀ x ∈ es.toList, ∃ j : Int, x.key = .int .u8 j ∧ j ≠ k) :
    ∃ w', (Instr.mapUpdate 122 (.map (some m)) (.int .u8 k) v).run Tryd.prog w = .ok () w' ∧ Wrote m w w' ∧ w'.heap[m]? = some (.map (es.push ⟨.int .u8 k, v, clk⟩) (clk + 1)) := by
  have hm := MapKept.run_getObj_map (P := Tryd.prog) hb
  have hkey : MapKept.IsKey (.int .u8) (.int .u8 k) := rfl
  have hd : Tryd.prog.underlying 40 = some (.int .u8) := Tryd.underlying40
  have ht := Tryd.underlying122
  have hc : (Instr.checkKey false 10000 40 (.int .u8 k)).run Tryd.prog w = .ok () w := MapKept.run_checkKey hd hkey _ 9999
  have hlt := (Array.getElem?_eq_some_iff.1 hb).1
  rcases MapKept.findNow_spec hkey es.toList 0 (fun x hx => by obtain ⟨j, e, _⟩ := hk x hx; rw [e]; rfl) with ⟨g1, g2⟩ | ⟨j, e0, g1, g2, g3⟩
  · refine ⟨{ w with heap := w.heap.setIfInBounds m (.map (es.push ⟨.int .u8 k, v, clk⟩) (clk + 1)) }, ?_, ⟨rfl, rfl, rfl, by simp, fun i hi => by simp [Ne.symm hi]⟩, by simp [hlt]⟩
    simp [Instr.mapUpdate, run_underlying ht, hm, hc, MapKept.run_findKey hd g1, MapKept.run_setObj_map _ hb]
  · exfalso
    obtain ⟨j', e, hne⟩ := hk e0 (List.mem_of_getElem? g2)
    rw [e] at g3
    injection g3 with _ g3
    exact hne g3
theorem tab_get {w : World} {m clk : Nat} {es : Array MapEntry} (hb : w.heap[m]? = some (.map es clk)) (k : Int) (v : Value) (hk : ∀ x ∈ es.toList, ∃ j : Int, x.key = .int .u8 j) (hin : ∃ x ∈ es.toList, x.key = .int .u8 k) (hv : ∀ x ∈ es.toList, x.key = .int .u8 k → x.val = v) :
    (Instr.lookup 122 (.map (some m)) (.int .u8 k) false).run Tryd.prog w = .ok v w := by
  have hm := MapKept.run_getObj_map (P := Tryd.prog) hb
  have hkey : MapKept.IsKey (.int .u8) (.int .u8 k) := rfl
  have hd : Tryd.prog.underlying 40 = some (.int .u8) := Tryd.underlying40
  have ht := Tryd.underlying122
  have hc : (Instr.checkKey es.isEmpty 10000 40 (.int .u8 k)).run Tryd.prog w = .ok () w := MapKept.run_checkKey hd hkey _ 9999
  rcases MapKept.findNow_spec hkey es.toList 0 (fun x hx => by obtain ⟨j, e⟩ := hk x hx; rw [e]; rfl) with ⟨g1, g2⟩ | ⟨j, e0, g1, g2, g3⟩
  · obtain ⟨x, hx, e⟩ := hin
    exact absurd e (g2 x hx)
  · have := hv e0 (List.mem_of_getElem? g2) g3
    subst this
    simp [Instr.lookup, run_underlying ht, hm, hc, MapKept.run_findKey hd g1]

def fV (f : Nat) : Value := .func (.func f) #[] #[]
/-- the table's entries -/
def tabE : Array MapEntry := #[⟨.int .u8 0, fV 38, 0⟩, ⟨.int .u8 3, fV 39, 1⟩, ⟨.int .u8 18, fV 40, 2⟩, ⟨.int .u8 37, fV 41, 3⟩, ⟨.int .u8 40, fV 42, 4⟩, ⟨.int .u8 42, fV 43, 5⟩, ⟨.int .u8 53, fV 44, 6⟩]

theorem tab_look {w : World} {m : Nat} (hb : w.heap[m]? = some (.map tabE 7)) {k : Int} {f : Nat} (h : (k = 40 ∧ f = 42) ∨ (k = 42 ∧ f = 43) ∨ (k = 53 ∧ f = 44)) :
    (Instr.lookup 122 (.map (some m)) (.int .u8 k) false).run Tryd.prog w = .ok (.func (.func f) #[] #[]) w := by
  rcases h with ⟨rfl, rfl⟩ | ⟨rfl, rfl⟩ | ⟨rfl, rfl⟩
  all_goals exact tab_get hb _ _ (by simp [tabE]) (by simp [tabE]) (by simp [tabE, fV])

/-- what a command gives -/
def OutV (o : Option (List Int)) (v : Value) (w : World) : Prop := match o with | none => v = .slice none 0 0 | some xs => ∃ A c, v = .slice A 64 c ∧ RowB w A 64 c xs
def DoesS (L : Nat → Prop) (d : Nat) (R : St → Prop) (o : Option (List Int)) (v : Value) (w w' : World) : Prop := ∃ st', R st' ∧ DiskAt L d st' w' ∧ Kp L w w' ∧ OutV o v w'
def Does (L : Nat → Prop) (d : Nat) (R : St → Prop) (o : Option (List Int)) (w : World) (e : Ending) (w' : World) : Prop := ∃ v, e = .returned (.tuple #[v, senV 0 0 0]) ∧ DoesS L d R o v w w'
/-- a command's contract -/
def CmdOk (f : Nat) (d : Nat) (st : St) (op n c : Int) (O : Value) (R : St → Prop) (o : Option (List Int)) (w : World) : Prop :=
  ∀ L' w', Below w.heap.size w w' → DiskAt L' d st w' → Calls Tryd.prog f #[.pointer (some ⟨d, 0, none⟩), cmdV op n c, O] w' (Does L' d R o w')

theorem OutV.wrote {o : Option (List Int)} {v : Value} {w w' : World} {g : Nat} (h : OutV o v w) (hW : Wrote g w w') (hg : ∀ cs, w.heap[g]? ≠ some (.cells cs 5 (0, 0))) : OutV o v w' := by
  cases o with
  | none => exact h
  | some xs =>
    obtain ⟨A, c, e, hR⟩ := h
    exact ⟨A, c, e, hR.keep fun a ea => hW.other _ (hR.ne hg a ea)⟩
/-- the sense is stored in a box of its own -/
theorem does_end {L : Nat → Prop} {d : Nat} {st : St} {R : St → Prop} {o : Option (List Int)} {v : Value} {w t w9 w10 : World} (hd : DiskAt L d st w) (hbw : Below w.heap.size w t) (hin : w.heap.size < t.heap.size) {cs : Array Value} (hz : w9.heap[w.heap.size]? = some (.cells cs 59 (0, 0)))
    (h : DoesS (Wid L w.heap.size t.heap.size) d R o v t w9) (hW : Wrote w.heap.size w9 w10) : DoesS L d R o v w w10 := by
  obtain ⟨st', hR, hD, hK, hO⟩ := h
  refine ⟨st', hR, (hD.wrote hW (.inr ⟨Nat.le_refl _, hin⟩)).narrow, ((Kp.below hbw).trans hK.narrow).trans (Kp.wrote hW fun hl => ?_), hO.wrote hW fun cs hc => by rw [hz] at hc; simp at hc⟩
  obtain ⟨_, _, _, _, _, _, _, _, _, hI⟩ := hd
  have := hI.lt _ hl
  omega

/-- the world behind the table -/
structure TabAt (w : World) (m : Nat) (w' : World) : Prop where
  below : Below m w w'
  tab : w'.heap[m]? = some (.map tabE 7)

theorem mk_tab (w : World) : (Instr.makeMap 122 none).run Tryd.prog w = .ok (.map (some w.heap.size)) (w.alloc (.map #[] 0)) := by
  simp [Instr.makeMap]
set_option maxRecDepth 100000 in
theorem tab_all (w : World) : ∃ w1 w2 w3 w4 w5 w6 w7, (Instr.mapUpdate 122 (.map (some w.heap.size)) (.int .u8 0) (.func (.func 38) #[] #[])).run Tryd.prog (w.alloc (.map #[] 0)) = .ok () w1 ∧ (Instr.mapUpdate 122 (.map (some w.heap.size)) (.int .u8 3) (.func (.func 39) #[] #[])).run Tryd.prog w1 = .ok () w2 ∧ (Instr.mapUpdate 122 (.map (some w.heap.size)) (.int .u8 18) (.func (.func 40) #[] #[])).run Tryd.prog w2 = .ok () w3 ∧ (Instr.mapUpdate 122 (.map (some w.heap.size)) (.int .u8 37) (.func (.func 41) #[] #[])).run Tryd.prog w3 = .ok () w4 ∧ (Instr.mapUpdate 122 (.map (some w.heap.size)) (.int .u8 40) (.func (.func 42) #[] #[])).run Tryd.prog w4 = .ok () w5 ∧ (Instr.mapUpdate 122 (.map (some w.heap.size)) (.int .u8 42) (.func (.func 43) #[] #[])).run Tryd.prog w5 = .ok () w6 ∧ (Instr.mapUpdate 122 (.map (some w.heap.size)) (.int .u8 53) (.func (.func 44) #[] #[])).run Tryd.prog w6 = .ok () w7 ∧ TabAt w w.heap.size w7 := by
  have h0 : (w.alloc (.map #[] 0)).heap[w.heap.size]? = some (.map #[] 0) := heap_alloc_new w _
  obtain ⟨w1, r1, W1, h1⟩ := tab_put h0 0 (fV 38) (fun x hx => by simp at hx)
  obtain ⟨w2, r2, W2, h2⟩ := tab_put h1 3 (fV 39) (fun x hx => by
    simp only [Array.toList_push, List.mem_singleton, List.nil_append] at hx
    rcases hx with rfl
    all_goals exact ⟨_, rfl, by decide⟩)
  obtain ⟨w3, r3, W3, h3⟩ := tab_put h2 18 (fV 40) (fun x hx => by
    simp only [Array.toList_push, List.mem_append, List.mem_singleton, List.nil_append] at hx
    rcases hx with (rfl) | rfl
    all_goals exact ⟨_, rfl, by decide⟩)
  obtain ⟨w4, r4, W4, h4⟩ := tab_put h3 37 (fV 41) (fun x hx => by
    simp only [Array.toList_push, List.mem_append, List.mem_singleton, List.nil_append] at hx
    rcases hx with ((rfl) | rfl) | rfl
    all_goals exact ⟨_, rfl, by decide⟩)
  obtain ⟨w5, r5, W5, h5⟩ := tab_put h4 40 (fV 42) (fun x hx => by
    simp only [Array.toList_push, List.mem_append, List.mem_singleton, List.nil_append] at hx
    rcases hx with (((rfl) | rfl) | rfl) | rfl
    all_goals exact ⟨_, rfl, by decide⟩)
  obtain ⟨w6, r6, W6, h6⟩ := tab_put h5 42 (fV 43) (fun x hx => by
    simp only [Array.toList_push, List.mem_append, List.mem_singleton, List.nil_append] at hx
    rcases hx with ((((rfl) | rfl) | rfl) | rfl) | rfl
    all_goals exact ⟨_, rfl, by decide⟩)
  obtain ⟨w7, r7, W7, h7⟩ := tab_put h6 53 (fV 44) (fun x hx => by
    simp only [Array.toList_push, List.mem_append, List.mem_singleton, List.nil_append] at hx
    rcases hx with (((((rfl) | rfl) | rfl) | rfl) | rfl) | rfl
    all_goals exact ⟨_, rfl, by decide⟩)
  refine ⟨w1, w2, w3, w4, w5, w6, w7, r1, r2, r3, r4, r5, r6, r7, ?_, h7⟩
  have hb := (Below.refl w.heap.size w).alloc (Nat.le_refl _) (.map #[] 0)
  exact (((((((hb.trans (W1.below (Nat.le_refl _))).trans (W2.below (Nat.le_refl _))).trans (W3.below (Nat.le_refl _))).trans (W4.below (Nat.le_refl _))).trans (W5.below (Nat.le_refl _))).trans (W6.below (Nat.le_refl _))).trans (W7.below (Nat.le_refl _)))

set_option maxHeartbeats 4000000 in
set_option maxRecDepth 100000 in
theorem run_ret (L : Nat → Prop) (d : Nat) (st : St) (op : Int) (n c : Nat) (b O : Value) (R : St → Prop) (o : Option (List Int)) (w : World) (h : DiskAt L d st w) (hp : st.pend = false) (hn : n + c ≤ st.B) (hc : c ≤ 1) (hop : op = 40 ∨ op = 42 ∨ op = 53)
    (hdec : ∀ w', Below w.heap.size w w' → Calls Tryd.prog 51 #[b] w' (CmdEnd op n c w'))
    (h40 : op = 40 → CmdOk 42 d st op n c O R o w) (h42 : op = 42 → CmdOk 43 d st op n c O R o w) (h53 : op = 53 → CmdOk 44 d st op n c O R o w) :
    Calls Tryd.prog 25 #[.pointer (some ⟨d, 0, none⟩), b, O] w (Does L d R o w) := by
  have hb0 : ∀ o, Below w.heap.size w (w.alloc o) := fun o => (Below.refl w.heap.size w).alloc (Nat.le_refl _) o
  have H0 := Lib.hid (⟨h, hp, h40, h42, h53⟩ : _ ∧ _ ∧ _ ∧ _ ∧ _)
  have HD := Lib.hid hdec
  clear hp hdec h40 h42 h53
  have hdc := fun o => decode_ret L d st op n c b (w.alloc o) (h.below (hb0 o)) hn hc (fun w' hw' => HD.out w' ((hb0 o).trans (hw'.mono (hb0 o).size)))
  have HN := Lib.hid hn
  clear h hn HD
  go_enter Tryd.func25, Tryd.ntmps25
  go_upto_region 1 with fail
  go_wp2_with fail
  refine (hdc _).mono ?_
  rintro e w2 ⟨hb2, rfl⟩
  unfold cmdV senV
  have HB2 := Lib.hid hb2
  clear hb2 hdc
  go_upto_region 2 with fail
  have c0 := alloc2_0 w2 (.cells #[.int .u8 op, .int .u32 n, .int .u16 c, .int .i64 0] 44 (0, 0)) (.cells #[.int .u8 0, .int .u8 0, .int .u8 0] 59 (0, 0))
  have c1 := alloc2_1 w2 (.cells #[.int .u8 op, .int .u32 n, .int .u16 c, .int .i64 0] 44 (0, 0)) (.cells #[.int .u8 0, .int .u8 0, .int .u8 0] 59 (0, 0))
  have hb3 : Below w2.heap.size w2 ((w2.alloc (.cells #[.int .u8 op, .int .u32 n, .int .u16 c, .int .i64 0] 44 (0, 0))).alloc (.cells #[.int .u8 0, .int .u8 0, .int .u8 0] 59 (0, 0))) := ((Below.refl w2.heap.size w2).alloc (Nat.le_refl _) _).alloc (by simp) _
  generalize ((w2.alloc (.cells #[.int .u8 op, .int .u32 n, .int .u16 c, .int .i64 0] 44 (0, 0))).alloc (.cells #[.int .u8 0, .int .u8 0, .int .u8 0] 59 (0, 0))) = w3 at *
  have s0 := cell_of c1 0
  have s1 := cell_of c1 1
  have s2 := cell_of c1 2
  have o0 := cell_of c0 0
  have hw1 : Below w.heap.size w (w.alloc (.cells #[.int .u8 0, .int .u8 0, .int .u8 0] 59 (0, 0))) := hb0 _
  have hz1 : (w.alloc (.cells #[.int .u8 0, .int .u8 0, .int .u8 0] 59 (0, 0))).heap[w.heap.size]? = some (.cells #[.int .u8 0, .int .u8 0, .int .u8 0] 59 (0, 0)) := heap_alloc_new w _
  have hb13 := HB2.out.trans (hb3.mono HB2.out.size)
  have hw3 : Below w.heap.size w w3 := hw1.trans (hb13.mono hw1.size)
  have hz3 : w3.heap[w.heap.size]? = some (.cells #[.int .u8 0, .int .u8 0, .int .u8 0] 59 (0, 0)) := (hb13.block _ (by simp)).trans hz1
  have y13 : w3.cell? ⟨d, 13, none⟩ = some (.bool false) := by
    obtain ⟨v4, v5, v6, mb, A, c, s1, s2, s3, hI⟩ := H0.out.1.below hw3
    rw [← H0.out.2.1]
    exact cell_of hI.disk 13
  have HC := Lib.hid (⟨c0, hw3, hz3⟩ : _ ∧ _ ∧ _)
  clear c0 c1 hb3 hw1 hz1 hb13 hw3 hz3 HB2 hb0
  go_upto_region 7 with fail
  obtain ⟨t1, t2, t3, t4, t5, t6, t7, r1, r2, r3, r4, r5, r6, r7, hT⟩ := tab_all w3
  have hmk := mk_tab w3
  have HT := Lib.hid hT
  clear hT s0 s1 s2 y13
  go_upto_region 8 with fail
  have hbw := HC.out.2.1.trans (HT.out.below.mono HC.out.2.1.size)
  have hcm := (HT.out.below.block _ (Array.getElem?_eq_some_iff.1 HC.out.1).1).trans HC.out.1
  have hz := (HT.out.below.block _ (Array.getElem?_eq_some_iff.1 HC.out.2.2).1).trans HC.out.2.2
  have hin : w.heap.size < t7.heap.size := (Array.getElem?_eq_some_iff.1 hz).1
  have HG := Lib.hid (⟨HT.out.tab, hcm, hz, H0.out.1.widen hbw, hbw, hin⟩ : _ ∧ _ ∧ _ ∧ _ ∧ _ ∧ _)
  clear hbw hcm hz hin r1 r2 r3 r4 r5 r6 r7 hmk o0
  rcases hop with rfl | rfl | rfl
  · have hok := H0.out.2.2.1 rfl
    obtain ⟨hlk, hcm, hz, hdk, hbw, hin⟩ := HG.out
    have hlk := tab_look hlk (k := 40) (f := 42) (.inl ⟨rfl, rfl⟩)
    have hcall := hok _ t7 hbw hdk
    unfold cmdV at hcall
    have p0 := cell_of hcm 0
    clear hok hz hdk hbw hin
    go_wp2_with (first
      | refine wpList_load_row rfl (.tmp 8) 44 rfl w2.heap.size 44 _ _ rfl hcm Tryd.underlying44 rfl (by kernel_rfl) ?_
      | (refine hcall.mono ?_
         rintro e w9 ⟨v, rfl, hds⟩
         have HDS := Lib.hid hds
         obtain ⟨_, _, _, hk9, _⟩ := hds
         have hz9 := (hk9.block _ HG.out.2.2.2.2.2 (.inr ⟨Nat.le_refl _, HG.out.2.2.2.2.2⟩)).trans HG.out.2.2.1
         unfold senV
         clear hk9 hcall)
      | (refine wpList_store_row rfl (.tmp 7) (.tmp 50) 59 rfl w.heap.size 0 59 #[.int .u8 0, .int .u8 0, .int .u8 0] #[.int .u8 0, .int .u8 0, .int .u8 0] #[.int .u8 0, .int .u8 0, .int .u8 0] rfl rfl hz9 (by kernel_rfl) (by simp) rfl rfl ?_; intro w10 hS10 hW10))
    refine ret_tc w.heap.size _ _ _ _ rfl rfl rfl hS10 Tryd.underlying59 rfl (by kernel_rfl) rfl ⟨v, rfl, ?_⟩
    exact does_end H0.out.1 HG.out.2.2.2.2.1 HG.out.2.2.2.2.2 hz9 HDS.out hW10
  · have hok := H0.out.2.2.2.1 rfl
    obtain ⟨hlk, hcm, hz, hdk, hbw, hin⟩ := HG.out
    have hlk := tab_look hlk (k := 42) (f := 43) (.inr (.inl ⟨rfl, rfl⟩))
    have hcall := hok _ t7 hbw hdk
    unfold cmdV at hcall
    have p0 := cell_of hcm 0
    clear hok hz hdk hbw hin
    go_wp2_with (first
      | refine wpList_load_row rfl (.tmp 8) 44 rfl w2.heap.size 44 _ _ rfl hcm Tryd.underlying44 rfl (by kernel_rfl) ?_
      | (refine hcall.mono ?_
         rintro e w9 ⟨v, rfl, hds⟩
         have HDS := Lib.hid hds
         obtain ⟨_, _, _, hk9, _⟩ := hds
         have hz9 := (hk9.block _ HG.out.2.2.2.2.2 (.inr ⟨Nat.le_refl _, HG.out.2.2.2.2.2⟩)).trans HG.out.2.2.1
         unfold senV
         clear hk9 hcall)
      | (refine wpList_store_row rfl (.tmp 7) (.tmp 50) 59 rfl w.heap.size 0 59 #[.int .u8 0, .int .u8 0, .int .u8 0] #[.int .u8 0, .int .u8 0, .int .u8 0] #[.int .u8 0, .int .u8 0, .int .u8 0] rfl rfl hz9 (by kernel_rfl) (by simp) rfl rfl ?_; intro w10 hS10 hW10))
    refine ret_tc w.heap.size _ _ _ _ rfl rfl rfl hS10 Tryd.underlying59 rfl (by kernel_rfl) rfl ⟨v, rfl, ?_⟩
    exact does_end H0.out.1 HG.out.2.2.2.2.1 HG.out.2.2.2.2.2 hz9 HDS.out hW10
  · have hok := H0.out.2.2.2.2 rfl
    obtain ⟨hlk, hcm, hz, hdk, hbw, hin⟩ := HG.out
    have hlk := tab_look hlk (k := 53) (f := 44) (.inr (.inr ⟨rfl, rfl⟩))
    have hcall := hok _ t7 hbw hdk
    unfold cmdV at hcall
    have p0 := cell_of hcm 0
    clear hok hz hdk hbw hin
    go_wp2_with (first
      | refine wpList_load_row rfl (.tmp 8) 44 rfl w2.heap.size 44 _ _ rfl hcm Tryd.underlying44 rfl (by kernel_rfl) ?_
      | (refine hcall.mono ?_
         rintro e w9 ⟨v, rfl, hds⟩
         have HDS := Lib.hid hds
         obtain ⟨_, _, _, hk9, _⟩ := hds
         have hz9 := (hk9.block _ HG.out.2.2.2.2.2 (.inr ⟨Nat.le_refl _, HG.out.2.2.2.2.2⟩)).trans HG.out.2.2.1
         unfold senV
         clear hk9 hcall)
      | (refine wpList_store_row rfl (.tmp 7) (.tmp 50) 59 rfl w.heap.size 0 59 #[.int .u8 0, .int .u8 0, .int .u8 0] #[.int .u8 0, .int .u8 0, .int .u8 0] #[.int .u8 0, .int .u8 0, .int .u8 0] rfl rfl hz9 (by kernel_rfl) (by simp) rfl rfl ?_; intro w10 hS10 hW10))
    refine ret_tc w.heap.size _ _ _ _ rfl rfl rfl hS10 Tryd.underlying59 rfl (by kernel_rfl) rfl ⟨v, rfl, ?_⟩
    exact does_end H0.out.1 HG.out.2.2.2.2.1 HG.out.2.2.2.2.2 hz9 HDS.out hW10
end Go.Proofs.YtdiameckiihppaaDoor
