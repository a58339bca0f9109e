/-
  What is proved here: what plugboardlaw23.PipesIn does from its second loop on.
  Conditions: what the worlds hold behind the first loop.
-/
import Derived.Test.YtiajboiobjfcoaaGreatDoorNHead
import Derived.Test.YtiajboiobjfcoaaGreatDoorNCalls
import Derived.Test.YtiajboiobjfcoaaGreatDoorNBeg
namespace Go.Proofs.YtiajboiobjfcoaaGreatDoor
open Go.Proofs Go.RowKit
attribute [local go_sem] lt2 lt3 lt4 lt5
attribute [-go_sem] Builtin.append_
noncomputable def tlC : Code → Code
 | .seq _ b => b
 | c => c
noncomputable def restC : Code := tlC (tlC (tlC (tlC (tlC (tlC (Tryz.f4.body.getD .skip))))))
def kN (ws : List Int) (aA : Option Addr) (an ac : Nat) (os : List (List Int)) (us : List Value) (T : Option Addr) (on tc : Nat) : GrK := ⟨2, true, false, ws, aA, an, ac, os, us, T, on, tc⟩
theorem endsN_rng (os : List (List Int)) (h : ∀ b ∈ os, b.length ≤ 8) (k : Nat) (hk : k ≤ 1000) : ∀ y ∈ endsN os k, 0 ≤ y ∧ y ≤ 100000 := by
 intro y hy
 obtain ⟨j, hj, rfl⟩ := List.mem_map.1 hy
 have := List.mem_range.1 hj
 have := flat8 os h j
 omega
def LoopN (w w5 : World) (K : GrK) (hiso : K.iso = false) (hin : K.inn = true) (G B0 B1 L R P : Nat) (h1 : B0 ≤ B1) (h2 : G < B1) (h3 : ∀ i, (i = L ∨ i = R) → B0 ≤ i ∧ i < B1 ∧ i ≠ G) (i : Nat) (sv : Value) (wr : World) : Prop :=
 ∃ (S : Nat → Prop) (t : List Int) (g : GrS) (tg ha : Bool) (T0 : List Int),
  (mN K hiso hin G B0 B1 L R h1 h2 h3).I wr S (t, g) ∧ Below w.heap.size w wr ∧ (∀ i, S i → i = G ∨ B0 ≤ i) ∧ (∀ i, i < B0 → i ≠ G → wr.heap[i]? = w5.heap[i]?) ∧
  wr.heap[P]? = some (.cells (spC 2 0 true tg ha) 30 (0, 0)) ∧ ¬ S P ∧
  wr.ownsRow B1 5 1 sv T0.length (T0.map (Value.int .u8)) ∧ (∀ i, sv.ownBlock = some i → ¬ S i) ∧ (∀ x ∈ T0, 0 ≤ x ∧ x ≤ 255) ∧
  (ha = false → ∀ n', SynI K T0 n' ⟨tg, [], 0, decide (n' = 0), 0⟩ g) ∧ T0.length ≤ 60 * i ∧ g.at_ ≤ 800 * i ∧ g.many = 0 ∧ g.taken = [] ∧ g.nx ≤ K.on
set_option maxHeartbeats 8000000 in
set_option maxRecDepth 1000000 in
theorem in_rest (oA : Option Addr) (on oc : Nat) (lA : Option Addr) (ln lc : Nat) (sA : Option Addr) (sn sc : Nat) (fA : Option Addr) (fn fc : Nat) (aA : Option Addr) (an ac : Nat) (vs : List Value) (ofs : List (List Int)) (ls ss fs ws : List Int) (w wm : World)
    (hvl : vs.length = on) (hll : vs.length = ofs.length) (hle : ∀ (j : Nat) v b, vs[j]? = some v → ofs[j]? = some b → ∃ A n c, v = .slice A n c ∧ U8 w A n c b ∧ n ≤ 1000000000000000 ∧ Pl A n)
    (hls : U8 w lA ln lc ls) (hss : U8 w sA sn sc ss) (hfs : U8 w fA fn fc fs) (hws : U8 w aA an ac ws)
    (hlives : ∀ w', Below w.heap.size w w' → Calls Tryz.prog 7 #[] w' (Go.Sy.LawEnd w')) (hlaid : Go.Sy.LaidW w stG) (hon : on ≤ 40) (hln : ln ≤ 10) (hfn : fn ≤ 200) (_ : an ≤ 200)
    (u4 u5 y6 y7 y8 y9 y10 y11 y12 y13 y14 y15 y16 y17 y18 y19 y20 y21 y22 y23 y24 y25 y26 y27 y28 y29 y30 y31 y32 y33 y34 y35 y36 y37 y38 y39 y40 y41 y42 y43 y44 y45 y46 y47 y48 y49 y50 y51 y52 y53 y54 y55 y56 y57 y58 y59 y60 y61 y62 y63 y64 y65 y66 y67 y68 y69 y70 y71 y72 y73 y74 y75 y76 y77 y78 y79 y80 y81 y82 y83 y84 y85 y86 y87 y88 y89 y90 y91 y92 y93 y94 y95 y96 y97 y98 y99 y100 y101 y102 y103 y104 y105 y106 y107 y108 y109 y110 y111 y112 y113 y114 y115 y116 y117 y118 y119 y120 y121 y122 y123 y124 y125 y126 y127 y128 y129 y130 y131 y132 y133 y134 y135 y136 y137 y138 y139 y140 y141 y142 y143 y144 y145 y146 y147 y148 y149 y150 y151 y152 y153 y154 y155 y156 y157 y158 y159 y160 y161 y162 y163 y164 y165 y166 y167 y168 y169 y170 y171 y172 y173 y174 y175 y176 y177 y178 y179 y180 y181 y182 y183 y184 y185 y186 y187 y188 y189 y190 y191 y192 y193 y194 y195 y196 y197 y198 y199 y200 y201 y202 y203 y204 y205 y206 y207 y208 y209 y210 y211 y212 y213 y214 y215 y216 y217 y218 y219 y220 y221 y222 y223 y224 y225 y226 y227 y228 y229 y230 y231 y232 y233 y234 y235 y236 y237 y238 y239 y240 y241 : Value) (hmid : MidN w #[.slice oA on oc, .slice lA ln lc, .slice sA sn sc, .slice fA fn fc, .slice aA an ac] aA an ac vs (cutsN ofs) on u4 u5 wm) :
    Code.wp Tryz.prog restC (bodyPost Tryz.prog Tryz.f4 (Go.Sy.LawEnd w)) ⟨#[(.agg #[.slice oA on oc, .slice lA ln lc, .slice sA sn sc, .slice fA fn fc, .slice aA an ac]), .pointer (some ⟨w.heap.size, 0, none⟩), .bool false, .pointer (some ⟨w.heap.size + 1, 0, none⟩), u4, u5, y6, y7, y8, y9, y10, y11, y12, y13, y14, y15, y16, y17, y18, y19, y20, y21, y22, y23, y24, y25, y26, y27, y28, y29, y30, y31, y32, y33, y34, y35, y36, y37, y38, y39, y40, y41, y42, y43, y44, y45, y46, y47, y48, y49, y50, y51, y52, y53, y54, y55, y56, y57, y58, y59, y60, y61, y62, y63, y64, y65, y66, y67, y68, y69, y70, y71, y72, y73, y74, y75, y76, y77, y78, y79, y80, y81, y82, y83, y84, y85, y86, y87, y88, y89, y90, y91, y92, y93, y94, y95, y96, y97, y98, y99, y100, y101, y102, y103, y104, y105, y106, y107, y108, y109, y110, y111, y112, y113, y114, y115, y116, y117, y118, y119, y120, y121, y122, y123, y124, y125, y126, y127, y128, y129, y130, y131, y132, y133, y134, y135, y136, y137, y138, y139, y140, y141, y142, y143, y144, y145, y146, y147, y148, y149, y150, y151, y152, y153, y154, y155, y156, y157, y158, y159, y160, y161, y162, y163, y164, y165, y166, y167, y168, y169, y170, y171, y172, y173, y174, y175, y176, y177, y178, y179, y180, y181, y182, y183, y184, y185, y186, y187, y188, y189, y190, y191, y192, y193, y194, y195, y196, y197, y198, y199, y200, y201, y202, y203, y204, y205, y206, y207, y208, y209, y210, y211, y212, y213, y214, y215, y216, y217, y218, y219, y220, y221, y222, y223, y224, y225, y226, y227, y228, y229, y230, y231, y232, y233, y234, y235, y236, y237, y238, y239, y240, y241], []⟩ wm := by
  obtain ⟨T, tc, E, ec, rfl, hM⟩ := hmid
  have hoff := cutsN_le ofs
  have hol : (cutsN ofs).length = on := by unfold cutsN; rw [List.length_map, ← hll, hvl]
  have hul : (vs.map cutVN).length = on := by rw [List.length_map, hvl]
  have hrg : ∀ b ∈ cutsN ofs, ∀ x ∈ b, 0 ≤ x ∧ x ≤ 255 := by
    intro b hb x hx
    obtain ⟨j, hj⟩ := List.mem_iff_getElem?.1 hb
    unfold cutsN at hj
    rw [List.getElem?_map, Option.map_eq_some_iff] at hj
    obtain ⟨b0, hj0, rfl⟩ := hj
    have hjl := (List.getElem?_eq_some_iff.1 hj0).1
    obtain ⟨_, _, _, _, hu, _⟩ := hle j _ b0 (List.getElem?_eq_getElem (by omega)) hj0
    exact hu.2.1 x (List.mem_of_mem_take hx)
  have hrga : ∀ x ∈ (cutsN ofs).flatten, 0 ≤ x ∧ x ≤ 255 := by
    intro x hx
    obtain ⟨b, hb, hx⟩ := List.mem_flatten.1 hx
    exact hrg b hb x hx
  have hown := hM.own
  have hal := hM.al
  rw [List.take_of_length_le (by omega)] at hown hal
  have hSl := sls_ownN hown
  obtain ⟨N4, hN4⟩ : ∃ N4, ((cutsN ofs).flatten).length = N4 := ⟨_, rfl⟩
  rw [hN4] at hal
  obtain ⟨A4, c4, rfl, hU4, hA4⟩ := u8_row hrga hal
  obtain ⟨gE, rfl, hE8, hEc⟩ : ∃ gE, E = some ⟨gE, 0, none⟩ ∧ I8 wm gE (on + 1) (endsN (cutsN ofs) on) ∧ on + 1 ≤ ec := by
    rcases id hM.en.2 with ⟨_, h0⟩ | ⟨g, cap, cur, e, _, hh, hc, _⟩
    · omega
    · injection e with e1 e2 e3
      refine ⟨g, e1, ⟨endsN_len _ _, fun j hj => ?_⟩, by omega⟩
      subst e1
      have h := hM.en.cellAt j (by omega)
      rw [List.getElem?_map] at h
      obtain ⟨z, hz⟩ : ∃ z, (endsN (cutsN ofs) on)[j]? = some z := ⟨_, List.getElem?_eq_getElem (by rw [endsN_len]; omega)⟩
      rw [hz] at h ⊢
      exact h
  have hgE := hM.en.lt gE rfl
  have hbr := hM.bel
  have hX := hM.x
  have hG := hM.g
  have hGs : w.heap.size + 1 < wm.heap.size := (Array.getElem?_eq_some_iff.1 hG).1
  have hTfx : on = 0 ∨ ∃ a, T = some a ∧ Fx (w.heap.size + 1) wm.heap.size a.block := by
    rcases id hown.2 with ⟨_, h0⟩ | ⟨g, cap, cur, e, hg, hh, _⟩
    · exact .inl h0
    · injection e with e1 _ _
      exact .inr ⟨_, e1, (Array.getElem?_eq_some_iff.1 hh).1, by show g ≠ _; omega⟩
  have hB8 : B8s wm (vs.map cutVN) (cutsN ofs) := by
    refine ⟨by rw [hul, hol], fun j v b hj hjb => ?_⟩
    rw [List.getElem?_map, Option.map_eq_some_iff] at hj
    unfold cutsN at hjb
    rw [List.getElem?_map, Option.map_eq_some_iff] at hjb
    obtain ⟨v0, h1, rfl⟩ := hj
    obtain ⟨b0, h2, rfl⟩ := hjb
    obtain ⟨A, n, c, rfl, hu, _⟩ := hle j v0 b0 h1 h2
    exact ⟨A, min n 8, c, rfl, (u8_cutN hu).below hbr, by omega⟩
  have hVfx : ∀ (j : Nat) A n c, (vs.map cutVN)[j]? = some (.slice A n c) → n = 0 ∨ ∃ a, A = some a ∧ Fx (w.heap.size + 1) wm.heap.size a.block := by
    intro j A n c hj
    rw [List.getElem?_map, Option.map_eq_some_iff] at hj
    obtain ⟨v0, h1, h2⟩ := hj
    have hjl := (List.getElem?_eq_some_iff.1 h1).1
    obtain ⟨A', n', c', rfl, hu, _⟩ := hle j v0 _ h1 (List.getElem?_eq_getElem (by omega))
    injection h2 with e1 e2 e3
    subst e1
    rcases u8_lt hu with h0 | h0
    · exact .inl (by omega)
    · rcases hu.2.2.2 with ⟨_, h0, _⟩ | ⟨a, rfl, _⟩
      · exact .inl (by omega)
      · have := h0 a rfl; exact .inr ⟨a, rfl, by omega, by omega⟩
  have hAfx : an = 0 ∨ ∃ a, aA = some a ∧ Fx (w.heap.size + 1) wm.heap.size a.block := by
    rcases u8_lt hws with h0 | h0
    · exact .inl h0
    · rcases hws.2.2.2 with ⟨_, h, _⟩ | ⟨a, rfl, _⟩
      · exact .inl h
      · have := h0 a rfl; exact .inr ⟨a, rfl, by omega, by omega⟩
  have hEfx : Fx (w.heap.size + 1) wm.heap.size gE := ⟨by omega, by omega⟩
  have hA4fx : N4 = 0 ∨ ∃ a, A4 = some a ∧ Fx (w.heap.size + 1) wm.heap.size a.block := hA4.imp id fun ⟨a, e, h, h'⟩ => ⟨a, e, by omega, by omega⟩
  have hGL : GrL (kN ws aA an ac (cutsN ofs) (vs.map cutVN) T on tc) (w.heap.size + 1) wm.heap.size wm := ⟨hws.below hbr, hSl, hB8, hAfx, hTfx, hVfx⟩
  have HGL := Lib.hid hGL
  have HU4 := Lib.hid hU4
  have HE8 := Lib.hid hE8
  have HA4 := Lib.hid hA4fx
  have HLI := Lib.hid hlives
  have HN4 := Lib.hid hN4
  have HOL := Lib.hid hol
  clear hGL hU4 hE8 hA4fx hlives hN4 hol hul hrg hrga hown hal hSl hA4 hB8 hVfx hAfx hTfx hvl hll hle hM
  generalize hQQ : bodyPost Tryz.prog Tryz.f4 (Go.Sy.LawEnd w) = QQ
  simp only [restC, tlC, Tryz.f4, Option.getD_some]
  subst hQQ
  have c3 := cell_of hX 3
  go_wp2_with fail
  refine (wire_ret fA fn fc fs _ (hfs.below hbr) (by omega)).mono ?_
  rintro e w5 ⟨L, R, rfl, hL, hb5, hL1, hR1⟩
  clear c3
  go_wp2_with fail
  refine (stream_ret true false w5).mono ?_
  rintro e w6 ⟨rfl, hb6⟩
  go_wp2_with (guard_target =~ wpList _ _ _ (_ :: _) _ _; first
    | (refine wpList_store_row rfl (.tmp 9) (.tmp 87) 30 rfl w6.heap.size 0 30 _ _ (spC 2 0 true false false) rfl rfl (heap_alloc_new w6 _) (by kernel_rfl) (Nat.le_refl 11) rfl (row_same rfl) ?_
       intro w7 hP7 hW7))
  have hb67 : Below w6.heap.size w6 w7 := ((Below.refl _ w6).alloc (Nat.le_refl _) _).trans (hW7.below (Nat.le_refl _))
  have hbr7 := (hb5.trans (hb6.mono hb5.size)).trans (hb67.mono (by have := hb6.size; have := hb5.size; omega))
  have hbw7 := hbr.trans (hbr7.mono hbr.size)
  have hX7 := heap_below hX hbr7
  have hG7 := heap_below hG hbr7
  have hsP : w6.heap.size < w7.heap.size := (Array.getElem?_eq_some_iff.1 hP7).1
  have hs5 := hb5.size
  have hs6 := hb6.size
  have hsr := hbr.size
  have hLl := hL.lt
  have hL7 : LineAt L R w7 (fs.map faultOf) := by
    refine hL.keep (fun i hi => (hb67.block i ?_).trans (hb6.block i ?_))
    · rcases hi with rfl | rfl <;> omega
    · rcases hi with rfl | rfl <;> omega
  generalize hGe : w.heap.size + 1 = G at *
  generalize hPe : w6.heap.size = P at *
  generalize hB1e : w7.heap.size = B1 at *
  generalize hB0e : wm.heap.size = B0 at *
  have h1 : B0 ≤ B1 := by omega
  have h2 : G < B1 := by omega
  have h3 : ∀ i, (i = L ∨ i = R) → B0 ≤ i ∧ i < B1 ∧ i ≠ G := by
    rintro i (rfl | rfl) <;> omega
  have hK7 : ∀ i, i < B0 → w7.heap[i]? = wm.heap[i]? := fun i hi => hbr7.block i hi
  obtain ⟨K, hK⟩ : ∃ K, kN ws aA an ac (cutsN ofs) (vs.map cutVN) T on tc = K := ⟨_, rfl⟩
  have hiso : K.iso = false := by rw [← hK]; rfl
  have hin : K.inn = true := by rw [← hK]; rfl
  have hKe : K.endp = 2 := by rw [← hK]; rfl
  have hKo : K.offs = cutsN ofs := by rw [← hK]; rfl
  have hKn : K.on = on := by rw [← hK]; rfl
  have hKl : K.offs.length = K.on := by rw [hKo, hKn]; exact HOL.out
  have hKf : ∀ b ∈ K.offs, b.length ≤ 8 := by rw [hKo]; exact hoff
  have hgc : ∀ (tv : Value) (s : GrS), grCells K tv s = #[.int .u8 2, .bool true, .bool false, .bool s.tg, .slice aA an ac, .int .i64 (s.at_ : Int), .slice T on tc, .int .i64 (s.nx : Int), .bool s.wt, .bool s.tk, tv, .int .i64 (s.many : Int)] := by rw [← hK]; exact fun _ _ => rfl
  have hgl : GrL K G B0 w7 := by
    have h := HGL.out
    rw [hK] at h
    exact h.far (fun i hi => hK7 i hi.1)
  have hstart : LoopN w w7 K hiso hin G B0 B1 L R P h1 h2 h3 0 (.slice none 0 0) w7 := by
    refine ⟨fun i => i = G ∨ i = L ∨ i = R, fs.map faultOf, ⟨false, 0, 0, false, false, [], 0⟩, false, false, [], ?_, hbw7, fun i hi => ?_, fun _ _ _ => rfl, hP7, ?_, World.ownsRow_nil _ _ _ _, fun i hi => by simp [Value.ownBlock] at hi, fun x hx => (nomatch hx), fun _ n' => ?_, by simp, by simp, rfl, rfl, Nat.zero_le _⟩
    · refine ⟨.slice none 0 0, ⟨?_, World.ownsRow_nil _ _ _ _, fun x hx => (nomatch hx), hgl⟩, hL7, fun i => ⟨fun h => h.elim .inl fun h => .inr (.inr h), fun h => h.elim .inl fun h => h.elim (fun h => by simp [Value.ownBlock] at h) .inr⟩, by omega⟩
      rw [hgc]
      exact hG7
    · rcases hi with rfl | hi
      · exact .inl rfl
      · exact .inr (h3 i hi).1
    · rintro (h | h | h) <;> omega
    · refine ⟨Nat.zero_le _, .inl ⟨rfl, by simp⟩, by simp, by simp, fun h => ⟨rfl, by simp, ?_⟩, fun h => .inl ⟨rfl, .inl ?_⟩⟩
      · have := of_decide_eq_false h; simp; omega
      · have := of_decide_eq_true h; simp [this]
  have HST := Lib.hid hstart
  have HGC := Lib.hid hgc
  have HKO := Lib.hid hKo
  have HKL := Lib.hid hKl
  have HKN := Lib.hid hKn
  have HKE := Lib.hid hKe
  have HKF := Lib.hid hKf
  have HK7 := Lib.hid hK7
  have HH3 := Lib.hid h3
  have hXB : w.heap.size < B0 := by omega
  have hPB : P < B1 ∧ B0 ≤ P ∧ G < B0 ∧ w.heap.size < G := by omega
  clear hstart hgc hKo hKl hKn hKe hKf hK7 hgl hL hL7 hP7 hG7 hX7 hW7 hb67 hb6 hb5 hL1 hR1 hs5 hs6 hLl HGL hK hbr7
  go_loopw [10, 11] (fun sv i wv => ∃ k : Nat, i = .int .i64 k ∧ k ≤ ln ∧ LoopN w w7 K hiso hin G B0 B1 L R P h1 h2 h3 k sv wv) (fun _ i _ => ln - (intOf i).toNat)
  case atStart => exact ⟨0, rfl, by omega, HST.out⟩
  case round =>
    obtain ⟨k, rfl, hk, hLp⟩ := hrel
    obtain ⟨S, t, g, tg, ha, T0, hI, hbw, hSge, hfx, hP, hPS, hown, hoS, hsr, hinv, hsl, hat, hmany, htk, hnx⟩ := hLp
    have hK0 : ∀ i, i < B0 → i ≠ G → wr.heap[i]? = wm.heap[i]? := fun i hi hne => (hfx i hi hne).trans (HK7.out i hi)
    have hXr : wr.heap[w.heap.size]? = some (.cells #[.slice oA on oc, .slice lA ln lc, .slice sA sn sc, .slice fA fn fc, .slice aA an ac] 69 (0, 0)) := (hK0 _ (by omega) (by omega)).trans hX
    have x1 := cell_of hXr 1
    have p10 : wr.cell? ⟨P, 10, none⟩ = some (.bool ha) := cell_of hP 10
    have HFX := Lib.hid hfx
    have HMANY := Lib.hid hmany
    have HTK := Lib.hid htk
    have HSR := Lib.hid hsr
    clear hfx hmany htk hsr
    by_cases hlt : k < ln ∧ ha = false
    · obtain ⟨hlt, rfl⟩ := hlt
      have HINV := Lib.hid (hinv rfl)
      clear hinv
      have q5 : (k : Int) < (ln : Int) := by omega
      obtain ⟨la, lv, rfl, hlk, hl0, hl255, cl⟩ := hls.cell hlt
      have clr := (hbw.cell (World.block_lt_of_cell? _ _ cl)).trans cl
      obtain ⟨n0, hn0⟩ : ∃ n0 : Nat, lv % 60 = (n0 : Int) := ⟨(lv % 60).toNat, by omega⟩
      have hn60 : n0 ≤ 59 := by omega
      have hw0 : IntKind.i64.wrap (lv % 60) = lv % 60 := IntWalk.i64_in _ (by omega)
      have hw2 : IntKind.u8.wrap (lv % 60) = lv % 60 := by unfold IntKind.wrap; simp [IntKind.bits, IntKind.signed]; omega
      have HN0 := Lib.hid hn0
      clear hlk cl hn0
      go_upto_region 20 with fail
      rw [HN0.out]
      have hI0 := hI
      clear hw0 hw2 clr x1 p10
      go_wp2_with (guard_target =~ wpList _ _ _ (_ :: _) _ _; refine wpList_load_row rfl (.tmp 9) 30 rfl P 30 _ _ rfl hP Tryz.underlying30 rfl (by kernel_rfl) ?_)
      refine (beg_sin tg n0 wr (by omega)).mono ?_
      rintro e w1 ⟨rfl, hb1⟩
      go_upto_region 23 with (guard_target =~ wpList _ _ _ (_ :: _) _ _; first
        | (refine wpList_store_row rfl (.tmp 13) (.tmp 112) 54 rfl w1.heap.size 0 54 _ (strV 5 2 true 2 8 0 1 0 1 tg false tg false (n0 : Int) none 0 0 none 0 0 0 0 (decide (n0 = 0)) 0 none 0 0 0) (strV 5 2 true 2 8 0 1 0 1 tg false tg false (n0 : Int) none 0 0 none 0 0 0 0 (decide (n0 = 0)) 0 none 0 0 0) rfl rfl (heap_alloc_new w1 _) (by kernel_rfl) (Nat.le_refl 47) rfl (row_same rfl) ?_
           intro w2 hVA hWA))
      have hb12 : Below w1.heap.size w1 w2 := ((Below.refl _ w1).alloc (Nat.le_refl _) _).trans (hWA.below (Nat.le_refl _))
      have hb2 : Below wr.heap.size wr w2 := hb1.trans (hb12.mono hb1.size)
      have hs1 := hb1.size
      have hs12 := hb12.size
      have hI2 := Bus.below hI0 hb2
      have hX2 := heap_below hXr hb2
      have hP2 := heap_below hP hb2
      have hown2 := own_below hown hb2
      have hbw2 := hbw.trans (hb2.mono hbw.size)
      have hSlt : ∀ i, S i → i < wr.heap.size := fun i hi => (mN K hiso hin G B0 B1 L R h1 h2 h3).lt hI0 i hi
      have hAS : ¬ S w1.heap.size := fun hs => by have := hSlt _ hs; omega
      have hXS : ¬ S w.heap.size := fun hs => by rcases hSge _ hs with h | h <;> omega
      have hPlt : P < wr.heap.size := (Array.getElem?_eq_some_iff.1 hP).1
      have hB1s : B1 ≤ wr.heap.size := by
        obtain ⟨_, _, _, _, hB⟩ := id hI0
        exact hB
      have hsyn : SynI K T0 n0 (h0N tg n0) g := HINV.out n0
      have hst8 := stepsOf_le ss k
      have hlS : ∀ w', Mv S w2 S w' → Go.Sy.LaidW w' stG := fun w' hmv => laid_belowN hlaid (hbw2.trans ⟨hmv.os, hmv.tape, hmv.output, hmv.size, fun i hi => hmv.block i (by have := hbw2.size; omega) (fun hs => by rcases hSge _ hs with h | h <;> omega)⟩)
      refine r23 (wC := w2) (S0 := S) (R1 := R1N K hiso hin G B0 B1 L R h1 h2 h3 w2 S tg n0 (t, g) (stepsOf ss k)) (R2 := R2N K hiso hin G B0 B1 L R h1 h2 h3 w2 S tg n0 (t, g) (stepsOf ss k)) (G := G) (L := L) (X := w.heap.size) (bW := w1.heap.size) (xC := #[.slice oA on oc, .slice (some la) ln lc, .slice sA sn sc, .slice fA fn fc, .slice aA an ac]) (xS := sC none 0 0 sA sn sc none 0 0 none 0 0 false false) (ix := (k : Int)) (st := (stepsOf ss k : Int)) (sA := sA) (sn := sn) (sc := sc) (by kernel_rfl) rfl
        ⟨_, rfl, rfl, rfl, rfl, by kernel_rfl⟩ ⟨_, rfl, rfl, rfl, rfl, by kernel_rfl⟩ ⟨_, rfl, rfl, rfl, rfl, by kernel_rfl⟩ ⟨_, rfl, rfl, rfl, rfl, by kernel_rfl⟩ ⟨_, rfl, rfl, rfl, rfl, by kernel_rfl⟩ ⟨_, rfl, rfl, rfl, rfl, by kernel_rfl⟩ ⟨_, rfl, rfl, rfl, rfl, by kernel_rfl⟩ ⟨_, rfl, rfl, rfl, rfl, by kernel_rfl⟩ ⟨_, rfl, rfl, rfl, rfl, by kernel_rfl⟩ ⟨_, rfl, rfl, rfl, rfl, by kernel_rfl⟩ ⟨_, rfl, rfl, rfl, rfl, by kernel_rfl⟩ ⟨_, rfl, rfl, rfl, rfl, by kernel_rfl⟩ ⟨_, rfl, rfl, rfl, rfl, by kernel_rfl⟩ ⟨_, rfl, rfl, rfl, rfl, by kernel_rfl⟩ ⟨_, rfl, rfl, rfl, rfl, by kernel_rfl⟩ ⟨_, rfl, rfl, rfl, rfl, by kernel_rfl⟩ ⟨_, rfl, rfl, rfl, rfl, by kernel_rfl⟩ ⟨_, rfl, rfl, rfl, rfl, by kernel_rfl⟩ ⟨_, rfl, rfl, rfl, rfl, by kernel_rfl⟩
        rfl rfl rfl rfl rfl rfl hVA hAS rfl hX2 hXS rfl rfl rfl rfl
        (r1N_good K hiso hin G B0 B1 L R h1 h2 h3 w2 S tg n0 (t, g) (stepsOf ss k)) (r2N_good K hiso hin G B0 B1 L R h1 h2 h3 w2 S tg n0 (t, g) (stepsOf ss k)) (fun h => r2N_sz K hiso hin G B0 B1 L R h1 h2 h3 w2 S tg n0 (t, g) (stepsOf ss k) h)
        (fun o h hb hW hH hs => r2N_wr K hiso hin G B0 B1 L R h1 h2 h3 w2 S tg n0 (t, g) (stepsOf ss k) (by omega) o h hb hW hH hs)
        (fun w' hw' => steps_ret _ _ _ _ _ _ _ _ _ _ _ _ _ _ ss k w' (hss.below (hbw2.trans (hw'.mono hbw2.size))) (by omega))
        (runN_c K hiso hin G B0 B1 L R h1 h2 h3 w2 S tg n0 (t, g) (stepsOf ss k) HKE.out HKL.out HKF.out T0 hI2 hsyn hst8 (by omega) (by show g.at_ ≤ 100000; omega) (by rw [HKN.out]; omega) (by show g.many ≤ 1000; rw [HMANY.out]; omega) (by show g.taken.length ≤ 1000; rw [HTK.out]; simp))
        (stopN_c K hiso hin G B0 B1 L R h1 h2 h3 w2 S tg n0 (t, g) (stepsOf ss k) HKL.out T0 hsyn (by omega) hlS) ?_
      intro a' w3 Vr Vq A' B' hF' h15 h16 hR2 hne
      rw [hF'.puts]
      simp only [List.foldl_cons, List.foldl_nil, h15, h16]
      generalize a'.eval (.tmp 117) = z117
      generalize a'.eval (.tmp 118) = z118
      generalize a'.eval (.tmp 119) = z119
      generalize a'.eval (.tmp 120) = z120
      generalize a'.eval (.tmp 121) = z121
      generalize a'.eval (.tmp 122) = z122
      generalize a'.eval (.tmp 123) = z123
      generalize a'.eval (.tmp 124) = z124
      generalize a'.eval (.tmp 125) = z125
      generalize a'.eval (.tmp 126) = z126
      generalize a'.eval (.tmp 127) = z127
      generalize a'.eval (.tmp 128) = z128
      generalize a'.eval (.tmp 116) = z116
      generalize a'.eval (.tmp 129) = z129
      generalize a'.eval (.tmp 130) = z130
      simp only [Act.put, List.setIfInBounds_toArray, List.set_cons_succ, List.set_cons_zero]
      obtain ⟨hhas3, S', mm, A2, cap, ⟨hmm, hov, hmv, hbs3, hI3⟩, hu3, hA2, rfl, rfl⟩ := hR2
      have hfacts := sinK_facts (lineWire B0 L R) K HKL.out n0 (t, g) (h0N tg n0) T0 hsyn mm hov mm (Nat.le_refl _)
      obtain ⟨hh, hhe⟩ : ∃ hh, (stN K B0 L R tg n0 (t, g) mm).2 = hh := ⟨_, rfl⟩
      obtain ⟨⟨t3, g3⟩, hge3⟩ : ∃ x, (stN K B0 L R tg n0 (t, g) mm).1 = x := ⟨_, rfl⟩
      have hfacts2 : SynI K T0 n0 hh g3 ∧ g3.at_ ≤ g.at_ + mm ∧ g3.many = g.many ∧ g3.taken = g.taken := by
        have e1 : (sinK (lineWire B0 L R) K n0 (t, g) (h0N tg n0) mm).2 = hh := hhe
        have e2 : (sinK (lineWire B0 L R) K n0 (t, g) (h0N tg n0) mm).1 = (t3, g3) := hge3
        rw [e1, e2] at hfacts
        exact hfacts
      obtain ⟨hsy3, hat3, hmy3, htk3⟩ := hfacts2
      have hfin := in_fin hsy3
      rw [hge3] at hI3
      rw [hhe] at hhas3 hu3 hA2
      have hA3 := (hhas3 _ (List.mem_cons_self ..)).1
      have hAge3 := (hhas3 _ (List.mem_cons_self ..)).2
      have hB3 := (hhas3 _ (List.mem_cons_of_mem _ (List.mem_cons_self ..))).1
      have hBge3 := (hhas3 _ (List.mem_cons_of_mem _ (List.mem_cons_self ..))).2
      have hAS3 := hbs3 _ (List.mem_cons_self ..)
      have hBS3 := hbs3 _ (List.mem_cons_of_mem _ (List.mem_cons_self ..))
      dsimp only at hA3 hB3 hAge3 hBge3 hAS3 hBS3
      have hX3 := hmv.heap hX2 hXS
      have hP3 := hmv.heap hP2 hPS
      have hPS3 := hmv.out (Array.getElem?_eq_some_iff.1 hP2).1 hPS
      have hown3 : w3.ownsRow B1 5 1 u10 T0.length (T0.map (Value.int .u8)) := by
        refine ⟨hown2.1, hown2.2.imp id ?_⟩
        rintro ⟨q, cap, cur, rfl, hq, hh, h3⟩
        exact ⟨q, cap, cur, rfl, hq, hmv.heap hh (hoS q rfl), h3⟩
      have hol2 : ∀ i, u10.ownBlock = some i → B1 ≤ i ∧ i < w2.heap.size := fun i hi => hown2.lt i hi
      have hoS3 : ∀ i, u10.ownBlock = some i → ¬ S' i := fun i hi hs => hoS i hi (hmv.sub i (hown2.lt i hi).2 hs)
      have hbw3 : Below w.heap.size w w3 := hbw2.trans ⟨hmv.os, hmv.tape, hmv.output, hmv.size, fun i hi => hmv.block i (by have := hbw2.size; omega) (fun hs => by rcases hSge _ hs with h | h <;> omega)⟩
      have hs23 := hmv.size
      have hsb2 := hb2.size
      have hSge3 : ∀ i, S' i → i = G ∨ B0 ≤ i := fun i hi => by
        by_cases hlt : i < w2.heap.size
        · exact hSge i (hmv.sub i hlt hi)
        · right; omega
      have hF3 : ∀ i, i < B0 → i ≠ G → w3.heap[i]? = wm.heap[i]? := fun i hi hne =>
        ((hmv.block i (by omega) (fun hs => by rcases hSge _ hs with h | h; exact hne h; omega)).trans (hb2.block i (by omega))).trans (hK0 i hi hne)
      have hf3 : ∀ i, i < B0 → i ≠ G → w3.heap[i]? = w7.heap[i]? := fun i hi hne => (hF3 i hi hne).trans (HK7.out i hi).symm
      have hU4 : U8 w3 A4 N4 c4 (cutsN ofs).flatten := HU4.out.far HA4.out (fun i hi => hF3 i hi.1 hi.2)
      have hE3 : ∀ (j : Nat) (z : Int), (endsN (cutsN ofs) on)[j]? = some z → w3.cell? ⟨gE, j, none⟩ = some (.int .i64 z) := fun j z hz => (World.cell?_of_block (a := ⟨gE, j, none⟩) (hF3 gE hEfx.1 hEfx.2)).trans (HE8.out.at hz)
      obtain ⟨gl, hgl⟩ : ∃ gl, hh.got.length = gl := ⟨_, rfl⟩
      obtain ⟨e3, he3⟩ : ∃ e3, stNE hh = e3 := ⟨_, rfl⟩
      obtain ⟨ha3, hha3⟩ : ∃ ha3, stNHa hh = ha3 := ⟨_, rfl⟩
      obtain ⟨tg3, htg3⟩ : ∃ tg3, hh.tg = tg3 := ⟨_, rfl⟩
      obtain ⟨F1, F2, F3, F4, F5, F6, F7, F8', F9⟩ := hfin
      rw [hgl, he3] at hA3
      rw [hha3, htg3] at hB3
      rw [hgl] at hu3 hA2 F1
      rw [he3] at F4 F6 F7 F8'
      rw [hgl] at F6
      rw [hha3] at F7 F8' F9
      rw [htg3] at F9
      rw [HKO.out] at F3 F4 F5 F6
      rw [HKN.out] at F2 F5
      have a0 : w3.cell? ⟨A', 0, none⟩ = some (.int .i64 e3) := cell_of hA3 0
      have a1 : w3.cell? ⟨A', 1, none⟩ = some (.slice A2 gl cap) := cell_of hA3 1
      have a2 : w3.cell? ⟨A', 2, none⟩ = some (.int .i64 (gl : Int)) := cell_of hA3 2
      have a3 : w3.cell? ⟨A', 3, none⟩ = some (.slice none 0 0) := cell_of hA3 3
      have hgn : ¬ (n0 : Int) < (gl : Int) := by omega
      have HI3 := Lib.hid hI3
      have HA3 := Lib.hid hA3
      have HB3 := Lib.hid hB3
      have HX3 := Lib.hid hX3
      have HP3 := Lib.hid hP3
      have HU4' := Lib.hid hU4
      have HE3 := Lib.hid hE3
      have HF4 := Lib.hid F4
      have HF5 := Lib.hid F5
      have HF6 := Lib.hid F6
      have HF7 := Lib.hid F7
      have HF8 := Lib.hid F8'
      have HF9 := Lib.hid F9
      have HF3 := Lib.hid F3
      have Hf3 := Lib.hid hf3
      have HM3 := Lib.hid (hmy3.trans HMANY.out)
      have HT3 := Lib.hid (htk3.trans HTK.out)
      have HGL := Lib.hid hgl
      have HOS3 := Lib.hid hoS3
      have HSG3 := Lib.hid hSge3
      have HL2 := Lib.hid hol2
      have HBS := Lib.hid (And.intro hAS3 hBS3)
      clear hI3 hA3 hB3 hX3 hP3 hU4 hE3 F4 F5 F6 F7 F8' F9 F3 hf3 hF3 hmy3 htk3 hgl hoS3 hSge3 hol2 hAS3 hBS3 he3 hha3 htg3 hhe hge3 hfacts hsy3 hov hbs3 hhas3 hmv hI2 hX2 hP2 hown2 hbw2 hVA hWA hb12 hb2 hb1 hI0 hI hXr hP hPS hown hoS hSge hbw hSlt hAS hXS hsyn hlS
      go_upto_region 26 with fail
      clear a2 a3 hgn
      obtain ⟨sv, w4, hrun, hown4, hgr4, hat4⟩ := app8 (w := w3) (B1 := B1) (tv := u10) (ys := T0) (xs := hh.got) (A := A2) (n := gl) (c := cap) hown3 hu3 (by omega) (by omega) (by omega)
      obtain ⟨n4, hn4⟩ : ∃ n4, (T0 ++ hh.got).length = n4 := ⟨_, rfl⟩
      have hsr4 : ∀ x ∈ T0 ++ hh.got, 0 ≤ x ∧ x ≤ 255 := fun x hx => (List.mem_append.1 hx).elim (HSR.out x) (hu3.2.1 x)
      have hkeep4 : ∀ i, i < w3.heap.size → u10.ownBlock ≠ some i → w4.heap[i]? = w3.heap[i]? := fun i hi hne => hgr4.block i hi (fun e => hne e.symm)
      have hol6 := HL2.out
      have hne2 : ∀ i, (i < B1 ∨ w2.heap.size ≤ i) → u10.ownBlock ≠ some i := fun i hi e => by have := hol6 i e; omega
      have hA4' := (hkeep4 A' (Array.getElem?_eq_some_iff.1 HA3.out).1 (hne2 _ (.inr hAge3))).trans HA3.out
      have hB4 := (hkeep4 B' (Array.getElem?_eq_some_iff.1 HB3.out).1 (hne2 _ (.inr hBge3))).trans HB3.out
      have hX4 := (hkeep4 _ (Array.getElem?_eq_some_iff.1 HX3.out).1 (hne2 _ (.inl (by omega)))).trans HX3.out
      have hP4 := (hkeep4 _ (Array.getElem?_eq_some_iff.1 HP3.out).1 (hne2 _ (.inl (by omega)))).trans HP3.out
      have hs4 := hgr4.size
      have hB13 : B1 ≤ w3.heap.size := by omega
      have hI4 : (mN K hiso hin G B0 B1 L R h1 h2 h3).I w4 S' (t3, g3) := Bus.keep (mN K hiso hin G B0 B1 L R h1 h2 h3) HI3.out (fun i hi => by
        rcases hi with hi | hi
        · have hi : i < B0 := hi
          exact hkeep4 i (by omega) (hne2 i (.inl (by omega)))
        · exact hkeep4 i ((mN K hiso hin G B0 B1 L R h1 h2 h3).lt HI3.out i hi) (fun e => HOS3.out i e hi)) hs4
      have hbw4 : Below w.heap.size w w4 := hbw3.trans ⟨hgr4.os, hgr4.tape, hgr4.output, hs4, fun i hi => hkeep4 i (by omega) (hne2 i (.inl (by omega)))⟩
      have hf4 : ∀ i, i < B0 → i ≠ G → w4.heap[i]? = w7.heap[i]? := fun i hi hne => (hkeep4 i (by omega) (hne2 i (.inl (by omega)))).trans (Hf3.out i hi hne)
      have hU4 : U8 w4 A4 N4 c4 (cutsN ofs).flatten := HU4'.out.far HA4.out (fun i hi => hkeep4 i (by have := hi.1; omega) (hne2 i (.inl (by have := hi.1; omega))))
      have hE4 : ∀ (j : Nat) (z : Int), (endsN (cutsN ofs) on)[j]? = some z → w4.cell? ⟨gE, j, none⟩ = some (.int .i64 z) := fun j z hz => (World.cell?_of_block (a := ⟨gE, j, none⟩) (hkeep4 gE (by have := hEfx.1; omega) (hne2 gE (.inl (by have := hEfx.1; omega))))).trans (HE3.out j z hz)
      rw [hn4] at hown4
      obtain ⟨sA4, sc4, rfl, hU5, _⟩ := u8_row hsr4 hown4
      obtain ⟨tv3, hGA4, _, _, _⟩ := id hI4
      have hgb := hGA4.box
      rw [HGC.out] at hgb
      have g6 : w4.cell? ⟨G, 6, none⟩ = some (.slice T on tc) := cell_of hgb 6
      have g7 : w4.cell? ⟨G, 7, none⟩ = some (.int .i64 (g3.nx : Int)) := cell_of hgb 7
      have g3t : w4.cell? ⟨G, 3, none⟩ = some (.bool g3.tg) := cell_of hgb 3
      obtain ⟨nx3, hnx3⟩ : ∃ nx3, g3.nx = nx3 := ⟨_, rfl⟩
      rw [hnx3] at g7 F2
      obtain ⟨kn, hkn⟩ : ∃ kn, (((cutsN ofs).take nx3).flatten).length = kn := ⟨_, rfl⟩
      have ck : w4.cell? ⟨gE, nx3, none⟩ = some (.int .i64 (kn : Int)) := by rw [← hkn]; exact hE4 nx3 _ (endsN_at _ F2)
      obtain ⟨mx, hmx⟩ : ∃ mx, min (nx3 + 1) on = mx := ⟨_, rfl⟩
      obtain ⟨km, hkm⟩ : ∃ km, (((cutsN ofs).take mx).flatten).length = km := ⟨_, rfl⟩
      have cm : w4.cell? ⟨gE, mx, none⟩ = some (.int .i64 (km : Int)) := by rw [← hkm]; exact hE4 mx _ (endsN_at _ (by omega))
      have q6 : (nx3 : Int) < ((on + 1 : Nat) : Int) := by omega
      have q7 : (0 : Int) ≤ (nx3 : Int) := by omega
      have q8 : (mx : Int) < ((on + 1 : Nat) : Int) := by omega
      have q9 : (0 : Int) ≤ (mx : Int) := by omega
      have hpre := HF3.out
      rw [hn4] at hpre
      have hfar : n4 ≤ km := by
        have h := HF5.out
        rw [hn4, hnx3, hmx, hkm] at h
        exact h
      have hknown : e3 ≠ 13 → kn ≤ n4 := fun h => by
        have h' := HF4.out h
        rw [hnx3, hkn, hn4] at h'
        exact h'
      have hn4e : n4 = T0.length + gl := by rw [← hn4, List.length_append, HGL.out]
      have hn4L : n4 ≤ N4 := by
        have h := congrArg List.length hpre
        rw [hn4, List.length_take, HN4.out] at h
        omega
      rw [hpre] at hU5
      have hun : ∀ q, Calls Tryz.prog 14 #[.slice sA4 n4 sc4, .slice A4 N4 c4] (w4.drewN q) fun e w' => e = .returned (.bool true) ∧ ∃ m, w' = (w4.drewN q).drewN m := fun q => begins_ret sA4 A4 n4 sc4 N4 c4 (cutsN ofs).flatten (w4.drewN q) (hU5.drewN q) (hU4.drewN q)
      have hw8 : IntKind.i64.wrap ((nx3 : Int) + 1) = (nx3 : Int) + 1 := IntWalk.i64_in _ (by omega)
      have hmin : min ((nx3 : Int) + 1) (on : Int) = (mx : Int) := by omega
      have d3 : decide (km < n4) = false := by simp; omega
      have d4 : decide ((km : Int) < (n4 : Int)) = false := by simp; omega
      have b9 : w4.cell? ⟨B', 9, none⟩ = some (.bool tg3) := cell_of hB4 9
      have b10 : w4.cell? ⟨B', 10, none⟩ = some (.bool ha3) := cell_of hB4 10
      have f0 : w4.cell? ⟨A', 0, none⟩ = some (.int .i64 e3) := cell_of hA4' 0
      have f2 : w4.cell? ⟨A', 2, none⟩ = some (.int .i64 (gl : Int)) := cell_of hA4' 2
      have HN4E := Lib.hid hn4e
      have HNN4 := Lib.hid hn4
      have HKN' := Lib.hid hknown
      have HMIN := Lib.hid hmx
      have HI4 := Lib.hid hI4
      have HOWN4 := Lib.hid hown4
      have HAT4 := Lib.hid hat4
      have HB4 := Lib.hid hB4
      have HP4 := Lib.hid hP4
      have HX4 := Lib.hid hX4
      have HE4 := Lib.hid hE4
      have Hf4 := Lib.hid hf4
      have HSR4 := Lib.hid hsr4
      have HNX := Lib.hid hnx3
      clear hn4e hn4 hknown hmx hI4 hown4 hat4 hB4 hP4 hX4 hE4 hf4 hsr4 hnx3 hkn hkm hpre hU5 hU4 hGA4 hgb hkeep4 hne2 hol6 hgr4 hown3 hu3 hA4' hfar hA2
      go_upto_region 27 with fail
      clear hrun a0 a1
      go_upto_region 28 with fail
      go_cut [193] from 88 to 192 (fun c wx => c = .bool false ∧ ∃ q, wx = w4.drewN q)
      case first =>
        as_aux_lemma =>
          by_cases he13 : e3 = 13
          · subst he13
            go_quiet ((go_at_call 14; exact Calls.quiet_of (hun _)))
            go_wp2_with fail
            go_meet
            exact ⟨rfl, _, rfl⟩
          · have he : (e3 != 13) = true := by simp [he13]
            have hk := HKN'.out he13
            have d5 : decide (n4 < kn) = false := by simp; omega
            have d6 : decide ((n4 : Int) < (kn : Int)) = false := by simp; omega
            clear hk
            go_quiet ((go_at_call 14; exact Calls.quiet_of (hun _)))
            go_wp2_with fail
            go_meet
            exact ⟨rfl, _, rfl⟩
      case rest =>
        obtain ⟨rfl, q1', rfl⟩ := hcut
        clear hun g6 g7 cm ck hmin hw8 d3 d4 q6 q7 q8 q9
        go_upto_region 30 with fail
        go_cut [209] from 88 to 208 (fun c wx => c = .bool false ∧ ∃ q, wx = w4.drewN q)
        case first =>
          as_aux_lemma =>
            by_cases he0 : e3 = 0
            · subst he0
              by_cases hlt0 : gl < n0
              · have qg : (gl : Int) < (n0 : Int) := by omega
                obtain ⟨kk, bb, hb1, hb2, hb3⟩ := HF6.out rfl hlt0
                have hkk : kk < on := by rw [← HOL.out]; exact (List.getElem?_eq_some_iff.1 hb1).1
                have hI8 : I8 w4 gE (on + 1) (endsN (cutsN ofs) on) := ⟨endsN_len _ _, fun j hj => by
                  rw [endsN_at _ (show j ≤ on by omega)]
                  exact HE4.out j _ (endsN_at _ (by omega))⟩
                have hk1 : (endsN (cutsN ofs) on)[kk + 1]? = some (n4 : Int) := by rw [endsN_at _ (by omega), ← HNN4.out, hb3]
                have hk0 := endsN_at (cutsN ofs) (j := kk) (k := on) (by omega)
                have hd : (n4 : Int) - ((((cutsN ofs).take kk).flatten).length : Int) < 8 := by
                  rw [← HNN4.out, hb3, List.take_add_one, hb1]
                  simp
                  omega
                have hsh : ∀ q, Calls Tryz.prog 16 #[.slice (some ⟨gE, 0, none⟩) (on + 1) ec, .int .i64 (n4 : Int)] (w4.drewN q) fun e w' => e = .returned (.bool true) ∧ ∃ m, w' = (w4.drewN q).drewN m := fun q => short_ret gE (on + 1) ec (endsN (cutsN ofs) on) (n4 : Int) kk _ (w4.drewN q) ⟨hI8.1, hI8.2⟩ (by omega) (endsN_rng _ hoff on (by omega)) hk1 hk0 hd
                clear hb1 hb2 hb3 hk1 hk0 hd hI8
                go_wp2_with fail
                refine (hsh _).mono ?_
                clear hsh
                rintro e w8 ⟨rfl, m, rfl⟩
                go_wp2_with fail
                go_meet
                exact ⟨rfl, _, rfl⟩
              · have qg : ¬ (gl : Int) < (n0 : Int) := by omega
                go_wp2_with fail
                go_meet
                exact ⟨rfl, _, rfl⟩
            · have he1 : (e3 == 0) = false := by simp [he0]
              go_wp2_with fail
              go_meet
              exact ⟨rfl, _, rfl⟩
        case rest =>
          obtain ⟨rfl, q2', rfl⟩ := hcut
          go_upto_region 32 with fail
          go_cut [231] from 88 to 230 (fun c wx => c = .bool false ∧ ∃ q, wx = w4.drewN q)
          case first =>
            as_aux_lemma =>
              by_cases he0 : e3 = 0
              · subst he0
                have hha0 := HF7.out rfl
                subst hha0
                go_wp2_with fail
                go_meet
                exact ⟨rfl, _, rfl⟩
              · have he2 : (e3 != 0) = true := by simp [he0]
                have he4 : (e3 == 0) = false := by simp [he0]
                by_cases he17 : e3 = 17
                · subst he17
                  go_wp2_with fail
                  go_meet
                  exact ⟨rfl, _, rfl⟩
                · have he3 : (e3 != 17) = true := by simp [he17]
                  have hhat := HF8.out he0 he17
                  subst hhat
                  go_wp2_with fail
                  go_meet
                  exact ⟨rfl, _, rfl⟩
          case rest =>
            obtain ⟨rfl, q3', rfl⟩ := hcut
            have pq9 : w4.cell? ⟨P, 9, none⟩ = some (.bool tg) := cell_of HP4.out 9
            have pf9 := frozen_of HP4.out 9
            have pq10 : w4.cell? ⟨P, 10, none⟩ = some (.bool false) := cell_of HP4.out 10
            have pf10 := frozen_of HP4.out 10
            go_upto_region 36 with fail
            obtain ⟨w6, hw6⟩ : ∃ w6, (((w4.drewN q3').setCell ⟨P, 9, none⟩ (.bool tg3)).setCell ⟨P, 10, none⟩ (.bool ha3)) = w6 := ⟨_, rfl⟩
            have hW6 : Wrote P w4 w6 := by rw [← hw6]; exact (((Wrote.refl P w4).drewN _).setCell 9 _).setCell 10 _
            have hP6 : w6.heap[P]? = some (.cells (spC 2 0 true tg3 ha3) 30 (0, 0)) := by rw [← hw6]; exact (((Put1.refl (w := w4.drewN q3') HP4.out).set 9 (.bool tg3)).set 10 (.bool ha3)).heap
            have hB6 : w6.heap[B']? = some (.cells (spC 2 0 true tg3 ha3) 30 (0, 0)) := (hW6.other B' (by omega)).trans HB4.out
            rw [hw6]
            clear hw6 pq9 pf9 pq10 pf10 g3t b9 b10 f0 f2
            have HREL : Hid (LoopN w w7 K hiso hin G B0 B1 L R P h1 h2 h3 (k + 1) (.slice sA4 n4 sc4) w6) := by
              have hsv : ∀ i, (Value.slice sA4 n4 sc4).ownBlock = some i → ¬ S' i ∧ i ≠ P := fun i hi => by
                rcases HAT4.out i hi with h | h
                · exact ⟨HOS3.out i h, fun e => by have := (HL2.out i h).1; omega⟩
                · have h : w3.heap.size ≤ i := h
                  exact ⟨fun hs => by have := (mN K hiso hin G B0 B1 L R h1 h2 h3).lt HI3.out i hs; omega, fun e => by omega⟩
              refine Lib.hid ⟨S', t3, g3, tg3, ha3, T0 ++ hh.got, Bus.wrote HI4.out hW6 (by show B0 ≤ P; omega) hPS3, hbw4.trans (hW6.below (by omega)), HSG3.out, fun i hi hne => (hW6.other i (by omega)).trans (Hf4.out i hi hne), hP6, hPS3, ?_, fun i hi => (hsv i hi).1, HSR4.out, HF9.out, ?_, ?_, HM3.out, HT3.out, ?_⟩
              · rw [HNN4.out]
                exact own_wg HOWN4.out hW6 (fun i hi => (hsv i hi).2)
              · rw [HNN4.out, HN4E.out]; omega
              · omega
              · rw [HNX.out, HKN.out]; exact F2
            unfold spC at hP6 hB6
            go_wp2_with (guard_target =~ wpList _ _ _ (_ :: _) _ _; first
              | refine wpList_load_row rfl (.tmp 9) 30 rfl P 30 _ _ rfl hP6 Tryz.underlying30 rfl (by kernel_rfl) ?_
              | refine wpList_load_row rfl (.tmp 16) 30 rfl B' 30 _ _ rfl hB6 Tryz.underlying30 rfl (by kernel_rfl) ?_)
            go_round
            case rel => exact ⟨k + 1, by go_num, by omega, HREL.out⟩
            case measure => simp [intOf]; omega
    · have hlv := fun w' (hb : Below wr.heap.size wr w') => HLI.out w' (hbw.trans (hb.mono hbw.size))
      by_cases hk2 : k < ln
      · have q5 : (k : Int) < (ln : Int) := by omega
        obtain rfl : ha = true := by cases ha; exact absurd ⟨hk2, rfl⟩ hlt; rfl
        clear hlt
        go_wp2_with fail
        refine (hlv wr (Below.refl _ _)).mono ?_
        rintro e w9 ⟨rfl, hb9⟩
        go_wp2_with fail
        go_ret
        exact ⟨rfl, hbw.trans (hb9.mono hbw.size)⟩
      · have q5 : ¬ (k : Int) < (ln : Int) := by omega
        clear hlt
        go_wp2_with fail
        refine (hlv wr (Below.refl _ _)).mono ?_
        rintro e w9 ⟨rfl, hb9⟩
        go_wp2_with fail
        go_ret
        exact ⟨rfl, hbw.trans (hb9.mono hbw.size)⟩
end Go.Proofs.YtiajboiobjfcoaaGreatDoor
