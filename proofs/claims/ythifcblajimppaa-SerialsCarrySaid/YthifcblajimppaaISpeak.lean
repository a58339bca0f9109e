/-
  What is proved here: what transactions.Speak returns and does.
  Conditions: the packets are such as Check accepts; the device's and the wire's contracts.
-/
import Derived.Test.YthifcblajimppaaISend
namespace Go.Proofs.Ythifcblajimppaa
open Go.Proofs Go.RowKit
attribute [local go_sem] lt2 lt3 lt4 lt5
def CkOk (p : Pk) : Prop := ∀ (w : World) (A : Option Addr) (n c : Nat), U8 w A n c p.data → Calls Try.prog 48 #[pkV p (.slice A n c)] w fun e w' => e = .returned (.int .i64 0) ∧ Below w.heap.size w w'
def Bus.speak (M : Bus) (dev : Bool) (s : M.σ) (p : Pk) : Option Pk × M.σ :=
 if (M.nx s).1 = 0 ∧ dev = true then
  match M.hr (M.nx s).2 p with
  | (none, s2) => (none, s2)
  | (some q, s2) => if (M.nx s2).1 = 0 then (some q, (M.nx s2).2) else (none, (M.nx s2).2)
 else (none, (M.nx s).2)
def SentV (w : World) (S : Nat → Prop) (B : Nat) (A : Option Addr) (n c : Nat) (f1 : Int) : Prop :=
 ∃ (g : Nat) (us : List Value), A = some ⟨g, 0, none⟩ ∧ ¬ S g ∧ B ≤ g ∧ 1 ≤ n ∧ n ≤ 2 ∧ n ≤ c ∧ us.length = n * 12 ∧ (∀ (j : Nat) u, us[j]? = some u → w.cell? ((⟨g, 0, none⟩ : Addr).add j) = some u) ∧ (∀ u ∈ us, u.oneCell' = true) ∧ us[11]? = some (.int .u8 f1)
def devV (M : Bus) (dev : Bool) : Value := if dev then .iface 29 (.pointer (some M.ga)) else .nilIface
def SpeakEnd (M : Bus) (dev : Bool) (s : M.σ) (p : Pk) (w : World) (S : Nat → Prop) (e : Ending) (w' : World) : Prop :=
 ∃ S' A' n' c' sA sn sc, e = .returned (.tuple #[pkV ((M.speak dev s p).1.getD pk0) (.slice A' n' c'), .bool (M.speak dev s p).1.isSome, .slice sA sn sc]) ∧ M.I w' S' (M.speak dev s p).2 ∧ Mv S w S' w' ∧
  D8 w' S' A' n' c' ((M.speak dev s p).1.getD pk0).data ∧ (n' = 0 ∨ ∃ a, A' = some a ∧ w.heap.size ≤ a.block) ∧ SentV w' S' w.heap.size sA sn sc (M.nx s).1
theorem speak_no {M : Bus} {s : M.σ} {p : Pk} (h1 : (M.nx s).1 = 0) (h2 : (M.hr (M.nx s).2 p).1 = none) : M.speak true s p = (none, (M.hr (M.nx s).2 p).2) := by
 unfold Bus.speak
 rw [if_pos ⟨h1, rfl⟩]
 rcases h : M.hr (M.nx s).2 p with ⟨a, s2⟩
 rw [h] at h2
 subst h2
 rfl
theorem speak_some {M : Bus} {s : M.σ} {p q : Pk} (h1 : (M.nx s).1 = 0) (h2 : (M.hr (M.nx s).2 p).1 = some q) :
  M.speak true s p = if (M.nx (M.hr (M.nx s).2 p).2).1 = 0 then (some q, (M.nx (M.hr (M.nx s).2 p).2).2) else (none, (M.nx (M.hr (M.nx s).2 p).2).2) := by
 unfold Bus.speak
 rw [if_pos ⟨h1, rfl⟩]
 rcases h : M.hr (M.nx s).2 p with ⟨a, s2⟩
 rw [h] at h2
 subst h2
 rfl
theorem own_form {w : World} {B size n : Nat} {e : TypeId} {v : Value} {xs : List Value} (h : w.ownsRow B e size v n xs) (hn : 0 < n) : ∃ g cap, v = .slice (some ⟨g, 0, none⟩) n cap ∧ B ≤ g ∧ n ≤ cap := by
 rcases h.2 with ⟨_, h0⟩ | ⟨g, cap, cur, e, hg, _, hc, _⟩
 ·omega
 ·exact ⟨g, cap, e, hg, hc⟩
theorem sentv_of {w : World} {S : Nat → Prop} {B B' g k cap : Nat} {us : List Value} {f : Int} (h : w.ownsRow B 118 12 (.slice (some ⟨g, 0, none⟩) k cap) k us) (hk : 1 ≤ k ∧ k ≤ 2) (hg : ¬ S g) (hB : B' ≤ g)
  (h1 : ∀ u ∈ us, u.oneCell' = true) (h11 : us[11]? = some (.int .u8 f)) : SentV w S B' (some ⟨g, 0, none⟩) k k f :=
 ⟨g, us, rfl, hg, hB, hk.1, hk.2, Nat.le_refl _, h.1, fun j u hj => by
  have hl := (List.getElem?_eq_some_iff.1 hj).1
  rw [show (⟨g, 0, none⟩ : Addr).add j = ⟨g, j, none⟩ by unfold Addr.add; split <;> simp_all]
  exact (h.cellAt j (by rw [← h.1]; exact hl)).trans (by first | exact hj | rw [← hj]), h1, h11⟩
theorem speak_none {M : Bus} {dev : Bool} {s s2 : M.σ} {p : Pk} {w w2 w3 : World} {S S2 : Nat → Prop} {g k cap : Nat} {us : List Value} {f : Int}
  (hr : M.speak dev s p = (none, s2)) (HF : Hid ((M.nx s).1 = f)) (hI2 : M.I w2 S2 s2) (hB0 : M.B0 ≤ w.heap.size) (hm : Mv S w S2 w2) (hO : w2.ownsRow (w.heap.size + 1 + 1 + 1 + 1) 118 12 (.slice (some ⟨g, 0, none⟩) k cap) k us)
  (hk : 1 ≤ k ∧ k ≤ 2) (hg : ¬ S2 g) (h1 : ∀ u ∈ us, u.oneCell' = true) (h11 : us[11]? = some (.int .u8 f)) (hz : ¬ S2 (w.heap.size + 1 + 1)) (hW : Wrote (w.heap.size + 1 + 1) w2 w3) :
  SpeakEnd M dev s p w S (.returned (.tuple #[pkV pk0 (.slice none 0 0), .bool false, .slice (some ⟨g, 0, none⟩) k k])) w3 := by
 unfold SpeakEnd
 rw [hr, HF.out]
 have hge := own_ge hO g rfl
 exact ⟨S2, none, 0, 0, _, k, k, rfl, Bus.wrote hI2 hW (by omega) hz, hm.wrote hW (by omega), D8.nil _ _, .inl rfl, sentv_of (hW.own hO (by omega)) hk hg (by omega) h1 h11⟩
theorem put10 {w : World} {g : Nat} {t : TypeId} {z0 z1 z2 z3 z4 z5 z6 z7 z8 z9 : Value} (h : w.heap[g]? = some (.cells #[z0, z1, z2, z3, z4, z5, z6, z7, z8, z9] t (0, 0))) (v0 v1 v2 v3 v4 v5 v6 v7 v8 v9 : Value) :
  ((((((((((w.setCell ⟨g, 0, none⟩ v0).setCell ⟨g, 1, none⟩ v1).setCell ⟨g, 2, none⟩ v2).setCell ⟨g, 3, none⟩ v3).setCell ⟨g, 4, none⟩ v4).setCell ⟨g, 5, none⟩ v5).setCell ⟨g, 6, none⟩ v6).setCell ⟨g, 7, none⟩ v7).setCell ⟨g, 8, none⟩ v8).setCell ⟨g, 9, none⟩ v9).heap[g]? = some (.cells #[v0, v1, v2, v3, v4, v5, v6, v7, v8, v9] t (0, 0)) ∧ Wrote g w ((((((((((w.setCell ⟨g, 0, none⟩ v0).setCell ⟨g, 1, none⟩ v1).setCell ⟨g, 2, none⟩ v2).setCell ⟨g, 3, none⟩ v3).setCell ⟨g, 4, none⟩ v4).setCell ⟨g, 5, none⟩ v5).setCell ⟨g, 6, none⟩ v6).setCell ⟨g, 7, none⟩ v7).setCell ⟨g, 8, none⟩ v8).setCell ⟨g, 9, none⟩ v9) := by
 have hP := (((((((((((Put1.refl h).set 0 v0).set 1 v1).set 2 v2).set 3 v3).set 4 v4).set 5 v5).set 6 v6).set 7 v7).set 8 v8).set 9 v9)
 exact ⟨by simpa using hP.heap, hP.wrote⟩
def HeardIn (M : Bus) (w2 : World) (S1 : Nat → Prop) (s1 : M.σ) (p : Pk) (g : Nat) (b : Bool) (wx : World) : Prop :=
 ∃ S2 q A4 n4 c4, wx.heap[g]? = some (.cells #[.int .u8 q.pid, .int .u8 q.addr, .int .u8 q.endp, .int .u16 0, .int .u8 0, .int .u8 0, .bool false, .bool false, .int .u8 0, .slice A4 n4 c4] 113 (0, 0)) ∧ w2.heap.size ≤ g ∧ ¬ S2 g ∧
  Mv S1 w2 S2 wx ∧ M.I wx S2 (M.hr s1 p).2 ∧ D8 wx S2 A4 n4 c4 q.data ∧ (n4 = 0 ∨ ∃ a, A4 = some a ∧ (a.block < M.B0 ∨ w2.heap.size ≤ a.block)) ∧ (M.hr s1 p).1 = (if b then some q else none)
theorem heard_new {M : Bus} {w2 w3 w4 : World} {S1 S2 : Nat → Prop} {s1 : M.σ} {p q : Pk} {b : Bool} {A4 : Option Addr} {n4 c4 : Nat} (hb3 : Below w2.heap.size w2 w3) (hm4 : Mv S1 w3 S2 w4) (hI2 : M.I w4 S2 (M.hr s1 p).2) (hd4 : D8 w4 S2 A4 n4 c4 q.data) (hf4 : n4 = 0 ∨ ∃ a, A4 = some a ∧ (a.block < M.B0 ∨ w3.heap.size ≤ a.block))
  (hq : (M.hr s1 p).1 = (if b then some q else none)) : HeardIn M w2 S1 s1 p w4.heap.size b (w4.alloc (.cells #[.int .u8 q.pid, .int .u8 q.addr, .int .u8 q.endp, .int .u16 0, .int .u8 0, .int .u8 0, .bool false, .bool false, .int .u8 0, .slice A4 n4 c4] 113)) :=
 ⟨S2, q, A4, n4, c4, heap_alloc_new w4 _, Nat.le_trans hb3.size hm4.size, Bus.new hI2 (Nat.le_refl _), (((Mv.refl S1 w2).below hb3).trans hm4).alloc _, Bus.below hI2 ((Below.refl _ _).alloc (Nat.le_refl _) _), hd4.below ((Below.refl _ _).alloc (Nat.le_refl _) _), hf4.imp id fun ⟨a, e, h⟩ => ⟨a, e, h.imp id (Nat.le_trans hb3.size)⟩, hq⟩
theorem heard_old {M : Bus} {w2 w3 w4 w5 : World} {S1 S2 : Nat → Prop} {s1 : M.σ} {p q : Pk} {b : Bool} {A4 : Option Addr} {n4 c4 g : Nat} (hI1 : M.I w2 S1 s1) (hb3 : Below w2.heap.size w2 w3) (hm4 : Mv S1 w3 S2 w4) (hI2 : M.I w4 S2 (M.hr s1 p).2) (hd4 : D8 w4 S2 A4 n4 c4 q.data) (hf4 : n4 = 0 ∨ ∃ a, A4 = some a ∧ (a.block < M.B0 ∨ w3.heap.size ≤ a.block))
  (hq : (M.hr s1 p).1 = (if b then some q else none)) (hg : w2.heap.size ≤ g) (hg3 : g < w3.heap.size) (hW : Wrote g w4 w5) (hZ : w5.heap[g]? = some (.cells #[.int .u8 q.pid, .int .u8 q.addr, .int .u8 q.endp, .int .u16 0, .int .u8 0, .int .u8 0, .bool false, .bool false, .int .u8 0, .slice A4 n4 c4] 113 (0, 0)))
  (hne : n4 = 0 ∨ ∃ a, A4 = some a ∧ a.block ≠ g) : HeardIn M w2 S1 s1 p g b w5 := by
 have hs : ¬ S2 g := hm4.out hg3 (Bus.new hI1 hg)
 exact ⟨S2, q, A4, n4, c4, hZ, hg, hs, (((Mv.refl S1 w2).below hb3).trans hm4).wrote hW hg, Bus.wrote hI2 hW (Nat.le_trans (M.base hI1) hg) hs, ⟨hd4.1.wrote hW hne, hd4.2⟩, hf4.imp id fun ⟨a, e, h⟩ => ⟨a, e, h.imp id (Nat.le_trans hb3.size)⟩, hq⟩
theorem speak_good {M : Bus} {dev : Bool} {s s2 : M.σ} {p q : Pk} {w w2 w2' w3 : World} {S S2 : Nat → Prop} {g k cap n n' : Nat} {A : Option Addr} {us : List Value} {f : Int}
  (hr : M.speak dev s p = (some q, s2)) (HF : Hid ((M.nx s).1 = f)) (hI2 : M.I w2 S2 s2) (hB0 : M.B0 ≤ w.heap.size) (hm : Mv S w S2 w2) (hO : w2.ownsRow (w.heap.size + 1 + 1 + 1 + 1) 118 12 (.slice (some ⟨g, 0, none⟩) k cap) k us)
  (hk : 1 ≤ k ∧ k ≤ 2) (hg : ¬ S2 g) (h1 : ∀ u ∈ us, u.oneCell' = true) (h11 : us[11]? = some (.int .u8 f)) (hz : ¬ S2 (w.heap.size + 1 + 1)) (hzw : w.heap.size + 1 + 1 < w2.heap.size) (hb : Below w2.heap.size w2 w2') (hN : New8 w2 w2' A n n' q.data) (hW : Wrote (w.heap.size + 1 + 1) w2' w3) :
  SpeakEnd M dev s p w S (.returned (.tuple #[pkV q (.slice A n n'), .bool true, .slice (some ⟨g, 0, none⟩) k k])) w3 := by
 unfold SpeakEnd
 rw [hr, HF.out]
 have hge := own_ge hO g rfl
 have hd := hN.d8 (S := S2) (fun i hi => M.lt hI2 i hi)
 exact ⟨S2, A, n, n', _, k, k, rfl, Bus.wrote (Bus.below hI2 hb) hW (by omega) hz, (hm.below hb).wrote hW (by omega),
  ⟨hd.1.wrote hW (hN.2.imp id fun ⟨a, e, h⟩ => ⟨a, e, by omega⟩), hd.2⟩, hN.2.imp id fun ⟨a, e, h⟩ => ⟨a, e, by omega⟩, sentv_of (hW.own (own_below hO hb) (by omega)) hk hg (by omega) h1 h11⟩
set_option maxHeartbeats 30000000 in
set_option maxRecDepth 1000000 in
theorem speak_ret (M : Bus) (dev : Bool) (p : Pk) (A : Option Addr) (n c : Nat) (w : World) (S : Nat → Prop) (s : M.σ)
    (hI : M.I w S s) (hd : D8 w S A n c p.data) (hn : n ≤ 1024) (hck : CkOk p) (hok : dev = true → M.Ok p ∧ M.room (M.nx s).2) (hans : ∀ s q, (M.hr s p).1 = some q → CkOk q ∧ q.data.length ≤ 1024) :
    Calls Try.prog 43 #[devV M dev, M.wv, pkV p (.slice A n c)] w (SpeakEnd M dev s p w S) := by
  have hck0 := fun w h => hck w A n c h
  have hsend := fun (w : World) S s wb sb B k sv us h1 h2 h3 h4 h5 h6 h7 h8 h9 h10 => send_ret M p A n c true w S s wb sb B k sv us h1 h2 hn h3 h4 h5 h6 h7 h8 h9 h10
  obtain ⟨dv, hdv⟩ : ∃ dv, devV M dev = dv := ⟨_, rfl⟩
  rw [hdv]
  simp only [pkV] at hck0 hsend ⊢
  have hwc := M.one
  unfold Value.cells at hwc
  go_enter Try.func43, Try.ntmps43
  go_upto_region 2 with fail
  try rw [hwc]
  obtain ⟨wA, hwA⟩ : ∃ wA, (((w.alloc (.cells #[M.wv] 108)).alloc (.cells #[.int .u8 p.pid, .int .u8 p.addr, .int .u8 p.endp, .int .u16 0, .int .u8 0, .int .u8 0, .bool false, .bool false, .int .u8 0, .slice A n c] 113)).alloc (.cells #[.int .u8 0, .int .u8 0, .int .u8 0, .int .u16 0, .int .u8 0, .int .u8 0, .bool false, .bool false, .int .u8 0, .slice none 0 0] 113)).alloc (.cells #[.slice none 0 0] 78) = wA := ⟨_, rfl⟩
  have hbA : Below w.heap.size w wA := by rw [← hwA]; exact ((((Below.refl _ _).alloc (Nat.le_refl _) _).alloc (by simp) _).alloc (by simp; omega) _).alloc (by simp; omega) _
  have hX0 : wA.heap[w.heap.size]? = some (.cells #[M.wv] 108 (0, 0)) := by rw [← hwA]; exact heap_below (alloc3_0 _ _ _ _) ((Below.refl _ _).alloc (Nat.le_refl _) _)
  have hX1 : wA.heap[w.heap.size + 1]? = some (.cells #[.int .u8 p.pid, .int .u8 p.addr, .int .u8 p.endp, .int .u16 0, .int .u8 0, .int .u8 0, .bool false, .bool false, .int .u8 0, .slice A n c] 113 (0, 0)) := by rw [← hwA]; exact heap_below (alloc3_1 _ _ _ _) ((Below.refl _ _).alloc (Nat.le_refl _) _)
  have hX2 : wA.heap[w.heap.size + 1 + 1]? = some (.cells #[.int .u8 0, .int .u8 0, .int .u8 0, .int .u16 0, .int .u8 0, .int .u8 0, .bool false, .bool false, .int .u8 0, .slice none 0 0] 113 (0, 0)) := by rw [← hwA]; exact heap_below (alloc3_2 _ _ _ _) ((Below.refl _ _).alloc (Nat.le_refl _) _)
  have hX3 : wA.heap[w.heap.size + 1 + 1 + 1]? = some (.cells #[.slice none 0 0] 78 (0, 0)) := by rw [← hwA]; have := heap_alloc_new (((w.alloc (.cells #[M.wv] 108)).alloc (.cells #[.int .u8 p.pid, .int .u8 p.addr, .int .u8 p.endp, .int .u16 0, .int .u8 0, .int .u8 0, .bool false, .bool false, .int .u8 0, .slice A n c] 113)).alloc (.cells #[.int .u8 0, .int .u8 0, .int .u8 0, .int .u16 0, .int .u8 0, .int .u8 0, .bool false, .bool false, .int .u8 0, .slice none 0 0] 113)) (.cells #[.slice none 0 0] 78); simpa using this
  rw [hwA]
  clear hwA
  have p0 := cell_of hX1 0
  have p1 := cell_of hX1 1
  have p2 := cell_of hX1 2
  have p3 := cell_of hX1 3
  have p4 := cell_of hX1 4
  have p5 := cell_of hX1 5
  have p6 := cell_of hX1 6
  have p7 := cell_of hX1 7
  have p8 := cell_of hX1 8
  have p9 := cell_of hX1 9
  go_wp2_with fail
  refine (hck0 wA (hd.1.below hbA)).mono ?_
  rintro e w1 ⟨rfl, hb1⟩
  clear p0 p1 p2 p3 p4 p5 p6 p7 p8 p9 hck0
  replace hX0 := heap_below hX0 hb1
  replace hX1 := heap_below hX1 hb1
  replace hX2 := heap_below hX2 hb1
  replace hX3 := heap_below hX3 hb1
  replace hbA := hbA.trans (hb1.mono hbA.size)
  clear hb1
  have hsz : w.heap.size + 1 + 1 + 1 < w1.heap.size := (Array.getElem?_eq_some_iff.1 hX3).1
  have p0 := cell_of hX1 0
  have p1 := cell_of hX1 1
  have p2 := cell_of hX1 2
  have p3 := cell_of hX1 3
  have p4 := cell_of hX1 4
  have p5 := cell_of hX1 5
  have p6 := cell_of hX1 6
  have p7 := cell_of hX1 7
  have p8 := cell_of hX1 8
  have p9 := cell_of hX1 9
  go_wp2_with fail
  obtain ⟨f, hf⟩ : ∃ f, (M.nx s).1 = f := ⟨_, rfl⟩
  obtain ⟨s1, hs1⟩ : ∃ s1, (M.nx s).2 = s1 := ⟨_, rfl⟩
  have hS := hsend w1 S s w.heap.size (w.heap.size + 1 + 1 + 1) (w.heap.size + 1 + 1 + 1 + 1) 0 (.slice none 0 0) [] (Bus.below hI hbA) (hd.below hbA) hX0 ⟨hX3, World.ownsRow_nil _ _ _ _⟩ (Bus.new hI (by omega)) (by omega) (by have := M.base hI; omega) (by omega) (by omega) (fun i h => by simp [Value.ownBlock] at h)
  rw [hf, hs1] at hS
  clear hsend
  have HF := Lib.hid hf
  have HS1 := Lib.hid hs1
  clear hf hs1
  refine hS.mono ?_
  clear hS
  rintro e w2 ⟨S1, sv1, D1, rfl, hI1, hx1, ⟨hY3, hO1⟩, hso1⟩
  have hm2 := ((Mv.refl S w).below hbA).mx hx1 (fun i hi => hi.elim (fun h => by omega) (fun h => by simp [Value.ownBlock] at h))
  have hX1 := hx1.heap hX1 (Bus.new hI (by omega)) (fun h => h.elim (fun h => by omega) (fun h => by simp [Value.ownBlock] at h))
  have hX2 := hx1.heap hX2 (Bus.new hI (by omega)) (fun h => h.elim (fun h => by omega) (fun h => by simp [Value.ownBlock] at h))
  have hX0 := hx1.heap hX0 (Bus.new hI (Nat.le_refl _)) (fun h => h.elim (fun h => by omega) (fun h => by simp [Value.ownBlock] at h))
  have hn1 : ∀ g, w.heap.size ≤ g → g < w1.heap.size → ¬ S1 g := fun g h1 h2 => hx1.out h2 (Bus.new hI h1)
  by_cases hz : f = 0
  · subst hz
    simp only [decide_true]
    obtain ⟨g, cap, rfl, hg, hcap⟩ := own_form hO1 (by omega)
    have cY := cell_of hY3 0
    cases dev
    · obtain rfl : Value.nilIface = dv := by rw [← hdv]; rfl
      have hr : M.speak false s p = (none, s1) := by unfold Bus.speak; rw [HF.out, HS1.out]; simp
      clear hdv
      go_upto_region 9 with fail
      go_wp2_with fail
      refine (sclip_sent (some ⟨g, 0, none⟩) 1 cap w2 hcap).mono ?_
      rintro e w2' ⟨rfl, rfl⟩
      go_wp2_with (guard_target =~ wpList _ _ _ (_ :: _) _ _; (refine wpList_store_row rfl (.tmp 6) (.tmp 50) 113 rfl (w.heap.size + 1 + 1) 0 113 _ _ #[.int .u8 0, .int .u8 0, .int .u8 0, .int .u16 0, .int .u8 0, .int .u8 0, .bool false, .bool false, .int .u8 0, .slice none 0 0] rfl rfl hX2 (by kernel_rfl) (by simp) rfl rfl ?_; intro w3 hZ3 hW3))
      refine ret_cell2 _ _ _ _ _ _ rfl rfl rfl rfl hZ3 Try.underlying113 rfl (by kernel_rfl) rfl ?_
      exact speak_none hr HF hI1 (M.base hI) hm2 hO1 (by omega) (hso1 g rfl) (by simp [Value.oneCell']) rfl (hn1 _ (by omega) (by omega)) hW3
    · obtain rfl : Value.iface 29 (.pointer (some M.ga)) = dv := by rw [← hdv]; rfl
      clear hdv p0 p1 p2 p3 p4 p5 p6 p7 p8 p9
      have p0 := cell_of hX1 0
      have p1 := cell_of hX1 1
      have p2 := cell_of hX1 2
      have p3 := cell_of hX1 3
      have p4 := cell_of hX1 4
      have p5 := cell_of hX1 5
      have p6 := cell_of hX1 6
      have p7 := cell_of hX1 7
      have p8 := cell_of hX1 8
      have p9 := cell_of hX1 9
      have hd2 := hd.mv hm2
      have hcp : ∀ w', U8 w' A n c p.data → Calls Try.prog 51 #[pkV p (.slice A n c)] w' _ := fun w' h => copied_ret p A n c w' h (by omega)
      simp only [pkV] at hcp
      have hna : ∀ w, (nilAhead 266 29 (.pointer (some M.ga)) "Hear").run Try.prog w = .ok (some false) w := fun _ => by kernel_rfl
      have hme : ∀ w, (method 266 29 (.pointer (some M.ga)) "Hear").run Try.prog w = .ok (94, .pointer (some M.ga)) w := fun _ => by kernel_rfl
      go_upto_region 6 with fail
      have hhe := fun (w : World) A3 n3 c3 h1 h2 => M.hear (w := w) (S := S1) (s := s1) (p := p) (A := A3) (n := n3) (c := c3) h1 (by have := (hok rfl).2; rw [HS1.out] at this; exact this) (hok rfl).1 h2
      simp only [pkV] at hhe
      go_cut [11, 12] from 11 to 34 (fun va vb wx => ∃ g b, va = .pointer (some ⟨g, 0, none⟩) ∧ vb = .bool b ∧ HeardIn M w2 S1 s1 p g b wx)
      case first =>
        have hba : ∀ o, Below w2.heap.size w2 (w2.drew.alloc o) := fun o => below_undrew ((Below.refl _ w2.drew).alloc (Nat.le_refl _) o)
        have pa0 : ∀ o, (w2.drew.alloc o).cell? ⟨w.heap.size + 1, 0, none⟩ = some (.int .u8 p.pid) := fun o => (World.cell?_alloc_lt _ o _ (World.block_lt_of_cell? _ _ p0)).trans p0
        have pb0 : ∀ o, (w2.alloc o).cell? ⟨w.heap.size + 1, 0, none⟩ = some (.int .u8 p.pid) := fun o => (World.cell?_alloc_lt _ o _ (World.block_lt_of_cell? _ _ p0)).trans p0
        have pa1 : ∀ o, (w2.drew.alloc o).cell? ⟨w.heap.size + 1, 1, none⟩ = some (.int .u8 p.addr) := fun o => (World.cell?_alloc_lt _ o _ (World.block_lt_of_cell? _ _ p1)).trans p1
        have pb1 : ∀ o, (w2.alloc o).cell? ⟨w.heap.size + 1, 1, none⟩ = some (.int .u8 p.addr) := fun o => (World.cell?_alloc_lt _ o _ (World.block_lt_of_cell? _ _ p1)).trans p1
        have pa2 : ∀ o, (w2.drew.alloc o).cell? ⟨w.heap.size + 1, 2, none⟩ = some (.int .u8 p.endp) := fun o => (World.cell?_alloc_lt _ o _ (World.block_lt_of_cell? _ _ p2)).trans p2
        have pb2 : ∀ o, (w2.alloc o).cell? ⟨w.heap.size + 1, 2, none⟩ = some (.int .u8 p.endp) := fun o => (World.cell?_alloc_lt _ o _ (World.block_lt_of_cell? _ _ p2)).trans p2
        have pa3 : ∀ o, (w2.drew.alloc o).cell? ⟨w.heap.size + 1, 3, none⟩ = some (.int .u16 0) := fun o => (World.cell?_alloc_lt _ o _ (World.block_lt_of_cell? _ _ p3)).trans p3
        have pb3 : ∀ o, (w2.alloc o).cell? ⟨w.heap.size + 1, 3, none⟩ = some (.int .u16 0) := fun o => (World.cell?_alloc_lt _ o _ (World.block_lt_of_cell? _ _ p3)).trans p3
        have pa4 : ∀ o, (w2.drew.alloc o).cell? ⟨w.heap.size + 1, 4, none⟩ = some (.int .u8 0) := fun o => (World.cell?_alloc_lt _ o _ (World.block_lt_of_cell? _ _ p4)).trans p4
        have pb4 : ∀ o, (w2.alloc o).cell? ⟨w.heap.size + 1, 4, none⟩ = some (.int .u8 0) := fun o => (World.cell?_alloc_lt _ o _ (World.block_lt_of_cell? _ _ p4)).trans p4
        have pa5 : ∀ o, (w2.drew.alloc o).cell? ⟨w.heap.size + 1, 5, none⟩ = some (.int .u8 0) := fun o => (World.cell?_alloc_lt _ o _ (World.block_lt_of_cell? _ _ p5)).trans p5
        have pb5 : ∀ o, (w2.alloc o).cell? ⟨w.heap.size + 1, 5, none⟩ = some (.int .u8 0) := fun o => (World.cell?_alloc_lt _ o _ (World.block_lt_of_cell? _ _ p5)).trans p5
        have pa6 : ∀ o, (w2.drew.alloc o).cell? ⟨w.heap.size + 1, 6, none⟩ = some (.bool false) := fun o => (World.cell?_alloc_lt _ o _ (World.block_lt_of_cell? _ _ p6)).trans p6
        have pb6 : ∀ o, (w2.alloc o).cell? ⟨w.heap.size + 1, 6, none⟩ = some (.bool false) := fun o => (World.cell?_alloc_lt _ o _ (World.block_lt_of_cell? _ _ p6)).trans p6
        have pa7 : ∀ o, (w2.drew.alloc o).cell? ⟨w.heap.size + 1, 7, none⟩ = some (.bool false) := fun o => (World.cell?_alloc_lt _ o _ (World.block_lt_of_cell? _ _ p7)).trans p7
        have pb7 : ∀ o, (w2.alloc o).cell? ⟨w.heap.size + 1, 7, none⟩ = some (.bool false) := fun o => (World.cell?_alloc_lt _ o _ (World.block_lt_of_cell? _ _ p7)).trans p7
        have pa8 : ∀ o, (w2.drew.alloc o).cell? ⟨w.heap.size + 1, 8, none⟩ = some (.int .u8 0) := fun o => (World.cell?_alloc_lt _ o _ (World.block_lt_of_cell? _ _ p8)).trans p8
        have pb8 : ∀ o, (w2.alloc o).cell? ⟨w.heap.size + 1, 8, none⟩ = some (.int .u8 0) := fun o => (World.cell?_alloc_lt _ o _ (World.block_lt_of_cell? _ _ p8)).trans p8
        have pa9 : ∀ o, (w2.drew.alloc o).cell? ⟨w.heap.size + 1, 9, none⟩ = some (.slice A n c) := fun o => (World.cell?_alloc_lt _ o _ (World.block_lt_of_cell? _ _ p9)).trans p9
        have pb9 : ∀ o, (w2.alloc o).cell? ⟨w.heap.size + 1, 9, none⟩ = some (.slice A n c) := fun o => (World.cell?_alloc_lt _ o _ (World.block_lt_of_cell? _ _ p9)).trans p9
        have hh2 := fun w3 A3 (hb3 : Below w2.heap.size w2 w3) (hN3 : New8 w2 w3 A3 n n p.data) => hhe w3 A3 n n (Bus.below hI1 hb3) (hN3.d8 (fun i h => M.lt hI1 i h))
        go_region_with (first
          | (go_at_call 51; first
              | (refine (hcp _ hd2.1.drew).mono ?_; rintro e w3 ⟨hb3, A3, rfl, hN3⟩; replace hb3 : Below w2.heap.size w2 w3 := below_undrew hb3)
              | (refine (hcp _ (hd2.1.below (hba _))).mono ?_; rintro e w3 ⟨hb3, A3, rfl, hN3⟩
                 have hbx : w3.heap[w2.heap.size]? = some (.cells #[.int .u8 0, .int .u8 0, .int .u8 0, .int .u16 0, .int .u8 0, .int .u8 0, .bool false, .bool false, .int .u8 0, .slice none 0 0] 113 (0, 0)) := heap_below (heap_alloc_new w2.drew _) hb3
                 replace hN3 : New8 w2 w3 A3 n n p.data := ⟨hN3.1, hN3.2.imp id fun ⟨a, h1, h2⟩ => ⟨a, h1, Nat.le_trans (hba _).size h2⟩⟩
                 replace hb3 : Below w2.heap.size w2 w3 := (hba _).trans (hb3.mono (hba _).size)))
          | (go_at_call 94; first
              | (refine (hh2 w3 A3 hb3 ⟨hN3.1, hN3.2⟩).mono ?_; rintro e w4 ⟨S2, q, b, A4, n4, c4, rfl, hI2, hm4, hd4, hf4, hq⟩
                 try (have hbx4 := hm4.heap hbx (Bus.new hI1 (Nat.le_refl _)); have z0 := cell_of hbx4 0; have f0 := frozen_of hbx4 0; have z1 := cell_of hbx4 1; have f1 := frozen_of hbx4 1; have z2 := cell_of hbx4 2; have f2 := frozen_of hbx4 2; have z3 := cell_of hbx4 3; have f3 := frozen_of hbx4 3; have z4 := cell_of hbx4 4; have f4 := frozen_of hbx4 4; have z5 := cell_of hbx4 5; have f5 := frozen_of hbx4 5; have z6 := cell_of hbx4 6; have f6 := frozen_of hbx4 6; have z7 := cell_of hbx4 7; have f7 := frozen_of hbx4 7; have z8 := cell_of hbx4 8; have f8 := frozen_of hbx4 8; have z9 := cell_of hbx4 9; have f9 := frozen_of hbx4 9))
              | (refine (hh2 _ A3 (hb3.trans (((Below.refl _ w3).alloc (Nat.le_refl _) _).mono hb3.size)) ⟨hN3.1.below ((Below.refl _ w3).alloc (Nat.le_refl _) _), hN3.2⟩).mono ?_; rintro e w4 ⟨S2, q, b, A4, n4, c4, rfl, hI2, hm4, hd4, hf4, hq⟩
                 have hbx4 : w4.heap[w3.heap.size]? = some (.cells #[.int .u8 0, .int .u8 0, .int .u8 0, .int .u16 0, .int .u8 0, .int .u8 0, .bool false, .bool false, .int .u8 0, .slice none 0 0] 113 (0, 0)) := hm4.heap (heap_alloc_new w3 _) (Bus.new hI1 hb3.size); have z0 := cell_of hbx4 0; have f0 := frozen_of hbx4 0; have z1 := cell_of hbx4 1; have f1 := frozen_of hbx4 1; have z2 := cell_of hbx4 2; have f2 := frozen_of hbx4 2; have z3 := cell_of hbx4 3; have f3 := frozen_of hbx4 3; have z4 := cell_of hbx4 4; have f4 := frozen_of hbx4 4; have z5 := cell_of hbx4 5; have f5 := frozen_of hbx4 5; have z6 := cell_of hbx4 6; have f6 := frozen_of hbx4 6; have z7 := cell_of hbx4 7; have f7 := frozen_of hbx4 7; have z8 := cell_of hbx4 8; have f8 := frozen_of hbx4 8; have z9 := cell_of hbx4 9; have f9 := frozen_of hbx4 9)))
        all_goals
          go_wp2_with fail
          go_meet
          first
            | (have _t := hbx
               obtain ⟨hZ, hW⟩ := put10 hbx4 (.int .u8 q.pid) (.int .u8 q.addr) (.int .u8 q.endp) (.int .u16 0) (.int .u8 0) (.int .u8 0) (.bool false) (.bool false) (.int .u8 0) (.slice A4 n4 c4)
               exact ⟨_, b, rfl, rfl, heard_old hI1 hb3 hm4 hI2 hd4 hf4 hq (Nat.le_refl _) (Array.getElem?_eq_some_iff.1 hbx).1 hW hZ (hf4.imp id fun ⟨a, h1, h2⟩ => ⟨a, h1, fun e => by have := M.base hI1; have := (Array.getElem?_eq_some_iff.1 hbx).1; omega⟩)⟩)
            | (have _t := hbx4
               obtain ⟨hZ, hW⟩ := put10 hbx4 (.int .u8 q.pid) (.int .u8 q.addr) (.int .u8 q.endp) (.int .u16 0) (.int .u8 0) (.int .u8 0) (.bool false) (.bool false) (.int .u8 0) (.slice A4 n4 c4)
               exact ⟨_, b, rfl, rfl, heard_old hI1 (hb3.trans (((Below.refl _ w3).alloc (Nat.le_refl _) _).mono hb3.size)) hm4 hI2 hd4 hf4 hq hb3.size (by simp) hW hZ (hf4.imp id fun ⟨a, h1, h2⟩ => ⟨a, h1, fun e => by have := M.base hI1; have := hb3.size; simp at h2; omega⟩)⟩)
            | exact ⟨_, b, rfl, rfl, heard_new hb3 hm4 hI2 hd4 hf4 hq⟩
      case rest =>
        obtain ⟨ga, b, rfl, rfl, S2, q, A4, n4, c4, hA, hgw, hgs, hm5, hI5, hd5, hf5, hq⟩ := hcut
        clear p0 p1 p2 p3 p4 p5 p6 p7 p8 p9 hcp hhe
        have hY5 := hm5.heap hY3 (hn1 _ (by omega) (by omega))
        have hX5 := hm5.heap hX2 (hn1 _ (by omega) (by omega))
        have hO5 := own_mv hO1 hm5 hso1
        have hso5 := hm5.out (own_lt hO1 g rfl) (hso1 g rfl)
        have hs2 : ¬ S2 (w.heap.size + 1 + 1) := hm5.out (Array.getElem?_eq_some_iff.1 hX2).1 (hn1 _ (by omega) (by omega))
        have hs3 : ¬ S2 (w.heap.size + 1 + 1 + 1) := hm5.out (Array.getElem?_eq_some_iff.1 hY3).1 (hn1 _ (by omega) (by omega))
        have hmw := hm2.trans hm5
        cases b
        · have hr : M.speak true s p = (none, (M.hr s1 p).2) := by
            have := speak_no (M := M) (s := s) (p := p) HF.out (by rw [HS1.out]; exact hq)
            rw [HS1.out] at this
            exact this
          have cY5 := cell_of hY5 0
          go_upto_region 9 with fail
          go_wp2_with fail
          refine (sclip_sent (some ⟨g, 0, none⟩) 1 cap wc hcap).mono ?_
          rintro e w2' ⟨rfl, rfl⟩
          go_wp2_with (guard_target =~ wpList _ _ _ (_ :: _) _ _; (refine wpList_store_row rfl (.tmp 6) (.tmp 50) 113 rfl (w.heap.size + 1 + 1) 0 113 _ _ #[.int .u8 0, .int .u8 0, .int .u8 0, .int .u16 0, .int .u8 0, .int .u8 0, .bool false, .bool false, .int .u8 0, .slice none 0 0] rfl rfl hX5 (by kernel_rfl) (by simp) rfl rfl ?_; intro w3 hZ3 hW3))
          refine ret_cell2 _ _ _ _ _ _ rfl rfl rfl rfl hZ3 Try.underlying113 rfl (by kernel_rfl) rfl ?_
          exact speak_none hr HF hI5 (M.base hI) hmw hO5 (by omega) hso5 (by simp [Value.oneCell']) rfl hs2 hW3
        · obtain ⟨hcq, hlq⟩ := hans s1 q hq
          have hnl : n4 ≤ 1024 := by rw [← hd5.1.1]; exact hlq
          have p0 := cell_of hA 0
          have p1 := cell_of hA 1
          have p2 := cell_of hA 2
          have p3 := cell_of hA 3
          have p4 := cell_of hA 4
          have p5 := cell_of hA 5
          have p6 := cell_of hA 6
          have p7 := cell_of hA 7
          have p8 := cell_of hA 8
          have p9 := cell_of hA 9
          have hck4 := fun w h => hcq w A4 n4 c4 h
          simp only [pkV] at hck4
          go_wp2_with fail
          refine (hck4 wc hd5.1).mono ?_
          rintro e w6 ⟨rfl, hb6⟩
          obtain ⟨f2, hf2⟩ : ∃ f2, (M.nx (M.hr s1 p).2).1 = f2 := ⟨_, rfl⟩
          obtain ⟨s3, hs3'⟩ : ∃ s3, (M.nx (M.hr s1 p).2).2 = s3 := ⟨_, rfl⟩
          have hge := own_ge hO1 g rfl
          have hgl := own_lt hO1 g rfl
          have hwl := hm5.size
          have hzl := (Array.getElem?_eq_some_iff.1 hY3).1
          have hX05 := hm5.heap hX0 (hn1 _ (by omega) (by omega))
          have hsn := send_ret M q A4 n4 c4 false w6 S2 (M.hr s1 p).2 w.heap.size (w.heap.size + 1 + 1 + 1) (w.heap.size + 1 + 1 + 1 + 1) 1 (.slice (some ⟨g, 0, none⟩) 1 cap) _ (Bus.below hI5 hb6) (hd5.below hb6) hnl (heap_below hX05 hb6) ⟨heap_below hY5 hb6, own_below hO5 hb6⟩ hs3 (by omega) (by have := M.base hI; omega) (by have := hb6.size; omega) (by omega) (fun i h => by simp [Value.ownBlock] at h; subst h; exact hso5)
          have hsp := speak_some (M := M) (s := s) (p := p) (q := q) HF.out (by rw [HS1.out]; exact hq)
          rw [HS1.out, hf2, hs3'] at hsp
          rw [hf2, hs3'] at hsn
          simp only [pkV] at hsn
          have hsp' := Lib.hid hsp
          clear hf2 hs3' hsp hck4 p0 p1 p2 p3 p4 p5 p6 p7 p8 p9
          replace hA := heap_below hA hb6
          replace hX5 := heap_below hX5 hb6
          have hm6 := hmw.below hb6
          have hb6s := hb6.size
          have p0 := cell_of hA 0
          have p1 := cell_of hA 1
          have p2 := cell_of hA 2
          have p3 := cell_of hA 3
          have p4 := cell_of hA 4
          have p5 := cell_of hA 5
          have p6 := cell_of hA 6
          have p7 := cell_of hA 7
          have p8 := cell_of hA 8
          have p9 := cell_of hA 9
          go_wp2_with fail
          refine hsn.mono ?_
          clear hsn p0 p1 p2 p3 p4 p5 p6 p7 p8 p9
          rintro e w7 ⟨S3, sv7, D7, rfl, hI7, hx7, ⟨hY7, hO7⟩, hso7⟩
          have hm7 := hm6.mx hx7 (fun i hi => hi.elim (fun h => by omega) (fun h => by simp [Value.ownBlock] at h; omega))
          have hA7 := hx7.heap hA hgs (fun h => h.elim (fun h => by omega) (fun h => by simp [Value.ownBlock] at h; omega))
          have hX7 := hx7.heap hX5 hs2 (fun h => h.elim (fun h => by omega) (fun h => by simp [Value.ownBlock] at h; omega))
          have hz7 : ¬ S3 (w.heap.size + 1 + 1) := hx7.out (Array.getElem?_eq_some_iff.1 hX5).1 hs2
          have hd7 : D8 w7 S3 A4 n4 c4 q.data := D8.mx (hd5.below hb6) hx7 (hf5.imp id fun ⟨a, e, h⟩ => ⟨a, e, fun hx => by have := M.base hI; rcases hx with hx | hx; omega; simp [Value.ownBlock] at hx; omega⟩)
          obtain ⟨g7, cap7, rfl, hg7, hcap7⟩ := own_form hO7 (by omega)
          have cY7 := cell_of hY7 0
          clear hx7
          by_cases hz2 : f2 = 0
          · subst hz2
            have hr := hsp'.out
            rw [if_pos rfl] at hr
            have HR := Lib.hid hr
            clear hr hsp'
            simp only [decide_true]
            have hcp : ∀ w', U8 w' A4 n4 c4 q.data → Calls Try.prog 51 #[pkV q (.slice A4 n4 c4)] w' _ := fun w' h => copied_ret q A4 n4 c4 w' h (by omega)
            simp only [pkV] at hcp
            have p0 := cell_of hA7 0
            have p1 := cell_of hA7 1
            have p2 := cell_of hA7 2
            have p3 := cell_of hA7 3
            have p4 := cell_of hA7 4
            have p5 := cell_of hA7 5
            have p6 := cell_of hA7 6
            have p7 := cell_of hA7 7
            have p8 := cell_of hA7 8
            have p9 := cell_of hA7 9
            go_upto_region 8 with fail
            go_region_with (first
              | (go_at_call 51; refine (hcp _ hd7.1.drew).mono ?_; rintro e w8 ⟨hb8, A8, rfl, hN8⟩; replace hb8 : Below w7.heap.size w7 w8 := below_undrew hb8
                 have cY8 := cell_of (heap_below hY7 hb8) 0; have hX8 := heap_below hX7 hb8; have z0 := cell_of hX8 0; have f0 := frozen_of hX8 0; have z1 := cell_of hX8 1; have f1 := frozen_of hX8 1; have z2 := cell_of hX8 2; have f2 := frozen_of hX8 2; have z3 := cell_of hX8 3; have f3 := frozen_of hX8 3; have z4 := cell_of hX8 4; have f4 := frozen_of hX8 4; have z5 := cell_of hX8 5; have f5 := frozen_of hX8 5; have z6 := cell_of hX8 6; have f6 := frozen_of hX8 6; have z7 := cell_of hX8 7; have f7 := frozen_of hX8 7; have z8 := cell_of hX8 8; have f8 := frozen_of hX8 8; have z9 := cell_of hX8 9; have f9 := frozen_of hX8 9)
              | (go_at_call 46; refine (sclip_sent (some ⟨g7, 0, none⟩) 2 cap7 _ hcap7).mono ?_; rintro e w2' ⟨rfl, rfl⟩))
            all_goals
              obtain ⟨hZ, hW⟩ := put10 hX8 (.int .u8 q.pid) (.int .u8 q.addr) (.int .u8 q.endp) (.int .u16 0) (.int .u8 0) (.int .u8 0) (.bool false) (.bool false) (.int .u8 0) (.slice A8 n4 n4)
              go_wp2_with fail
              refine ret_cell2 _ _ _ _ _ _ rfl rfl rfl rfl hZ Try.underlying113 rfl (by kernel_rfl) rfl ?_
              exact speak_good HR.out HF hI7 (M.base hI) hm7 hO7 (by omega) (hso7 g7 rfl) (by simp [Value.oneCell']) rfl hz7 (Array.getElem?_eq_some_iff.1 hX7).1 hb8 ⟨hN8.1, hN8.2⟩ hW
          · have hr := hsp'.out
            rw [if_neg hz2] at hr
            have HR := Lib.hid hr
            clear hr hsp'
            simp only [hz2, decide_false]
            go_upto_region 9 with fail
            go_wp2_with fail
            refine (sclip_sent (some ⟨g7, 0, none⟩) 2 cap7 w7 hcap7).mono ?_
            rintro e w2' ⟨rfl, rfl⟩
            go_wp2_with (guard_target =~ wpList _ _ _ (_ :: _) _ _; (refine wpList_store_row rfl (.tmp 6) (.tmp 50) 113 rfl (w.heap.size + 1 + 1) 0 113 _ _ #[.int .u8 0, .int .u8 0, .int .u8 0, .int .u16 0, .int .u8 0, .int .u8 0, .bool false, .bool false, .int .u8 0, .slice none 0 0] rfl rfl hX7 (by kernel_rfl) (by simp) rfl rfl ?_; intro w3 hZ3 hW3))
            refine ret_cell2 _ _ _ _ _ _ rfl rfl rfl rfl hZ3 Try.underlying113 rfl (by kernel_rfl) rfl ?_
            exact speak_none HR.out HF hI7 (M.base hI) hm7 hO7 (by omega) (hso7 g7 rfl) (by simp [Value.oneCell']) rfl hz7 hW3
  · simp only [hz, decide_false]
    have hr : M.speak dev s p = (none, s1) := by unfold Bus.speak; rw [HF.out, HS1.out]; simp [hz]
    obtain ⟨g, cap, rfl, hg, hcap⟩ := own_form hO1 (by omega)
    have cY := cell_of hY3 0
    go_upto_region 9 with fail
    go_wp2_with fail
    refine (sclip_sent (some ⟨g, 0, none⟩) 1 cap w2 hcap).mono ?_
    rintro e w2' ⟨rfl, rfl⟩
    go_wp2_with (guard_target =~ wpList _ _ _ (_ :: _) _ _; (refine wpList_store_row rfl (.tmp 6) (.tmp 50) 113 rfl (w.heap.size + 1 + 1) 0 113 _ _ #[.int .u8 0, .int .u8 0, .int .u8 0, .int .u16 0, .int .u8 0, .int .u8 0, .bool false, .bool false, .int .u8 0, .slice none 0 0] rfl rfl hX2 (by kernel_rfl) (by simp) rfl rfl ?_; intro w3 hZ3 hW3))
    refine ret_cell2 _ _ _ _ _ _ rfl rfl rfl rfl hZ3 Try.underlying113 rfl (by kernel_rfl) rfl ?_
    exact speak_none hr HF hI1 (M.base hI) hm2 hO1 (by omega) (hso1 g rfl) (by simp [Value.oneCell']) rfl (hn1 _ (by omega) (by omega)) hW3
end Go.Proofs.Ythifcblajimppaa
