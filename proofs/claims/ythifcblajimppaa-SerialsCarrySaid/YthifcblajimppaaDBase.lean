/-
  What is proved here: queue.cut for any row, and the port's Receive.
  Conditions: what the cells hold.
  What is proved here: the port's Send where the terminal is ready.
  Conditions: what the cells hold.
  What is proved here: a bus is taken anew: all blocks that stand count as old.
  Conditions: none.
-/
import Derived.Test.YthifcblajimppaaDCut
namespace Go.Proofs.Ythifcblajimppaa
open Go.Proofs Go.RowKit
attribute [local go_sem] lt2 lt3 lt4 lt5
theorem cut_any (P k : Nat) (cs : Array Value) (A : Option Addr) (n c : Nat) (xs : List Int) (w : World) (hP : w.heap[P]? = some (.cells cs 67 (0, 0))) (hk : cs[k]? = some (.slice A n c)) (hR : RowB w A n c xs) (hn : n ≤ 65536) (M : Nat) :
  Calls Try.prog 25 #[.pointer (some ⟨P, k, none⟩), .int .i64 M] w (CutEnd P k (min M n) cs xs w) := by
 rcases hR.1.2.2.2 with ⟨rfl, rfl, rfl⟩ | ⟨b, off, cs0, rfl, _⟩
 ·obtain rfl : xs = [] := by have := hR.1.1; simpa using this
  rw [show min M 0 = 0 by omega]
  exact cut_nil P k cs w hP hk M
 ·exact cut_ret P k (min M n) cs b off n c xs w hP hk hR hn M rfl
def RecvEnd (P : Nat) (cs : Array Value) (xs : List Int) (w : World) (e : Ending) (w' : World) : Prop :=
 ∃ A1 A2 c2, e = .returned (.slice A1 xs.length xs.length) ∧ U8 w' A1 xs.length xs.length xs ∧ (∀ a, A1 = some a → w.heap.size ≤ a.block) ∧
  w'.heap[P]? = some (.cells (cs.setIfInBounds 0 (.slice A2 0 c2)) 67 (0, 0)) ∧ RowB w' A2 0 c2 [] ∧ (∀ a, A2 = some a → w.heap.size ≤ a.block) ∧ Mv (fun i => i = P) w (fun i => i = P) w'
set_option maxHeartbeats 2000000 in
theorem recv_ret (P : Nat) (cs : Array Value) (A : Option Addr) (n c : Nat) (xs : List Int) (w : World) (hP : w.heap[P]? = some (.cells cs 67 (0, 0))) (hk : cs[0]? = some (.slice A n c)) (hR : RowB w A n c xs) (hn : n ≤ 256) :
  Calls Try.prog 11 #[.pointer (some ⟨P, 0, none⟩)] w (RecvEnd P cs xs w) := by
 have hcut := cut_any P 0 cs A n c xs w hP hk hR (by omega) 256
 have hl : xs.length = n := hR.u8.1
 have h2 := hR.2
 have hm : min 256 n = xs.length := by omega
 rw [hm] at hcut
 have HM := Lib.hid hl
 have H2 := Lib.hid h2
 clear hP hk hR hm h2 hl
 go_enter Try.func11, Try.ntmps11
 go_wp2_with fail
 refine hcut.mono ?_
 rintro e w1 ⟨A1, c1, A2, c2, rfl, hR1, hA1, hP1, hR2, hA2, hm⟩
 rw [List.take_length] at hR1 ⊢
 rw [List.drop_length] at hP1 hR2
 clear hcut
 go_wp2_with fail
 refine (sclip A1 xs.length c1 w1 hR1.2.1).mono ?_
 rintro e w2 ⟨rfl, hw2⟩
 rw [hw2]
 clear hw2
 go_wp2_with fail
 go_ret
 have hu : RowB w1 A1 xs.length c1 xs := ⟨hR1, H2.out⟩
 exact ⟨A1, A2, c2, rfl, u8_clip hu.u8, hA1, hP1, ⟨hR2, fun _ h => nomatch h⟩, hA2, hm⟩
end Go.Proofs.Ythifcblajimppaa

namespace Go.Proofs.Ythifcblajimppaa
open Go.Proofs Go.RowKit
attribute [local go_sem] lt2 lt3 lt4 lt5
attribute [-go_sem] Builtin.append_
theorem append_none {P : Program} {w : World} {t e : TypeId} {i : TypeInfo} (ht : P.underlying t = some (.slice e)) (hi : P.info? e = some i) (A : Option Addr) (n c : Nat) (hn : n ≤ c) :
  (Builtin.append_ #[t, t] t #[.slice A n c, .slice none 0 0]).run P w = .ok (.slice A n c) w := by
 cases A <;> simp [Builtin.append_, run_underlying ht, sizeOf, typeInfo, hi, Builtin.lenOf, hn, Builtin.firstCells, storeCells]
theorem rowb_append {w : World} {A B : Option Addr} {n c m d : Nat} {xs ys : List Int} (hR : RowB w A n c xs) (hU : U8 w B m d ys) (hs : n + m ≤ 65536) :
  ∃ A' c' w', (Builtin.append_ #[33, 33] 33 #[.slice A n c, .slice B m d]).run Try.prog w = .ok (.slice A' (n + m) c') w' ∧ RowB w' A' (n + m) c' (xs ++ ys) ∧ (w' = w ∧ A' = A ∨ RowEff A A' w w') := by
 obtain ⟨i0, hi, hz0, hz1, hz2⟩ := info_parts info5
 obtain ⟨u1, u2, u3, ⟨rfl, rfl, rfl⟩ | ⟨ad, rfl, u4⟩⟩ := hU
 ·obtain rfl : ys = [] := List.length_eq_zero_iff.1 u1
  exact ⟨A, c, w, append_none Try.underlying33 hi A n c hR.1.2.1, by simpa using hR, .inl ⟨rfl, rfl⟩⟩
 ·obtain ⟨A', c', w', hr, h2, h3⟩ := RowAt.append (P := Try.prog) (t := 33) Try.underlying33 hi hz0 hz1 hz2 rfl hR.1 ad m d (ys.map (Value.int .u8)) (by simpa using u1) (fun j u hj => by
   rw [List.getElem?_map, Option.map_eq_some_iff] at hj
   obtain ⟨x, hx, rfl⟩ := hj
   have hjn : j < m := by rw [← u1]; exact (List.getElem?_eq_some_iff.1 hx).1
   have := u4 j hjn
   rw [hx] at this
   exact this) (fun u hu => by obtain ⟨x, _, rfl⟩ := List.mem_map.1 hu; rfl) (by unfold maxLen; omega) (by omega)
  refine ⟨A', c', w', hr, ⟨by rw [List.map_append]; exact h2, fun x hx => (List.mem_append.1 hx).elim (hR.2 x) (u2 x)⟩, .inr h3⟩
def SendEnd (P : Nat) (cs : Array Value) (A : Option Addr) (n : Nat) (xs ys : List Int) (w : World) (e : Ending) (w' : World) : Prop :=
 ∃ m A' c', m = min ys.length (256 - n) ∧ e = .returned (.int .i64 m) ∧ w'.heap[P]? = some (.cells (cs.setIfInBounds 1 (.slice A' (n + m) c')) 67 (0, 0)) ∧ RowB w' A' (n + m) c' (xs ++ ys.take m) ∧
  Mv (fun i => i = P ∨ ∃ a, A = some a ∧ i = a.block) w (fun i => i = P ∨ ∃ a, A = some a ∧ i = a.block) w' ∧ (∀ a, A' = some a → A' = A ∨ w.heap.size ≤ a.block)
set_option maxHeartbeats 4000000 in
set_option maxRecDepth 100000 in
theorem send_port (P : Nat) (cs : Array Value) (A B : Option Addr) (n c nb cb : Nat) (xs ys : List Int) (w : World) (hP : w.heap[P]? = some (.cells cs 67 (0, 0))) (hk : cs[1]? = some (.slice A n c)) (hl : cs[7]? = some (.int .u8 1)) (hR : RowB w A n c xs) (hn : n ≤ 256) (hnb : nb ≤ 60000) (hU : U8 w B nb cb ys)
  (hAP : ∀ a, A = some a → a.block ≠ P ∧ a.block < w.heap.size) :
  Calls Try.prog 8 #[.pointer (some ⟨P, 0, none⟩), .slice B nb cb] w (SendEnd P cs A n xs ys w) := by
 have c1 : w.cell? ⟨P, 1, none⟩ = some (.slice A n c) := (cell_of hP 1).trans hk
 have c7 : w.cell? ⟨P, 7, none⟩ = some (.int .u8 1) := (cell_of hP 7).trans hl
 have hfr := qfree_ret ⟨P, 1, none⟩ A n c w (by omega) c1
 have hyl : ys.length = nb := hU.1
 obtain ⟨m, hm⟩ : ∃ m, min nb (256 - n) = m := ⟨_, rfl⟩
 have hmb : m ≤ nb := by omega
 have q1 : (m : Int) ≤ (cb : Int) := by have := hU.2.2.1; omega
 have q0 : min (nb : Int) (256 - (n : Int)) = (m : Int) := by omega
 have HP := Lib.hid hP
 have HM := Lib.hid hm
 have HY := Lib.hid hyl
 have HQ := Lib.hid q0
 have HA := Lib.hid hAP
 have htk := hU.take hmb
 obtain ⟨A', c', w2, hrun, hR2, hef⟩ := rowb_append (w := w.drew) (A := A) (B := B) (n := n) (c := c) (m := m) (d := cb) (xs := xs) (ys := ys.take m) hR htk (by omega)
 have hP2 : w2.heap[P]? = some (.cells cs 67 (0, 0)) := by
  rcases hef with ⟨rfl, _⟩ | hef
  ·exact hP
  ·exact hef.heap (w := w.drew) hP (fun a e => (hAP a e).1)
 have z1 : w2.cell? ⟨P, 1, none⟩ = some (.slice A n c) := (cell_of hP2 1).trans hk
 have f1 := frozen_of hP2 1
 have hfin : ∀ w3, Wrote P w2 w3 → w3.heap[P]? = some (.cells (cs.setIfInBounds 1 (.slice A' (n + m) c')) 67 (0, 0)) → SendEnd P cs A n xs ys w (.returned (.int .i64 m)) w3 := by
  intro w3 hW h3
  have hnew : ∀ a, A' = some a → A' = A ∨ w.heap.size ≤ a.block := by
   rcases hef with ⟨_, rfl⟩ | (⟨rfl, _⟩ | ⟨_, h⟩)
   ·exact fun _ _ => .inl rfl
   ·exact fun _ _ => .inl rfl
   ·exact fun a e => .inr (h a e)
  have hsz : w.heap.size ≤ w2.heap.size := by
   rcases hef with ⟨rfl, _⟩ | hef
   ·exact Nat.le_refl _
   ·exact hef.size (w := w.drew)
  have hext : w2.os = w.os ∧ w2.tape = w.tape ∧ w2.output = w.output := by
   rcases hef with ⟨rfl, _⟩ | hef
   ·exact ⟨rfl, rfl, rfl⟩
   ·exact hef.ext (w := w.drew)
  have hoth : ∀ i, i < w.heap.size → (∀ a, A = some a → a.block ≠ i) → w2.heap[i]? = w.heap[i]? := by
   rcases hef with ⟨rfl, _⟩ | hef
   ·exact fun _ _ _ => rfl
   ·exact fun i hi h => hef.other (w := w.drew) hi h
  have hPl := (Array.getElem?_eq_some_iff.1 HP.out).1
  obtain ⟨x1, x2, x3⟩ := hext
  refine ⟨m, A', c', by rw [HY.out]; exact HM.out.symm, rfl, h3, ⟨hR2.1.keep (fun a e => hW.other _ (fun e2 => ?_)), hR2.2⟩, ⟨hW.os.trans x1, hW.tape.trans x2, hW.output.trans x3, by have := hW.size; omega, fun i hi hs => (hW.other i (fun e => hs (.inl e))).trans (hoth i hi (fun a e e2 => hs (.inr ⟨a, e, e2.symm⟩))), fun _ _ h => h⟩, hnew⟩
  rcases hnew a e with h | h
  ·exact (HA.out a (h ▸ e)).1 e2
  ·omega
 have HF := Lib.hid hfin
 have HP2 := Lib.hid hP2
 obtain ⟨_, _, hcb, hB⟩ := hU
 clear hP hk hl hR hAP hm hyl q0 htk hR2 hef hfin hP2
 rcases hB with ⟨rfl, rfl, rfl⟩ | ⟨ad, rfl, _⟩
 ·obtain rfl : m = 0 := by omega
  go_enter Try.func8, Try.ntmps8
  go_wp2_with fail
  refine hfr.mono ?_
  rintro e w0 ⟨rfl, hw0⟩
  rw [hw0]
  clear hw0
  go_upto_region 4 with fail
  rw [show min (0 : Int) (256 - (n : Int)) = 0 by omega]
  go_region
  all_goals
   go_wp2_with fail
   go_ret
   exact HF.out _ ((Put1.refl HP2.out).set 1 _).wrote ((Put1.refl HP2.out).set 1 _).heap
 ·go_enter Try.func8, Try.ntmps8
  go_wp2_with fail
  refine hfr.mono ?_
  rintro e w0 ⟨rfl, hw0⟩
  rw [hw0]
  clear hw0
  go_upto_region 4 with fail
  rw [HQ.out]
  go_region
  all_goals
   go_wp2_with fail
   go_ret
   exact HF.out _ ((Put1.refl HP2.out).set 1 _).wrote ((Put1.refl HP2.out).set 1 _).heap
end Go.Proofs.Ythifcblajimppaa

namespace Go.Proofs.Ythifcblajimppaa
open Go.Proofs Go.RowKit
theorem EpAt.outw {K : EpK} {w w' : World} {S : Nat → Prop} {s : EpS} (h : EpAt K w S s) (hW : Wrote K.O w w') (r : Int) (hr : r = 0 ∨ r = 1) (hO : w'.heap[K.O]? = some (.cells (epC none 0 0 r none 0 0 2 false 2 K.mx s.otg false) 91 (0, 0))) : EpAt K w' S { s with room := r, tk := none } := by
 have hne := K.ne
 exact ⟨(hW.other _ (by omega)).trans h.set, h.nxt, h.wait, h.inn.keep (hW.other _ (by omega)) (fun i _ hs => hW.other i (fun e => hs (.inl (e ▸ h.own.2.2.1)))) (fun _ _ h => h), ⟨none, 0, 0, hO, ⟨rfl, rfl, rfl⟩, hr, fun _ => rfl⟩, (hW.other _ (by omega)).trans h.map, h.own, fun i hi => by rw [hW.size]; exact h.lt i hi, by rw [hW.size]; exact h.base, h.far⟩
end Go.Proofs.Ythifcblajimppaa
