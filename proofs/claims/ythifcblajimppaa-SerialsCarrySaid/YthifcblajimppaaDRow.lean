/-
  What is proved here: the small functions of an endpoint and of a port's queue.
  Conditions: what the cells hold.
  What is proved here: rows that may begin at an offset and may have room (of elements of one cell): the rest behind the first element, and what append leaves, in place or in a new block.
  Conditions: the element's type takes one cell; lengths stay small.
-/
import Derived.Test.YthifcblajimppaaDRead
import Derived.ArgAppend
namespace Go.Proofs.Ythifcblajimppaa
open Go.Proofs Go.RowKit
attribute [local go_sem] lt2 lt3 lt4 lt5
set_option maxHeartbeats 2000000 in
theorem epnone_ret (E : Nat) (mx : Nat) (w : World) (hm : 0 < mx) (h : w.cell? ⟨E, 6, none⟩ = some (.int .i64 mx)) : Calls Try.prog 32 #[.pointer (some ⟨E, 0, none⟩)] w fun e w' => e = .returned (.bool false) ∧ w' = w := by
 have q1 : ((mx : Int) == 0) = false := by simp; omega
 go_enter Try.func32, Try.ntmps32
 go_wp2_with fail
 go_ret
 exact ⟨rfl, rfl⟩
set_option maxHeartbeats 2000000 in
theorem waiting_ret (E : Nat) (Q : Option Addr) (qn qc : Nat) (mx : Nat) (w : World) (hm : 0 < mx) (h : w.cell? ⟨E, 6, none⟩ = some (.int .i64 mx)) (h0 : w.cell? ⟨E, 0, none⟩ = some (.slice Q qn qc)) : Calls Try.prog 24 #[.pointer (some ⟨E, 0, none⟩)] w fun e w' => e = .returned (.int .i64 qn) ∧ w' = w := by
 go_enter Try.func24, Try.ntmps24
 go_wp2_with fail
 refine (epnone_ret E mx w hm h).mono ?_
 rintro e w' ⟨rfl, rfl⟩
 go_wp2_with fail
 go_ret
 exact ⟨rfl, rfl⟩
set_option maxHeartbeats 2000000 in
theorem config_ret (E : Nat) (Q : Option Addr) (qn qc : Nat) (room : Int) (T : Option Addr) (tn tc : Nat) (num : Int) (inn : Bool) (kind : Int) (mx : Nat) (tg ha : Bool) (w : World) (hm : 0 < mx) (hE : w.heap[E]? = some (.cells (epC Q qn qc room T tn tc num inn kind mx tg ha) 91 (0, 0))) :
  Calls Try.prog 22 #[.pointer (some ⟨E, 0, none⟩)] w fun e w' => e = .returned (.agg #[.int .u8 num, .bool inn, .int .u8 kind, .int .i64 mx]) ∧ Below w.heap.size w w' := by
 have hb : ∀ o, Below w.heap.size w (w.alloc o) := fun o => (Below.refl w.heap.size w).alloc (Nat.le_refl _) o
 have hX : ∀ o, (w.alloc o).heap[E]? = some (.cells (epC Q qn qc room T tn tc num inn kind mx tg ha) 91 (0, 0)) := fun o => heap_below hE (hb o)
 unfold epC at hX
 have c3 := fun o => cell_of (hX o) 3
 have c4 := fun o => cell_of (hX o) 4
 have c5 := fun o => cell_of (hX o) 5
 have c6 := fun o => cell_of (hX o) 6
 clear hX hE
 go_enter Try.func22, Try.ntmps22
 go_wp2_with fail
 refine (epnone_ret E mx _ hm (c6 _)).mono ?_
 rintro e w' ⟨rfl, rfl⟩
 have hZ := heap_alloc_new w (.cells #[.int .u8 0, .bool false, .int .u8 0, .int .i64 0] 55)
 go_wp2_with (guard_target =~ wpList _ _ _ (_ :: _) _ _; (refine wpList_store_row rfl (.tmp 2) (.tmp 9) 55 rfl w.heap.size 0 55 _ _ #[.int .u8 num, .bool inn, .int .u8 kind, .int .i64 mx] rfl rfl hZ (by kernel_rfl) (by simp) rfl rfl ?_; intro w2 hZ2 hW2))
 refine ret_one _ _ _ _ rfl rfl hZ2 Try.underlying55 rfl (by kernel_rfl) rfl ?_
 exact ⟨rfl, (hb _).trans (hW2.below (Nat.le_refl _))⟩
set_option maxHeartbeats 2000000 in
theorem room_ret (E : Nat) (Q : Option Addr) (qn qc : Nat) (room r : Int) (T : Option Addr) (tn tc : Nat) (num : Int) (kind : Int) (mx : Nat) (tg ha : Bool) (w : World) (hm : 0 < mx) (hr : r = 0 ∨ r = 1) (hE : w.heap[E]? = some (.cells (epC Q qn qc room T tn tc num false kind mx tg ha) 91 (0, 0))) :
  Calls Try.prog 23 #[.pointer (some ⟨E, 0, none⟩), .int .i64 r] w fun e w' => e = .returned (.int .i64 0) ∧ Wrote E w w' ∧ w'.heap[E]? = some (.cells (epC Q qn qc r T tn tc num false kind mx tg ha) 91 (0, 0)) := by
 have hX := hE
 unfold epC at hX
 have c1 := cell_of hX 1
 have f1 := frozen_of hX 1
 have c4 := cell_of hX 4
 have c6 := cell_of hX 6
 have HX := Lib.hid hX
 clear hX hE
 rcases hr with rfl | rfl
 all_goals
  go_enter Try.func23, Try.ntmps23
  go_wp2_with fail
  refine (epnone_ret E mx w hm c6).mono ?_
  rintro e w' ⟨rfl, rfl⟩
  go_wp2_with fail
  go_ret
 ·exact ⟨rfl, ((Put1.refl HX.out).set 1 (.int .i64 0)).wrote, ((Put1.refl HX.out).set 1 (.int .i64 0)).heap⟩
 ·exact ⟨rfl, ((Put1.refl HX.out).set 1 (.int .i64 1)).wrote, ((Put1.refl HX.out).set 1 (.int .i64 1)).heap⟩
set_option maxHeartbeats 2000000 in
theorem qfree_ret (a : Addr) (A : Option Addr) (n c : Nat) (w : World) (hn : n ≤ 100000) (h : w.cell? a = some (.slice A n c)) : Calls Try.prog 21 #[.pointer (some a)] w fun e w' => e = .returned (.int .i64 (256 - n)) ∧ w' = w := by
 have hw1 : IntKind.i64.wrap (256 - (n : Int)) = 256 - n := IntWalk.i64_in _ (by omega)
 go_enter Try.func21, Try.ntmps21
 go_wp2_with fail
 go_ret
 exact ⟨rfl, rfl⟩
end Go.Proofs.Ythifcblajimppaa

namespace Go.Proofs.Ythifcblajimppaa
open Go.Proofs Go.RowKit
theorem setCells_heap {t : TypeId} {b : Nat} : ∀ (vs : List Value) (o : Nat) (w : World) (cs : Array Value), w.heap[b]? = some (.cells cs t (0, 0)) → o + vs.length ≤ cs.size →
  ∃ cs', (w.setCells b o vs).heap[b]? = some (.cells cs' t (0, 0)) ∧ cs'.size = cs.size ∧ (∀ j, j < vs.length → cs'[o + j]? = vs[j]?) ∧ (∀ j, j < o → cs'[j]? = cs[j]?) ∧ Wrote b w (w.setCells b o vs) := by
 intro vs
 induction vs with
 | nil => intro o w cs h _; exact ⟨cs, h, rfl, fun j hj => by simp at hj, fun _ _ => rfl, Wrote.refl b w⟩
 | cons v r ih =>
  intro o w cs h hl
  have hl' : o + 1 + r.length ≤ cs.size := by simp only [List.length_cons] at hl; omega
  obtain ⟨cs', h1, h2, h3, h4, h5⟩ := ih (o + 1) (w.setCell ⟨b, o, none⟩ v) (cs.setIfInBounds o v) (setCell_heap h o v) (by simpa using hl')
  refine ⟨cs', h1, by simpa using h2, fun j hj => ?_, fun j hj => ?_, ((Wrote.refl b w).setCell o v).trans h5⟩
  ·rcases j with _ | j
   ·rw [Nat.add_zero, h4 o (by omega), Array.getElem?_setIfInBounds_self_of_lt (by omega)]
    rfl
   ·rw [show o + (j + 1) = o + 1 + j by omega, h3 j (by simpa using hj)]
    rfl
  ·rw [h4 j (by omega), Array.getElem?_setIfInBounds_ne (by omega)]
def RowEff (A A' : Option Addr) (w w' : World) : Prop := (A' = A ∧ ∃ a, A = some a ∧ Wrote a.block w w') ∨ (w.grownBy w' none ∧ ∀ a, A' = some a → w.heap.size ≤ a.block)
theorem RowAt.append {P : Program} {w : World} {t e : TypeId} {i : TypeInfo} {z : Value} {bytes : Nat} (ht : P.underlying t = some (.slice e)) (hi : P.info? e = some i) (hz : i.zero = some z) (hs : i.size = 1) (hby : i.bytes = bytes) (hzs : z.cells.size = 1) {A : Option Addr} {n c : Nat} {xs : List Value} (h : RowAt w e A n c xs)
  (ad : Addr) (m c' : Nat) (news : List Value) (hl : news.length = m) (hnews : ∀ j u, news[j]? = some u → w.cell? (ad.add j) = some u) (h1 : ∀ u ∈ news, u.oneCell' = true) (b1 : n + m ≤ maxLen) (b2 : (n + m) * bytes ≤ 140737488355328) :
  ∃ A' c'' w', (Builtin.append_ #[t, t] t #[.slice A n c, .slice (some ad) m c']).run P w = .ok (.slice A' (n + m) c'') w' ∧ RowAt w' e A' (n + m) c'' (xs ++ news) ∧ RowEff A A' w w' := by
 obtain ⟨hx1, hx2, hx3, hx4⟩ := h
 have hone : ∀ u ∈ xs ++ news, u.oneCell' = true := fun u hu => (List.mem_append.1 hu).elim (hx3 u) (h1 u)
 have hlen : (xs ++ news).length = n + m := by rw [List.length_append, hx1, hl]
 have hgrown : ∀ v' w', w'.ownsRow w.heap.size e 1 v' (n + m) (xs ++ news) → w.grownBy w' none → ∃ A' c'', v' = .slice A' (n + m) c'' ∧ RowAt w' e A' (n + m) c'' (xs ++ news) ∧ RowEff A A' w w' := by
  intro v' w' ho hg
  obtain ⟨_, ⟨rfl, h0⟩ | ⟨g, cap, cur, rfl, hge, hh, hc, hcm, hsz, htk⟩⟩ := ho
  ·refine ⟨none, 0, by rw [h0], ⟨hlen, by omega, hone, .inl ⟨rfl, h0, rfl⟩⟩, .inr ⟨hg, fun a h => nomatch h⟩⟩
  ·refine ⟨_, cap, rfl, ⟨hlen, hc, hone, .inr ⟨g, 0, cur, rfl, hh, by omega, fun j hj => ?_⟩⟩, .inr ⟨hg, fun a h => by cases h; exact hge⟩⟩
   rw [← htk, List.getElem?_take, if_pos (by omega), Nat.zero_add]
   simp
 rcases hx4 with ⟨rfl, rfl, rfl⟩ | ⟨b, off, cs, rfl, hb, hsz, hcs⟩
 ·obtain rfl : xs = [] := List.length_eq_zero_iff.1 hx1
  obtain ⟨v', w', hr, ho, hg, _⟩ := run_append_own (P := P) w w.heap.size t t e i z 1 bytes ht hi hz hs hby hzs (by omega) (.slice none 0 0) 0 [] (World.ownsRow_nil w _ e 1) ad m c' news (by rw [hl]; omega) hnews h1 b1 b2 (Nat.le_refl _)
  obtain ⟨A', c'', rfl, h2, h3⟩ := hgrown v' w' ho hg
  exact ⟨A', c'', w', hr, h2, h3⟩
 ·by_cases hroom : n + m ≤ c
  ·obtain ⟨cs', k1, k2, k3, k4, k5⟩ := setCells_heap news (off + n) w cs hb (by omega)
   have hr := run_append_room_cells (P := P) w t t e i ht hi b off n c ad m c' news (by rw [hl, hs]; omega) hnews h1 hroom
    (fun j hj => by rw [hs, Nat.mul_one, cell_of hb (off + n + j)]; rw [Array.getElem?_eq_getElem (by omega)]; rfl) (fun j hj => by rw [hs, Nat.mul_one]; exact frozen_of hb _)
   rw [hs, Nat.mul_one] at hr
   refine ⟨_, c, _, hr, ⟨hlen, hroom, hone, .inr ⟨b, off, cs', rfl, k1, by omega, fun j hj => ?_⟩⟩, .inl ⟨rfl, _, rfl, k5⟩⟩
   by_cases hj2 : j < n
   ·rw [k4 _ (by omega), hcs j hj2, List.getElem?_append_left (by omega)]
   ·rw [show off + j = off + n + (j - n) by omega, k3 _ (by omega), List.getElem?_append_right (by omega), hx1]
  ·obtain ⟨v', w', hr, ho, hg⟩ := run_append_arg_grows (P := P) w t t e i z 1 bytes ht hi hz hs hby hzs (by omega) ⟨b, off, none⟩ n c xs (by rw [hx1]; omega) (fun j u hj => by
    have hjn : j < n := by have := (List.getElem?_eq_some_iff.1 hj).1; omega
    rw [show (⟨b, off, none⟩ : Addr).add j = ⟨b, off + j, none⟩ by unfold Addr.add; split <;> simp_all]
    exact (cell_of hb (off + j)).trans ((hcs j hjn).trans hj)) ad m c' news (by rw [hl]; omega) hnews (by omega) b1 b2
   obtain ⟨A', c'', rfl, h2, h3⟩ := hgrown v' w' ho hg
   exact ⟨A', c'', w', hr, h2, h3⟩
end Go.Proofs.Ythifcblajimppaa
