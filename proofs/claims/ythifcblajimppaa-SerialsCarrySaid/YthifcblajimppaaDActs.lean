/-
  What is proved here: the port's Request for the lines, and the law's ready.
  Conditions: what the port's cells hold.
  What is proved here: the law's ready.
  Conditions: what the desk's and the port's cells hold.
  What is proved here: the law's desk begins as the state says; its ready on that state.
  Conditions: the packets' greatest length is 8 to 64.
  What is proved here: nothing; what it is for the argument of the law to be in memory.
  Conditions: none.
-/
import Derived.Test.YthifcblajimppaaDRq
import Derived.BigQuiet
import Derived.Test.YthifcblajimppaaDLawP
namespace Go.Proofs.Ythifcblajimppaa
open Go.Proofs Go.RowKit
attribute [local go_sem] lt2 lt3 lt4 lt5
theorem fn_nil (f : FuncId) (xs : Array Value) (w : World) : (binOp .eql 63 (.func (.func f) xs #[]) .nilFunc).run Try.prog w = .ok (.bool false) w := by
 have h : ∀ d : Nat, (Op.equalIn (d + 1) 63 (.func (.func f) xs #[]) .nilFunc).run Try.prog w = .ok false w := fun d => by
  simp [Op.equalIn, run_underlying Try.underlying63]
 have h2 : (Op.equalIn Op.maxDepth 63 (.func (.func f) xs #[]) .nilFunc).run Try.prog w = .ok false w := h (Op.maxDepth - 1)
 simp [binOp, Op.equal, h2]
set_option maxHeartbeats 8000000 in
set_option maxRecDepth 100000 in
theorem req_ret (P : Nat) (cs : Array Value) (on : Bool) (w : World) (hP : w.heap[P]? = some (.cells cs 67 (0, 0))) (hs : cs.size = 15) (h2 : cs[2]? = some (.int .u16 5)) : Calls Try.prog 19 #[.pointer (some ⟨P, 0, none⟩), .agg (rqC (if on then 1 else 0)), .slice none 0 0] w (LnEnd P cs on w) := by
 have hpl := lt_of_heap hP
 obtain ⟨v, hv⟩ : ∃ v : Int, (if on then 1 else 0) = v := ⟨_, rfl⟩
 have hln := fun w' (hb : Below w.heap.size w w') => lines_ret P cs on w' (heap_below hP hb) hs
 rw [hv] at hln ⊢
 obtain ⟨wb, hwb⟩ : ∃ wb, w.alloc (.cells (rqC v) 62) = wb := ⟨_, rfl⟩
 have hbb : Below w.heap.size w wb := by rw [← hwb]; exact (Below.refl _ _).alloc (Nat.le_refl _) _
 have hbx : wb.heap[w.heap.size]? = some (.cells (rqC v) 62 (0, 0)) := by rw [← hwb]; exact heap_alloc_new w _
 have hP0 := heap_below hP hbb
 have x3 : wb.cell? ⟨w.heap.size, 3, none⟩ = some (.int .u16 5) := cell_of hbx 3
 have y2 : wb.cell? ⟨P, 2, none⟩ = some (.int .u16 5) := (cell_of hP0 2).trans h2
 have HBB := Lib.hid hbb
 have HBX := Lib.hid hbx
 have HL := Lib.hid hln
 clear hP hP0 hbb hbx hv hln
 unfold rqC at hwb ⊢
 go_enter Try.func19, Try.ntmps19
 go_upto_region 1 with fail
 go_cut [20] from 10 to 20 (fun v wx => v = .bool false ∧ Below wb.heap.size wb wx)
 case first =>
  go_quiet (fail)
  go_wp2_with fail
  go_meet
  exact ⟨rfl, ⟨rfl, rfl, rfl, Nat.le_refl _, fun _ _ => rfl⟩⟩
 case rest =>
 obtain ⟨rfl, hb2⟩ := hcut
 have HB2 := Lib.hid hb2
 clear hb2 x3 y2
 go_upto_region 3 with fail
 refine rq3 (P := P) (by kernel_rfl) rfl
  ⟨_, rfl, rfl, rfl, rfl, by kernel_rfl⟩ ⟨_, rfl, rfl, rfl, rfl, by kernel_rfl⟩ ⟨_, rfl, rfl, rfl, rfl, by kernel_rfl⟩ ⟨_, rfl, rfl, rfl, rfl, by kernel_rfl⟩ ⟨_, rfl, rfl, rfl, rfl, by kernel_rfl⟩ ⟨_, rfl, rfl, rfl, rfl, by kernel_rfl⟩ ⟨_, rfl, rfl, rfl, rfl, by kernel_rfl⟩ ⟨_, rfl, rfl, rfl, rfl, by kernel_rfl⟩ ⟨_, rfl, rfl, rfl, rfl, by kernel_rfl⟩ ⟨_, rfl, rfl, rfl, rfl, by kernel_rfl⟩ ⟨_, rfl, rfl, rfl, rfl, by kernel_rfl⟩ ⟨_, rfl, rfl, rfl, rfl, by kernel_rfl⟩ ⟨_, rfl, rfl, rfl, rfl, by kernel_rfl⟩ ⟨_, rfl, rfl, rfl, rfl, by kernel_rfl⟩ ⟨_, rfl, rfl, rfl, rfl, by kernel_rfl⟩ ⟨_, rfl, rfl, rfl, rfl, by kernel_rfl⟩ ⟨_, rfl, rfl, rfl, rfl, by kernel_rfl⟩ ⟨_, rfl, rfl, rfl, rfl, by kernel_rfl⟩ ⟨_, rfl, rfl, rfl, rfl, by kernel_rfl⟩
  rfl rfl ?_
 intro a9 w9 hF9 h8 hb9 hlk
 rw [hF9.puts]
 simp only [List.foldl_cons, List.foldl_nil]
 rw [h8]
 generalize a9.eval (.tmp 21) = y21
 generalize a9.eval (.tmp 22) = y22
 generalize a9.eval (.tmp 23) = y23
 generalize a9.eval (.tmp 24) = y24
 generalize a9.eval (.tmp 25) = y25
 generalize a9.eval (.tmp 26) = y26
 generalize a9.eval (.tmp 27) = y27
 generalize a9.eval (.tmp 28) = y28
 generalize a9.eval (.tmp 29) = y29
 generalize a9.eval (.tmp 30) = y30
 generalize a9.eval (.tmp 31) = y31
 generalize a9.eval (.tmp 32) = y32
 generalize a9.eval (.tmp 33) = y33
 generalize a9.eval (.tmp 34) = y34
 simp only [Act.put, List.setIfInBounds_toArray, List.set_cons_succ, List.set_cons_zero]
 have hb99 := (HBB.out.trans (HB2.out.mono HBB.out.size)).trans (hb9.mono (Nat.le_trans HBB.out.size HB2.out.size))
 have hbx9 := heap_below (heap_below HBX.out HB2.out) hb9
 have z0 : w9.cell? ⟨w.heap.size, 0, none⟩ = some (.int .u8 33) := cell_of hbx9 0
 have z1 : w9.cell? ⟨w.heap.size, 1, none⟩ = some (.int .u8 34) := cell_of hbx9 1
 have z2 : w9.cell? ⟨w.heap.size, 2, none⟩ = some (.int .u16 v) := cell_of hbx9 2
 have z3 : w9.cell? ⟨w.heap.size, 3, none⟩ = some (.int .u16 5) := cell_of hbx9 3
 have z4 : w9.cell? ⟨w.heap.size, 4, none⟩ = some (.int .u16 0) := cell_of hbx9 4
 have hl9 := HL.out w9 hb99
 have HB99 := Lib.hid hb99
 unfold rkV rfV at hlk
 unfold rqC at hl9
 clear hF9 h8 hb9 hb99 hbx9
 have hfn := fn_nil 36 #[.pointer (some ⟨P, 0, none⟩)] w9
 go_wp2_with fail
 refine hl9.mono ?_
 rintro e w10 ⟨rfl, hP10, hm10⟩
 clear hl9 hlk hfn
 go_wp2_with fail
 go_ret2
 exact ⟨rfl, hP10, ((Mv.refl (fun i => i = P) w).below HB99.out).trans hm10⟩
end Go.Proofs.Ythifcblajimppaa

namespace Go.Proofs.Ythifcblajimppaa
open Go.Proofs Go.RowKit
attribute [local go_sem] lt2 lt3 lt4 lt5
theorem below_drew' {B : Nat} {w w' : World} (h : Below B w w') : Below B w w'.drew := ⟨h.os, h.tape, h.output, h.size, h.block⟩
def RdyEnd (P : Nat) (cs : Array Value) (on : Bool) (w : World) (e : Ending) (w' : World) : Prop :=
 e = .returned (.bool true) ∧ w'.heap[P]? = some (.cells (lnC cs on) 67 (0, 0)) ∧ Mv (fun i => i = P) w (fun i => i = P) w'
set_option maxHeartbeats 8000000 in
set_option maxRecDepth 100000 in
theorem ready_ret (d P s : Nat) (t0 t1 t2 : Bool) (mx : Int) (fr : Bool) (cs : Array Value) (on : Bool) (w : World) (hD : w.heap[d]? = some (.cells (dkC P s t0 t1 t2 mx fr) 32 (0, 0))) (hP : w.heap[P]? = some (.cells cs 67 (0, 0))) (hs : cs.size = 15) (h2 : cs[2]? = some (.int .u16 5)) :
  Calls Try.prog 6 #[.pointer (some ⟨d, 0, none⟩), .bool on] w (RdyEnd P cs on w) := by
 have hrq : ∀ w' v, Below w.heap.size w w' → v = (if on then 1 else 0 : Int) → Calls Try.prog 19 #[.pointer (some ⟨P, 0, none⟩), .agg #[.int .u8 33, .int .u8 34, .int .u16 v, .int .u16 5, .int .u16 0], .slice none 0 0] w' (LnEnd P cs on w') := fun w' v hb e => by subst e; exact req_ret P cs on w' (heap_below hP hb) hs h2
 have hbA : ∀ o, Below w.heap.size w (w.alloc o) := fun o => (Below.refl _ _).alloc (Nat.le_refl _) o
 have hdl := lt_of_heap hD
 have hX := fun o => heap_below hD (hbA o)
 unfold dkC at hX
 have x0 := fun o => cell_of (hX o) 0
 have HB := Lib.hid hbA
 have HR := Lib.hid hrq
 clear hX hD hP hbA hrq
 cases on
 ·go_enter Try.func6, Try.ntmps6
  go_upto_region 4 with fail
  go_cut [7] from 6 to 19 (fun v wx => v = .bool true ∧ wx.heap[P]? = some (.cells (lnC cs false) 67 (0, 0)) ∧ Mv (fun i => i = P) w (fun i => i = P) wx)
  case first =>
   go_upto_region 4 with fail
   go_region_with (go_at_call 19; refine (HR.out _ 0 (below_drew' (HB.out _)) rfl).mono ?_; rintro e w1 ⟨rfl, hP1, hm1⟩)
   all_goals
    go_wp2_with fail
    go_meet
    exact ⟨rfl, hP1, ((Mv.refl (fun i => i = P) w).below (below_drew' (HB.out _))).trans hm1⟩
  case rest =>
   obtain ⟨rfl, hP1, hm1⟩ := hcut
   go_wp2_with fail
   go_ret
   exact ⟨rfl, hP1, hm1⟩
 ·go_enter Try.func6, Try.ntmps6
  go_upto_region 4 with fail
  go_cut [7] from 6 to 19 (fun v wx => v = .bool true ∧ wx.heap[P]? = some (.cells (lnC cs true) 67 (0, 0)) ∧ Mv (fun i => i = P) w (fun i => i = P) wx)
  case first =>
   go_upto_region 4 with fail
   go_region_with (go_at_call 19; refine (HR.out _ 1 (below_drew' (HB.out _)) rfl).mono ?_; rintro e w1 ⟨rfl, hP1, hm1⟩)
   all_goals
    go_wp2_with fail
    go_meet
    exact ⟨rfl, hP1, ((Mv.refl (fun i => i = P) w).below (below_drew' (HB.out _))).trans hm1⟩
  case rest =>
   obtain ⟨rfl, hP1, hm1⟩ := hcut
   go_wp2_with fail
   go_ret
   exact ⟨rfl, hP1, hm1⟩
end Go.Proofs.Ythifcblajimppaa

namespace Go.Proofs.Ythifcblajimppaa
open Go.Proofs Go.RowKit
def g0 : Gs := { ep := { nxt := 0, q := [], itg := false, room := 0, tk := none, otg := false }, t0 := false, t1 := false, pb := [], pin := [], t := 0 }
theorem g0_inv (mx : Nat) (h : 8 ≤ mx ∧ mx ≤ 64) : g0.Inv mx := ⟨⟨h, by simp [g0], by simp [g0], rfl, by simp [g0], .inl rfl, rfl, by simp [g0], by simp [g0]⟩, rfl⟩
theorem Made.at_ {base d P s I O N m mx : Nat} {w : World} (h : Made base d P s I O N m mx w) (hm : mx ≤ 1024) : DkAt (fun i => i < base) d P (.pointer (some ⟨N, 0, none⟩)) mx 0 g0 w := by
 have l1 := lt_of_heap h.desk
 have l2 := lt_of_heap h.port
 have l3 := lt_of_heap h.set
 have l4 := lt_of_heap h.eps.1
 have l5 := lt_of_heap h.eps.2.1
 have l6 := lt_of_heap h.map
 have hlo := h.lo
 have hne := h.ne
 let K : EpK := { s := s, I := I, O := O, m := m, B0 := w.heap.size, mx := mx, rI := 0, mo := .map (ents I O N 3) 3, F := fun i => i < base ∨ i = P ∨ i = d, look := fun w h => ends_at I O N m w h, ne := by omega, lt := by omega, hm := hm }
 have hS : ∀ i, i = s ∨ i = I ∨ i = O → i < w.heap.size ∧ base ≤ i ∧ i ≠ P ∧ i ≠ d ∧ i ≠ m := fun i hi => by omega
 have hF : ∀ i, i < base ∨ i = P ∨ i = d → i < w.heap.size ∧ i ≠ m := fun i hi => by omega
 have hE : EpAt K w (fun i => i = s ∨ i = I ∨ i = O) g0.ep := by
  refine ⟨h.set, .inl rfl, fun e => by simp [g0] at e, ⟨none, 0, 0, h.eps.1, ⟨rfl, Nat.le_refl _, .inl rfl⟩, ⟨[], RowAt.nil _ _⟩, fun a e => nomatch e⟩, ⟨none, 0, 0, h.eps.2.1, ⟨rfl, rfl, rfl⟩, .inl rfl, fun _ => rfl⟩, h.map, ⟨.inl rfl, .inr (.inl rfl), .inr (.inr rfl), fun hm => (hS m hm).2.2.2.2 rfl⟩, fun i hi => (hS i hi).1, Nat.le_refl _, fun i hi => ⟨(hF i hi).1, fun hs => ?_⟩, fun hf => (hF m hf).2 rfl⟩
  have h1 := hS i hs
  have hi : i < base ∨ i = P ∨ i = d := hi
  omega
 exact ⟨K, fun i => i = s ∨ i = I ∨ i = O, none, 0, 0, none, 0, 0, rfl, hE, h.port, h.desk, ⟨RowAt.nil _ _, fun x hx => nomatch hx⟩, ⟨RowAt.nil _ _, fun x hx => nomatch hx⟩, ⟨.inr (.inl rfl), .inr (.inr rfl), fun i hi => .inl hi, hne.1, Nat.not_lt.2 hlo.1, Nat.not_lt.2 hlo.2.1⟩, (fun a e => nomatch e), (fun a e => nomatch e), (fun a b e => nomatch e), (fun cs e r h => nomatch h)⟩
theorem ready_op {L : Nat → Prop} {d P : Nat} {N : Value} {mx : Nat} {ln : Int} (on : Bool) (g : Gs) (w : World) (h : DkAt L d P N mx ln g w) :
  Calls Try.prog 6 #[.pointer (some ⟨d, 0, none⟩), .bool on] w fun e w' => e = .returned (.bool true) ∧ DkAt L d P N mx (if on then 1 else 0) (if on then g else { g with pb := [], pin := [] }) w' ∧ Kp L w w' := by
 obtain ⟨K, S, A1, n1, c1, A2, n2, c2, hmx, h⟩ := h
 refine (ready_ret d P K.s g.t0 g.t1 false K.mx false _ on w h.desk h.port rfl rfl).mono ?_
 rintro e w' ⟨rfl, hP, hm⟩
 have hX : ∀ i, i < w.heap.size → i = P → K.F i ∧ i ≠ d ∧ ¬ L i := fun i _ e => e ▸ ⟨h.far.1, fun e => h.far.2.2.2.1 e.symm, h.far.2.2.2.2.2⟩
 cases on with
 | true =>
  obtain ⟨F, hB, h1, h2⟩ := h.put (w' := w') (ln' := 1) (t' := g.t) (A1' := A1) (n1' := n1) (c1' := c1) (A2' := A2) (n2' := n2) (c2' := c2) (pb' := g.pb) (pin' := g.pin) hm hX hP (h.r1.keep fun a e => hm.block _ (h.r1.lt a e) (h.f1 a e).2.1) (h.r2.keep fun a e => hm.block _ (h.r2.lt a e) (h.f2 a e).2.1) (fun _ _ => .inl rfl) (fun _ _ => .inl rfl) h.f12
  exact ⟨rfl, ⟨K.on _ F hB, S, _, _, _, _, _, _, hmx, h1⟩, h2⟩
 | false =>
  obtain ⟨F, hB, h1, h2⟩ := h.put (w' := w') (ln' := 0) (t' := g.t) (A1' := none) (n1' := 0) (c1' := 0) (A2' := none) (n2' := 0) (c2' := 0) (pb' := []) (pin' := []) hm hX hP ⟨RowAt.nil _ _, fun x hx => nomatch hx⟩ ⟨RowAt.nil _ _, fun x hx => nomatch hx⟩ (fun _ e => nomatch e) (fun _ e => nomatch e) (fun _ _ e => nomatch e)
  exact ⟨rfl, ⟨K.on _ F hB, S, _, _, _, _, _, _, hmx, h1⟩, h2⟩
theorem send_no {L : Nat → Prop} {d P : Nat} {N : Value} {mx : Nat} (g : Gs) (w : World) (h : DkAt L d P N mx 0 g w) (B : Option Addr) (nb cb : Nat) :
  Calls Try.prog 8 #[.pointer (some ⟨P, 0, none⟩), .slice B nb cb] w fun e w' => e = .returned (.int .i64 0) ∧ w' = w := by
 obtain ⟨K, S, A1, n1, c1, A2, n2, c2, hmx, h⟩ := h
 have hX := h.port
 unfold ptC at hX
 have x7 := cell_of hX 7
 clear hX
 go_enter Try.func8, Try.ntmps8
 go_wp2_with fail
 rw [bit0]
 go_wp2_with fail
 go_ret
 exact ⟨rfl, rfl⟩
theorem recv_no {L : Nat → Prop} {d P : Nat} {N : Value} {mx : Nat} (g : Gs) (w : World) (h : DkAt L d P N mx 0 g w) (hp : g.pb = []) :
  Calls Try.prog 11 #[.pointer (some ⟨P, 0, none⟩)] w fun e w' => ∃ A, e = .returned (.slice A 0 0) ∧ Kp L w w' := by
 obtain ⟨K, S, A1, n1, c1, A2, n2, c2, hmx, h⟩ := h
 have hn1 : g.pb.length = n1 := h.r1.u8.1
 refine (recv_ret P _ A1 n1 c1 g.pb w h.port rfl h.r1 (by rw [hp] at hn1; simp at hn1; omega)).mono ?_
 rintro e w' ⟨A, B, c', rfl, hU, hA, hP, hR, hB, hmv⟩
 rw [hp]
 exact ⟨A, rfl, hmv.os, hmv.tape, hmv.output, hmv.size, fun i hi hl => hmv.block i hi fun e => h.far.2.2.2.2.2 (e ▸ hl)⟩
end Go.Proofs.Ythifcblajimppaa

namespace Go.Proofs.Ythifcblajimppaa
open Go.Proofs Go.RowKit
def ActAt (B : Nat) (w : World) (a o k : Nat) (v : Int × Int × List Int) : Prop :=
 (0 ≤ v.1 ∧ v.1 ≤ 255) ∧ (0 ≤ v.2.1 ∧ v.2.1 ≤ 255) ∧ w.cell? ⟨a, o + k * 3, none⟩ = some (.int .u8 v.1) ∧ w.cell? ⟨a, o + k * 3 + 1, none⟩ = some (.int .u8 v.2.1) ∧ ∃ A n c, w.cell? ⟨a, o + k * 3 + 2, none⟩ = some (.slice A n c) ∧ U8 w A n c v.2.2 ∧ n ≤ 9223372036854775807 ∧ (n = 0 ∨ ∃ b o', A = some ⟨b, o', none⟩ ∧ b < B)
def Acts (B : Nat) (w : World) (A : Option Addr) (n c : Nat) : Prop :=
 n ≤ c ∧ n ≤ 9223372036854775807 ∧ (n = 0 ∨ ∃ a o, A = some ⟨a, o, none⟩ ∧ a < B ∧ ∀ k, k < n → ∃ v, ActAt B w a o k v)
end Go.Proofs.Ythifcblajimppaa
