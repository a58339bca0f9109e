/-
  What is proved here: what pipes.End returns for isochronous works.
  Conditions: what the pieces' cells hold.
  What is proved here: what pipes.Begin returns for the law's isochronous jobs, exactly.
  Conditions: what the packets' cells hold.
  What is proved here: the calls of the law's first run: wire, run and pipes.End, in any world that has what they need; and of its second run.
  Conditions: what the device's, the packets' and the faults' cells hold at the beginning.
  What is proved here: what the law's region 14 does, whatever the order of its operations.
  Conditions: what the calls in it return.
-/
import Derived.Test.YtiajboiobjfcoaaGreatDoorORun
import Derived.Test.YtiajboiobjfcoaaGreatDoorIPnx
import Derived.Test.YtiajboiobjfcoaaGreatDoorQWant
import Derived.Test.YtiajboiobjfcoaaGreatDoorIReg
namespace Go.Proofs.YtiajboiobjfcoaaGreatDoor
open Go.Proofs Go.RowKit
attribute [local go_sem] lt2 lt3 lt4 lt5
theorem ret_cells2 {P : Program} {fn : Func} {p q u : Tmp} {ty ty' : TypeId} {R : Ending → World → Prop} {a : Act} {w : World} (g g' : Nat) (t t' : TypeId) (cs cs' : Array Value) (d d' : TypeDesc) (v : Value) (hres : fn.results = #[.cell p ty, .cell q ty', .tmp u])
  (hp : a.tmps.getD p undef = .pointer (some ⟨g, 0, none⟩)) (hq : a.tmps.getD q undef = .pointer (some ⟨g', 0, none⟩)) (hu : a.tmps.getD u undef = v)
  (hg : w.heap[g]? = some (.cells cs t (0, 0))) (hty : P.underlying ty = some d) (hd : (match d with | .struct _ | .array _ _ => true | _ => false) = true) (hi : (P.info? ty).map (·.size) = some cs.size)
  (hg' : w.heap[g']? = some (.cells cs' t' (0, 0))) (hty' : P.underlying ty' = some d') (hd' : (match d' with | .struct _ | .array _ _ => true | _ => false) = true) (hi' : (P.info? ty').map (·.size) = some cs'.size) (hde : a.defers = [])
  (hR : R (.returned (.tuple #[.agg cs, .agg cs', v])) w) : bodyPost P fn R .ret a w := by
 refine bodyPost_ret_by ?_ hde hR
 have h1 := run_loadVar_row (P := P) w g t ty cs (0, 0) d hg hty hd hi
 have h2 := run_loadVar_row (P := P) w g' t' ty' cs' (0, 0) d' hg' hty' hd' hi'
 have hr : (results fn a.tmps).run P w = ((asAddr (a.tmps.getD p undef)).run P w).andThen fun a₁ w₁ => ((loadVar ty a₁).run P w₁).andThen fun v w₂ => ((asAddr (a.tmps.getD q undef)).run P w₂).andThen fun a₂ w₃ => ((loadVar ty' a₂).run P w₃).andThen fun v' w₄ => .ok (.tuple #[v, v', a.tmps.getD u undef]) w₄ := by
  simp only [results, hres]
  simp [Sem.run_bind, Result.andThen]
 rw [hr, hp, hq, hu]
 simp [asAddr, h1, h2]
theorem put4 {w : World} {g : Nat} {t : TypeId} {z0 z1 z2 z3 : Value} (h : w.heap[g]? = some (.cells #[z0, z1, z2, z3] t (0, 0))) (v0 v1 v2 v3 : Value) :
  ((((w.setCell ⟨g, 0, none⟩ v0).setCell ⟨g, 1, none⟩ v1).setCell ⟨g, 2, none⟩ v2).setCell ⟨g, 3, none⟩ v3).heap[g]? = some (.cells #[v0, v1, v2, v3] t (0, 0)) ∧ Wrote g w ((((w.setCell ⟨g, 0, none⟩ v0).setCell ⟨g, 1, none⟩ v1).setCell ⟨g, 2, none⟩ v2).setCell ⟨g, 3, none⟩ v3) := by
 have hP := (((((Put1.refl h).set 0 v0).set 1 v1).set 2 v2).set 3 v3)
 exact ⟨by simpa using hP.heap, hP.wrote⟩
theorem put11 {w : World} {g : Nat} {t : TypeId} {z0 z1 z2 z3 z4 z5 z6 z7 z8 z9 z10 : Value} (h : w.heap[g]? = some (.cells #[z0, z1, z2, z3, z4, z5, z6, z7, z8, z9, z10] t (0, 0))) (v0 v1 v2 v3 v4 v5 v6 v7 v8 v9 v10 : Value) :
  (((((((((((w.setCell ⟨g, 0, none⟩ v0).setCell ⟨g, 1, none⟩ v1).setCell ⟨g, 2, none⟩ v2).setCell ⟨g, 3, none⟩ v3).setCell ⟨g, 4, none⟩ v4).setCell ⟨g, 5, none⟩ v5).setCell ⟨g, 6, none⟩ v6).setCell ⟨g, 7, none⟩ v7).setCell ⟨g, 8, none⟩ v8).setCell ⟨g, 9, none⟩ v9).setCell ⟨g, 10, none⟩ v10).heap[g]? = some (.cells #[v0, v1, v2, v3, v4, v5, v6, v7, v8, v9, v10] t (0, 0)) ∧ Wrote g w (((((((((((w.setCell ⟨g, 0, none⟩ v0).setCell ⟨g, 1, none⟩ v1).setCell ⟨g, 2, none⟩ v2).setCell ⟨g, 3, none⟩ v3).setCell ⟨g, 4, none⟩ v4).setCell ⟨g, 5, none⟩ v5).setCell ⟨g, 6, none⟩ v6).setCell ⟨g, 7, none⟩ v7).setCell ⟨g, 8, none⟩ v8).setCell ⟨g, 9, none⟩ v9).setCell ⟨g, 10, none⟩ v10) := by
 have hP := ((((((((((((Put1.refl h).set 0 v0).set 1 v1).set 2 v2).set 3 v3).set 4 v4).set 5 v5).set 6 v6).set 7 v7).set 8 v8).set 9 v9).set 10 v10)
 exact ⟨by simpa using hP.heap, hP.wrote⟩
end Go.Proofs.YtiajboiobjfcoaaGreatDoor

namespace Go.Proofs.YtiajboiobjfcoaaGreatDoor
open Go.Proofs Go.RowKit Go.Sy
set_option maxRecDepth 1000000
theorem vi {c : Cx} {k : IntKind} {z : Int} (h : kMin k ≤ z ∧ z ≤ kMax k) : VR c (.int k (.n z)) (.int k z) := VR.int.2 ⟨rfl, h⟩
end Go.Proofs.YtiajboiobjfcoaaGreatDoor

namespace Go.Proofs.YtiajboiobjfcoaaGreatDoor
open Go.Proofs Go.RowKit
def Has (wC w : World) (bs : List (Nat × Obj)) : Prop := ∀ p ∈ bs, w.heap[p.1]? = some p.2 ∧ wC.heap.size ≤ p.1
theorem Has.keep {wC w w' : World} {bs : List (Nat × Obj)} (h : Has wC w bs) (hk : ∀ p ∈ bs, w'.heap[p.1]? = w.heap[p.1]?) : Has wC w' bs := fun p hp => ⟨(hk p hp).trans (h p hp).1, (h p hp).2⟩
theorem Has.lt {wC w : World} {bs : List (Nat × Obj)} (h : Has wC w bs) {p : Nat × Obj} (hp : p ∈ bs) : p.1 < w.heap.size := (Array.getElem?_eq_some_iff.1 (h p hp).1).1
theorem Has.below {wC w w' : World} {bs : List (Nat × Obj)} (h : Has wC w bs) (hb : Below w.heap.size w w') : Has wC w' bs := h.keep fun _ hp => hb.block _ (h.lt hp)
theorem Has.alloc {wC w : World} {bs : List (Nat × Obj)} (h : Has wC w bs) (hs : wC.heap.size ≤ w.heap.size) (o : Obj) : Has wC (w.alloc o) ((w.heap.size, o) :: bs) := by
 intro p hp
 rcases List.mem_cons.1 hp with rfl | hp
 ·exact ⟨heap_alloc_new w o, hs⟩
 ·exact (h.below ((Below.refl _ w).alloc (Nat.le_refl _) o)) p hp
def P0 (wC w : World) (bs : List (Nat × Obj)) : Prop := Below wC.heap.size wC w ∧ Has wC w bs
theorem P0.alloc {wC w : World} {bs : List (Nat × Obj)} (h : P0 wC w bs) (o : Obj) : P0 wC (w.alloc o) ((w.heap.size, o) :: bs) := ⟨h.1.trans (((Below.refl _ w).alloc (Nat.le_refl _) o).mono h.1.size), h.2.alloc h.1.size o⟩
theorem LineAt.lt {L R : Nat} {w : World} {t : List Int} (h : LineAt L R w t) : L < w.heap.size ∧ R < w.heap.size := by
 obtain ⟨A, n, c, h1, _, _, _, hR, _⟩ := h
 exact ⟨(Array.getElem?_eq_some_iff.1 h1).1, hR⟩
end Go.Proofs.YtiajboiobjfcoaaGreatDoor

namespace Go.Proofs.YtiajboiobjfcoaaGreatDoor
open Go.Proofs Go.RowKit
structure Good (wC : World) (S0 : Nat → Prop) (R : World → List (Nat × Obj) → Prop) : Prop where
 al : ∀ {w bs}, R w bs → ∀ o, R (w.alloc o) ((w.heap.size, o) :: bs)
 sub : ∀ {w bs bs'}, R w bs → (∀ p ∈ bs', p ∈ bs) → R w bs'
 has : ∀ {w bs}, R w bs → Has wC w bs
 kp : ∀ {w bs}, R w bs → ∀ g, g < wC.heap.size → ¬ S0 g → w.heap[g]? = wC.heap[g]?
theorem Good.p0 (wC : World) (S0 : Nat → Prop) : Good wC S0 (P0 wC) where
 al := fun h o => h.alloc o
 sub := fun h hs => ⟨h.1, fun p hp => h.2 p (hs p hp)⟩
 has := fun h => h.2
 kp := fun h g hg _ => h.1.block g hg
section
variable (wC : World) (S0 : Nat → Prop) (R1 : Array Value → World → List (Nat × Obj) → Prop) (R2 : Array Value → Array Value → World → List (Nat × Obj) → Prop)
end
def Sp (ops : Array Oper) (i : Nat) (op : Op) (dst : Option Tmp) (pre : List Nat) : Prop := ∃ o, ops[i]? = some o ∧ o.op = op ∧ o.dst = dst ∧ o.guard = none ∧ (pre.all fun j => o.after.toList.any fun e => (e.on == j) && Region.binds .any e) = true
theorem Sp.get {ops : Array Oper} {i : Nat} {op : Op} {dst : Option Tmp} {pre : List Nat} (h : Sp ops i op dst pre) {o : Oper} (ho : ops[i]? = some o) {b : Nat → Bool} (he : ∀ e ∈ o.after, Region.binds .any e = true → b e.on = true) : o.op = op ∧ o.dst = dst ∧ o.guard = none ∧ ∀ j ∈ pre, b j = true := by
 obtain ⟨o', h1, h2, h3, h4, h5⟩ := h
 rw [ho] at h1
 obtain rfl := Option.some.inj h1
 refine ⟨h2, h3, h4, fun j hj => ?_⟩
 obtain ⟨e, he1, he2⟩ := List.any_eq_true.1 (List.all_eq_true.1 h5 j hj)
 rw [Bool.and_eq_true, beq_iff_eq] at he2
 rw [← he2.1]
 exact he e (by simpa using he1) he2.2
end Go.Proofs.YtiajboiobjfcoaaGreatDoor
