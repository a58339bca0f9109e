/-
  What is proved here: a region whose order is drawn, whose operations only read but for the last one, which waits for all the others: one walk in the order of the text serves.
  Conditions: none.
-/
import Derived.Test.YtdiameckiihppaaDoorIReg
import Derived.Deep.Quiet
import Derived.BigQuiet
namespace Go.Proofs.YtdiameckiihppaaDoor
open Go.Proofs Go.RowKit

/-- what an operation waits for -/
def depsOf (ops : Array Oper) (i : Nat) : List Nat := ((ops[i]?).map fun o => (o.after.toList.filter fun e => Region.binds .any e).map fun e => e.on).getD []
/-- the last one waits for all -/
def coverB (ops : Array Oper) : Nat → List Nat → Bool
  | 0, _ => true
  | i + 1, S => S.contains i && coverB ops i (S ++ depsOf ops i)

theorem cover_spec {ops : Array Oper} {b : Nat → Bool} (hcl : ∀ i, b i = true → ∀ j ∈ depsOf ops i, b j = true) : ∀ (k : Nat) (S : List Nat), (∀ s ∈ S, b s = true) → coverB ops k S = true → ∀ i, i < k → b i = true
  | 0, _, _, _, i, h => absurd h (Nat.not_lt_zero _)
  | k + 1, S, hS, h, i, hi => by
    unfold coverB at h
    rw [Bool.and_eq_true] at h
    have hk : b k = true := hS k (by simpa using h.1)
    by_cases e : i = k
    · rw [e]; exact hk
    · refine cover_spec hcl k _ (fun s hs => ?_) h.2 i (by omega)
      rcases List.mem_append.1 hs with hs | hs
      · exact hS s hs
      · exact hcl k hk s hs

theorem mem_deps {ops : Array Oper} {i j : Nat} {o : Oper} (ho : ops[i]? = some o) : j ∈ depsOf ops i ↔ ∃ e ∈ o.after, Region.binds .any e = true ∧ e.on = j := by
  unfold depsOf
  rw [ho]
  simp only [Option.map_some, Option.getD_some, List.mem_map, List.mem_filter, Array.mem_toList_iff]
  constructor
  · rintro ⟨e, ⟨h1, h2⟩, h3⟩
    exact ⟨e, h1, h2, h3⟩
  · rintro ⟨e, h1, h2, h3⟩
    exact ⟨e, ⟨h1, h2⟩, h3⟩

section
variable {P : Program} {C : World → Prop} {Q : Exit → Act → World → Prop}

theorem wpOp_of_q {pre ops : Array Oper} {i : Nat} {o : Oper} (h1 : pre[i]? = some o) (h2 : ops[i]? = some o) (hg : o.guard = none) {a : Act} {K : Act → Prop} {K' : Act → World → Prop} {w : World} (hC : C w) (h : ∀ a w', C w' → K a → K' a w') (hh : qOp P pre C i K a) : wpOp P ops Q i K' a w := by
  unfold qOp at hh
  unfold wpOp
  simp only [h1] at hh
  simp only [h2]
  have w1 : Region.wanted o (yielded pre a.tmps) = true := by simp [Region.wanted, hg]
  have w2 : Region.wanted o (yielded ops a.tmps) = true := by simp [Region.wanted, hg]
  rw [if_pos w1] at hh
  rw [if_pos w2]
  exact .inl (Oper.wp_of_quiet hC h hh)

theorem ready_all {ops : Array Oper} (hback : edgesBack ops = true) {listed : Array Bool} (hs : listed.size = ops.size) (hr : Region.ready .any ops listed = []) : ∀ i, i < ops.size → listed.getD i false = true := by
  intro j
  induction j using Nat.strongRecOn with
  | ind j ih =>
    intro hj
    cases hl : listed.getD j false with
    | true => rfl
    | false =>
      exfalso
      have : j ∈ Region.ready .any ops listed := by
        rw [ready_iff]
        refine ⟨?_, ops[j], Array.getElem?_eq_getElem hj, fun e he hb => ?_⟩
        · have hd : ∀ d, listed.getD j d = listed[j]'(by omega) := fun d => by simp [Array.getD, hs, hj]
          rw [hd] at hl ⊢; exact hl
        · have hlt := edgesBack_spec hback (Array.getElem?_eq_getElem hj) he hb
          exact ih e.on hlt (by omega)
      rw [hr] at this
      simp at this
theorem done_any {ops : Array Oper} : ∀ (fuel : Nat) {listed : Array Bool} {a : Act} {w : World}, Region.ready .any ops listed = [] → Q .normal a w → wpAny P .any ops Q fuel listed a w
  | 0, _, _, _, h, hq => ⟨h, hq⟩
  | fuel + 1, _, _, _, h, hq => ⟨fun _ => hq, fun i hi => by rw [h] at hi; simp at hi⟩
theorem q_end {pre : Array Oper} {QQ : Act → Prop} : ∀ {fuel : Nat} {lp : Array Bool} {a : Act}, wpAnyQ P .any pre C QQ fuel lp a → Region.ready .any pre lp = [] → QQ a
  | 0, _, _, h, _ => h.2
  | _ + 1, _, _, h, hr => h.1 hr
theorem getD_put {listed : Array Bool} {i j : Nat} {d : Bool} (hi : i < listed.size) : (listed.setIfInBounds i true).getD j d = if j = i then true else listed.getD j d := by
  simp only [Array.getD_eq_getD_getElem?]
  by_cases hj : j = i
  · subst hj; simp [hi]
  · rw [if_neg hj, Array.getElem?_setIfInBounds_ne (Ne.symm hj)]

theorem last_any {pre ops : Array Oper} {n : Nat} (hn : pre.size = n) (hops : ∀ i, i < n → ops[i]? = pre[i]?) (hsz : ops.size = n + 1) (hback : edgesBack ops = true) (hng : ∀ (i : Nat) (o : Oper), pre[i]? = some o → o.guard = none) (hcov : coverB ops n (depsOf ops n) = true) :
    ∀ (fuel : Nat) (listed lp : Array Bool) (a : Act) (w : World), listed.size = n + 1 → lp.size = n → (∀ i d, i < n → listed.getD i d = lp.getD i d) → listed.getD n true = false → (∀ i, listed.getD i false = true → ∀ j ∈ depsOf ops i, listed.getD j false = true) → C w →
      wpAnyQ P .any pre C (fun a => ∀ w, C w → wpOp P ops Q n (fun a' w' => Q .normal a' w') a w) fuel lp a → wpAny P .any ops Q (fuel + 1) listed a w := by
  intro fuel
  induction fuel with
  | zero =>
    intro listed lp a w h1 h2 h3 h4 h5 hC h
    refine ⟨fun hr => ?_, fun i hi => ?_⟩
    · have := ready_all hback (by omega) hr n (by omega)
      have hd : ∀ d, listed.getD n d = listed[n]'(by omega) := fun d => by simp [Array.getD, h1]
      rw [hd] at this h4
      rw [this] at h4; cases h4
    · obtain ⟨g1, o, g2, g3⟩ := ready_iff.1 hi
      have hin : i < n + 1 := by rw [← hsz]; exact (Array.getElem?_eq_some_iff.1 g2).1
      by_cases e : i = n
      · subst e
        refine wpOp_mono (fun a' w' hq => done_any 0 ?_ hq) (h.2 w hC)
        have hall := cover_spec (b := fun j => listed.getD j false) h5 i _ (fun s hs => by obtain ⟨e, he, hb, rfl⟩ := (mem_deps g2).1 hs; exact g3 e he hb) hcov
        rw [List.eq_nil_iff_forall_not_mem]
        intro j hj
        obtain ⟨k1, o', k2, _⟩ := ready_iff.1 hj
        have hjn : j < i + 1 := by rw [← hsz]; exact (Array.getElem?_eq_some_iff.1 k2).1
        rw [getD_put (by omega)] at k1
        by_cases e2 : j = i
        · rw [if_pos e2] at k1; cases k1
        · rw [if_neg e2] at k1
          have := hall j (by omega)
          simp only [Array.getD_eq_getD_getElem?] at this k1
          rw [Array.getElem?_eq_getElem (by omega)] at this k1
          simp only [Option.getD_some] at this k1
          rw [this] at k1; cases k1
      · exfalso
        have : i ∈ Region.ready .any pre lp := ready_iff.2 ⟨by rw [← h3 i true (by omega)]; exact g1, o, by rw [← hops i (by omega)]; exact g2, fun e he hb => by
          rw [← h3 e.on false (by have := edgesBack_spec hback g2 he hb; omega)]; exact g3 e he hb⟩
        rw [h.1] at this
        simp at this
  | succ fuel ih =>
    intro listed lp a w h1 h2 h3 h4 h5 hC h
    refine ⟨fun hr => ?_, fun i hi => ?_⟩
    · have := ready_all hback (by omega) hr n (by omega)
      have hd : ∀ d, listed.getD n d = listed[n]'(by omega) := fun d => by simp [Array.getD, h1]
      rw [hd] at this h4
      rw [this] at h4; cases h4
    · obtain ⟨g1, o, g2, g3⟩ := ready_iff.1 hi
      have hin : i < n + 1 := by rw [← hsz]; exact (Array.getElem?_eq_some_iff.1 g2).1
      by_cases e : i = n
      · subst e
        have hall := cover_spec (b := fun j => listed.getD j false) h5 i _ (fun s hs => by obtain ⟨e, he, hb, rfl⟩ := (mem_deps g2).1 hs; exact g3 e he hb) hcov
        have hrp : Region.ready .any pre lp = [] := by
          rw [List.eq_nil_iff_forall_not_mem]
          intro j hj
          obtain ⟨k1, o', k2, _⟩ := ready_iff.1 hj
          have hjn : j < i := by rw [← hn]; exact (Array.getElem?_eq_some_iff.1 k2).1
          have := hall j hjn
          rw [h3 j false hjn] at this
          simp only [Array.getD_eq_getD_getElem?] at this k1
          rw [Array.getElem?_eq_getElem (by omega)] at this k1
          simp only [Option.getD_some] at this k1
          rw [this] at k1; cases k1
        refine wpOp_mono (fun a' w' hq => done_any _ ?_ hq) (q_end h hrp w hC)
        rw [List.eq_nil_iff_forall_not_mem]
        intro j hj
        obtain ⟨k1, o', k2, _⟩ := ready_iff.1 hj
        have hjn : j < i + 1 := by rw [← hsz]; exact (Array.getElem?_eq_some_iff.1 k2).1
        rw [getD_put (by omega)] at k1
        by_cases e2 : j = i
        · rw [if_pos e2] at k1; cases k1
        · rw [if_neg e2] at k1
          have := hall j (by omega)
          simp only [Array.getD_eq_getD_getElem?] at this k1
          rw [Array.getElem?_eq_getElem (by omega)] at this k1
          simp only [Option.getD_some] at this k1
          rw [this] at k1; cases k1
      · have hin' : i < n := by omega
        have hpre : pre[i]? = some o := by rw [← hops i hin']; exact g2
        have : i ∈ Region.ready .any pre lp := ready_iff.2 ⟨by rw [← h3 i true hin']; exact g1, o, hpre, fun e he hb => by
          rw [← h3 e.on false (by have := edgesBack_spec hback g2 he hb; omega)]; exact g3 e he hb⟩
        refine wpOp_of_q hpre g2 (hng i o hpre) hC (fun a' w' hC' hK => ih (listed.setIfInBounds i true) (lp.setIfInBounds i true) a' w' (by simpa using h1) (by simpa using h2) (fun j d hj => ?_) ?_ ?_ hC' hK) (h.2 i this)
        · rw [getD_put (by omega), getD_put (by omega), h3 j d hj]
        · rw [getD_put (by omega), if_neg (Ne.symm e)]; exact h4
        · intro k hk j hj
          rw [getD_put (by omega)] at hk ⊢
          by_cases ej : j = i
          · rw [if_pos ej]
          · rw [if_neg ej]
            by_cases ek : k = i
            · subst ek
              obtain ⟨e', he', hb', rfl⟩ := (mem_deps g2).1 hj
              exact g3 e' he' hb'
            · rw [if_neg ek] at hk
              exact h5 k hk j hj

/-- all but the last, and the last -/
def preOf (ops : Array Oper) : Array Oper := ops.toList.dropLast.toArray
def noGuards (ops : Array Oper) : Bool := ops.toList.all fun o => o.guard.isNone

/-- the law -/
theorem region_last {ops : Array Oper} {l : List Oper} {o : Oper} {id : Nat} {a : Act} {w : World} (hm : P.follows .mixedOrders = true) (hl : ops.toList.dropLast = l) (ho : ops.toList.getLast? = some o) (hB : Region.lexB .any ops.toList.dropLast.toArray = true) (hback : edgesBack ops = true) (hng : noGuards ops = true)
    (hcov : coverB ops (ops.size - 1) (depsOf ops (ops.size - 1)) = true)
    (h : wpQuiet P l.toArray (fun w' => ∃ n, w' = w.drewN n) (fun a' => ∀ w', (∃ n, w' = w.drewN n) → o.wp P a' w' (fun a' w' => Q .normal a' w') Q) l a) : (Code.region id ops true).wp P Q a w := by
  have hlen : ops.toList ≠ [] := by rintro h0; rw [h0] at ho; simp at ho
  have hsz : ops.size = l.length + 1 := by
    have h1 : ops.toList.length ≠ 0 := fun h0 => hlen (List.length_eq_zero_iff.1 h0)
    have h2 := List.length_dropLast (xs := ops.toList)
    rw [hl] at h2
    simp only [Array.length_toList] at h1 h2
    omega
  have hops : ∀ i, i < l.length → ops[i]? = l.toArray[i]? := by
    intro i hi
    subst hl
    have e1 : ops.toList.dropLast.toArray[i]? = ops.toList.dropLast[i]? := by simp
    rw [e1, List.getElem?_dropLast, if_pos (by simp only [List.length_dropLast] at hi; omega), Array.getElem?_toList]
  have hon : ops[l.length]? = some o := by
    rw [List.getLast?_eq_getElem?] at ho
    rw [← Array.getElem?_toList, ← ho]
    congr 1
    simp only [Array.length_toList]; omega
  have hg : ∀ o ∈ ops.toList, o.guard = none := fun o ho => by
    have := List.all_eq_true.1 hng o ho
    simpa using this
  subst hl
  rw [hsz, Nat.add_sub_cancel] at hcov
  have hgo : o.guard = none := hg o (List.mem_of_getLast? ho)
  refine wp_region_any hm ?_
  rw [hsz]
  simp only [Region.lexB, Bool.and_eq_true] at hB
  refine last_any (C := fun w' => ∃ n, w' = w.drewN n) (pre := ops.toList.dropLast.toArray) (n := ops.toList.dropLast.length) (by simp) hops hsz hback (fun i o' ho' => hg o' ?_) hcov ops.toList.dropLast.length _ (Array.replicate ops.toList.dropLast.length false) a _ (by simp) (by simp) ?_ ?_ ?_ ⟨1, rfl⟩ ?_
  · have e1 : ops.toList.dropLast.toArray[i]? = ops.toList.dropLast[i]? := by simp
    rw [e1] at ho'
    exact List.dropLast_subset _ (List.mem_of_getElem? ho')
  · intro i d hi
    simp only [Array.getD_eq_getD_getElem?, Array.getElem?_replicate]
    rw [if_pos hi, if_pos (by omega)]
  · simp only [Array.getD_eq_getD_getElem?, Array.getElem?_replicate]
    rw [if_pos (by omega)]
    rfl
  · intro i hi
    simp only [Array.getD_eq_getD_getElem?, Array.getElem?_replicate] at hi
    split at hi <;> cases hi
  · have := wpAnyQ_lex (P := P) (C := fun w' => ∃ n, w' = w.drewN n) (Q := fun a => ∀ w', (∃ n, w' = w.drewN n) → wpOp P ops Q ops.toList.dropLast.length (fun a' w' => Q .normal a' w') a w') (md := .any) hB.1 ops.toList.dropLast 0 (Array.replicate ops.toList.dropLast.length false) a (by simp) (by simpa using hB.2) ?_
    · exact this
    · have hop : ∀ a' w', o.wp P a' w' (fun a' w' => Q .normal a' w') Q → wpOp P ops Q ops.toList.dropLast.length (fun a' w' => Q .normal a' w') a' w' := by
        intro a' w' h'
        unfold wpOp
        simp only [hon]
        have w2 : Region.wanted o (yielded ops a'.tmps) = true := by simp [Region.wanted, hgo]
        rw [if_pos w2]
        exact .inl h'
      have mono : ∀ (l0 : List Oper) (ops0 : Array Oper) (Q1 Q2 : Act → Prop), (∀ a, Q1 a → Q2 a) → ∀ a, wpQuiet P ops0 (fun w' => ∃ n, w' = w.drewN n) Q1 l0 a → wpQuiet P ops0 (fun w' => ∃ n, w' = w.drewN n) Q2 l0 a := by
        intro l0 ops0 Q1 Q2 hq
        induction l0 with
        | nil => exact hq
        | cons x xs ih =>
          intro a h
          unfold wpQuiet at h ⊢
          split
          · rename_i hw; rw [if_pos hw] at h; exact Oper.quiet_mono ih h
          · rename_i hw; rw [if_neg hw] at h; exact ih _ h
      exact mono _ _ _ _ (fun a' ha w' hw' => hop a' w' (ha w' hw')) a h
end
end Go.Proofs.YtdiameckiihppaaDoor
