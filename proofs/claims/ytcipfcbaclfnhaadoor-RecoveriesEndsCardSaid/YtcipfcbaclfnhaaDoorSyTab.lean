/-
  What is proved here: a function of one byte, as a table.
  Conditions: none.
-/
import Derived.Test.YtcipfcbaclfnhaaDoorSyTop
namespace Go.Sy
open Go.RowKit (Below)

/-- the run at the number i gives the table's number -/
noncomputable def tabAt (k : IntKind) (l : List Int) (ev : List V → M V) (i : Nat) : Bool := (T.rec (motive := fun _ => Bool) (fun r => onInt r.v (fun k' e => andB (Nat.beq (kindNo k) (kindNo k')) (onN e (fun z => eqZ z (nthZ l i)) false)) false) (fun _ _ _ _ _ => false) (fun _ => false) (ev [.int .u8 (.n (.ofNat i))] (mem0 []) pc0))

noncomputable def tabAll (k : IntKind) (l : List Int) (ev : List V → M V) (n : Nat) : Bool := (Nat.rec (motive := fun _ => Bool) (true) (fun i ih => (Bool.rec (motive := fun _ => Bool) (false) (ih) (tabAt k l ev i))) (n))

noncomputable def inRng (lo hi : Int) (l : List Int) : Bool := allL (fun z => andB (leZ lo z) (leZ z hi)) l

noncomputable def knTab (k : IntKind) (l : List Int) (lo hi : Int) (args : List V) : M V := (List.rec (motive := fun _ => M V) (M.fail "arguments") (fun v r _ => (List.rec (motive := fun _ => M V) (onInt v (fun k' e => selB (Nat.beq (kindNo k') 4) (M.pure (.int k (.tab l lo hi e))) (M.fail "arguments")) (M.fail "arguments")) (fun _ _ _ => M.fail "arguments") (r))) (args))

noncomputable def kwTab (f : FuncId) (k : IntKind) (l : List Int) (lo hi : Int) (r : Kw) : Kw := fun i => selB (Nat.beq i f) (some fun _ => knTab k l lo hi) (r i)

theorem tabAll_ok {k : IntKind} {l : List Int} {ev : List V → M V} : ∀ {n : Nat}, tabAll k l ev n = true → ∀ i, i < n → tabAt k l ev i = true
  | n + 1, h, i, hi => by
    have h : (Bool.rec false (tabAll k l ev n) (tabAt k l ev n) : Bool) = true := h
    cases ht : tabAt k l ev n with
    | false => rw [ht] at h; simp at h
    | true =>
      rw [ht] at h
      by_cases hin : i = n
      · subst hin; exact ht
      · exact tabAll_ok h i (by omega)

theorem nthZ_in {lo hi : Int} : ∀ {l : List Int} {i : Nat}, inRng lo hi l = true → i < l.length → lo ≤ nthZ l i ∧ nthZ l i ≤ hi
  | a :: l, 0, h, _ => by
    have := allL_ok h a (.head _)
    obtain ⟨h1, h2⟩ := andB_ok this
    rw [leZ_iff] at h1 h2
    exact ⟨h1, h2⟩
  | a :: l, i + 1, h, hi' => nthZ_in (l := l) (i := i) (by
      have h : (Bool.rec false (inRng lo hi l) (andB (leZ lo a) (leZ a hi)) : Bool) = true := h
      cases hb : andB (leZ lo a) (leZ a hi) with
      | false => rw [hb] at h; simp at h
      | true => rw [hb] at h; exact h) (by simpa using hi')

theorem tab_calls {P : Program} (hP : Plain P) {it d : Nat} {f : FuncId} {k : IntKind} {l : List Int} (h : tabAll k l (evFn P kw0 it d f) 256 = true) (w : World) {i : Nat} (hi : i < 256) :
    Calls P f #[.int .u8 (i : Int)] w fun e w' => e = .returned (.int k (nthZ l i)) ∧ Below w.heap.size w w' := by
  have ht := tabAll_ok h i hi
  unfold tabAt at ht
  cases hr : evFn P kw0 it d f [.int .u8 (.n (.ofNat i))] (mem0 []) pc0 with
  | br => rw [hr] at ht; exact absurd (show false = true from ht) (by simp)
  | fail => rw [hr] at ht; exact absurd (show false = true from ht) (by simp)
  | ret r =>
    rw [hr] at ht
    have ht : onInt r.v (fun k' e => andB (Nat.beq (kindNo k) (kindNo k')) (onN e (fun z => eqZ z (nthZ l i)) false)) false = true := ht
    obtain ⟨v, m, q⟩ := r
    rcases onInt_cases v (fun k' e => andB (Nat.beq (kindNo k) (kindNo k')) (onN e (fun z => eqZ z (nthZ l i)) false)) false with ⟨k', e, rfl, he⟩ | he <;> rw [he] at ht
    · obtain ⟨h1, h2⟩ := andB_ok ht
      have := kindNo_inj h1
      subst this
      cases e with
      | n z =>
        have h2 : z = nthZ l i := (eqZ_iff _ _).1 (show eqZ z (nthZ l i) = true from h2)
        have ho : (evFn P kw0 it d f [.int .u8 (.n (.ofNat i))] (mem0 []) pc0).out (fun _ => 0) = some ⟨.int k (.n z), m, q⟩ := by rw [hr]; rfl
        have hv : VRs (cx0 fun _ => 0) [.int .u8 (.n (.ofNat i))] (#[Value.int .u8 (i : Int)]).toList :=
          VRs.cons (VR.int.2 ⟨rfl, by show kMin .u8 ≤ (i : Int); simp [kMin, IntKind.signed], by show (i : Int) ≤ kMax .u8; simp [kMax, limN]; omega⟩) VRs.nil
        refine (evFn_ok hP kw0_ok it d f _ (cx0 fun _ => 0) _ m w pc0 q _ _ rfl (mem0_ok fun x hx => by simp at hx) pc0_ok glob0 hv ho).2.mono fun e w' hR => ?_
        obtain ⟨c', y, rfl, s, hz, _⟩ := hR
        rw [VR.int] at hz
        rw [hz.1]
        exact ⟨by show Ending.returned (.int k z) = _; rw [h2], s.below mem0_wr⟩
      | _ => exact absurd (show false = true from h2) (by simp)
    · simp at ht

theorem kwTab_ok {P : Program} (hP : Plain P) {ρ : Nat → Int} {it d : Nat} {f : FuncId} {k : IntKind} {l : List Int} {lo hi : Int} {r : Kw} (hf : Callable P f) (hr : KwOK P ρ r) (h : tabAll k l (evFn P kw0 it d f) 256 = true)
    (hl : (Nat.beq l.length 256 && inRng lo hi l && leZ (kMin k) lo && leZ hi (kMax k)) = true) : KwOK P ρ (kwTab f k l lo hi r) := by
  intro i tr hs ev hev args' c m m' w p q v args hc hm hp hg hla hk
  have hs : selB (Nat.beq i f) (some fun _ => knTab k l lo hi) (r i) = some tr := hs
  cases hi' : Nat.beq i f with
  | false =>
    rw [hi'] at hs
    exact hr i tr hs ev hev args' c m m' w p q v args hc hm hp hg hla hk
  | true =>
    rw [hi'] at hs
    have hs : (some fun _ => knTab k l lo hi) = some tr := hs
    simp at hs; subst hs
    rw [beq_iff] at hi'; subst hi'
    simp only [Bool.and_eq_true, leZ_iff, beq_iff] at hl
    obtain ⟨⟨⟨l1, l2⟩, l3⟩, l4⟩ := hl
    cases args' with
    | nil => exact (M.gives_fail (s := "arguments") hk).elim
    | cons x t =>
      cases t with
      | cons y t => exact (M.gives_fail (s := "arguments") hk).elim
      | nil =>
        have hk : (onInt x (fun k' e => selB (Nat.beq (kindNo k') 4) (M.pure (V.int k (.tab l lo hi e))) (M.fail "arguments")) (M.fail "arguments")).gives c.ρ m p v m' q := hk
        obtain ⟨k', e, rfl, h1⟩ := onIntM_gives hk
        obtain ⟨h2, h3⟩ := M.gives_if h1
        obtain ⟨rfl, rfl, rfl⟩ := M.gives_pure h3
        have hk4 : k' = .u8 := kindNo_inj (k' := .u8) h2
        subst hk4
        obtain ⟨X, ys, he, hx, hys⟩ := VRs.cons_iff.1 hla
        rw [VRs.nil_iff] at hys; subst hys
        obtain ⟨rfl, b1, b2⟩ := VR.int.1 hx
        have b1 : 0 ≤ e.den c.ρ := by simpa [kMin, IntKind.signed] using b1
        have b2 : e.den c.ρ ≤ 255 := by simpa [kMax, limN] using b2
        obtain ⟨j, hj⟩ := Int.eq_ofNat_of_zero_le b1
        have hargs : args = #[.int .u8 (j : Int)] := by
          rw [hj] at he
          apply Array.ext'
          simpa using he
        subst hargs
        have hjl : j < l.length := by omega
        obtain ⟨z1, z2⟩ := nthZ_in l2 hjl
        refine ⟨hf, (tab_calls hP h w (i := j) (by omega)).mono fun e' w' hR => ?_⟩
        obtain ⟨rfl, hb⟩ := hR
        have hden : (E.tab l lo hi e).den c.ρ = nthZ l j := by
          show clampZ lo hi (nthZ l (e.den c.ρ).toNat) = _
          rw [hj, Int.toNat_natCast]; exact clampZ_eq z1 z2
        exact ⟨c, _, rfl, Step.of_below hm hb, VR.int.2 ⟨by rw [hden], by rw [hden]; omega, by rw [hden]; omega⟩, hp⟩

end Go.Sy
