/-
  What is proved here: contracts of called functions out of runs of the evaluator, for walks by hand: arguments by a context of one's own.
  Conditions: none.
-/
import Derived.Test.YthifcblajimppaaSyM5
namespace Go.Sy
open Go.RowKit (Below)
noncomputable def allChk (chk : Rs V → Bool) (t : T (Rs V)) : Bool := (T.rec (motive := fun _ => Bool) (fun r => chk r) (fun _ _ _ ix iy => andB ix iy) (fun _ => false) (t))
theorem allChk_out (ρ : Nat → Int) {chk : Rs V → Bool} : ∀ {t : T (Rs V)}, allChk chk t = true → ∃ r, t.out ρ = some r ∧ chk r = true
 | .ret r, h => ⟨r, rfl, h⟩
 | .br c x y, h => by
  obtain ⟨h1, h2⟩ := andB_ok (show andB (allChk chk x) (allChk chk y) = true from h)
  obtain ⟨r, e1, g1⟩ := allChk_out ρ h1
  obtain ⟨r', e2, g2⟩ := allChk_out ρ h2
  simp only [T.out]
  cases c.den ρ with
  | true => exact ⟨r, by simpa using e1, g1⟩
  | false => exact ⟨r', by simpa using e2, g2⟩
 | .fail s, h => absurd (show false = true from h) (by simp)
def k64 (k : IntKind) : Bool := match k with | .i64 => true | _ => false
noncomputable def litI (z : Int) (v : V) : Bool := onInt v (fun k e => andB (k64 k) (onN e (fun y => eqZ y z) false)) false
theorem litI_ok {c : Cx} {z : Int} {v : V} {x : Value} (h : litI z v = true) (hv : VR c v x) : x = .int .i64 z := by
 unfold litI at h
 rcases onInt_cases v (fun k e => andB (k64 k) (onN e (fun y => eqZ y z) false)) false with ⟨k, e, rfl, he⟩ | he <;> rw [he] at h
 ·obtain ⟨h1, h⟩ := andB_ok h
  obtain rfl : k = .i64 := by cases k <;> first | rfl | cases h1
  cases e with
  | n y =>
   have h : eqZ y z = true := h
   rw [VR.int] at hv
   rw [hv.1]; show Value.int _ y = _; rw [(eqZ_iff y z).1 h]
  | _ => exact absurd (show false = true from h) (by simp)
 ·simp at h
noncomputable def knArgs (l0 : List V) (v : V) (l : List V) : M V := fun m p => selB (eqVV (.agg l) (.agg l0)) (.ret ⟨v, m, p⟩) (.fail "arguments of a call that is known")
noncomputable def kwArgs (f : FuncId) (l0 : List V) (v : V) (r : Kw) : Kw := fun i => selB (Nat.beq i f) (some fun _ => knArgs l0 v) (r i)
theorem kwArgs_ok {P : Program} {ρ : Nat → Int} {f : FuncId} {l0 : List V} {v0 : V} {r : Kw} (hf : Callable P f) (hr : KwOK P ρ r)
  (h : ∀ (c : Cx) (args : Array Value) (w : World), c.ρ = ρ → VRs c l0 args.toList → Calls P f args w fun e w' => ∃ x, e = .returned x ∧ (∀ c' : Cx, c'.ρ = ρ → VR c' v0 x) ∧ Below w.heap.size w w') : KwOK P ρ (kwArgs f l0 v0 r) := by
 intro i tr hs ev hev l c m m' w p q v args hc hm hp hg hl hk
 have hs : selB (Nat.beq i f) (some fun _ => knArgs l0 v0) (r i) = some tr := hs
 cases hi : Nat.beq i f with
 | true =>
  rw [hi] at hs
  have hs : (some fun _ => knArgs l0 v0) = some tr := hs
  simp at hs; subst hs
  rw [beq_iff] at hi; subst hi
  have hk : (selB (eqVV (.agg l) (.agg l0)) (.ret ⟨v0, m, p⟩) (.fail "arguments of a call that is known") : T (Rs V)).out c.ρ = some ⟨v, m', q⟩ := hk
  obtain ⟨h1, h2⟩ := T.out_selB hk
  simp [T.out] at h2
  obtain ⟨rfl, rfl, rfl⟩ := h2
  have hl0 := eqVV_ok _ _ h1
  injection hl0 with hl0
  subst hl0
  refine ⟨hf, (h c args w hc hl).mono fun e w' hR => ?_⟩
  obtain ⟨x, rfl, hx, hbl⟩ := hR
  exact ⟨c, _, rfl, Step.of_below hm hbl, hx c hc, hp⟩
 | false =>
  rw [hi] at hs
  exact hr i tr hs ev hev l c m m' w p q v args hc hm hp hg hl hk
theorem con_runC {P : Program} (hP : Plain P) {c : Cx} {m : Mem} {kw : Kw} (hkw : KwOK P c.ρ kw) {it d : Nat} {f : FuncId} {l : List V} {args : Array Value} {q0 : Pc} {chk : Rs V → Bool} {w : World}
  (hm : MemR c m w) (hg : GlobR c) (hwr : ∀ b, ¬ Wr c m b) (hq : PcR c.ρ q0) (hv : VRs c l args.toList) (h : allChk chk (evFn P kw it d f l m q0) = true) (hne : f ≠ yId := by decide) :
  Calls P f args w fun e w' => ∃ r c' z, chk r = true ∧ PcR c.ρ r.p ∧ e = .returned z ∧ VR c' r.v z ∧ c'.ρ = c.ρ ∧ Below w.heap.size w w' := by
 obtain ⟨⟨v, m', q⟩, he, hc⟩ := allChk_out c.ρ h
 refine (evFn_call hP hkw it d hne l c _ m' w q0 q _ args rfl hm hq hg hv he).2.mono fun e w' hR => ?_
 obtain ⟨c', z, rfl, s, hz, hq'⟩ := hR
 exact ⟨⟨v, m', q⟩, c', z, hc, hq', rfl, hz, s.le.ρ, s.below hwr⟩
end Go.Sy
