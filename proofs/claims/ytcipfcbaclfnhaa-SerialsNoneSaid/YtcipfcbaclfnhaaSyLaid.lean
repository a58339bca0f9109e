/-
  What is proved here: what the laid variables hold, as the evaluator's memory.
  Conditions: the variables' types are made of integers and bools.
-/
import Derived.Test.YtcipfcbaclfnhaaSyOpen
namespace Go.Sy
open Go.ChangeShapes Go.WideShapes Go.ChangeAt Go.RowKit

/-- a known cell -/
def valV : Value → V
  | .int k n => .int k (.n n)
  | .bool b => .bool (.lit b)
  | _ => .bad

theorem valV_ok {c : Cx} : ∀ {ls : List Lf} {vs : List Value}, LfsR ls vs → ∀ (j : Nat) (v : V), (vs.map valV)[j]? = some v → ∃ x, vs[j]? = some x ∧ VR c v x
  | [], vs, h, j, v, hv => by have h : vs = [] := h; subst h; simp at hv
  | l :: ls, vs, h, j, v, hv => by
    obtain ⟨x, r, rfl, h1, h2⟩ := h
    cases j with
    | succ j => exact valV_ok h2 j v (by simpa using hv)
    | zero =>
      simp at hv; subst hv
      refine ⟨x, rfl, ?_⟩
      cases l with
      | int k =>
        obtain ⟨n, rfl, hw⟩ := h1
        obtain ⟨h3, h4⟩ := wf_rng hw
        exact VR.int.2 ⟨rfl, h3, h4⟩
      | bool => obtain ⟨b, rfl⟩ := h1; exact VR.bool.2 rfl

/-- the globals' cells, as the evaluator has them -/
def laidG (P : Program) : List (String × DataW Unit) → Option (List (Nat × List V))
  | [] => some []
  | (n, d) :: l => match P.globalNamed n with
    | some g => match (P.globals[g]?).map (·.type) with
      | some t => match flatT P 8 t, dataV 8 d with
        | some _, some vs => if g < 4096 then (laidG P l).map ((g, vs.map valV) :: ·) else none
        | _, _ => none
      | none => none
    | none => none

theorem laidG_ok {P : Program} {W : World} {ρ : Nat → Int} : ∀ {laid : List (String × DataW Unit)} {g : List (Nat × List V)} {ps : List MemPlace}, laidG P laid = some g → DataW.LaidVars P W laid ps →
    ∀ x ∈ g, x.1 < 4096 ∧ BlkR (cx0 ρ) W (x.1, 0) (.cells x.2 false false none)
  | [], g, ps, hg, _, x, hx => by
    simp [laidG] at hg; subst hg; simp at hx
  | (n, d) :: l, g, ps, hg, h, x, hx => by
    obtain ⟨g0, t0, cs0, f0, p0, q0, hg0, ht0, hv0, hd0, hrest, _⟩ := h
    unfold laidG at hg
    rw [hg0] at hg
    simp only [ht0] at hg
    cases hf : flatT P 8 t0 with
    | none => rw [hf] at hg; simp at hg
    | some ls =>
      cases hd : dataV 8 d with
      | none => rw [hf, hd] at hg; simp at hg
      | some vs =>
        rw [hf, hd] at hg
        simp only at hg
        split at hg
        · rename_i hlt
          obtain ⟨g', hg', rfl⟩ := Option.map_eq_some_iff.1 hg
          cases hx with
          | tail _ hx => exact laidG_ok hg' hrest x hx
          | head =>
            refine ⟨hlt, ?_⟩
            obtain ⟨h1, h2⟩ := flatT_ok 8 _ t0 ls _ _ hf hd0
            rw [hd] at h2
            simp at h2
            have hb : ∃ t fr, W.heap[g0]? = some (.cells cs0 t fr) := by
              unfold World.var? at hv0
              rw [hg0] at hv0
              simp only [Option.bind_some] at hv0
              cases hh : W.heap[g0]? with
              | none => rw [hh] at hv0; simp at hv0
              | some o =>
                rw [hh] at hv0
                cases o <;> simp at hv0
                subst hv0
                exact ⟨_, _, rfl⟩
            obtain ⟨t, fr, hb⟩ := hb
            subst h2
            exact ⟨cs0, t, fr, hb, fun j v hj => by
              obtain ⟨y, hy, hv⟩ := valV_ok (c := cx0 ρ) h1 j v hj
              exact ⟨y, by rw [Nat.zero_add]; simpa using hy, hv⟩, fun h => by simp at h, fun h => by simp at h, trivial⟩
        · simp at hg

theorem laidMet_ok {P : Program} {W : World} {ρ : Nat → Int} {laid : List (String × DataW Unit)} {g : List (Nat × List V)} (hg : laidG P laid = some g) (hp : (laid.all fun x => x.2.handleName?.isNone) = true) (h : laidMetH P laid W) :
    ∀ x ∈ g, x.1 < 4096 ∧ BlkR (cx0 ρ) W (x.1, 0) (.cells x.2 false false none) := by
  rw [MakeChecks.laidMetH_plain _ _ _ hp] at h
  obtain ⟨ps, h1, _⟩ := h
  exact laidG_ok hg h1

end Go.Sy
