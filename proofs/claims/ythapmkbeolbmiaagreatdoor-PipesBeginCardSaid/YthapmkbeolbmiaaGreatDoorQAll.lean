/-
  What is proved here: what begun and pipes.Begin return, whatever the pipe and the job.
  Conditions: what the slices' cells hold.
-/
import Derived.Test.YthapmkbeolbmiaaGreatDoorQLong
namespace Go.Proofs.YthapmkbeolbmiaaGreatDoor
open Go.Proofs Go.RowKit Go.Sy

/-- what Begin is to return -/
def BegIs (ad en wt : Int) (w : World) (e : Ending) (w2 : World) : Prop :=
  ∃ W z, e = .returned (.tuple #[W, .int .i64 z]) ∧ Is47 W ∧ Below w.heap.size w w2 ∧ (wt ≠ 0 → z = wt) ∧ (z = 0 → ∀ w3, Below w2.heap.size w2 w3 → NextIs 26 #[W] (some ad) en w3) ∧ (z ≠ 0 → W = noWorkV)
theorem begIs_err {ad en wt : Int} {w w2 : World} {W : Value} (hw : wt ≠ 0) (h : NoWork W) (hb : Below w.heap.size w w2) : BegIs ad en wt w (.returned (.tuple #[W, .int .i64 wt])) w2 :=
  ⟨W, wt, rfl, by rw [noWork_eq h]; exact noWork_47, hb, fun _ => rfl, fun h0 => absurd h0 hw, fun _ => noWork_eq h⟩
theorem begIs_good {N : Nums} {w w2 : World} {e : Ending} (h : BegGood N w e w2) : BegIs N.ad N.en 0 w e w2 := by
  obtain ⟨W, z, h1, h2, h3, h4, h5⟩ := h
  exact ⟨W, z, h1, h2, h3, fun h => absurd rfl h, h4, h5⟩

/-- what is to be shown of a pipe and a job, in a world -/
def AllIs (ad en wt : Int) (P J : Value) (w : World) : Prop :=
  (∀ w1, Below w.heap.size w w1 → Calls Tryz.prog 24 #[P, J] w1 fun e w2 => e = .returned (.int .i64 wt) ∧ Below w1.heap.size w1 w2) ∧
  (∀ w1, Below w.heap.size w w1 → Calls Tryz.prog 25 #[P, J] w1 (BegIs ad en wt w1))

theorem long_is {N : Nums} {dA pA : Option Addr} {dc pc : Nat} {w : World} (hha : N.ha = false) (hc : Ret 21 #[N.P] (.int .i64 0)) (hs : Ret 60 #[N.J (.slice dA N.dn dc) (.slice pA N.pn pc), N.P] (.bool false))
    (hg : ∀ w', Below w.heap.size w w' → Calls Tryz.prog 61 #[N.J (.slice dA N.dn dc) (.slice pA N.pn pc), N.P] w' fun e w2 => e = .returned (.bool true) ∧ Below w'.heap.size w' w2) :
    Calls Tryz.prog 25 #[N.P, N.J (.slice dA N.dn dc) (.slice pA N.pn pc)] w (BegIs N.ad N.en 3 w) := by
  obtain ⟨ad, en, inn, k, mx, per, sp, hu, po, tg, ha, t, c, v, i, l, dn, len, z, pn, m, ok, st, gr, dz, pz⟩ := N
  dsimp only at *
  subst hha
  refine begin_long ad en inn k mx per sp hu po tg t c v i l dA dn dc len z pA pn pc m w _ (fun w2 hb2 => ?_) hc hs hg
  exact ⟨_, 3, rfl, noWork_47, hb2, fun _ => rfl, fun h => absurd h (by decide), fun _ => rfl⟩

set_option maxHeartbeats 400000 in
set_option maxRecDepth 100000 in
theorem all_ret {N : Nums} (dA : Option Addr) (dc : Nat) (xs : List Int) (pA : Option Addr) (pc : Nat) (vs : List Value) (bs : List (List Int)) (w : World) (hN : N.R) (hU : U8 w dA N.dn dc xs) (hA : Sls w pA N.pn pc vs) (hb : B8s w vs bs)
    (hD : SlZ (.slice dA N.dn dc) N.dn N.dz) (hP : SlZ (.slice pA N.pn pc) N.pn N.pz) (hst : N.st = fStr.den N.rho) (hgr : N.gr = fLim.den N.rho)
    (hc : Ret 21 #[N.P] (.int .i64 (if N.ok then 0 else 1))) (hv : Ret 22 #[N.P] (.bool N.ok)) (hfit : N.ok = true → FitOk N.en N.k N.mx) :
    ∃ wt, AllIs N.ad N.en wt N.P (N.J (.slice dA N.dn dc) (.slice pA N.pn pc)) w := by
  obtain ⟨c, hctx⟩ := ctx hN hD hP
  have hs := strange_ret hN hctx
  obtain ⟨e1, e6, e1', e3⟩ := begin_err hN hctx hc hv hst
  have err : ∀ {z : Int}, BegErr N (.slice dA N.dn dc) (.slice pA N.pn pc) z → z ≠ 0 → ∀ w1, Calls Tryz.prog 25 #[N.P, N.J (.slice dA N.dn dc) (.slice pA N.pn pc)] w1 (BegIs N.ad N.en z w1) := by
    intro z h hz w1
    refine (h w1).mono ?_
    rintro e w2 ⟨W, rfl, hW, hb⟩
    exact begIs_err hz hW hb
  by_cases hB : Bare N
  · -- packets, and nothing that is not used
    have hstr := bare_str hB
    rw [hstr] at hs
    obtain ⟨hok, hha, hk, hin, ⟨hp1, hp2⟩, a11, a12, a13, a14, a15, a16, a17, a18, a20⟩ := hB
    have hc0 : Ret 21 #[N.P] (.int .i64 0) := by rw [hok] at hc; exact hc
    rw [hok] at hv
    have hft := hfit hok
    clear e1 e6 e1' e3 err hctx hst hgr hfit hD hP
    have hgb := fun w1 (h1 : Below w.heap.size w w1) => great_bare N.ad N.en N.inn N.k N.mx N.per N.sp N.hu N.po N.tg N.ha N.t N.c N.v N.i N.l dA dc N.z pA N.pn pc vs bs w1 (hA.below h1) (hb.below h1) hp2
    refine ⟨lim3 (longB N.mx bs), ?_, ?_⟩
    · intro w1 h1
      have := begun_bare N.ad N.en N.mx N.per N.sp N.hu N.po N.tg dA dc pA N.pn pc vs bs w1 (fun w => by have := hv w; unfold Nums.P pipeV at this; rw [hin, hk, hha] at this; exact this) (hA.below h1) (hb.below h1) hp1 hp2
      unfold Nums.P Nums.J pipeV jobV
      rw [hin, hk, hha, a11, a12, a13, a14, a15, a16, a17, a18, a20]
      exact this
    · intro w1 h1
      have hg : ∀ w', Below w1.heap.size w1 w' → Calls Tryz.prog 61 #[N.J (.slice dA N.dn dc) (.slice pA N.pn pc), N.P] w' fun e w2 => e = .returned (.bool (longB N.mx bs)) ∧ Below w'.heap.size w' w2 := by
        intro w' h'
        have := hgb w' (h1.trans (h'.mono h1.size))
        unfold Nums.P Nums.J pipeV jobV
        rw [a16, a17, a20]
        exact this
      cases hl : longB N.mx bs with
      | true =>
        rw [hl] at hg
        exact long_is hha hc0 hs hg
      | false =>
        rw [hl] at hg
        exact (beg_good dA dc xs pA pc vs bs w1 hN (hU.below h1) (hA.below h1) (hb.below h1) hha hft hc0 hs hstr hg (fun _ _ => ⟨hp2, hl⟩) (fun _ h => by rw [hin] at h; cases h) (by rw [a17]; decide)).mono fun e w2 h => begIs_good h
  have hR := (begun_ret hN hctx hc hv).resolve_left hB
  refine ⟨_, fun w1 _ => hR w1, ?_⟩
  by_cases hok : N.ok = true
  rotate_left
  · have hok : N.ok = false := by simpa using hok
    rw [show want N.ok N.ha (fStr.den N.rho) (fLim.den N.rho) = 1 by simp [want, hok]]
    exact fun w1 _ => err (e1 hok) (by decide) w1
  by_cases hha : N.ha = true
  · rw [show want N.ok N.ha (fStr.den N.rho) (fLim.den N.rho) = 6 by simp [want, hok, hha]]
    exact fun w1 _ => err (e6 hok hha) (by decide) w1
  have hha : N.ha = false := by simpa using hha
  by_cases hstr : fStr.den N.rho = true
  · rw [show want N.ok N.ha (fStr.den N.rho) (fLim.den N.rho) = 1 by simp [want, hok, hha, hstr]]
    exact fun w1 _ => err (e1' hok hha (hst.trans hstr)) (by decide) w1
  have hstr : fStr.den N.rho = false := by simpa using hstr
  by_cases hlim : fLim.den N.rho = true
  · rw [show want N.ok N.ha (fStr.den N.rho) (fLim.den N.rho) = 3 by simp [want, hok, hha, hstr, hlim]]
    refine fun w1 _ => err (e3 hok hha (hst.trans hstr) ?_ (hgr.trans hlim)) (by decide) w1
    by_cases hp0 : N.pn = 0
    · exact .inl ⟨hp0, hgr⟩
    · refine .inr ⟨?_, hgr.trans hlim⟩
      have : ¬ N.pn ≤ 256 := fun h => hB (bare_of hstr hok hha (by omega) h)
      omega
  have hlim : fLim.den N.rho = false := by simpa using hlim
  obtain ⟨l1, l2, l3, l4⟩ := lim_of hlim
  have hp0 : N.pn = 0 := by
    by_cases hp : N.pn = 0
    · exact hp
    · exact absurd (bare_of hstr hok hha (by omega) l3) hB
  have hg := great_ret hN hctx hp0
  rw [hlim] at hg
  rw [hstr] at hs
  have hc0 : Ret 21 #[N.P] (.int .i64 0) := by rw [hok] at hc; exact hc
  rw [show want N.ok N.ha (fStr.den N.rho) (fLim.den N.rho) = 0 by simp [want, hok, hha, hstr, hlim]]
  intro w1 h1
  exact (beg_good dA dc xs pA pc vs bs w1 hN (hU.below h1) (hA.below h1) (hb.below h1) hha (hfit hok) hc0 hs hstr (fun w' _ => hg w') (fun hk hi => absurd (use_isoOut hstr hk hi).1 (by omega)) (fun _ _ => l4) l2).mono fun e w2 h => begIs_good h
end Go.Proofs.YthapmkbeolbmiaaGreatDoor
