/-
  What is proved here: the evaluator's answers for functions without a body are the model's.
  Conditions: none.
-/
import Derived.Test.YtcipfcbaclfnhaaSyRead4
import Derived.Test.YtcipfcbaclfnhaaSyOp2
import Derived.Lib.Bytealg
import Derived.KernelRfl
namespace Go.Sy

section ops
variable {P : Program} {c : Cx} {m : Mem} {w : World} {p q : Pc}

def extName : Nat → String
  | 0 => "internal/bytealg.CountString"
  | _ => "internal/bytealg.IndexByteString"

theorem extNo_some {f : FuncId} {n : Nat} (h : extNo P f = n + 1) : n < 2 ∧ ∃ fn, P.funcs[f]? = some fn ∧ fn.body.isNone = true ∧ fn.origin = "" ∧ fn.name = extName n := by
  unfold extNo at h
  split at h
  · rename_i fn hf
    cases hb : (fn.body.isNone && fn.origin == "") with
    | false => rw [hb] at h; exact nomatch h
    | true =>
      rw [hb] at h
      rw [Bool.and_eq_true, beq_iff_eq] at hb
      cases h1 : fn.name == "internal/bytealg.CountString" with
      | true =>
        rw [h1] at h
        have h : 1 = n + 1 := h
        obtain rfl : n = 0 := by omega
        exact ⟨by omega, fn, hf, hb.1, hb.2, (beq_iff_eq.1 h1 :)⟩
      | false =>
        rw [h1] at h
        cases h2 : fn.name == "internal/bytealg.IndexByteString" with
        | true =>
          rw [h2] at h
          have h : 2 = n + 1 := h
          obtain rfl : n = 1 := by omega
          exact ⟨by omega, fn, hf, hb.1, hb.2, (beq_iff_eq.1 h2 :)⟩
        | false => rw [h2] at h; exact nomatch h
  · exact nomatch h

def extSem : Nat → Array Value → Sem Value
  | 0 => Extern.BytealgCount.count
  | _ => Extern.BytealgIndexByte.indexByte

theorem ext_find {fn : Func} {n : Nat} (hn : n < 2) (ho : fn.origin = "") (h : fn.name = extName n) : Extern.findNext fn = none ∧ Extern.find fn = some (extSem n) := by
  unfold Extern.findNext Extern.find
  rw [ho, h]
  have hc : n = 0 ∨ n = 1 := by omega
  rcases hc with rfl | rfl
  · have e1 : Extern.allNextRows.lookup (extName 0) = none := by kernel_rfl
    have e2 : Extern.allNextRows.lookup "" = none := by kernel_rfl
    have e3 : Extern.allGenericRows.lookup (extName 0) = none := by kernel_rfl
    have e4 : Extern.allTypedRows.lookup (extName 0) = none := by kernel_rfl
    have e5 : Extern.allRows.lookup (extName 0) = some (extSem 0) := by kernel_rfl
    simp only [e1, e2, e3, e4, e5]
    exact ⟨rfl, rfl⟩
  · have e1 : Extern.allNextRows.lookup (extName 1) = none := by kernel_rfl
    have e2 : Extern.allNextRows.lookup "" = none := by kernel_rfl
    have e3 : Extern.allGenericRows.lookup (extName 1) = none := by kernel_rfl
    have e4 : Extern.allTypedRows.lookup (extName 1) = none := by kernel_rfl
    have e5 : Extern.allRows.lookup (extName 1) = some (extSem 1) := by kernel_rfl
    simp only [e1, e2, e3, e4, e5]
    exact ⟨rfl, rfl⟩

theorem cntR_ok {e : E} {x : UInt8} (he : e.den c.ρ = (x.toNat : Int)) : ∀ {l : List E} {bs : List UInt8} {n r : Nat} {p : Pc}, PcR c.ρ p → BR c l bs → (cntR e l n).gives c.ρ m p r q → PcR c.ρ q ∧ r = n + Lib.countByte bs x
  | [], bs, n, r, p, hp, hb, h => by
    obtain ⟨rfl, rfl⟩ := R.gives_pure (show (R.pure n).gives c.ρ m p r q from h)
    rw [BR.nil_iff] at hb; subst hb
    exact ⟨hp, by simp [Lib.countByte]⟩
  | b :: l, bs, n, r, p, hp, hb, h => by
    obtain ⟨y, ys, rfl, h1, h2⟩ := BR.cons_iff.1 hb
    obtain ⟨v, p1, h3, h4⟩ := R.gives_bnd (show ((decR (mkEq b e)).bnd fun v => cntR e l (selB v (Nat.succ n) n)).gives c.ρ m p r q from h)
    obtain ⟨h5, h6⟩ := decR_gives hp h3
    rw [mkEq_den, h1, he] at h5
    obtain ⟨h7, h8⟩ := cntR_ok he h6 h2 h4
    refine ⟨h7, ?_⟩
    rw [h8]
    cases v with
    | true =>
      have hy : y = x := byte_eq.1 (by simpa using h5)
      subst hy
      show Nat.succ n + _ = _
      simp [Lib.countByte]; omega
    | false =>
      have hy : y ≠ x := fun e => by subst e; simp at h5
      show n + _ = _
      simp [Lib.countByte, hy]

theorem lenN_ok' {n : Nat} {v : V} (h : (lenN n).gives c.ρ m p v q) : q = p ∧ VR c v (.int .i64 (n : Int)) := lenN_ok h

theorem idxR_ok {e : E} {x : UInt8} (he : e.den c.ρ = (x.toNat : Int)) : ∀ {l : List E} {bs : List UInt8} {i : Nat} {v : V} {p : Pc}, PcR c.ρ p → BR c l bs → (idxR e l i).gives c.ρ m p v q →
    PcR c.ρ q ∧ VR c v (.int .i64 (if Lib.indexByte bs x = -1 then -1 else (i : Int) + Lib.indexByte bs x)) ∧ -1 ≤ Lib.indexByte bs x
  | [], bs, i, v, p, hp, hb, h => by
    obtain ⟨rfl, rfl⟩ := R.gives_pure (show (R.pure (V.int .i64 (.n (-1)))).gives c.ρ m p v q from h)
    rw [BR.nil_iff] at hb; subst hb
    refine ⟨hp, ?_, by simp [Lib.indexByte]⟩
    simp only [Lib.indexByte, if_true]
    exact VR.int.2 ⟨rfl, show kMin .i64 ≤ -1 by decide, show -1 ≤ kMax .i64 by decide⟩
  | b :: l, bs, i, v, p, hp, hb, h => by
    obtain ⟨y, ys, rfl, h1, h2⟩ := BR.cons_iff.1 hb
    obtain ⟨u, p1, h3, h4⟩ := R.gives_bnd (show ((decR (mkEq b e)).bnd fun v => (Bool.rec (idxR e l (Nat.succ i)) (lenN i) v : R V)).gives c.ρ m p v q from h)
    obtain ⟨h5, h6⟩ := decR_gives hp h3
    rw [mkEq_den, h1, he] at h5
    cases u with
    | true =>
      have hy : y = x := byte_eq.1 (by simpa using h5)
      subst hy
      obtain ⟨rfl, h7⟩ := lenN_ok' (show (lenN i).gives c.ρ m p1 v q from h4)
      exact ⟨h6, by simpa [Lib.indexByte] using h7, by simp [Lib.indexByte]⟩
    | false =>
      have hy : (y == x) = false := by
        cases hb : y == x with
        | false => rfl
        | true => rw [beq_iff_eq] at hb; subst hb; simp at h5
      obtain ⟨h7, h8, h9⟩ := idxR_ok he h6 h2 (show (idxR e l (Nat.succ i)).gives c.ρ m p1 v q from h4)
      by_cases hr : Lib.indexByte ys x = -1
      · rw [if_pos hr] at h8
        refine ⟨h7, ?_, by simp [Lib.indexByte, hy, hr]⟩
        rw [if_pos (by simp [Lib.indexByte, hy, hr])]
        exact h8
      · rw [if_neg hr] at h8
        have hv : Lib.indexByte (y :: ys) x = Lib.indexByte ys x + 1 := by simp [Lib.indexByte, hy, hr]
        refine ⟨h7, ?_, by omega⟩
        rw [if_neg (by omega), hv]
        have : ((Nat.succ i : Nat) : Int) + Lib.indexByte ys x = (i : Int) + (Lib.indexByte ys x + 1) := by push_cast; omega
        rw [this] at h8
        exact h8

theorem ext_ok (hp : PcR c.ρ p) {f : FuncId} {n : Nat} (hx : extNo P f = n + 1) {l : List V} {args : Array Value} (hl : VRs c l args.toList) {v : V} (h : (extR n l).gives c.ρ m p v q) :
    PcR c.ρ q ∧ ∃ z, (callFunc f args).run P w = .ok (.value z) w ∧ VR c v z := by
  obtain ⟨hn, fn, hf, hb, ho, hname⟩ := extNo_some hx
  obtain ⟨e1, e2⟩ := ext_find hn ho hname
  have hng : (fn.name == "runtime.NumGoroutine") = false := by
    rw [hname]
    have hc : n = 0 ∨ n = 1 := by omega
    rcases hc with rfl | rfl <;> decide +kernel
  have hrun := fun args => run_callFunc_extern hf hng hb e1 e2 args w
  obtain ⟨s, b, rfl, h1⟩ : ∃ s b, l = [s, b] ∧ (onStr s (fun l => onInt b (fun k e => selB (Nat.beq (kindNo k) 4) (Nat.rec ((cntR e l 0).bnd lenN) (fun _ _ => idxR e l 0) n : R V) (R.fail "extern")) (R.fail "extern")) (R.fail "extern")).gives c.ρ m p v q := by
    cases l with
    | nil => exact (R.gives_fail (s := "extern") h).elim
    | cons s r =>
      cases r with
      | nil => exact (R.gives_fail (s := "extern") h).elim
      | cons b r =>
        cases r with
        | nil => exact ⟨s, b, rfl, h⟩
        | cons _ _ => exact (R.gives_fail (s := "extern") h).elim
  obtain ⟨es, rfl, h2⟩ := onStr_gives h1
  obtain ⟨k, e, rfl, h3⟩ := onInt_gives h2
  obtain ⟨h4, h5⟩ := R.gives_if h3
  have hk : k = .u8 := kindNo_inj (k' := .u8) h4
  subst hk
  obtain ⟨X, r1, hX, g1, g2⟩ := VRs.cons_iff.1 hl
  obtain ⟨Y, r2, hY, g3, g4⟩ := VRs.cons_iff.1 g2
  rw [VRs.nil_iff] at g4
  subst g4 hY
  have hargs : args = #[X, Y] := by rw [← Array.toArray_toList (xs := args), hX]
  subst hargs
  obtain ⟨st, rfl, gs⟩ := VR.str.1 g1
  obtain ⟨rfl, gi0, gi1⟩ := VR.int.1 g3
  have gi0 : 0 ≤ e.den c.ρ := gi0
  have gi1 : e.den c.ρ ≤ 255 := gi1
  have hxe : e.den c.ρ = (((e.den c.ρ).toNat.toUInt8).toNat : Int) := by
    have : (e.den c.ρ).toNat < 256 := by omega
    rw [Nat.toUInt8, UInt8.toNat_ofNat', Nat.mod_eq_of_lt this]; omega
  have hc : n = 0 ∨ n = 1 := by omega
  rcases hc with rfl | rfl
  · obtain ⟨k, p1, h6, h7⟩ := R.gives_bnd (show ((cntR e es 0).bnd lenN).gives c.ρ m p v q from h5)
    obtain ⟨h8, h9⟩ := cntR_ok hxe hp gs h6
    obtain ⟨rfl, h10⟩ := lenN_ok' h7
    refine ⟨h8, _, ?_, h10⟩
    rw [hrun]
    show ((Extern.BytealgCount.count #[.string st, .int .u8 (e.den c.ρ)]).run P w).andThen _ = _
    rw [Lib.run_countString, h9, Nat.zero_add]; rfl
  · obtain ⟨h8, h9, h10⟩ := idxR_ok hxe hp gs (show (idxR e es 0).gives c.ρ m p v q from h5)
    refine ⟨h8, _, ?_, h9⟩
    rw [hrun]
    show ((Extern.BytealgIndexByte.indexByte #[.string st, .int .u8 (e.den c.ρ)]).run P w).andThen _ = _
    rw [Lib.run_indexByteString]
    simp only [Result.andThen]
    congr 2
    split
    · rename_i hh; rw [hh]
    · simp
end ops

end Go.Sy
