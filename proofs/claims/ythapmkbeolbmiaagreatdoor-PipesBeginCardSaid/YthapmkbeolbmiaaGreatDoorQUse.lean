/-
  What is proved here: what a job that is not strange leaves unused.
  Conditions: none.
-/
import Derived.Test.YthapmkbeolbmiaaGreatDoorQWant
import Derived.Test.YthapmkbeolbmiaaGreatDoorQErr
namespace Go.Proofs.YthapmkbeolbmiaaGreatDoor
open Go.Proofs Go.RowKit Go.Sy

theorem use_isoIn {N : Nums} (h : fStr.den N.rho = false) (hk : N.k = 1) (hi : N.inn = true) : N.pn = 0 ∧ 1 ≤ N.m := by
  have r2 : N.rho 2 = b2i N.inn := rfl
  have r3 : N.rho 3 = N.k := rfl
  have r11 : N.rho 11 = N.t := rfl
  have r12 : N.rho 12 = N.c := rfl
  have r13 : N.rho 13 = N.v := rfl
  have r14 : N.rho 14 = N.i := rfl
  have r15 : N.rho 15 = N.l := rfl
  have r16 : N.rho 16 = (N.dn : Int) := rfl
  have r17 : N.rho 17 = N.len := rfl
  have r18 : N.rho 18 = b2i N.z := rfl
  have r19 : N.rho 19 = (N.pn : Int) := rfl
  have r20 : N.rho 20 = N.m := rfl
  cases hz : N.z
  all_goals
    simp [fStr, fS, fC, fD, fOut, fIn, fP, fI, fN, fT, fStream, nz, BF.den, B.den, E.den, r2, r3, r11, r12, r13, r14, r15, r16, r17, r18, r19, r20, hk, hi, hz, b2i] at h
  all_goals first | omega | (refine ⟨?_, ?_⟩ <;> omega) | (refine ⟨?_, ?_, ?_⟩ <;> first | omega | rfl | assumption)
theorem use_isoOut {N : Nums} (h : fStr.den N.rho = false) (hk : N.k = 1) (hi : N.inn = false) : 1 ≤ N.pn ∧ N.m = 0 := by
  have r2 : N.rho 2 = b2i N.inn := rfl
  have r3 : N.rho 3 = N.k := rfl
  have r11 : N.rho 11 = N.t := rfl
  have r12 : N.rho 12 = N.c := rfl
  have r13 : N.rho 13 = N.v := rfl
  have r14 : N.rho 14 = N.i := rfl
  have r15 : N.rho 15 = N.l := rfl
  have r16 : N.rho 16 = (N.dn : Int) := rfl
  have r17 : N.rho 17 = N.len := rfl
  have r18 : N.rho 18 = b2i N.z := rfl
  have r19 : N.rho 19 = (N.pn : Int) := rfl
  have r20 : N.rho 20 = N.m := rfl
  cases hz : N.z
  all_goals
    simp [fStr, fS, fC, fD, fOut, fIn, fP, fI, fN, fT, fStream, nz, BF.den, B.den, E.den, r2, r3, r11, r12, r13, r14, r15, r16, r17, r18, r19, r20, hk, hi, hz, b2i] at h
  all_goals first | omega | (refine ⟨?_, ?_⟩ <;> omega) | (refine ⟨?_, ?_, ?_⟩ <;> first | omega | rfl | assumption)
theorem use_blkIn {N : Nums} (h : fStr.den N.rho = false) (h0 : N.k ≠ 0) (h1 : N.k ≠ 1) (hi : N.inn = true) : N.dn = 0 ∧ N.z = false ∧ 0 ≤ N.len := by
  have r2 : N.rho 2 = b2i N.inn := rfl
  have r3 : N.rho 3 = N.k := rfl
  have r11 : N.rho 11 = N.t := rfl
  have r12 : N.rho 12 = N.c := rfl
  have r13 : N.rho 13 = N.v := rfl
  have r14 : N.rho 14 = N.i := rfl
  have r15 : N.rho 15 = N.l := rfl
  have r16 : N.rho 16 = (N.dn : Int) := rfl
  have r17 : N.rho 17 = N.len := rfl
  have r18 : N.rho 18 = b2i N.z := rfl
  have r19 : N.rho 19 = (N.pn : Int) := rfl
  have r20 : N.rho 20 = N.m := rfl
  cases hz : N.z
  all_goals
    simp [fStr, fS, fC, fD, fOut, fIn, fP, fI, fN, fT, fStream, nz, BF.den, B.den, E.den, r2, r3, r11, r12, r13, r14, r15, r16, r17, r18, r19, r20, h0, h1, hi, hz, b2i] at h
  all_goals first | omega | (refine ⟨?_, ?_⟩ <;> omega) | (refine ⟨?_, ?_, ?_⟩ <;> first | omega | rfl | assumption)
theorem use_blkOut {N : Nums} (h : fStr.den N.rho = false) (h0 : N.k ≠ 0) (h1 : N.k ≠ 1) (hi : N.inn = false) : N.len = 0 := by
  have r2 : N.rho 2 = b2i N.inn := rfl
  have r3 : N.rho 3 = N.k := rfl
  have r11 : N.rho 11 = N.t := rfl
  have r12 : N.rho 12 = N.c := rfl
  have r13 : N.rho 13 = N.v := rfl
  have r14 : N.rho 14 = N.i := rfl
  have r15 : N.rho 15 = N.l := rfl
  have r16 : N.rho 16 = (N.dn : Int) := rfl
  have r17 : N.rho 17 = N.len := rfl
  have r18 : N.rho 18 = b2i N.z := rfl
  have r19 : N.rho 19 = (N.pn : Int) := rfl
  have r20 : N.rho 20 = N.m := rfl
  cases hz : N.z
  all_goals
    simp [fStr, fS, fC, fD, fOut, fIn, fP, fI, fN, fT, fStream, nz, BF.den, B.den, E.den, r2, r3, r11, r12, r13, r14, r15, r16, r17, r18, r19, r20, h0, h1, hi, hz, b2i] at h
  all_goals first | omega | (refine ⟨?_, ?_⟩ <;> omega) | (refine ⟨?_, ?_, ?_⟩ <;> first | omega | rfl | assumption)

theorem bare_str {N : Nums} (h : Bare N) : fStr.den N.rho = false := by
  obtain ⟨_, _, hk, hi, ⟨hp1, hp2⟩, a11, a12, a13, a14, a15, a16, a17, a18, a20⟩ := h
  have r2 : N.rho 2 = b2i N.inn := rfl
  have r3 : N.rho 3 = N.k := rfl
  have r11 : N.rho 11 = N.t := rfl
  have r12 : N.rho 12 = N.c := rfl
  have r13 : N.rho 13 = N.v := rfl
  have r14 : N.rho 14 = N.i := rfl
  have r15 : N.rho 15 = N.l := rfl
  have r16 : N.rho 16 = (N.dn : Int) := rfl
  have r17 : N.rho 17 = N.len := rfl
  have r18 : N.rho 18 = b2i N.z := rfl
  have r19 : N.rho 19 = (N.pn : Int) := rfl
  have r20 : N.rho 20 = N.m := rfl
  simp [fStr, fS, fC, fD, fOut, fIn, fP, fI, fN, fT, fStream, nz, BF.den, B.den, E.den, r2, r3, r11, r12, r13, r14, r15, r16, r17, r18, r19, r20, hk, hi, a11, a12, a13, a14, a15, a16, a17, a18, a20, b2i]
  omega
theorem bare_of {N : Nums} (h : fStr.den N.rho = false) (hok : N.ok = true) (hha : N.ha = false) (h1 : 1 ≤ N.pn) (h2 : N.pn ≤ 256) : Bare N := by
  have r2 : N.rho 2 = b2i N.inn := rfl
  have r3 : N.rho 3 = N.k := rfl
  have r11 : N.rho 11 = N.t := rfl
  have r12 : N.rho 12 = N.c := rfl
  have r13 : N.rho 13 = N.v := rfl
  have r14 : N.rho 14 = N.i := rfl
  have r15 : N.rho 15 = N.l := rfl
  have r16 : N.rho 16 = (N.dn : Int) := rfl
  have r17 : N.rho 17 = N.len := rfl
  have r18 : N.rho 18 = b2i N.z := rfl
  have r19 : N.rho 19 = (N.pn : Int) := rfl
  have r20 : N.rho 20 = N.m := rfl
  cases hi : N.inn
  all_goals cases hz : N.z
  all_goals
    simp [fStr, fS, fC, fD, fOut, fIn, fP, fI, fN, fT, fStream, nz, BF.den, B.den, E.den, r2, r3, r11, r12, r13, r14, r15, r16, r17, r18, r19, r20, hi, hz, b2i] at h
  all_goals first | (exfalso; omega) | exact ⟨hok, hha, by omega, hi, ⟨h1, h2⟩, by omega, by omega, by omega, by omega, by omega, by omega, by omega, hz, by omega⟩

theorem lim_of {N : Nums} (h : fLim.den N.rho = false) : N.dn ≤ 65536 ∧ N.len ≤ 65536 ∧ N.pn ≤ 256 ∧ N.m ≤ 256 := by
  have r16 : N.rho 16 = (N.dn : Int) := rfl
  have r17 : N.rho 17 = N.len := rfl
  have r19 : N.rho 19 = (N.pn : Int) := rfl
  have r20 : N.rho 20 = N.m := rfl
  simp [fLim, BF.den, B.den, E.den, r16, r17, r19, r20] at h
  omega
end Go.Proofs.YthapmkbeolbmiaaGreatDoor
