/-
  What is proved here: a pipe's fields; ranges.
  Conditions: the fields lie in their types' ranges.
  What is defined here: when strange is to say so, as a formula over the fields.
  Conditions: none (definitions only).
  What is proved here: what strange, great, begun and Begin return where there is an error (out of the runs).
  Conditions: the fields lie in their types' ranges; whether the pipe is valid.
-/
import Derived.Test.YthifcblajimppaaQCon
import Derived.Test.YthifcblajimppaaChecked
namespace Go.Proofs.Ythifcblajimppaa
open Go.Sy Go.RowKit
set_option maxRecDepth 1000000
theorem plain : Plain Try.prog := .of (by kernel_rfl) (by kernel_rfl)
def b2i (b : Bool) : Int := if b then 1 else 0
end Go.Proofs.Ythifcblajimppaa

namespace Go.Proofs.Ythifcblajimppaa
open Go.Sy Go.RowKit
set_option maxRecDepth 1000000
noncomputable def jMem : Mem := ⟨.nil, 4098, .nil, 0⟩
end Go.Proofs.Ythifcblajimppaa

namespace Go.Proofs.Ythifcblajimppaa
open Go.Sy Go.RowKit
set_option maxRecDepth 1000000
def SlZ (v : Value) (n : Nat) (z : Bool) : Prop := n ≤ 9223372036854775807 ∧ ∃ cap, (0 < n ∧ ∃ b o, v = .slice (some ⟨b, o, none⟩) n cap) ∨ (n = 0 ∧ ∃ a : Option Addr, v = .slice a 0 cap ∧ z = a.isNone)
def cJ (ρ : Nat → Int) (d p : Nat × Nat) : Cx := ⟨fun i => if i = 4096 then d else if i = 4097 then p else (i, 0), fun _ => 0, ρ, 4098, 0, fun i => i < 4098, fun _ h => h⟩
theorem cJ_glob (ρ : Nat → Int) (d p : Nat × Nat) : GlobR (cJ ρ d p) := ⟨show 4096 ≤ 4098 by omega, fun i h => ⟨show i < 4098 by omega, by
 show (if i = 4096 then d else if i = 4097 then p else (i, 0)) = (i, 0)
 rw [if_neg (by omega), if_neg (by omega)]⟩⟩
theorem cJ_mem (ρ : Nat → Int) (d p : Nat × Nat) (w : World) : MemR (cJ ρ d p) jMem w :=
 ⟨rfl, rfl, fun i b h => by simp [jMem, Tr.get] at h, fun i j b b' h => by simp [jMem, Tr.get] at h, fun t n h => by simp [jMem, Tr.get] at h⟩
theorem cJ_wr (ρ : Nat → Int) (d p : Nat × Nat) : ∀ b, ¬ Wr (cJ ρ d p) jMem b := by
 rintro b ⟨i, blk, h1, _⟩
 simp [jMem, Tr.get] at h1
theorem vr_bool {c : Cx} {i : Nat} {b : Bool} (h : c.ρ i = b2i b) : VR c (.bool (.eq (.x i) (.n 1))) (.bool b) := by
 refine VR.bool.2 ?_
 show Value.bool b = Value.bool (c.ρ i == 1)
 rw [h]; cases b <;> rfl
theorem slz_place {v : Value} {n : Nat} {z : Bool} (h : SlZ v n z) : ∃ pl : Nat × Nat, ∀ (c : Cx) (i : Nat) (x : Nat), c.has i → c.β i = pl → c.ρ x = (n : Int) → c.ρ (rowVar (i - 4096) 63 0) = b2i z → VR c (.sarr i 1 (.x x)) v := by
 obtain ⟨hn, cap, ⟨h1, b, o, rfl⟩ | ⟨rfl, a, rfl, rfl⟩⟩ := h
 ·exact ⟨(b, o), fun c i x h1' h2 h3 _ => VR.sarr.2 ⟨h1', n, cap, h3, hn, .inl ⟨h1, by unfold Cx.ad; rw [h2]; rfl⟩⟩⟩
 ·exact ⟨(0, 0), fun c i x h1' h2 h3 h4 => VR.sarr.2 ⟨h1', 0, cap, h3, by omega, .inr ⟨rfl, a, rfl, by rw [h4]; cases a <;> simp [b2i]⟩⟩⟩
end Go.Proofs.Ythifcblajimppaa
