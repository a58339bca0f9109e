/-
  What is proved here: the error that commands.EncodeInquiry returns, at texts of any content.
  Conditions: the texts are short.
-/
import Derived.Test.YthapmkbeolbmiaaGreatDoorChecked
import Derived.Test.YthapmkbeolbmiaaGreatDoorEShelf
import Derived.Lib.AppendStr
import Derived.Lib.Hide
import Derived.Below
import Derived.OwnWalk
import Derived.IntWalk
import Derived.WalkKit
import Derived.Deep.RegionHeld3
import Derived.Deep.DeepCutAuto
import Derived.Deep.CutBlock
namespace Go.Proofs.YthapmkbeolbmiaaGreatDoor
open Go.Proofs Go.RowKit

/-- a rune that is not printable -/
def pBad (x : Nat) : Bool := decide (x < 32) || decide (126 < x)

set_option maxHeartbeats 1000000 in
theorem prfn_any (x : Nat) (w : World) : Calls Tryz.prog 70 #[.int .i32 (x : Int)] w fun e w' => e = .returned (.bool (pBad x)) ∧ w' = w := by
  go_enter Tryz.func70, Tryz.ntmps70
  by_cases h1 : x < 32
  · have E : Hid (pBad x = true) := Lib.hid (by simp [pBad, h1])
    have d : decide ((x : Int) < 32) = true := by simp; omega
    go_wp2
    go_ret
    exact ⟨by rw [E.out]; rfl, rfl⟩
  · have d : decide ((x : Int) < 32) = false := by simp; omega
    by_cases h2 : 126 < x
    · have E : Hid (pBad x = true) := Lib.hid (by simp [pBad, h2])
      have d2 : decide ((126 : Int) < (x : Int)) = true := by simp; omega
      go_wp2
      go_ret
      exact ⟨by rw [E.out]; rfl, rfl⟩
    · have E : Hid (pBad x = false) := Lib.hid (by simp [pBad]; omega)
      have d2 : decide ((126 : Int) < (x : Int)) = false := by simp; omega
      go_wp2
      go_ret
      exact ⟨by rw [E.out]; rfl, rfl⟩

/-- whether a text is printable -/
def prB (s : ByteArray) : Bool := !decide (0 ≤ Lib.idxFunc pBad true s)

set_option maxHeartbeats 1000000 in
theorem pr_any (s : ByteArray) (w : World) : Calls Tryz.prog 29 #[.string s] w fun e w' => e = .returned (.bool (prB s)) ∧ Below w.heap.size w w' := by
  have hp : PredAt Tryz.prog 70 #[] encR pBad w := fun W x _ => (prfn_any x W).mono fun e w' ⟨h1, h2⟩ => ⟨h1, 0, h2⟩
  have hc := Tryz.strings_ContainsFunc 70 #[] (enters_of Tryz.func70 (by kernel_rfl) rfl) pBad s w hp
  have e : prB s = !decide (0 ≤ Lib.idxFunc pBad true s) := rfl
  rw [e]
  generalize decide (0 ≤ Lib.idxFunc pBad true s) = b at hc
  clear e
  go_enter Tryz.func29, Tryz.ntmps29
  go_wp2_with fail
  refine hc.mono ?_
  rintro e w' ⟨rfl, hb⟩
  go_wp2_with fail
  go_ret
  exact ⟨rfl, hb⟩

/-- a text that is none of an inquiry's -/
def badS (s : ByteArray) : Bool := !prB s || Lib.hasSuffix s.data.toList [32]

/-- the error of an inquiry -/
def errI (v p r : ByteArray) : Int :=
  if 8 < v.size ∨ 16 < p.size ∨ 4 < r.size then 3 else if badS v || badS p || badS r then 4 else 0

set_option maxHeartbeats 1000000 in
theorem clipb_any (a : Addr) (n c : Nat) (w : World) (hc : n ≤ c) :
    Calls Tryz.prog 32 #[.slice (some a) n c] w fun e w' => e = .returned (.slice (some a) n n) ∧ w' = w := by
  go_enter Tryz.func32, Tryz.ntmps32
  go_wp2
  go_ret
  exact ⟨rfl, rfl⟩

theorem own_below {w w' : World} {B e size n : Nat} {v : Value} {xs : List Value} (h : w.ownsRow B e size v n xs) (hb : Below w.heap.size w w') : w'.ownsRow B e size v n xs := by
  refine ⟨h.1, h.2.imp id ?_⟩
  rintro ⟨g, cap, cur, rfl, hg, hh, h3⟩
  exact ⟨g, cap, cur, rfl, hg, (hb.block g (Array.getElem?_eq_some_iff.1 hh).1).trans hh, h3⟩
theorem own_ge {w : World} {base size n : Nat} {e : TypeId} {v : Value} {xs : List Value} (h : w.ownsRow base e size v n xs) : ∀ k, v.ownBlock = some k → base ≤ k := by
  intro k hk
  rcases h.2 with ⟨rfl, _⟩ | ⟨g, cap, cur, rfl, hg, _⟩
  · simp [Value.ownBlock] at hk
  · simp [Value.ownBlock] at hk; omega

/-- the list of widths stays -/
def Widths (h : Nat) (w : World) : Prop := w.cell? ⟨h, 0, none⟩ = some (.int .i64 8) ∧ w.cell? ⟨h, 1, none⟩ = some (.int .i64 16) ∧ w.cell? ⟨h, 2, none⟩ = some (.int .i64 4)
theorem Widths.below {h : Nat} {w w' : World} (hw : Widths h w) (hb : Below w.heap.size w w') : Widths h w' :=
  ⟨(hb.cell (World.block_lt_of_cell? _ _ hw.1)).trans hw.1, (hb.cell (World.block_lt_of_cell? _ _ hw.2.1)).trans hw.2.1, (hb.cell (World.block_lt_of_cell? _ _ hw.2.2)).trans hw.2.2⟩
theorem Widths.drew {h : Nat} {w : World} (hw : Widths h w) : Widths h w.drew := hw
theorem Widths.grown {h : Nat} {w w' : World} (hw : Widths h w) {row : Option Nat} (hg : w.grownBy w' row) (hr : ∀ g, row = some g → h + 1 ≤ g) : Widths h w' := by
  have hb := World.block_lt_of_cell? _ _ hw.1
  have e : ∀ k, w'.cell? ⟨h, k, none⟩ = w.cell? ⟨h, k, none⟩ := fun k => World.cell?_of_block (hg.block h hb fun e => by have := hr h e.symm; omega)
  exact ⟨(e 0).trans hw.1, (e 1).trans hw.2.1, (e 2).trans hw.2.2⟩

/-- the bytes so far -/
def InqO (w : World) (o : Value) (m : Nat) (wr : World) : Prop := ∃ xs : List Value, wr.ownsRow (w.heap.size + 1 + 1 + 1) 5 1 o xs.length xs ∧ xs.length ≤ m ∧ o ≠ .slice none 0 0 ∧ Below w.heap.size w wr ∧ w.heap.size + 1 + 1 + 1 ≤ wr.heap.size ∧ Widths (w.heap.size + 1 + 1) wr
theorem InqO.below {w : World} {o : Value} {m : Nat} {wr w' : World} (h : InqO w o m wr) (hb : Below wr.heap.size wr w') : InqO w o m w' := by
  obtain ⟨xs, h1, h2, h3, h4, h5, h6⟩ := h
  exact ⟨xs, own_below h1 hb, h2, h3, h4.trans (hb.mono h4.size), Nat.le_trans h5 hb.size, h6.below hb⟩
theorem InqO.drew {w : World} {o : Value} {m : Nat} {wr : World} (h : InqO w o m wr) : InqO w o m wr.drew := by
  obtain ⟨xs, h1, h2, h3, h4, h5, h6⟩ := h
  exact ⟨xs, own_below h1 (Below.refl _ _).drew, h2, h3, h4.drew, h5, h6.drew⟩

theorem InqO.cell0 {w : World} {o : Value} {m : Nat} {wr : World} (h : InqO w o m wr) : wr.cell? ⟨w.heap.size + 1 + 1, 0, none⟩ = some (.int .i64 8) := by obtain ⟨_, _, _, _, _, _, h⟩ := h; exact h.1
theorem InqO.cell1 {w : World} {o : Value} {m : Nat} {wr : World} (h : InqO w o m wr) : wr.cell? ⟨w.heap.size + 1 + 1, 1, none⟩ = some (.int .i64 16) := by obtain ⟨_, _, _, _, _, _, h⟩ := h; exact h.2.1
theorem InqO.cell2 {w : World} {o : Value} {m : Nat} {wr : World} (h : InqO w o m wr) : wr.cell? ⟨w.heap.size + 1 + 1, 2, none⟩ = some (.int .i64 4) := by obtain ⟨_, _, _, _, _, _, h⟩ := h; exact h.2.2
theorem InqO.mono {w : World} {o : Value} {m m' : Nat} {wr : World} (h : InqO w o m wr) (hm : m ≤ m') : InqO w o m' wr := by
  obtain ⟨xs, h1, h2, h3⟩ := h; exact ⟨xs, h1, Nat.le_trans h2 hm, h3⟩

set_option maxRecDepth 100000 in
/-- append of a text to the bytes so far, in a region whose order is drawn -/
theorem step_str {w w0 : World} {ops : Array Oper} {o : Oper} {a : Act} {K : Act → World → Prop} {Q : Exit → Act → World → Prop} {E : Prop} (hgd : o.guard = none) (sl x : Operand)
    (ho : o.op = .call { callee := .builtin .append, args := #[sl, x], argTypes := #[30, 9] })
    (v : Value) (m : Nat) (hs : a.eval sl = v) (hI : InqO w0 v m w) (s : ByteArray) (hx : a.eval x = .string s) (hm : m + s.size ≤ 1000)
    (h : ∀ v' w', InqO w0 v' (m + s.size) w' → w'.heap.size ≥ w.heap.size → K (a.put o.dst v') w') :
    if Region.wanted o (yielded ops a.tmps) = true then Oper.wp Tryz.prog o a w K Q else E := by
  have hw : Region.wanted o (yielded ops a.tmps) = true := by simp [Region.wanted, hgd]
  rw [if_pos hw]
  obtain ⟨xs, h1, h2, h3, h4, h5, h6⟩ := hI
  obtain ⟨i0, hi, hz0, hz1, hz2⟩ := info_parts (P := Tryz.prog) (e := 5) (z := .int .u8 0) (size := 1) (bytes := 1) (by kernel_rfl)
  obtain ⟨v', w', hr, g1, g2, g3⟩ := Lib.run_append_own_string (P := Tryz.prog) w (w0.heap.size + 1 + 1 + 1) 30 9 o.type 5 i0 (by rfl) (by rfl) hi hz0 hz1 hz2 v xs.length xs h1 s (by unfold maxLen; omega) (by omega) h5
  unfold Oper.wp execOp
  simp only [ho, resolve, invoke, builtin, Sem.run_bind, Sem.run_pure, Result.andThen_ok, List.map_toArray, List.map_cons, List.map_nil, hs, hx, hr]
  have hsl : (Lib.strCells s).length = s.size := Lib.strCells_length s
  refine h v' w' ⟨xs ++ Lib.strCells s, by rw [List.length_append, hsl]; exact g1, by rw [List.length_append, hsl]; omega, fun e => h3 (g3.1 e).1, h4.grown g2 h4.size (fun k hk => by have := own_ge h1 k hk; omega), Nat.le_trans h5 g2.size, h6.grown g2 (fun g hg => by have := own_ge h1 g hg; omega)⟩ g2.size

theorem rep_len (n : Nat) : (⟨(Lib.repeatL (⟨#[32]⟩ : ByteArray).data.toList n).toArray⟩ : ByteArray).size = n := by
  show (Lib.repeatL [32] n).toArray.size = n
  simp [Lib.repeatL_length]

theorem alloc3_size (w : World) (o1 o2 o3 : Obj) : (((w.alloc o1).alloc o2).alloc o3).heap.size = w.heap.size + 1 + 1 + 1 := by simp

/-- what EncodeInquiry is to return -/
def InqIs (v p r : ByteArray) (w : World) (e : Ending) (w' : World) : Prop := ∃ sl, e = .returned (.tuple #[sl, .int .i64 (errI v p r)]) ∧ Below w.heap.size w w'

set_option maxHeartbeats 4000000 in
set_option maxRecDepth 1000000 in
theorem inq_any (v p r : ByteArray) (rem : Bool) (w : World) (hv : v.size ≤ 30) (hp : p.size ≤ 30) (hr : r.size ≤ 30) :
    Calls Tryz.prog 6 #[.agg #[.string v, .string p, .string r, .bool rem]] w (InqIs v p r w) := by
  have ix0 : ∀ w, (Instr.index 108 (.agg #[.string v, .string p, .string r]) (.int .i64 0)).run Tryz.prog w = .ok (.string v) w := fun _ => by kernel_rfl
  have ix1 : ∀ w, (Instr.index 108 (.agg #[.string v, .string p, .string r]) (.int .i64 1)).run Tryz.prog w = .ok (.string p) w := fun _ => by kernel_rfl
  have ix2 : ∀ w, (Instr.index 108 (.agg #[.string v, .string p, .string r]) (.int .i64 2)).run Tryz.prog w = .ok (.string r) w := fun _ => by kernel_rfl
  go_enter Tryz.func6, Tryz.ntmps6
  go_upto_block 0 with fail
  go_cut [] (fun wx => wx = (((w.alloc (Obj.cells #[Value.string v, Value.string p, Value.string r, Value.bool rem] 23)).alloc
          (Obj.cells #[Value.string v, Value.string p, Value.string r] 108)).alloc
      (Obj.cells #[Value.int IntKind.i64 8, Value.int IntKind.i64 16, Value.int IntKind.i64 4] 109)) ∧ v.size ≤ 8 ∧ p.size ≤ 16 ∧ r.size ≤ 4)
  case first =>
    have hbel : Below w.heap.size w (((w.alloc (Obj.cells #[Value.string v, Value.string p, Value.string r, Value.bool rem] 23)).alloc
          (Obj.cells #[Value.string v, Value.string p, Value.string r] 108)).alloc
      (Obj.cells #[Value.int IntKind.i64 8, Value.int IntKind.i64 16, Value.int IntKind.i64 4] 109)) := (((Below.refl _ _).alloc (Nat.le_refl _) _).alloc (by simp) _).alloc (by simp; omega) _
    have hbad : (8 < v.size ∨ 16 < p.size ∨ 4 < r.size) → errI v p r = 3 := fun h => by unfold errI; rw [if_pos h]
    have HB := Lib.hid hbad
    clear hbad
    go_wp2_with fail
    go_loop [20] (fun i => i = .int .i64 0 ∨ (i = .int .i64 1 ∧ v.size ≤ 8) ∨ (i = .int .i64 2 ∧ v.size ≤ 8 ∧ p.size ≤ 16) ∨ (i = .int .i64 3 ∧ v.size ≤ 8 ∧ p.size ≤ 16 ∧ r.size ≤ 4)) (fun i => 3 - (intOf i).toNat)
    case atStart => exact .inl rfl
    case round =>
      rcases hrel with rfl | ⟨rfl, h1⟩ | ⟨rfl, h1, h2⟩ | ⟨rfl, h1, h2, h3⟩
      · by_cases hc : 8 < v.size
        · have E := Lib.hid (HB.out (.inl hc))
          go_wp2_with fail
          go_ret2
          exact ⟨_, by rw [E.out]; rfl, hbel⟩
        · go_wp2_with fail
          go_round
          case rel => exact .inr (.inl ⟨rfl, by omega⟩)
          case measure => simp [intOf]
      · by_cases hc : 16 < p.size
        · have E := Lib.hid (HB.out (.inr (.inl hc)))
          go_wp2_with fail
          go_ret2
          exact ⟨_, by rw [E.out]; rfl, hbel⟩
        · go_wp2_with fail
          go_round
          case rel => exact .inr (.inr (.inl ⟨rfl, h1, by omega⟩))
          case measure => simp [intOf]
      · by_cases hc : 4 < r.size
        · have E := Lib.hid (HB.out (.inr (.inr hc)))
          go_wp2_with fail
          go_ret2
          exact ⟨_, by rw [E.out]; rfl, hbel⟩
        · go_wp2_with fail
          go_round
          case rel => exact .inr (.inr (.inr ⟨rfl, h1, h2, by omega⟩))
          case measure => simp [intOf]
      · go_wp2_with fail
        go_meet
        exact ⟨rfl, h1, h2, h3⟩
  case rest =>
    obtain ⟨rfl, h1, h2, h3⟩ := hcut
    go_upto_if 33 with fail
    go_cut [] (fun wx => ∃ z : Int, wx = (((w.alloc (Obj.cells #[Value.string v, Value.string p, Value.string r, Value.bool rem] 23)).alloc
          (Obj.cells #[Value.string v, Value.string p, Value.string r] 108)).alloc
      (Obj.cells #[Value.int IntKind.i64 8, Value.int IntKind.i64 16, Value.int IntKind.i64 4] 109)).alloc
      (Obj.cells #[Value.int IntKind.u8 0, Value.int IntKind.u8 z, Value.int IntKind.u8 4, Value.int IntKind.u8 2, Value.int IntKind.u8 31, Value.int IntKind.u8 0, Value.int IntKind.u8 0, Value.int IntKind.u8 0] 5))
    case first =>
      cases rem
      · go_wp2_with fail
        go_meet
        exact ⟨0, rfl⟩
      · go_wp2_with fail
        go_meet
        exact ⟨128, rfl⟩
    case rest =>
      obtain ⟨z, rfl⟩ := hcut
      go_wp2_with fail
      have hO : InqO w (.slice (some ⟨w.heap.size + 1 + 1 + 1, 0, none⟩) 8 8) 40 ((((w.alloc (Obj.cells #[Value.string v, Value.string p, Value.string r, Value.bool rem] 23)).alloc
          (Obj.cells #[Value.string v, Value.string p, Value.string r] 108)).alloc
      (Obj.cells #[Value.int IntKind.i64 8, Value.int IntKind.i64 16, Value.int IntKind.i64 4] 109)).alloc
      (Obj.cells #[Value.int IntKind.u8 0, Value.int IntKind.u8 z, Value.int IntKind.u8 4, Value.int IntKind.u8 2, Value.int IntKind.u8 31, Value.int IntKind.u8 0, Value.int IntKind.u8 0, Value.int IntKind.u8 0] 5)) := by
        have hh := heap_alloc_new (((w.alloc (Obj.cells #[Value.string v, Value.string p, Value.string r, Value.bool rem] 23)).alloc
          (Obj.cells #[Value.string v, Value.string p, Value.string r] 108)).alloc
      (Obj.cells #[Value.int IntKind.i64 8, Value.int IntKind.i64 16, Value.int IntKind.i64 4] 109)) (Obj.cells #[Value.int IntKind.u8 0, Value.int IntKind.u8 z, Value.int IntKind.u8 4, Value.int IntKind.u8 2, Value.int IntKind.u8 31, Value.int IntKind.u8 0, Value.int IntKind.u8 0, Value.int IntKind.u8 0] 5)
        rw [alloc3_size] at hh
        refine ⟨[.int .u8 0, .int .u8 z, .int .u8 4, .int .u8 2, .int .u8 31, .int .u8 0, .int .u8 0, .int .u8 0], ⟨rfl, .inr ⟨_, 8, _, rfl, Nat.le_refl _, hh, Nat.le_refl _, by unfold maxLen; omega, rfl, rfl⟩⟩, (by show 8 ≤ 40; omega), by simp, ?_, by simp, ?_⟩
        · exact ((((Below.refl _ _).alloc (Nat.le_refl _) _).alloc (by simp) _).alloc (by simp; omega) _).alloc (by simp; omega) _
        · refine ⟨?_, ?_, ?_⟩ <;> simp [go_sem]
      go_loopw [8, 37] (fun o i wr => (i = .int .i64 0 ∧ InqO w o 40 wr) ∨ (i = .int .i64 1 ∧ InqO w o 80 wr ∧ Hid (badS v = false)) ∨ (i = .int .i64 2 ∧ InqO w o 120 wr ∧ Hid (badS v = false ∧ badS p = false)) ∨ (i = .int .i64 3 ∧ InqO w o 160 wr ∧ Hid (badS v = false ∧ badS p = false ∧ badS r = false))) (fun _ i _ => 3 - (intOf i).toNat)
      case atStart => exact .inl ⟨rfl, hO⟩
      case round =>
        clear hO
        rcases hrel with ⟨rfl, hI⟩ | ⟨rfl, hI, hB⟩ | ⟨rfl, hI, hB⟩ | ⟨rfl, hI, hB⟩
        · have hbel : Below w.heap.size w wr := by obtain ⟨_, _, _, _, h, _⟩ := hI; exact h
          have hpr := pr_any v wr
          obtain ⟨b, HB⟩ : ∃ b, Hid (prB v = b) := ⟨_, Lib.hid rfl⟩
          rw [HB.out] at hpr
          cases b
          · have E : Hid (errI v p r = 4) := Lib.hid (by
              have hb : badS v = true := by unfold badS; rw [HB.out]; rfl
              unfold errI; rw [if_neg (by omega), hb]; rfl)
            go_wp2_with fail
            refine hpr.mono ?_
            rintro e w1 ⟨rfl, hb1⟩
            go_wp2_with fail
            go_ret2
            exact ⟨_, by rw [E.out]; rfl, hbel.trans (hb1.mono hbel.size)⟩
          · have hsf := fun w1 => Tryz.strings_HasSuffix v ⟨#[32]⟩ w1 (by omega)
            obtain ⟨b2, HB2⟩ : ∃ b2, Hid (Lib.hasSuffix v.data.toList [32] = b2) := ⟨_, Lib.hid rfl⟩
            rw [show (⟨#[32]⟩ : ByteArray).data.toList = [32] from rfl, HB2.out] at hsf
            cases b2
            · have HN : Hid (badS v = false) := Lib.hid (by unfold badS; rw [HB.out, HB2.out]; rfl)
              go_wp2_with fail
              refine hpr.mono ?_
              rintro e w1 ⟨rfl, hb1⟩
              go_wp2_with fail
              refine (hsf _).mono ?_
              rintro e w2 ⟨rfl, rfl⟩
              have hI1 : InqO w u8 40 w2.drew := (hI.below hb1).drew
              have hc0 := hI1.cell0
              have hcn : IntKind.i64.wrap ((8 : Int) - (v.size : Int)) = ((8 - v.size : Nat) : Int) := by rw [IntWalk.i64_in _ (by omega)]; omega
              have hrl := rep_len (8 - v.size)
              go_wp2_with fail
              go_region_held3 (fun w' => w'.cell? ⟨w.heap.size + 1 + 1, 0, none⟩ = some (.int .i64 8))
                (first
                  | go_keep
                  | exact hI2.cell0
                  | exact hI3.cell0
                  | exact hI4.cell0)
                (first
                  | (refine step_str rfl (.tmp 48) (.tmp 49) rfl u8 40 rfl hI1 v rfl (by omega) ?_; intro o1 w3 hI2 _)
                  | (refine step_str rfl (.tmp 50) (.tmp 57) rfl o1 _ rfl hI3 _ rfl (by omega) ?_; intro o2 w5 hI4 _)
                  | (go_at_call 31; refine (Tryz.strings_Repeat ⟨#[32]⟩ (8 - v.size) _ (by omega) (by show 1 * (8 - v.size) ≤ _; omega)).mono ?_; rintro e w4 ⟨rfl, hb4⟩; have hI3 := hI2.below hb4))
              go_wp2
              go_roundw
              case rel => exact .inr (.inl ⟨rfl, hI4.mono (by omega), Lib.hid HN.out⟩)
              case measure => simp [intOf]
            · have E : Hid (errI v p r = 4) := Lib.hid (by
                have hb : badS v = true := by unfold badS; rw [HB.out, HB2.out]; rfl
                unfold errI; rw [if_neg (by omega), hb]; rfl)
              go_wp2_with fail
              refine hpr.mono ?_
              rintro e w1 ⟨rfl, hb1⟩
              go_wp2_with fail
              refine (hsf _).mono ?_
              rintro e w2 ⟨rfl, rfl⟩
              go_wp2_with fail
              go_ret2
              exact ⟨_, by rw [E.out]; rfl, hbel.trans (hb1.mono hbel.size)⟩
        · have hbel : Below w.heap.size w wr := by obtain ⟨_, _, _, _, h, _⟩ := hI; exact h
          have hpr := pr_any p wr
          obtain ⟨b, HB⟩ : ∃ b, Hid (prB p = b) := ⟨_, Lib.hid rfl⟩
          rw [HB.out] at hpr
          cases b
          · have E : Hid (errI v p r = 4) := Lib.hid (by
              have hb : badS p = true := by unfold badS; rw [HB.out]; rfl
              have hB' := hB.out
              unfold errI; rw [if_neg (by omega), hB', hb]; rfl)
            go_wp2_with fail
            refine hpr.mono ?_
            rintro e w1 ⟨rfl, hb1⟩
            go_wp2_with fail
            go_ret2
            exact ⟨_, by rw [E.out]; rfl, hbel.trans (hb1.mono hbel.size)⟩
          · have hsf := fun w1 => Tryz.strings_HasSuffix p ⟨#[32]⟩ w1 (by omega)
            obtain ⟨b2, HB2⟩ : ∃ b2, Hid (Lib.hasSuffix p.data.toList [32] = b2) := ⟨_, Lib.hid rfl⟩
            rw [show (⟨#[32]⟩ : ByteArray).data.toList = [32] from rfl, HB2.out] at hsf
            cases b2
            · have HN : Hid (badS p = false) := Lib.hid (by unfold badS; rw [HB.out, HB2.out]; rfl)
              go_wp2_with fail
              refine hpr.mono ?_
              rintro e w1 ⟨rfl, hb1⟩
              go_wp2_with fail
              refine (hsf _).mono ?_
              rintro e w2 ⟨rfl, rfl⟩
              have hI1 : InqO w u8 80 w2.drew := (hI.below hb1).drew
              have hc0 := hI1.cell1
              have hcn : IntKind.i64.wrap ((16 : Int) - (p.size : Int)) = ((16 - p.size : Nat) : Int) := by rw [IntWalk.i64_in _ (by omega)]; omega
              have hrl := rep_len (16 - p.size)
              go_wp2_with fail
              go_region_held3 (fun w' => w'.cell? ⟨w.heap.size + 1 + 1, 1, none⟩ = some (.int .i64 16))
                (first
                  | go_keep
                  | exact hI2.cell1
                  | exact hI3.cell1
                  | exact hI4.cell1)
                (first
                  | (refine step_str rfl (.tmp 48) (.tmp 49) rfl u8 80 rfl hI1 p rfl (by omega) ?_; intro o1 w3 hI2 _)
                  | (refine step_str rfl (.tmp 50) (.tmp 57) rfl o1 _ rfl hI3 _ rfl (by omega) ?_; intro o2 w5 hI4 _)
                  | (go_at_call 31; refine (Tryz.strings_Repeat ⟨#[32]⟩ (16 - p.size) _ (by omega) (by show 1 * (16 - p.size) ≤ _; omega)).mono ?_; rintro e w4 ⟨rfl, hb4⟩; have hI3 := hI2.below hb4))
              go_wp2
              go_roundw
              case rel => exact .inr (.inr (.inl ⟨rfl, hI4.mono (by omega), Lib.hid ⟨hB.out, HN.out⟩⟩))
              case measure => simp [intOf]
            · have E : Hid (errI v p r = 4) := Lib.hid (by
                have hb : badS p = true := by unfold badS; rw [HB.out, HB2.out]; rfl
                have hB' := hB.out
                unfold errI; rw [if_neg (by omega), hB', hb]; rfl)
              go_wp2_with fail
              refine hpr.mono ?_
              rintro e w1 ⟨rfl, hb1⟩
              go_wp2_with fail
              refine (hsf _).mono ?_
              rintro e w2 ⟨rfl, rfl⟩
              go_wp2_with fail
              go_ret2
              exact ⟨_, by rw [E.out]; rfl, hbel.trans (hb1.mono hbel.size)⟩
        · have hbel : Below w.heap.size w wr := by obtain ⟨_, _, _, _, h, _⟩ := hI; exact h
          have hpr := pr_any r wr
          obtain ⟨b, HB⟩ : ∃ b, Hid (prB r = b) := ⟨_, Lib.hid rfl⟩
          rw [HB.out] at hpr
          cases b
          · have E : Hid (errI v p r = 4) := Lib.hid (by
              have hb : badS r = true := by unfold badS; rw [HB.out]; rfl
              have hB' := hB.out
              unfold errI; rw [if_neg (by omega), hB'.1, hB'.2, hb]; rfl)
            go_wp2_with fail
            refine hpr.mono ?_
            rintro e w1 ⟨rfl, hb1⟩
            go_wp2_with fail
            go_ret2
            exact ⟨_, by rw [E.out]; rfl, hbel.trans (hb1.mono hbel.size)⟩
          · have hsf := fun w1 => Tryz.strings_HasSuffix r ⟨#[32]⟩ w1 (by omega)
            obtain ⟨b2, HB2⟩ : ∃ b2, Hid (Lib.hasSuffix r.data.toList [32] = b2) := ⟨_, Lib.hid rfl⟩
            rw [show (⟨#[32]⟩ : ByteArray).data.toList = [32] from rfl, HB2.out] at hsf
            cases b2
            · have HN : Hid (badS r = false) := Lib.hid (by unfold badS; rw [HB.out, HB2.out]; rfl)
              go_wp2_with fail
              refine hpr.mono ?_
              rintro e w1 ⟨rfl, hb1⟩
              go_wp2_with fail
              refine (hsf _).mono ?_
              rintro e w2 ⟨rfl, rfl⟩
              have hI1 : InqO w u8 120 w2.drew := (hI.below hb1).drew
              have hc0 := hI1.cell2
              have hcn : IntKind.i64.wrap ((4 : Int) - (r.size : Int)) = ((4 - r.size : Nat) : Int) := by rw [IntWalk.i64_in _ (by omega)]; omega
              have hrl := rep_len (4 - r.size)
              go_wp2_with fail
              go_region_held3 (fun w' => w'.cell? ⟨w.heap.size + 1 + 1, 2, none⟩ = some (.int .i64 4))
                (first
                  | go_keep
                  | exact hI2.cell2
                  | exact hI3.cell2
                  | exact hI4.cell2)
                (first
                  | (refine step_str rfl (.tmp 48) (.tmp 49) rfl u8 120 rfl hI1 r rfl (by omega) ?_; intro o1 w3 hI2 _)
                  | (refine step_str rfl (.tmp 50) (.tmp 57) rfl o1 _ rfl hI3 _ rfl (by omega) ?_; intro o2 w5 hI4 _)
                  | (go_at_call 31; refine (Tryz.strings_Repeat ⟨#[32]⟩ (4 - r.size) _ (by omega) (by show 1 * (4 - r.size) ≤ _; omega)).mono ?_; rintro e w4 ⟨rfl, hb4⟩; have hI3 := hI2.below hb4))
              go_wp2
              go_roundw
              case rel => exact .inr (.inr (.inr ⟨rfl, hI4.mono (by omega), Lib.hid ⟨hB.out.1, hB.out.2, HN.out⟩⟩))
              case measure => simp [intOf]
            · have E : Hid (errI v p r = 4) := Lib.hid (by
                have hb : badS r = true := by unfold badS; rw [HB.out, HB2.out]; rfl
                have hB' := hB.out
                unfold errI; rw [if_neg (by omega), hB'.1, hB'.2, hb]; rfl)
              go_wp2_with fail
              refine hpr.mono ?_
              rintro e w1 ⟨rfl, hb1⟩
              go_wp2_with fail
              refine (hsf _).mono ?_
              rintro e w2 ⟨rfl, rfl⟩
              go_wp2_with fail
              go_ret2
              exact ⟨_, by rw [E.out]; rfl, hbel.trans (hb1.mono hbel.size)⟩
        · have hbel : Below w.heap.size w wr := by obtain ⟨_, _, _, _, h, _⟩ := hI; exact h
          have E : Hid (errI v p r = 0) := Lib.hid (by unfold errI; rw [if_neg (by omega), hB.out.1, hB.out.2.1, hB.out.2.2]; rfl)
          obtain ⟨xs, g1, _, g3, _⟩ := hI
          obtain ⟨g, cap, hv, hcap⟩ : ∃ g cap, u8 = .slice (some ⟨g, 0, none⟩) xs.length cap ∧ xs.length ≤ cap := by
            rcases g1.2 with ⟨h, _⟩ | ⟨g, cap, cur, h, _, _, hc, _⟩
            · exact absurd h g3
            · exact ⟨g, cap, h, hc⟩
          subst hv
          generalize xs.length = xn at hcap
          clear g1 g3
          go_wp2_with fail
          refine (clipb_any ⟨g, 0, none⟩ xn cap _ hcap).mono ?_
          rintro e w2 ⟨rfl, rfl⟩
          go_wp2_with fail
          go_ret2
          exact ⟨_, by rw [E.out]; rfl, hbel⟩
end Go.Proofs.YthapmkbeolbmiaaGreatDoor
