/-
  What is proved here: the rest of plugboardlaw39.DisksErrors returns true from every frame that holds what the rest reads.
  Conditions: the tables of commands are laid.
-/
import Derived.Test.YthapmkbeolbmiaaGreatDoorEDefs
namespace Go.Proofs.YthapmkbeolbmiaaGreatDoor
open Go.Sy Go.RowKit

set_option maxRecDepth 1000000

/-- what is laid stays -/
theorem laid_below {W w : World} {g : List (Nat × List V)} (hw : LaidW W g) (hb : Below W.heap.size W w) : LaidW w g := by
  obtain ⟨bs, h⟩ := hw
  refine ⟨bs, fun ρ x hx => ⟨(h ρ x hx).1, ?_⟩⟩
  have h2 := (h ρ x hx).2
  have hl : (lyB x).live (cx0 bs ρ) := by rcases lyB_cases x with ⟨_, e⟩ | ⟨_, e⟩ <;> rw [e] <;> trivial
  exact h2.world (hb.block _ (h2.lt hl))

/-- the names of the rest: the laid ones, and the box of max -/
def cxE (bs : Nat → Nat) (ρ : Nat → Int) (k : Nat) : Cx := ⟨fun i => if i = 4096 then (k, 0) else (cx0 bs ρ).β i, fun _ => 0, ρ, 4097, 0, fun i => i < 4097, fun _ h => h⟩

theorem cell_block {w : World} {k j : Nat} {v : Value} (h : w.cell? ⟨k, j, none⟩ = some v) : ∃ cs t fr, w.heap[k]? = some (.cells cs t fr) ∧ cs[j]? = some v := by
  unfold World.cell? at h
  split at h
  · rename_i cs t fr e
    exact ⟨cs, t, fr, e, by simpa using h⟩
  · cases h

/-- the frame behind the first comparison: what the rest needs -/
def RestOk (w : World) (Q : Exit → Act → World → Prop) (n x y : Int) (code : Code) : Prop :=
  ∀ (a : Act) (wx : World), Below w.heap.size w wx → wx.cell? ⟨w.heap.size + 1, 0, none⟩ = some (.int .u16 x) → wx.cell? ⟨w.heap.size + 1, 1, none⟩ = some (.int .u16 y) →
    a.tmps.size = 277 → a.defers = [] → a.tmps.getD 1 undef = .int .i64 n → a.tmps.getD 5 undef = .pointer (some ⟨w.heap.size + 1, 0, none⟩) → code.wp Tryz.prog Q a wx

theorem de_rest (w : World) (n x y : Int) (hL : LaidW w dG) (hn : -9223372036854775808 ≤ n ∧ n ≤ 9223372036854775807) (hx : 0 ≤ x ∧ x ≤ 65535) (hy : 0 ≤ y ∧ y ≤ 65535) :
    RestOk w (bodyPost Tryz.prog Tryz.f3 (LawEnd w)) n x y deRest := by
  intro a wx hb c0 c1 hs hd s1 s5
  obtain ⟨bs, hL'⟩ := laid_below hL hb
  let ρ : Nat → Int := fun i => if i = 0 then n else if i = 1 then x else y
  let c := cxE bs ρ (w.heap.size + 1)
  have hG : GlobR c := ⟨show 4096 ≤ 4097 by omega, fun i hi => ⟨show i < 4097 by omega, by
    show (if i = 4096 then (w.heap.size + 1, 0) else (if i < 3072 then i else bs (i - 3072), 0)) = (i, 0)
    rw [if_neg (by omega), if_pos hi]⟩⟩
  have hly : LyR (cx0 bs fun _ => 0) c := fun i h5 h6 => ⟨show i < 4097 by omega, by
    show (if i = 4096 then (w.heap.size + 1, 0) else (if i < 3072 then i else bs (i - 3072), 0) : Nat × Nat).1 = (if i < 3072 then i else bs (i - 3072))
    rw [if_neg (by omega)]⟩
  have hP : PcR c.ρ dePc := ⟨fun c hc => by simp [dePc] at hc, fun i lo hi h => by
    match i, h with
    | 0, h => obtain ⟨rfl, rfl⟩ := Prod.mk.inj (Option.some.inj (show some (-9223372036854775808, 9223372036854775807) = some (lo, hi) from h)); exact hn
    | 1, h => obtain ⟨rfl, rfl⟩ := Prod.mk.inj (Option.some.inj (show some (0, 65535) = some (lo, hi) from h)); exact hx
    | 2, h => obtain ⟨rfl, rfl⟩ := Prod.mk.inj (Option.some.inj (show some (0, 65535) = some (lo, hi) from h)); exact hy
    | i + 3, h => exact absurd (show (none : Option (Int × Int)) = some (lo, hi) from h) (by simp)⟩
  obtain ⟨cs, t, fr, e0, e1⟩ := cell_block c0
  obtain ⟨cs', t', fr', e2, e3⟩ := cell_block c1
  rw [e0] at e2
  obtain ⟨rfl, rfl, rfl⟩ := Obj.cells.inj (Option.some.inj e2)
  have hblk : ∀ i b, deMem.tr.get i = some b → c.has i ∧ BlkR c wx (c.β i) b ∧ b.wrB = false ∧ b.plB = false := by
    intro i b h
    rw [show deMem.tr.get i = ((layG dG).set 4096 (.cells [.int .u16 (.x 1), .int .u16 (.x 2)] false false none)).get i from rfl, Tr.get_set] at h
    split at h
    · rename_i he
      simp only [Option.some.injEq] at h
      subst h
      have he : i = 4096 := by first | exact he | exact he.symm | simpa using he
      subst he
      refine ⟨show 4096 < 4097 by omega, ⟨cs, t, fr, ?_, ?_, fun h => by simp at h, fun h => by simp at h, trivial⟩, rfl, rfl⟩
      · show wx.heap[w.heap.size + 1]? = _
        exact e0
      · intro j v hj
        match j, hj with
        | 0, hj =>
          obtain rfl := Option.some.inj (show some (V.int .u16 (.x 1)) = some v from hj)
          exact ⟨.int .u16 x, e1, rfl, hx⟩
        | 1, hj =>
          obtain rfl := Option.some.inj (show some (V.int .u16 (.x 2)) = some v from hj)
          exact ⟨.int .u16 y, e3, rfl, hy⟩
        | j + 2, hj => exact absurd (show (none : Option V) = some v from hj) (by simp)
    · obtain ⟨l, h1, rfl⟩ := layG_get h
      obtain ⟨h2, h3⟩ := hL' (fun _ => 0) _ h1
      refine ⟨Nat.lt_of_lt_of_le h2 hG.1, ?_, (lyB_wr _).1, (lyB_wr _).2⟩
      refine lyB_fix hly (allL_ok d_fixed _ h1) ?_ h3
      have h2 : i < 4096 := h2
      by_cases h8 : i < 3072
      · have e1 : (cx0 bs fun _ => 0).β i = (i, 0) := by show (if i < 3072 then i else _, 0) = _; rw [if_pos h8]
        show (c.β i).1 = ((cx0 bs fun _ => 0).β i).1 ∧ (i < 3072 → c.β i = (cx0 bs fun _ => 0).β i)
        rw [e1, (hG.2 i h8).2]
        exact ⟨rfl, fun _ => rfl⟩
      · exact ⟨(hly i (by omega) h2).2, fun h => absurd h h8⟩
  have hM : MemR c deMem wx := ⟨rfl, rfl, fun i b h => .of (hblk i b h).1 (hblk i b h).2.1, fun i j b b' hb hb' _ hap _ _ => by
    unfold Blk.apt at hap
    rw [(hblk i b hb).2.2.1, (hblk j b' hb').2.2.1, (hblk i b hb).2.2.2] at hap
    exact absurd hap (by simp), fun t n h => by simp [deMem, Tr.get] at h⟩
  have put_get : ∀ (e : Env) (d j : Nat) (v : V), Env.put e d v j = if j = d then v else e j := fun e d j v => by
    unfold Env.put
    by_cases h : j = d
    · subst h
      have : Nat.beq j j = true := Nat.beq_refl j
      rw [if_pos rfl, this]
    · rw [if_neg h]
      have : Nat.beq j d = false := by cases hb : Nat.beq j d with | false => rfl | true => exact absurd (Nat.eq_of_beq_eq_true hb) h
      rw [this]
  have hE : EnvR c 277 deEnv a := ⟨hs, fun j => by
    unfold deEnv
    rw [put_get, put_get]
    split
    · rename_i h; rw [h, s5]; exact ⟨show 4096 < 4097 by omega, rfl⟩
    · split
      · rename_i h; rw [h, s1]; exact ⟨rfl, hn⟩
      · trivial, hG⟩
  exact end_hds (fn := Tryz.f3) (t := 6) (it := 14) plain.mixed cfD_ok (by kernel_rfl) (by kernel_rfl) (J := fun _ => True) (qs := [dePc]) (fun _ _ h => ⟨_, .head _, h⟩) (fun q hq => by
    simp only [List.mem_singleton] at hq
    subst hq; exact de_run) ⟨c, trivial, hM, hP, hE, hd, hb, fun b ⟨i, blk, h1, h2, h3⟩ => by
      rw [(hblk i blk h1).2.2.1] at h2
      simp at h2⟩
end Go.Proofs.YthapmkbeolbmiaaGreatDoor
