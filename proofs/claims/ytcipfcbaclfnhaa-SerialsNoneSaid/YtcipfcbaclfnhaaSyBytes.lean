/-
  What is proved here: the evaluator's slice of a string's bytes is that of the model.
  Conditions: none.
-/
import Derived.Test.YtcipfcbaclfnhaaSyMaps
namespace Go.Sy

/-- a string's bytes, and zeros behind them -/
def byteCells (s : ByteArray) (cap : Nat) : Array Value := s.data.map (fun b : UInt8 => Value.int .u8 b.toNat) ++ Array.replicate (cap - s.size) (Value.int .u8 0)

section ops
variable {P : Program} {c : Cx} {m m' : Mem} {w : World} {p q : Pc}

theorem freeze_alloc (cs : Array Value) (e : TypeId) : (w.alloc (.cells cs e)).freeze ⟨w.heap.size, cs.size, none⟩ 1 = w.alloc (.cells cs e (cs.size, cs.size + 1)) := by
  unfold World.freeze
  rw [if_neg (by decide)]
  have : (w.alloc (.cells cs e)).heap = w.heap.push (.cells cs e) := rfl
  unfold World.alloc
  congr 1
  apply Array.ext_getElem?
  intro j
  rw [Array.getElem?_modify, Array.getElem?_push, Array.getElem?_push]
  by_cases h : j = w.heap.size
  · subst h; simp
  · have h' : ¬ (w.heap.size = j) := fun e => h e.symm
    simp [h, h']

theorem bytesM_ok (hm : MemR c m w) {src dst : TypeId} {x v : V} {X : Value} (hx : VR c x X) (hs : isStrT P src = true) (h : (bytesM P dst x).gives c.ρ m p v m' q) : q = p ∧ EfOK P c m w m' v (convert src dst X) := by
  unfold bytesM at h
  cases ha : slcOf P dst with
  | none => rw [ha] at h; exact (M.gives_fail h).elim
  | some a =>
    rw [ha] at h
    obtain ⟨hu, hsz⟩ := slcOf_some ha
    obtain ⟨h1, h2⟩ := M.gives_if (show (selB (andB (isByteT P a.1) (Nat.beq a.2 1)) _ (M.fail "convert")).gives c.ρ m p v m' q from h)
    obtain ⟨h3, _⟩ := andB_iff.1 h1
    have hb := isByteT_iff h3
    obtain ⟨l, rfl, h4⟩ := onStrM_gives h2
    obtain ⟨s, rfl, hbr⟩ := VR.str.1 hx
    obtain ⟨tk, m1, p1, h5, h6⟩ := M.gives_bnd h4
    obtain ⟨rfl, rfl, rfl⟩ := newTok_gives h5
    obtain ⟨i, m2, p2, h7, h8⟩ := M.gives_bnd h6
    obtain ⟨rfl, rfl, rfl⟩ := newBlk_gives h7
    obtain ⟨rfl, rfl, rfl⟩ := M.gives_pure h8
    have hlen : lenL l = s.size := by rw [lenL_eq, ← hbr.length]; simp
    have hss : s.data.size = s.size := rfl
    have hge : s.size ≤ grownCap w s.size 0 a.1 := grownCap_ge w s.size 0 a.1
    have s1 := Step.drew hm
    have s2 := Step.tok s1.rel (lb := lenL l) (n := grownCap w s.size 0 a.1) (by rw [hlen]; exact hge)
    have hnt : (c.addT (grownCap w s.size 0 a.1)).γ c.nt = grownCap w s.size 0 a.1 := if_pos rfl
    have hcs : (byteCells s (grownCap w s.size 0 a.1)).size = grownCap w s.size 0 a.1 := by
      unfold byteCells; rw [Array.size_append, Array.size_map, Array.size_replicate, hss]; omega
    have s3 := Step.new s2.rel (b := .cells (l.map (.int .u8)) true false (some (m.nt, 1)))
      (o := .cells (byteCells s (grownCap w s.size 0 a.1)) a.1 (grownCap w s.size 0 a.1, grownCap w s.size 0 a.1 + 1)) (by
        refine ⟨_, a.1, _, heap_push_new w.drew _, fun j v hj => ?_, fun e => absurd e (by simp), fun _ => .inr (Nat.le_of_eq hcs), ?_, ?_⟩
        · rw [List.getElem?_map, Option.map_eq_some_iff] at hj
          obtain ⟨e, he, rfl⟩ := hj
          obtain ⟨b, hb', hd⟩ := hbr.get he
          have hb' : s.data[j]? = some b := by simpa using hb'
          have hjs : j < s.data.size := (Array.getElem?_eq_some_iff.1 hb').1
          refine ⟨.int .u8 b.toNat, ?_, VR.int.2 ⟨?_, ?_⟩⟩
          · show (byteCells s (grownCap w s.size 0 a.1))[0 + j]? = _
            unfold byteCells
            rw [Nat.zero_add, Array.getElem?_append_left (by rw [Array.size_map]; exact hjs), Array.getElem?_map, hb']; rfl
          · show _ = Value.int .u8 (e.den c.ρ); rw [hd]
          · show kMin .u8 ≤ e.den c.ρ ∧ e.den c.ρ ≤ kMax .u8
            rw [hd]; have := b.toNat_lt
            exact ⟨by simp [kMin, IntKind.signed], by simp [kMax, limN]; omega⟩
        · show m.nt < c.nt + 1; rw [hm.nt]; exact Nat.lt_succ_self _
        · show 0 + (c.addT (grownCap w s.size 0 a.1)).γ m.nt * 1 ≤ _
          rw [← hm.nt, hnt, hcs]; omega)
    refine ⟨rfl, _, _, .slice (some ⟨w.heap.size, 0, none⟩) s.size (grownCap w s.size 0 a.1), (s1.trans s2).trans s3, ?_, VR.slice.2 ⟨?_, grownCap w s.size 0 a.1, ⟨?_, ?_⟩, by rw [hlen]; exact hge, ?_⟩⟩
    · have hf := freeze_alloc (w := w.drew) (byteCells s (grownCap w s.size 0 a.1)) a.1
      rw [hcs] at hf
      rw [← hf]
      have hsh : (w.drew.alloc (.cells (byteCells s (grownCap w s.size 0 a.1)) a.1)).shape? w.heap.size = some (a.1, grownCap w s.size 0 a.1) := by
        unfold World.shape?
        rw [show w.heap.size = w.drew.heap.size from rfl, heap_push_new w.drew]
        show some (a.1, (byteCells s (grownCap w s.size 0 a.1)).size) = _
        rw [hcs]
      simp [convert, run_und (isStrT_iff hs), run_und hu, run_und hb, Conv.stringToBytes, Question.forced, newRow, markStringish]
      have e1 : (Question.appendCap s.size 0 a.1).cut (w.tape w.drawn (Question.appendCap s.size 0 a.1)) = grownCap w s.size 0 a.1 := rfl
      have e2 : Array.map (fun b : UInt8 => Value.int IntKind.u8 (b.toNat : Int)) s.data ++ Array.replicate (grownCap w s.size 0 a.1 - s.size) (Value.int IntKind.u8 0) = byteCells s (grownCap w s.size 0 a.1) := rfl
      rw [e1, e2, hsh]
      simp
    · show m.nb < c.nb + 1; rw [hm.nb]; exact Nat.lt_succ_self _
    · show m.nt < c.nt + 1; rw [hm.nt]; exact Nat.lt_succ_self _
    · show grownCap w s.size 0 a.1 + 0 = (c.addT (grownCap w s.size 0 a.1)).γ m.nt
      rw [← hm.nt, hnt]; rfl
    · unfold Cx.ad
      rw [← hm.nb, hlen]
      show _ = Value.slice (some ⟨(((c.addT (grownCap w s.size 0 a.1)).addB w.drew).β (c.addT (grownCap w s.size 0 a.1)).nb).1, (((c.addT (grownCap w s.size 0 a.1)).addB w.drew).β (c.addT (grownCap w s.size 0 a.1)).nb).2 + 0, none⟩) _ _
      rw [Cx.addB_new]; rfl

theorem markT_iff {s d : TypeId} (h : markT P s d = true) : s = d ∧ isStrT P s = false ∧ ∃ e, P.underlying s = some (.slice e) ∧ P.underlying e = some (.int .u8) := by
  unfold markT at h
  rw [Bool.and_eq_true, Bool.and_eq_true, beq_iff] at h
  obtain ⟨⟨h1, h2⟩, h3⟩ := h
  refine ⟨h1, by simpa using h2, ?_⟩
  split at h3
  · rename_i e hu
    exact ⟨e, hu, isByteT_iff h3⟩
  · exact nomatch h3

theorem markM_ok (hm : MemR c m w) {s d : TypeId} {x v : V} {X : Value} (hx : VR c x X) (hmk : markT P s d = true) (h : (markM x).gives c.ρ m p v m' q) : q = p ∧ EfOK P c m w m' v (convert s d X) := by
  obtain ⟨rfl, _, e, hu, hb⟩ := markT_iff hmk
  cases x <;> try exact (M.gives_fail (s := "mark") h).elim
  case slice i o n cp =>
    obtain ⟨l, wr, pl, g, hg, h1⟩ := onCellsM_gives (show T.out c.ρ (onCells (m.tr.get i) (fun l wr _ g => selB wr ((putBlk i (.cells l true false g)).bnd fun _ => M.pure (V.slice i o n cp)) (M.fail "mark") m p) (.fail "mark")) = some ⟨v, m', q⟩ from h)
    obtain ⟨hw, h2⟩ := M.gives_if (show (selB wr ((putBlk i (.cells l true false g)).bnd fun _ => M.pure (V.slice i o n cp)) (M.fail "mark")).gives c.ρ m p v m' q from h1)
    subst hw
    obtain ⟨_, m1, p1, h3, h4⟩ := M.gives_bnd h2
    obtain ⟨rfl, rfl⟩ := putBlk_gives h3
    obtain ⟨rfl, rfl, rfl⟩ := M.gives_pure h4
    obtain ⟨_, cs, t, fr, k1, k2, _, k4, k5⟩ := hm.blk i _ hg
    obtain ⟨hi, cap, hc, hle, rfl⟩ := VR.slice.1 hx
    have hfr := k4 rfl
    have hcell : ((w.freeze ⟨(c.β i).1, cs.size, none⟩ 1).heap)[(c.β i).1]? = some (.cells cs t (if fr.1 == fr.2 then (cs.size, cs.size + 1) else (min fr.1 cs.size, max fr.2 (cs.size + 1)))) := by
      unfold World.freeze
      rw [if_neg (by decide)]
      simp only [Array.getElem?_modify, if_true, k1, Option.map_some]
    have s1 : Step c m w c ⟨m.tr.set i (.cells l true false g), m.nb, m.tok, m.nt⟩ (w.freeze ⟨(c.β i).1, cs.size, none⟩ 1) := by
      refine Step.put hm hg rfl ⟨cs, t, _, hcell, k2, fun e => absurd e (by simp), fun _ => .inr ?_, k5⟩ ?_ ?_ ?_ ?_ ?_
      · rcases hfr with rfl | hfr
        · simp
        · split
          · exact Nat.le_refl _
          · show cs.size ≤ min fr.1 cs.size
            omega
      · unfold World.freeze; rw [if_neg (by decide)]; simp
      · intro k hk
        unfold World.freeze
        rw [if_neg (by decide)]
        simp only [Array.getElem?_modify]
        rw [if_neg (fun e => hk e.symm)]
      all_goals (unfold World.freeze; rw [if_neg (by decide)])
    refine ⟨rfl, c, _, _, s1, ?_, hx⟩
    have hsh : w.shape? (c.β i).1 = some (t, cs.size) := by
      unfold World.shape?
      rw [k1]
    have hblk : (c.ad i o).block = (c.β i).1 := rfl
    simp [convert, run_und hu, run_und hb, markStringish, hblk, hsh]
end ops

end Go.Sy
