/-
  What is proved here: a law's code is entered with its arguments as the evaluator has them.
  Conditions: none.
-/
import Derived.Test.YtcipfcbaclfnhaaSyArgs
namespace Go.Sy
open Go.ChangeShapes Go.WideShapes Go.ChangeAt Go.RowKit

noncomputable def setAll (l : List (Nat × Blk)) (t : Tr Blk) : Tr Blk := (List.rec (motive := fun _ => Tr Blk) (t) (fun x _ ih => ih.set x.1 x.2) (l))

/-- the memory at the start: what is laid, and the rows -/
noncomputable def mem1 (g : List (Nat × List V)) (pas : List Pa) : Mem := ⟨setAll (paB pas 0 0) (layG g), Nat.add 4096 (paRows pas), .nil, 0⟩

def cx1 (vals : List Int) (rows : List Rw) : Cx :=
  ⟨fun i => if i < 4096 then (i, 0) else ((rows.getD (i - 4096) default).b, (rows.getD (i - 4096) default).o), fun _ => 0,
   fun k => if k < 1000 then vals.getD k 0 else (rows.getD ((k - 1000) % 4096 / 64) default).z ((k - 1000) % 64) ((k - 1000) / 4096), 4096 + rows.length, 0⟩

theorem cx1_found {vals : List Int} {rows : List Rw} (h1 : vals.length ≤ 1000) (h2 : rows.length ≤ 64) : Found (cx1 vals rows) 0 0 vals rows := by
  refine ⟨fun j hj => ?_, fun j hj => ⟨?_, ?_, fun r q hr => ?_⟩⟩
  · show (if 0 + j < 1000 then vals.getD (0 + j) 0 else _) = _
    rw [if_pos (by omega), Nat.zero_add]
  · show 4096 + (0 + j) < 4096 + rows.length; omega
  · show (if 4096 + (0 + j) < 4096 then _ else ((rows.getD (4096 + (0 + j) - 4096) default).b, (rows.getD (4096 + (0 + j) - 4096) default).o)) = _
    rw [if_neg (by omega), show 4096 + (0 + j) - 4096 = j by omega]
  · show (if rowVar (0 + j) r q < 1000 then _ else (rows.getD ((rowVar (0 + j) r q - 1000) % 4096 / 64) default).z ((rowVar (0 + j) r q - 1000) % 64) ((rowVar (0 + j) r q - 1000) / 4096)) = _
    have e : rowVar (0 + j) r q - 1000 = (r + 64 * j) + 4096 * q := by unfold rowVar; omega
    rw [if_neg (by unfold rowVar; omega), e]
    have e1 : (r + 64 * j + 4096 * q) % 4096 / 64 = j := by omega
    have e2 : (r + 64 * j + 4096 * q) % 64 = r := by omega
    have e3 : (r + 64 * j + 4096 * q) / 4096 = q := by omega
    rw [e1, e2, e3]

theorem setAll_get {i : Nat} {b : Blk} {t : Tr Blk} : ∀ {l : List (Nat × Blk)}, (setAll l t).get i = some b → (i, b) ∈ l ∨ t.get i = some b
  | [], h => .inr h
  | x :: l, h => by
    have h : ((setAll l t).set x.1 x.2).get i = some b := h
    rw [Tr.get_set] at h
    split at h
    · rename_i e
      have e2 : x.2 = b := by simpa using h
      have e3 : (i, b) = x := by rw [e, ← e2]
      exact .inl (by rw [e3]; exact .head _)
    · exact (setAll_get h).imp (.tail _) id

theorem mxB_row : ∀ {ms : List Mx} {i a : Nat} {x : Nat × Blk}, x ∈ mxB ms i a → x.2.wrB = false ∧ x.2.plB = false
  | [], _, _, _, h => by simp [mxB] at h
  | .leaf _ :: r, i, a, x, h => mxB_row (ms := r) (i := i + 1) (a := a) h
  | .sl ls :: r, i, a, x, h => by
    have h : x ∈ (4096 + a, Blk.srow a ls (.x i)) :: mxB r (i + 1) (a + 1) := h
    cases h with
    | head => exact ⟨rfl, rfl⟩
    | tail _ h => exact mxB_row h

theorem paB_row : ∀ {pas : List Pa} {i a : Nat} {x : Nat × Blk}, x ∈ paB pas i a → x.2.wrB = false ∧ x.2.plB = false
  | [], _, _, _, h => by simp [paB] at h
  | .leaf _ :: r, i, a, x, h => paB_row (pas := r) (i := i + 1) (a := a) h
  | .agg ls :: r, i, a, x, h => paB_row (pas := r) (i := i + ls.length) (a := a) h
  | .arr ls :: r, i, a, x, h => by
    have h : x ∈ (4096 + a, Blk.srow a ls (.x i)) :: paB r (i + 1) (a + 1) := h
    cases h with
    | head => exact ⟨rfl, rfl⟩
    | tail _ h => exact paB_row h
  | .mix ms :: r, i, a, x, h => by
    have h : x ∈ mxB ms i a ++ paB r (i + ms.length) (a + mxRows ms) := h
    rcases List.mem_append.1 h with h | h
    · exact mxB_row h
    · exact paB_row h

/-- the start -/
theorem law_start {P : Program} {fn : Func} {g : List (Nat × List V)} {pas : List Pa} (hpa : fn.params.toList.mapM (paOf P) = some pas) (hn : (Nat.ble (paR pas).length 1000 && Nat.ble (paRows pas) 64) = true) (hfx : allL (fun x => fixed x.2) g = true)
    {H : Type} {enc : TypeId × Value → H} {W : World} {base : Nat} {args : Array Value} {ds : List (DataW H)} {ps : List MemPlace} (hval : ∀ (j : Nat) t v, fn.params[j]? = some t → args[j]? = some v → Value.okWide P W .any base t v)
    (hA : DataW.TrodAll enc P W 0 (fun _ => true) true fn.params.toList args.toList ds ps) (hw : ∀ x ∈ g, x.1 < 4096 ∧ BlkR (cx0 fun _ => 0) W (x.1, 0) (.cells x.2 false false none)) :
    ∃ c : Cx, MemR c (mem1 g pas) W ∧ PcR c.ρ ⟨[], paR pas⟩ ∧ GlobR c ∧ VRs c (paV pas 0 0) args.toList ∧ ∀ b, ¬ Wr c (mem1 g pas) b := by
  obtain ⟨vals, rows, g1, g2, g3, g4⟩ := pa_open hA (fun j t v ht hv => hval j t v (by simpa using ht) (by simpa using hv)) hpa
  rw [Bool.and_eq_true, ble_iff, ble_iff] at hn
  have hF := cx1_found (vals := vals) (rows := rows) (by omega) (by omega)
  obtain ⟨hV, hB⟩ := g4 _ 0 0 hF
  have hp : PcR (cx1 vals rows).ρ ⟨[], paR pas⟩ := ⟨fun c hc => by simp at hc, fun i lo hi hr => by
    have := g3 i lo hi hr
    have hi' : i < vals.length := by rw [g1]; exact (List.getElem?_eq_some_iff.1 hr).1
    have e := hF.1 i hi'
    rw [Nat.zero_add] at e
    rw [e]; exact this⟩
  have hG : GlobR (cx1 vals rows) := ⟨by show 4096 ≤ 4096 + rows.length; omega, fun i hi => if_pos hi⟩
  have hlay : ∀ i b, (layG g).get i = some b → i < (cx1 vals rows).nb ∧ BlkR (cx1 vals rows) W ((cx1 vals rows).β i) b ∧ b.wrB = false ∧ b.plB = false := by
    intro i b hb
    obtain ⟨l, h1, rfl⟩ := layG_get hb
    obtain ⟨h2, h3⟩ := hw _ h1
    have e : (cx1 vals rows).β i = (i, 0) := hG.2 i h2
    refine ⟨Nat.lt_of_lt_of_le h2 hG.1, ?_, rfl, rfl⟩
    rw [e]
    obtain ⟨cs, t, fr, k1, k2, k3, k4, k5⟩ := h3
    exact ⟨cs, t, fr, k1, fun j v hj => by
      obtain ⟨y, hy, hv⟩ := k2 j v hj
      exact ⟨y, hy, fixed_ok (allL_ok hfx _ h1) hj hv⟩, fun h => by simp at h, fun h => by simp at h, trivial⟩
  have hblk : ∀ i b, (mem1 g pas).tr.get i = some b → i < (cx1 vals rows).nb ∧ BlkR (cx1 vals rows) W ((cx1 vals rows).β i) b ∧ b.wrB = false ∧ b.plB = false := by
    intro i b hb
    rcases setAll_get (show (setAll (paB pas 0 0) (layG g)).get i = some b from hb) with h1 | h1
    · obtain ⟨k1, k2⟩ := hB _ h1
      obtain ⟨k3, k4⟩ := paB_row h1
      exact ⟨k1, k2, k3, k4⟩
    · exact hlay i b h1
  have hm : MemR (cx1 vals rows) (mem1 g pas) W := by
    refine ⟨by show 4096 + rows.length = 4096 + paRows pas; rw [g2], rfl, fun i b hb => ⟨(hblk i b hb).1, (hblk i b hb).2.1⟩, ?_, ?_⟩
    · intro i j b b' hb hb' _ hap _ _
      obtain ⟨_, _, k1, k2⟩ := hblk i b hb
      obtain ⟨_, _, k3, k4⟩ := hblk j b' hb'
      unfold Blk.apt at hap
      rw [k1, k2, k3] at hap
      exact absurd hap (by simp)
    · intro t n ht
      simp [mem1, Tr.get] at ht
  refine ⟨cx1 vals rows, hm, hp, hG, hV, fun b hb => ?_⟩
  obtain ⟨i, blk, k1, k2, _⟩ := hb
  rw [(hblk i blk k1).2.2.1] at k2
  simp at k2

/-- the law's call, out of its code -/
theorem law_code1 {P : Program} {f : FuncId} {fn : Func} {co : Code} {g : List (Nat × List V)} {pas : List Pa} (hpa : fn.params.toList.mapM (paOf P) = some pas) (hn : (Nat.ble (paR pas).length 1000 && Nat.ble (paRows pas) 64) = true)
    (hf : P.funcs[f]? = some fn) (hb : fn.body = some co) (hfx : allL (fun x => fixed x.2) g = true)
    {H : Type} {enc : TypeId × Value → H} {W : World} {base : Nat} {args : Array Value} {ds : List (DataW H)} {ps : List MemPlace} (hval : ∀ (j : Nat) t v, fn.params[j]? = some t → args[j]? = some v → Value.okWide P W .any base t v)
    (hA : DataW.TrodAll enc P W 0 (fun _ => true) true fn.params.toList args.toList ds ps) (hw : ∀ x ∈ g, x.1 < 4096 ∧ BlkR (cx0 fun _ => 0) W (x.1, 0) (.cells x.2 false false none))
    (h : ∀ a w, At W (fun _ => True) (mem1 g pas) (slots fn.ntmps (paV pas 0 0)) (setArgs (paV pas 0 0) 0 env0) ⟨[], paR pas⟩ a w → co.wp P (bodyPost P fn (LawEnd W)) a w) : Calls P f args W (LawEnd W) := by
  obtain ⟨c, hm, hp, hG, hV, hwr⟩ := law_start hpa hn hfx hval hA hw
  exact calls_of_wp hf hb (h _ _ ⟨c, trivial, hm, hp, env_ok hG fn.ntmps hV, rfl, Below.refl _ _, fun b hb => absurd hb (hwr b)⟩)

/-- the law's call, out of one run -/
theorem law_calls1 {P : Program} (hP : Plain P) {kw : Kw} (hkw : ∀ ρ, KwOK P ρ kw) {it d : Nat} {f : FuncId} {fn : Func} {g : List (Nat × List V)} {pas : List Pa} (hpa : fn.params.toList.mapM (paOf P) = some pas) (hn : (Nat.ble (paR pas).length 1000 && Nat.ble (paRows pas) 64) = true) (hfx : allL (fun x => fixed x.2) g = true)
    (h : allTrue (evFn P kw it d f (paV pas 0 0) (mem1 g pas) ⟨[], paR pas⟩) = true)
    {H : Type} {enc : TypeId × Value → H} {W : World} {base : Nat} {args : Array Value} {ds : List (DataW H)} {ps : List MemPlace} (hval : ∀ (j : Nat) t v, fn.params[j]? = some t → args[j]? = some v → Value.okWide P W .any base t v)
    (hA : DataW.TrodAll enc P W 0 (fun _ => true) true fn.params.toList args.toList ds ps) (hw : ∀ x ∈ g, x.1 < 4096 ∧ BlkR (cx0 fun _ => 0) W (x.1, 0) (.cells x.2 false false none)) : Calls P f args W (LawEnd W) := by
  obtain ⟨c, hm, hp, hG, hV, hwr⟩ := law_start hpa hn hfx hval hA hw
  obtain ⟨m, q, he⟩ := allTrue_out c.ρ h
  refine (evFn_ok hP (hkw c.ρ) it d f _ c _ m W _ q _ args rfl hm hp hG hV he).2.mono fun e w' hR => ?_
  obtain ⟨c', z, rfl, s, hz, _⟩ := hR
  rw [VR.bool] at hz
  subst hz
  exact ⟨rfl, s.below hwr⟩

/-- the law's call, out of runs for parts of the first variable's range -/
theorem law_callsR {P : Program} (hP : Plain P) {kw : Kw} (hkw : ∀ ρ, KwOK P ρ kw) {it d : Nat} {f : FuncId} {fn : Func} {g : List (Nat × List V)} {pas : List Pa} (hpa : fn.params.toList.mapM (paOf P) = some pas) (hn : (Nat.ble (paR pas).length 1000 && Nat.ble (paRows pas) 64) = true) (hfx : allL (fun x => fixed x.2) g = true)
    {lo hi : Int} (h0 : (paR pas)[0]? = some (lo, hi)) {rs : List (Int × Int)} (hc : ∀ z, lo ≤ z → z ≤ hi → ∃ r ∈ rs, r.1 ≤ z ∧ z ≤ r.2)
    (h : ∀ r ∈ rs, allTrue (evFn P kw it d f (paV pas 0 0) (mem1 g pas) ⟨[], setRng (paR pas) 0 fun _ => r⟩) = true)
    {H : Type} {enc : TypeId × Value → H} {W : World} {base : Nat} {args : Array Value} {ds : List (DataW H)} {ps : List MemPlace} (hval : ∀ (j : Nat) t v, fn.params[j]? = some t → args[j]? = some v → Value.okWide P W .any base t v)
    (hA : DataW.TrodAll enc P W 0 (fun _ => true) true fn.params.toList args.toList ds ps) (hw : ∀ x ∈ g, x.1 < 4096 ∧ BlkR (cx0 fun _ => 0) W (x.1, 0) (.cells x.2 false false none)) : Calls P f args W (LawEnd W) := by
  obtain ⟨c, hm, hp, hG, hV, hwr⟩ := law_start hpa hn hfx hval hA hw
  obtain ⟨g0, g1⟩ := hp.rng 0 lo hi h0
  obtain ⟨r, hr, g2, g3⟩ := hc _ g0 g1
  have hp2 : PcR c.ρ ⟨[], setRng (paR pas) 0 fun _ => r⟩ := ⟨fun d hd => (nomatch hd), fun i l u hi => by
    rw [setRng_get] at hi
    by_cases h : i = 0
    · subst h
      rw [if_pos rfl, h0] at hi
      obtain rfl := Option.some.inj (show some r = some (l, u) from hi)
      exact ⟨g2, g3⟩
    · rw [if_neg h] at hi
      exact hp.rng i l u hi⟩
  obtain ⟨m, q, he⟩ := allTrue_out c.ρ (h r hr)
  refine (evFn_ok hP (hkw c.ρ) it d f _ c _ m W _ q _ args rfl hm hp2 hG hV he).2.mono fun e w' hR => ?_
  obtain ⟨c', z, rfl, s, hz, _⟩ := hR
  rw [VR.bool] at hz
  subst hz
  exact ⟨rfl, s.below hwr⟩

/-- the law's call, out of runs for parts of the paths -/
theorem law_callsP {P : Program} (hP : Plain P) {kw : Kw} (hkw : ∀ ρ, KwOK P ρ kw) {it d : Nat} {f : FuncId} {fn : Func} {g : List (Nat × List V)} {pas : List Pa} (hpa : fn.params.toList.mapM (paOf P) = some pas) (hn : (Nat.ble (paR pas).length 1000 && Nat.ble (paRows pas) 64) = true) (hfx : allL (fun x => fixed x.2) g = true)
    {qs : List Pc} (hc : ∀ ρ, PcR ρ ⟨[], paR pas⟩ → ∃ q ∈ qs, PcR ρ q)
    (h : ∀ q ∈ qs, allTrue (evFn P kw it d f (paV pas 0 0) (mem1 g pas) q) = true)
    {H : Type} {enc : TypeId × Value → H} {W : World} {base : Nat} {args : Array Value} {ds : List (DataW H)} {ps : List MemPlace} (hval : ∀ (j : Nat) t v, fn.params[j]? = some t → args[j]? = some v → Value.okWide P W .any base t v)
    (hA : DataW.TrodAll enc P W 0 (fun _ => true) true fn.params.toList args.toList ds ps) (hw : ∀ x ∈ g, x.1 < 4096 ∧ BlkR (cx0 fun _ => 0) W (x.1, 0) (.cells x.2 false false none)) : Calls P f args W (LawEnd W) := by
  obtain ⟨c, hm, hp, hG, hV, hwr⟩ := law_start hpa hn hfx hval hA hw
  obtain ⟨r, hr, hp2⟩ := hc _ hp
  obtain ⟨m, q, he⟩ := allTrue_out c.ρ (h r hr)
  refine (evFn_ok hP (hkw c.ρ) it d f _ c _ m W _ q _ args rfl hm hp2 hG hV he).2.mono fun e w' hR => ?_
  obtain ⟨c', z, rfl, s, hz, _⟩ := hR
  rw [VR.bool] at hz
  subst hz
  exact ⟨rfl, s.below hwr⟩

end Go.Sy
