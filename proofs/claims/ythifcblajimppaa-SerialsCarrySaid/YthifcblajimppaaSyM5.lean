/-
  What is defined and proved here: a part of the symbolic evaluator: SyTop, SyLaw, SyOpen, SyLaid.
  Conditions: none.
-/
import Derived.Test.YthifcblajimppaaSyM4
import Derived.Below
import Derived.ProofKit
import Derived.LaidMore
import Derived.OpenShut
import Derived.Stop.Joined
namespace Go.Sy
open Go.RowKit (Below)
noncomputable def allTrue (t : T (Rs V)) : Bool := (T.rec (motive := fun _ => Bool) (fun r => onBool r.v (fun b => (B.rec (motive := fun _ => Bool) (fun v => v) (fun _ _ => false) (fun _ _ => false) (fun _ _ => false) (b))) false) (fun _ _ _ ix iy => andB ix iy) (fun _ => false) (t))
theorem allTrue_out (ρ : Nat → Int) : ∀ {t : T (Rs V)}, allTrue t = true → ∃ m q, t.out ρ = some ⟨.bool (.lit true), m, q⟩
 | .ret ⟨v, m, q⟩, h => by
  have h : onBool v (fun b => (B.rec (fun v => v) (fun _ _ => false) (fun _ _ => false) (fun _ _ => false) b : Bool)) false = true := h
  rcases onBool_cases v (fun b => (B.rec (fun v => v) (fun _ _ => false) (fun _ _ => false) (fun _ _ => false) b : Bool)) false with ⟨b, rfl, he⟩ | he <;> rw [he] at h
  ·cases b with
   | lit u =>
    have h : u = true := h
    subst h; exact ⟨m, q, rfl⟩
   | _ => exact absurd (show false = true from h) (by simp)
  ·simp at h
 | .br c x y, h => by
  obtain ⟨h1, h2⟩ := andB_ok (show andB (allTrue x) (allTrue y) = true from h)
  obtain ⟨m, q, e1⟩ := allTrue_out ρ h1
  obtain ⟨m', q', e2⟩ := allTrue_out ρ h2
  simp only [T.out]
  cases c.den ρ with
  | true => exact ⟨m, q, by simpa using e1⟩
  | false => exact ⟨m', q', by simpa using e2⟩
 | .fail s, h => absurd (show false = true from h) (by simp)
noncomputable def pairsV (l : List V) : List (V × V) := (List.rec (motive := fun _ => Option V → List (V × V)) (fun _ => []) (fun v _ ih => fun o => (Option.rec (motive := fun _ => List (V × V)) (ih (some v)) (fun k => (k, v) :: ih none) (o))) (l)) none
noncomputable def lyB (x : Nat × List V) : Blk := selB (Nat.blt x.1 3072) (.cells x.2 false false none) (.pm (pairsV x.2) false)
theorem lyB_cases (x : Nat × List V) : (x.1 < 3072 ∧ lyB x = .cells x.2 false false none) ∨ (3072 ≤ x.1 ∧ lyB x = .pm (pairsV x.2) false) := by
 unfold lyB
 cases h : Nat.blt x.1 3072 with
 | true => exact .inl ⟨by simpa [blt_iff] using h, rfl⟩
 | false =>
  refine .inr ⟨?_, rfl⟩
  have : ¬ x.1 < 3072 := fun h' => by rw [← blt_iff] at h'; rw [h'] at h; simp at h
  omega
noncomputable def layG (l : List (Nat × List V)) : Tr Blk := (List.rec (motive := fun _ => Tr Blk) (.nil) (fun g _ ih => ih.set g.1 (lyB g)) (l))
noncomputable def mem0 (g : List (Nat × List V)) : Mem := ⟨layG g, 4096, .nil, 0⟩
def pc0 : Pc := ⟨[], []⟩
def cx0 (bs : Nat → Nat) (ρ : Nat → Int) : Cx := ⟨fun i => (if i < 3072 then i else bs (i - 3072), 0), fun _ => 0, ρ, 4096, 0, fun i => i < 4096, fun _ h => h⟩
def LaidAs (bs : Nat → Nat) (W : World) (g : List (Nat × List V)) : Prop := ∀ ρ, ∀ x ∈ g, x.1 < 4096 ∧ BlkR (cx0 bs ρ) W ((cx0 bs ρ).β x.1) (lyB x)
def LaidW (W : World) (g : List (Nat × List V)) : Prop := ∃ bs, LaidAs bs W g
theorem LaidW.nil {W : World} : LaidW W [] := ⟨fun _ => 0, fun _ _ hx => nomatch hx⟩
theorem layG_get {i : Nat} {b : Blk} : ∀ {g : List (Nat × List V)}, (layG g).get i = some b → ∃ l, (i, l) ∈ g ∧ b = lyB (i, l)
 | [], h => by simp [layG, Tr.get] at h
 | x :: g, h => by
  have h : ((layG g).set x.1 (lyB x)).get i = some b := h
  rw [Tr.get_set] at h
  split at h
  ·rename_i e
   simp at h
   exact ⟨x.2, by rw [e]; exact .head _, by rw [e]; exact h.symm⟩
  ·obtain ⟨l, h1, h2⟩ := layG_get h
   exact ⟨l, .tail _ h1, h2⟩
theorem lyB_wr (x : Nat × List V) : (lyB x).wrB = false ∧ (lyB x).plB = false := by
 rcases lyB_cases x with ⟨_, e⟩ | ⟨_, e⟩ <;> rw [e] <;> exact ⟨rfl, rfl⟩
theorem lyB_has {c : Cx} {W : World} {i : Nat} {x : Nat × List V} (h1 : c.has i) (h2 : BlkR c W (c.β i) (lyB x)) : c.blkB W i (lyB x) := by
 rcases lyB_cases x with ⟨_, e⟩ | ⟨_, e⟩ <;> rw [e] at h2 ⊢ <;> exact ⟨h1, h2⟩
theorem mem0_ok {bs : Nat → Nat} {ρ : Nat → Int} {g : List (Nat × List V)} {w : World} (h : LaidAs bs w g) : MemR (cx0 bs ρ) (mem0 g) w := by
 refine ⟨rfl, rfl, ?_, ?_, ?_⟩
 ·intro i b hb
  obtain ⟨l, h1, rfl⟩ := layG_get (show (layG g).get i = some b from hb)
  obtain ⟨h2, h3⟩ := h ρ _ h1
  exact lyB_has h2 h3
 ·intro i j b b' hb hb' hij hap _ _
  obtain ⟨l, h1, rfl⟩ := layG_get (show (layG g).get i = some b from hb)
  obtain ⟨l', h2, rfl⟩ := layG_get (show (layG g).get j = some b' from hb')
  unfold Blk.apt at hap
  rw [(lyB_wr _).1, (lyB_wr _).2, (lyB_wr _).1] at hap
  exact absurd hap (by simp)
 ·intro t n h
  simp [mem0, Tr.get] at h
theorem pc0_ok {ρ : Nat → Int} : PcR ρ pc0 := ⟨fun c hc => by simp [pc0] at hc, fun i lo hi h => by simp [pc0] at h⟩
theorem glob0 {bs : Nat → Nat} {ρ : Nat → Int} : GlobR (cx0 bs ρ) := ⟨Nat.le_refl _, fun i h => ⟨show i < 4096 by omega, by show (if i < 3072 then i else bs (i - 3072), 0) = (i, 0); rw [if_pos h]⟩⟩
theorem Step.below {c c' : Cx} {m m' : Mem} {w w' : World} (s : Step c m w c' m' w') (h : ∀ b, ¬ Wr c m b) : Below w.heap.size w w' :=
 ⟨s.os, s.tape, s.output, s.size, fun k hk => s.frame k hk (h k)⟩
theorem mem0_wr {bs : Nat → Nat} {ρ : Nat → Int} {g : List (Nat × List V)} : ∀ b, ¬ Wr (cx0 bs ρ) (mem0 g) b := by
 rintro b ⟨i, blk, h1, h2, _⟩
 obtain ⟨l, _, rfl⟩ := layG_get (show (layG g).get i = some blk from h1)
 rw [(lyB_wr _).1] at h2
 simp at h2
theorem closed_ok {P : Program} (hP : Plain P) {kw : Kw} (hkw : KwOK P (fun _ => 0) kw) {it d : Nat} {f : FuncId} {g : List (Nat × List V)} (h : allTrue (evFn P kw it d f [] (mem0 g) pc0) = true) (w : World)
  (hw : LaidW w g) (hne : f ≠ yId := by decide) :
  Calls P f #[] w fun e w' => e = .returned (.bool true) ∧ Below w.heap.size w w' := by
 obtain ⟨bs, hw⟩ := hw
 obtain ⟨m, q, he⟩ := allTrue_out (fun _ => 0) h
 refine (evFn_call hP hkw it d hne [] (cx0 bs fun _ => 0) _ m w pc0 q _ #[] rfl (mem0_ok hw) pc0_ok glob0 VRs.nil he).2.mono fun e w' hR => ?_
 obtain ⟨c', z, rfl, s, hz, _⟩ := hR
 rw [VR.bool] at hz
 subst hz
 exact ⟨rfl, s.below mem0_wr⟩
theorem Step.of_below {c : Cx} {m : Mem} {w w' : World} (hm : MemR c m w) (hb : Below w.heap.size w w') : Step c m w c m w' :=
 ⟨⟨hm.nb, hm.nt, fun i b h => (hm.blk i b h).on (Cx.le.refl c) fun hl => hb.block _ (((hm.blk i b h).live hl).2.lt hl), hm.inj, hm.tok⟩, Cx.le.refl c, hb.os, hb.tape, hb.output, hb.size, fun b hb' _ => hb.block b hb', fun _ h => .inl h, fun _ h => .inl h⟩
theorem callable {P : Program} (hP : Plain P) {f : FuncId} (h : (match P.funcs[f]? with | some fn => fn.body.isSome | none => false) = true) : Callable P f := by
 cases hf : P.funcs[f]? with
 | none => rw [hf] at h; simp at h
 | some fn =>
  rw [hf] at h
  have := hP.fns f fn hf
  simp [goodFn] at this
  exact ⟨fn, hf, by cases hb : fn.body <;> simp_all, by simpa using this.1⟩
end Go.Sy
namespace Go.Sy
open Go.ChangeShapes Go.WideShapes Go.ChangeAt Go.RowKit
def LawEnd (W : World) (e : Ending) (w' : World) : Prop := e = .returned (.bool true) ∧ Below W.heap.size W w'
def parsOk (P : Program) (fn : Func) : Bool := fn.params.toList.all fun t => P.readableRec t && decide (t < P.types.size)
section
variable {H : Type} {enc : TypeId × Value → H} {P : Program}
theorem trodAll_below (hl : laidOutB P = true) {W W' : World} (hb : Below W.heap.size W W') : ∀ {ts : List TypeId} {vs : List Value} {ds : List (DataW H)} {ps : List MemPlace}, (ts.all fun t => P.readableRec t && decide (t < P.types.size)) = true →
  DataW.TrodAll enc P W 0 (fun _ => true) true ts vs ds ps → DataW.TrodAll enc P W' 0 (fun b => decide (b < W.heap.size)) true ts vs ds ps
 | [], [], [], _, _, h => h
 | t :: ts, v :: vs, d :: ds, ps, ht, h => by
  have hlt := DataW.TrodAll.lt h
  obtain ⟨p, q, h1, h2, rfl⟩ := h
  simp only [List.all_cons, Bool.and_eq_true, decide_eq_true_eq] at ht
  exact ⟨p, q, Below.trod hl ht.1.1 ht.1.2 h1 hb (fun x hx => hlt x (List.mem_append_left _ hx)), trodAll_below hl hb ht.2 h2, rfl⟩
 | [], _ :: _, _, _, _, h => by cases h
 | [], [], _ :: _, _, _, h => by cases h
 | _ :: _, [], _, _, _, h => by cases h
 | _ :: _, _ :: _, [], _, _, h => by cases h
theorem trodAll_len {W : World} {base : Nat} {sp : Nat → Bool} {held : Bool} : ∀ {ts : List TypeId} {vs : List Value} {ds : List (DataW H)} {ps : List MemPlace}, DataW.TrodAll enc P W base sp held ts vs ds ps → ds.length = ts.length
 | [], [], [], _, _ => rfl
 | t :: ts, v :: vs, d :: ds, ps, h => by
  obtain ⟨p, q, _, h2, _⟩ := h
  simp [trodAll_len h2]
 | [], _ :: _, _, _, h => by cases h
 | [], [], _ :: _, _, h => by cases h
 | _ :: _, [], _, _, h => by cases h
 | _ :: _, _ :: _, [], _, h => by cases h
theorem law_post (hl : laidOutB P = true) {fn : Func} (hpar : parsOk P fn = true) {tb : TypeId} (hr : fn.resultTypes = #[tb]) (htb : P.underlying tb = some .bool) {s : ChangeSpec} (hv : s.vars = [])
  (hs : ∀ (ds : List (DataW H)), ds.length = fn.params.size → s.fn H ds = { results := [.lit (.bool true)], args := ds }) {W W' : World} {args : Array Value} {ds gs : List (DataW H)} {before : List MemPlace}
  (hW : DataW.Whole enc P fn.params.toList s.vars false W args.toList ds gs before) (hb : Below W.heap.size W W') : s.post enc P fn false true false false W args (.bool true) W' := by
 have hW' := hW
 obtain ⟨p, q, hA, hV, rfl, _, _⟩ := hW
 rw [hv] at hV
 obtain ⟨rfl, rfl⟩ := trodVars_none hV
 have hlen : ds.length = fn.params.size := by
  have := trodAll_len hA
  simpa using this
 have e := hs ds hlen
 refine ⟨ds, [], _, [], p, [], hW', ?_, ?_, ?_, hb.frame _, fun h => by cases h⟩
 ·rw [List.append_nil, e, hr]
  exact trodAll_mk1 (shut_bool htb true)
 ·rw [List.append_nil, e]
  exact trodAll_below hl hb hpar hA
 ·rw [List.append_nil, e, hv]
  exact (rfl : ([] : List MemPlace) = [])
end
theorem law_lifted {C : Checked} {os : Os} {f : FuncId} {fn : Func} {s : ChangeSpec} {tb : TypeId} (own : ownKnob C.prog.godebug = none) (started : os.Started) (noInit : C.prog.inits.idxOf? f = none) (hfn : C.prog.funcs[f]? = some fn)
  (hl : laidOutB C.prog = true) (hpar : parsOk C.prog fn = true) (hr : fn.resultTypes = #[tb]) (htb : C.prog.underlying tb = some .bool) (hv : s.vars = [])
  {H : Type} {enc : TypeId × Value → H} (hs : ∀ (ds : List (DataW H)), ds.length = fn.params.size → s.fn H ds = { results := [.lit (.bool true)], args := ds })
  (witness : ∃ (w : World) (tape : Tape) (i : Input), w.os = os ∧ (w.forCall tape i).Shaped C.prog ∧ i.vars = [] ∧ Input.okWide C.prog (w.forCall tape i) .any w.heap.size f i ∧
   s.pre6 enc C.prog fn [] false (w.forCall tape i).memory i.args ∧ ({} : Assume).holds C.prog (lone (Frame.enter C.prog f i.args .normal) [] (w.forCall tape i)))
  (hcall : ∀ (W : World) (base : Nat) (args : Array Value) (ds : List (DataW H)) (ps : List MemPlace), (∀ (j : Nat) t v, fn.params[j]? = some t → args[j]? = some v → Value.okWide C.prog W .any base t v) →
   DataW.TrodAll enc C.prog W 0 (fun _ => true) true fn.params.toList args.toList ds ps → W.noneFrozen ps → Calls C.prog f args W (LawEnd W)) :
  ReturnsInHanded {} C os f .any (s.pre6 enc C.prog fn [] false) (s.post enc C.prog fn false true false false) := by
 refine returnsInHanded_of_change own started noInit hfn witness ?_
 intro W base args ds gs before hval hW _ _
 have hW' := hW
 obtain ⟨p, q, hA, hV, rfl, hz, _⟩ := hW
 refine (hcall W base args ds p hval hA (fun b off hp => hz b off (List.mem_append_left _ hp))).mono fun e W' he => ?_
 exact ⟨_, he.1, law_post hl hpar hr htb hv hs hW' he.2⟩
end Go.Sy
namespace Go.Sy
open Go.ChangeShapes Go.WideShapes Go.ChangeAt Go.RowKit
section
variable {H : Type} {enc : TypeId × Value → H} {P : Program} {W : World} {base : Nat} {sp : Nat → Bool} {held : Bool}
end
end Go.Sy
namespace Go.Sy
open Go.ChangeShapes Go.WideShapes Go.ChangeAt Go.RowKit
section
variable {P : Program} {W : World} {c : Cx}
end
end Go.Sy
