/-
  What is defined here: the symbolic evaluator's regions, code, and calls.
  Conditions: none (definitions only).
-/
import Derived.Test.YtcipfcbaclfnhaaSyDraw
namespace Go.Sy

noncomputable def allocM (x : R (Blk × Shp)) : M V := x.thn fun bs => (newBlk bs.1).bnd fun i => M.pure (bs.2.val i)

/-- the value into its slot; 'n': the frame's number of slots -/
noncomputable def putM (d : Option Nat) (n : Nat) (env : Env) (v : V) : M Env := (Option.rec (motive := fun _ => M Env) (M.pure env) (fun d => selB (Nat.blt d n) (M.pure (env.put d v)) (M.fail "a slot beyond the frame")) (d))

noncomputable def opM (o : Oper) (P : Program) (cf : FuncId → List V → M V) (n : Nat) (env : Env) : M Env := (Kd.rec (motive := fun _ => M Env) (fun f => f.thn (putM o.dst n env)) (fun f => (allocM f).bnd (putM o.dst n env)) (fun f => f.bnd (putM o.dst n env)) (evKind o.op P cf env))

/-- is the slot's value a bool? a value that is none says 'not wanted' -/
noncomputable def guardV (v : V) (want : Bool) : R Bool := (V.rec (motive_1 := fun _ => Bool → R Bool) (motive_2 := fun _ => Unit) (fun b => fun want => (decR b).bnd fun v => R.pure (eqB v want)) (fun _ _ => fun _ => R.pure false) (fun _ => fun _ => R.pure false) (fun _ => R.pure false) (fun _ _ => fun _ => R.pure false) (fun _ => R.pure false) (fun _ _ _ _ => fun _ => R.pure false) (fun _ => R.pure false) (fun _ => fun _ => R.pure false) (fun _ _ _ _ _ => fun _ => R.pure false) (fun _ => R.pure false) (fun _ _ _ => fun _ => R.pure false) (fun _ => R.pure false) (fun _ _ => fun _ => R.pure false) (fun _ _ => fun _ => R.pure false) (fun _ => R.fail "guard") (fun _ _ _ => fun _ => R.pure false) (fun _ _ _ _ => fun _ => R.pure false) (fun _ _ => fun _ => R.pure false) Unit.unit (fun _ _ _ _ => Unit.unit) (v)) want

def guardSlot (ops : Array Oper) (g : Nat) : Option Nat := (ops[g]?).bind (·.dst)

noncomputable def guardR (ops : Array Oper) (g : Nat × Bool) (n : Nat) (env : Env) : R Bool := (Option.rec (motive := fun _ => R Bool) (R.pure false) (fun d => selB (Nat.blt d n) (guardV (env d) g.2) (R.fail "guard")) (guardSlot ops g.1))

noncomputable def opG (ops : Array Oper) (o : Oper) (P : Program) (cf : FuncId → List V → M V) (n : Nat) (env : Env) : M Env := (Option.rec (motive := fun _ => M Env) (opM o P cf n env) (fun g => (guardR ops g n env).thn fun w => (Bool.rec (motive := fun _ => M Env) (putM o.dst n env undefV) (opM o P cf n env) (w))) (o.guard))

noncomputable def evSeq (l : List Oper) : Array Oper → Program → (FuncId → List V → M V) → Nat → Env → M Env := (List.rec (motive := fun _ => Array Oper → Program → (FuncId → List V → M V) → Nat → Env → M Env) (fun _ _ _ _ env => M.pure env) (fun o _ ih => fun ops P cf n env => (opG ops o P cf n env).bnd (ih ops P cf n)) (l))

/-- a region whose order is drawn: in the order of the text; what may run before or behind another one is held to read the same there -/
noncomputable def evDr (l : List Oper) : Array Oper → Program → (FuncId → List V → M V) → Nat → Nat → (Nat → Nat) → Kn := (List.rec (motive := fun _ => Array Oper → Program → (FuncId → List V → M V) → Nat → Nat → (Nat → Nat) → Kn) (fun _ _ _ _ _ _ env _ _ => M.pure env) (fun o _ ih => fun ops P cf n i look env sn ws => forceN (ancOf o.after.toList look) fun A => fun m p =>
    (guardO o.guard (fun g => guardR ops g n env) m p).bndpq p fun w p => (Bool.rec (motive := fun _ => T (Rs Env)) (selB (slotOk o.dst n) (ih ops P cf n (Nat.succ i) (putN look i A) (putE o.dst env undefV) sn ws m p) (.fail "a slot beyond the frame")) ((Option.rec (motive := fun _ => T (Rs Env)) ((Kd.rec (motive := fun _ => T (Rs Env)) (fun f => drRd o.dst n i A env sn ws f (ih ops P cf n (Nat.succ i) (putN look i A)) m p) (fun f => drEf o.dst n i A env sn ws (allocM f) (ih ops P cf n (Nat.succ i) (putN look i A)) m p) (fun f => drEf o.dst n i A env sn ws f (ih ops P cf n (Nat.succ i) (putN look i A)) m p) (evKind o.op P cf env))) (fun x => drIns P o.dst n i A env sn ws x (ih ops P cf n (Nat.succ i) (putN look i A)) m p) (insOf o.op P env))) (w))) (l))

inductive X where
  | normal
  | exit (id : Nat)
  | ret
  | goto (l : Nat)
  deriving Inhabited

/-- how a piece of code ends -/
structure XE where
  x : X
  env : Env

/-- a loop's round: no first part: it goes on -/
structure XO where
  x : Option X
  env : Env

noncomputable def onXE {α : Type} (r : XE) (f : X → Env → α) : α := XE.rec (motive := fun _ => α) f r
noncomputable def onXO {α : Type} (r : XO) (f : Option X → Env → α) : α := XO.rec (motive := fun _ => α) f r

noncomputable def iter0 (r : XE) : M XO := onXE r fun x env => (X.rec (motive := fun _ => M XO) (M.pure ⟨none, env⟩) (fun id => M.pure ⟨some (.exit id), env⟩) (M.pure ⟨some .ret, env⟩) (fun l => M.pure ⟨some (.goto l), env⟩) (x))

/-- a loop's rounds: at most 2^n -/
noncomputable def iter (body : Env → M XE) (n : Nat) : Env → M XO := (Nat.rec (motive := fun _ => Env → M XO) (fun env => (body env).bnd iter0) (fun _ ih => fun env => (ih env).bnd fun r => onXO r fun x e => (Option.rec (motive := fun _ => M XO) (ih e) (fun _ => M.pure r) (x))) (n))

noncomputable def condV (v : V) : R Bool := onBool v decR (R.fail "cond")

noncomputable def blockX (id : Nat) (r : XE) : M XE := onXE r fun x env => (X.rec (motive := fun _ => M XE) (M.pure r) (fun i => M.pure ⟨selB (Nat.beq i id) .normal (.exit i), env⟩) (M.pure r) (fun _ => M.pure r) (x))

noncomputable def loopX (r : XO) : M XE := onXO r fun x env => (Option.rec (motive := fun _ => M XE) (M.fail "loop more rounds") (fun x => M.pure ⟨x, env⟩) (x))

noncomputable def evReg (ops : Array Oper) (P : Program) (cf : FuncId → List V → M V) (n : Nat) (env : Env) : M XE := (evSeq ops.toList ops P cf n env).bnd fun env => M.pure ⟨.normal, env⟩

noncomputable def evDrawn (ops : Array Oper) (P : Program) (cf : FuncId → List V → M V) (n : Nat) (env : Env) : M XE := (evDr ops.toList ops P cf n 0 (fun _ => 0) env [] []).bnd fun env => M.pure ⟨.normal, env⟩

/-- a code's run, and its runs from its labels on -/
structure CF where
  run : Env → M XE
  fr : Nat → Option (Env → M XE)

noncomputable def seqRun (a b : Env → M XE) : Env → M XE := fun env => (a env).bnd fun r => onXE r fun x env => (X.rec (motive := fun _ => M XE) (b env) (fun _ => M.pure r) (M.pure r) (fun _ => M.pure r) (x))
noncomputable def seqFr (a b : CF) : Nat → Option (Env → M XE) := fun l => (Option.rec (motive := fun _ => Option (Env → M XE)) (b.fr l) (fun f => some (seqRun f b.run)) (a.fr l))
noncomputable def labFr (k : Nat) : Nat → Option (Env → M XE) := fun l => selB (Nat.beq k l) (some fun env => M.pure ⟨.normal, env⟩) none

/-- a scope: jumps to its labels, at most n -/
noncomputable def scopeX (fr : Nat → Option (Env → M XE)) (n : Nat) : XE → M XE := (Nat.rec (motive := fun _ => XE → M XE) (fun _ => M.fail "jumps") (fun _ ih => fun r => onXE r fun x env => (X.rec (motive := fun _ => M XE) (M.pure r) (fun _ => M.pure r) (M.pure r) (fun l => (Option.rec (motive := fun _ => M XE) (M.pure r) (fun f => (f env).bnd ih) (fr l))) (x))) (n))

noncomputable def plainF (f : Env → M XE) : CF := ⟨f, fun _ => none⟩

/-- the code; 'it': loops have at most 2^it rounds; 'n': the frame's number of slots -/
noncomputable def evC (c : Code) : Program → (FuncId → List V → M V) → Nat → Nat → CF := (Code.rec (motive := fun _ => Program → (FuncId → List V → M V) → Nat → Nat → CF) (fun _ _ _ _ => plainF fun env => M.pure ⟨.normal, env⟩) (fun _ ops d => fun P cf _ n => plainF fun env => selB d (evDrawn ops P cf n env) (evReg ops P cf n env)) (fun _ _ ia ib => fun P cf it n => ⟨seqRun (ia P cf it n).run (ib P cf it n).run, seqFr (ia P cf it n) (ib P cf it n)⟩) (fun c _ _ ix iy => fun P cf it n => plainF fun env => (condV (opd c env)).thn fun b => (Bool.rec (motive := fun _ => M XE) ((iy P cf it n).run env) ((ix P cf it n).run env) (b))) (fun id _ ih => fun P cf it n => plainF fun env => ((ih P cf it n).run env).bnd (blockX id)) (fun _ ih => fun P cf it n => plainF fun env => (iter (ih P cf it n).run it env).bnd loopX) (fun _ _ _ _ _ _ => fun _ _ _ _ => plainF fun _ => M.fail "code") (fun id => fun _ _ _ _ => plainF fun env => M.pure ⟨.exit id, env⟩) (fun _ ih => fun P cf it n => plainF fun env => ((ih P cf it n).run env).bnd (scopeX (ih P cf it n).fr 6)) (fun k => fun _ _ _ _ => ⟨fun env => M.pure ⟨.normal, env⟩, labFr k⟩) (fun l => fun _ _ _ _ => plainF fun env => M.pure ⟨.goto l, env⟩) (fun _ _ _ _ => plainF fun env => M.pure ⟨.ret, env⟩) (fun _ => fun _ _ _ _ => plainF fun _ => M.fail "code") (c))

noncomputable def evCode (c : Code) (P : Program) (cf : FuncId → List V → M V) (it n : Nat) : Env → M XE := (evC c P cf it n).run

noncomputable def setArgs (l : List V) : Nat → Env → Env := (List.rec (motive := fun _ => Nat → Env → Env) (fun _ env => env) (fun v _ ih => fun i env => ih (Nat.succ i) (env.put i v)) (l))

noncomputable def res1 (r : ResultVar) : Program → Env → R V := (ResultVar.rec (motive := fun _ => Program → Env → R V) (fun t => fun _ env => R.pure (env t)) (fun a t => fun P env => loadPtr P t (env a)) (r))

noncomputable def resV (l : List ResultVar) : Program → Env → R (List V) := (List.rec (motive := fun _ => Program → Env → R (List V)) (fun _ _ => R.pure []) (fun x _ ih => fun P env => (res1 x P env).bnd fun v => (ih P env).bnd fun r => R.pure (v :: r)) (l))

noncomputable def oneV (l : List V) : V := (List.rec (motive := fun _ => V) (.tuple []) (fun v r _ => (List.rec (motive := fun _ => V) (v) (fun _ _ _ => .tuple l) (r))) (l))

noncomputable def endX (P : Program) (fn : Func) (r : XE) : M V := onXE r fun x env => (X.rec (motive := fun _ => M V) ((resV fn.results.toList P env).thn fun l => M.pure (oneV l)) (fun _ => M.fail "an exit") ((resV fn.results.toList P env).thn fun l => M.pure (oneV l)) (fun _ => M.fail "a goto") (x))

noncomputable def slots (n : Nat) (args : List V) : Nat := selB (Nat.ble (lenL args) n) n (lenL args)

def env0 : Env := fun _ => undefV

noncomputable def evBody (P : Program) (cf : FuncId → List V → M V) (it : Nat) (fn : Func) (args : List V) : M V := (Option.rec (motive := fun _ => M V) (M.fail fn.name) (fun c => (evCode c P cf it (slots fn.ntmps args) (setArgs args 0 env0)).bnd (endX P fn)) (fn.body))

/-- what is known of some functions: what becomes of their runs -/
abbrev Kw : Type := FuncId → Option ((List V → M V) → List V → M V)

def kw0 : Kw := fun _ => none

noncomputable def evOne (P : Program) (cf : FuncId → List V → M V) (it : Nat) (f : FuncId) (args : List V) : M V := (Option.rec (motive := fun _ => M V) (M.fail "no such function") (fun fn => evBody P cf it fn args) (P.funcs[f]?))

/-- a call, at most d deep -/
noncomputable def evFn (P : Program) (kw : Kw) (it : Nat) (d : Nat) : FuncId → List V → M V := (Nat.rec (motive := fun _ => FuncId → List V → M V) (fun _ _ => M.fail "calls too deep") (fun _ ih => fun f => (Option.rec (motive := fun _ => List V → M V) (evOne P ih it f) (fun tr => tr (evOne P ih it f)) (kw f))) (d))

end Go.Sy
