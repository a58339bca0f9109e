/-
  What is defined here: when two values of the evaluator are one; regions whose order is drawn.
  Conditions: none (definitions only).
-/
import Derived.Test.YtcipfcbaclfnhaaSyOps
namespace Go.Sy

/-! ### one value -/

noncomputable def eqE (a b : E) : Bool := onN a (fun x => onN b (fun y => eqZ x y) false) (E.beq a b)

noncomputable def eqBB (a : B) : B → Bool := (B.rec (motive := fun _ => B → Bool) (fun u => fun b => (B.rec (motive := fun _ => Bool) (fun v => eqB u v) (fun _ _ => false) (fun _ _ => false) (fun _ _ => false) (b))) (fun x y => fun b => (B.rec (motive := fun _ => Bool) (fun _ => false) (fun z w => andB (eqE x z) (eqE y w)) (fun _ _ => false) (fun _ _ => false) (b))) (fun x y => fun b => (B.rec (motive := fun _ => Bool) (fun _ => false) (fun _ _ => false) (fun z w => andB (eqE x z) (eqE y w)) (fun _ _ => false) (b))) (fun _ ih => fun b => (B.rec (motive := fun _ => Bool) (fun _ => false) (fun _ _ => false) (fun _ _ => false) (fun c _ => ih c) (b))) (a))

noncomputable def eqEs (a : List E) : List E → Bool := (List.rec (motive := fun _ => List E → Bool) (fun b => (List.rec (motive := fun _ => Bool) (true) (fun _ _ _ => false) (b))) (fun x _ ih => fun b => (List.rec (motive := fun _ => Bool) (false) (fun y r _ => andB (eqE x y) (ih r)) (b))) (a))

noncomputable def eqCp (a b : Cp) : Bool := (Cp.rec (motive := fun _ => Bool) (fun c => (Cp.rec (motive := fun _ => Bool) (fun d => Nat.beq c d) (fun _ _ => false) (b))) (fun i k => (Cp.rec (motive := fun _ => Bool) (fun _ => false) (fun j l => andB (Nat.beq i j) (Nat.beq k l)) (b))) (a))

noncomputable def eqFn (a b : Fn) : Bool := (Fn.rec (motive := fun _ => Bool) (fun f => (Fn.rec (motive := fun _ => Bool) (fun g => Nat.beq f g) (fun _ => false) (fun _ _ => false) (fun _ _ _ _ => false) (fun _ => false) (b))) (fun _ => false) (fun _ _ => false) (fun _ _ _ _ => false) (fun _ => false) (a))

noncomputable def eqVV (a : V) : V → Bool := V.rec (motive_1 := fun _ => V → Bool) (motive_2 := fun _ => List V → Bool)
  (fun b y => (V.rec (motive_1 := fun _ => Bool) (motive_2 := fun _ => Unit) (fun c => eqBB b c) (fun _ _ => false) (fun _ => false) (false) (fun _ _ => false) (false) (fun _ _ _ _ => false) (false) (fun _ => false) (fun _ _ _ _ _ => false) (false) (fun _ _ _ => false) (false) (fun _ _ => false) (fun _ _ => false) (false) (fun _ _ _ => false) (fun _ _ _ _ => false) (fun _ _ => false) Unit.unit (fun _ _ _ _ => Unit.unit) (y)))
  (fun k e y => (V.rec (motive_1 := fun _ => Bool) (motive_2 := fun _ => Unit) (fun _ => false) (fun k' e' => andB (Nat.beq (kindNo k) (kindNo k')) (eqE e e')) (fun _ => false) (false) (fun _ _ => false) (false) (fun _ _ _ _ => false) (false) (fun _ => false) (fun _ _ _ _ _ => false) (false) (fun _ _ _ => false) (false) (fun _ _ => false) (fun _ _ => false) (false) (fun _ _ _ => false) (fun _ _ _ _ => false) (fun _ _ => false) Unit.unit (fun _ _ _ _ => Unit.unit) (y)))
  (fun l y => (V.rec (motive_1 := fun _ => Bool) (motive_2 := fun _ => Unit) (fun _ => false) (fun _ _ => false) (fun l' => eqEs l l') (false) (fun _ _ => false) (false) (fun _ _ _ _ => false) (false) (fun _ => false) (fun _ _ _ _ _ => false) (false) (fun _ _ _ => false) (false) (fun _ _ => false) (fun _ _ => false) (false) (fun _ _ _ => false) (fun _ _ _ _ => false) (fun _ _ => false) Unit.unit (fun _ _ _ _ => Unit.unit) (y)))
  (fun y => (V.rec (motive_1 := fun _ => Bool) (motive_2 := fun _ => Unit) (fun _ => false) (fun _ _ => false) (fun _ => false) (true) (fun _ _ => false) (false) (fun _ _ _ _ => false) (false) (fun _ => false) (fun _ _ _ _ _ => false) (false) (fun _ _ _ => false) (false) (fun _ _ => false) (fun _ _ => false) (false) (fun _ _ _ => false) (fun _ _ _ _ => false) (fun _ _ => false) Unit.unit (fun _ _ _ _ => Unit.unit) (y)))
  (fun i o y => (V.rec (motive_1 := fun _ => Bool) (motive_2 := fun _ => Unit) (fun _ => false) (fun _ _ => false) (fun _ => false) (false) (fun i' o' => andB (Nat.beq i i') (Nat.beq o o')) (false) (fun _ _ _ _ => false) (false) (fun _ => false) (fun _ _ _ _ _ => false) (false) (fun _ _ _ => false) (false) (fun _ _ => false) (fun _ _ => false) (false) (fun _ _ _ => false) (fun _ _ _ _ => false) (fun _ _ => false) Unit.unit (fun _ _ _ _ => Unit.unit) (y)))
  (fun y => (V.rec (motive_1 := fun _ => Bool) (motive_2 := fun _ => Unit) (fun _ => false) (fun _ _ => false) (fun _ => false) (false) (fun _ _ => false) (true) (fun _ _ _ _ => false) (false) (fun _ => false) (fun _ _ _ _ _ => false) (false) (fun _ _ _ => false) (false) (fun _ _ => false) (fun _ _ => false) (false) (fun _ _ _ => false) (fun _ _ _ _ => false) (fun _ _ => false) Unit.unit (fun _ _ _ _ => Unit.unit) (y)))
  (fun i o n c y => (V.rec (motive_1 := fun _ => Bool) (motive_2 := fun _ => Unit) (fun _ => false) (fun _ _ => false) (fun _ => false) (false) (fun _ _ => false) (false) (fun i' o' n' c' => andB (andB (Nat.beq i i') (Nat.beq o o')) (andB (Nat.beq n n') (eqCp c c'))) (false) (fun _ => false) (fun _ _ _ _ _ => false) (false) (fun _ _ _ => false) (false) (fun _ _ => false) (fun _ _ => false) (false) (fun _ _ _ => false) (fun _ _ _ _ => false) (fun _ _ => false) Unit.unit (fun _ _ _ _ => Unit.unit) (y)))
  (fun y => (V.rec (motive_1 := fun _ => Bool) (motive_2 := fun _ => Unit) (fun _ => false) (fun _ _ => false) (fun _ => false) (false) (fun _ _ => false) (false) (fun _ _ _ _ => false) (true) (fun _ => false) (fun _ _ _ _ _ => false) (false) (fun _ _ _ => false) (false) (fun _ _ => false) (fun _ _ => false) (false) (fun _ _ _ => false) (fun _ _ _ _ => false) (fun _ _ => false) Unit.unit (fun _ _ _ _ => Unit.unit) (y)))
  (fun i y => (V.rec (motive_1 := fun _ => Bool) (motive_2 := fun _ => Unit) (fun _ => false) (fun _ _ => false) (fun _ => false) (false) (fun _ _ => false) (false) (fun _ _ _ _ => false) (false) (fun i' => Nat.beq i i') (fun _ _ _ _ _ => false) (false) (fun _ _ _ => false) (false) (fun _ _ => false) (fun _ _ => false) (false) (fun _ _ _ => false) (fun _ _ _ _ => false) (fun _ _ => false) Unit.unit (fun _ _ _ _ => Unit.unit) (y)))
  (fun f _ _ ia ib y => (V.rec (motive_1 := fun _ => Bool) (motive_2 := fun _ => Unit) (fun _ => false) (fun _ _ => false) (fun _ => false) (false) (fun _ _ => false) (false) (fun _ _ _ _ => false) (false) (fun _ => false) (fun f' a' b' _ _ => andB (eqFn f f') (andB (ia a') (ib b'))) (false) (fun _ _ _ => false) (false) (fun _ _ => false) (fun _ _ => false) (false) (fun _ _ _ => false) (fun _ _ _ _ => false) (fun _ _ => false) Unit.unit (fun _ _ _ _ => Unit.unit) (y)))
  (fun y => (V.rec (motive_1 := fun _ => Bool) (motive_2 := fun _ => Unit) (fun _ => false) (fun _ _ => false) (fun _ => false) (false) (fun _ _ => false) (false) (fun _ _ _ _ => false) (false) (fun _ => false) (fun _ _ _ _ _ => false) (true) (fun _ _ _ => false) (false) (fun _ _ => false) (fun _ _ => false) (false) (fun _ _ _ => false) (fun _ _ _ _ => false) (fun _ _ => false) Unit.unit (fun _ _ _ _ => Unit.unit) (y)))
  (fun t _ ih y => (V.rec (motive_1 := fun _ => Bool) (motive_2 := fun _ => Unit) (fun _ => false) (fun _ _ => false) (fun _ => false) (false) (fun _ _ => false) (false) (fun _ _ _ _ => false) (false) (fun _ => false) (fun _ _ _ _ _ => false) (false) (fun t' v' _ => andB (Nat.beq t t') (ih v')) (false) (fun _ _ => false) (fun _ _ => false) (false) (fun _ _ _ => false) (fun _ _ _ _ => false) (fun _ _ => false) Unit.unit (fun _ _ _ _ => Unit.unit) (y)))
  (fun y => (V.rec (motive_1 := fun _ => Bool) (motive_2 := fun _ => Unit) (fun _ => false) (fun _ _ => false) (fun _ => false) (false) (fun _ _ => false) (false) (fun _ _ _ _ => false) (false) (fun _ => false) (fun _ _ _ _ _ => false) (false) (fun _ _ _ => false) (true) (fun _ _ => false) (fun _ _ => false) (false) (fun _ _ _ => false) (fun _ _ _ _ => false) (fun _ _ => false) Unit.unit (fun _ _ _ _ => Unit.unit) (y)))
  (fun _ ih y => (V.rec (motive_1 := fun _ => Bool) (motive_2 := fun _ => Unit) (fun _ => false) (fun _ _ => false) (fun _ => false) (false) (fun _ _ => false) (false) (fun _ _ _ _ => false) (false) (fun _ => false) (fun _ _ _ _ _ => false) (false) (fun _ _ _ => false) (false) (fun l' _ => ih l') (fun _ _ => false) (false) (fun _ _ _ => false) (fun _ _ _ _ => false) (fun _ _ => false) Unit.unit (fun _ _ _ _ => Unit.unit) (y)))
  (fun _ ih y => (V.rec (motive_1 := fun _ => Bool) (motive_2 := fun _ => Unit) (fun _ => false) (fun _ _ => false) (fun _ => false) (false) (fun _ _ => false) (false) (fun _ _ _ _ => false) (false) (fun _ => false) (fun _ _ _ _ _ => false) (false) (fun _ _ _ => false) (false) (fun _ _ => false) (fun l' _ => ih l') (false) (fun _ _ _ => false) (fun _ _ _ _ => false) (fun _ _ => false) Unit.unit (fun _ _ _ _ => Unit.unit) (y)))
  (fun _ => false)
  (fun i sz n y => (V.rec (motive_1 := fun _ => Bool) (motive_2 := fun _ => Unit) (fun _ => false) (fun _ _ => false) (fun _ => false) (false) (fun _ _ => false) (false) (fun _ _ _ _ => false) (false) (fun _ => false) (fun _ _ _ _ _ => false) (false) (fun _ _ _ => false) (false) (fun _ _ => false) (fun _ _ => false) (false) (fun i' sz' n' => andB (andB (Nat.beq i i') (Nat.beq sz sz')) (eqE n n')) (fun _ _ _ _ => false) (fun _ _ => false) Unit.unit (fun _ _ _ _ => Unit.unit) (y)))
  (fun i sz e f y => (V.rec (motive_1 := fun _ => Bool) (motive_2 := fun _ => Unit) (fun _ => false) (fun _ _ => false) (fun _ => false) (false) (fun _ _ => false) (false) (fun _ _ _ _ => false) (false) (fun _ => false) (fun _ _ _ _ _ => false) (false) (fun _ _ _ => false) (false) (fun _ _ => false) (fun _ _ => false) (false) (fun _ _ _ => false) (fun i' sz' e' f' => andB (andB (Nat.beq i i') (Nat.beq sz sz')) (andB (eqE e e') (Nat.beq f f'))) (fun _ _ => false) Unit.unit (fun _ _ _ _ => Unit.unit) (y)))
  (fun i z y => (V.rec (motive_1 := fun _ => Bool) (motive_2 := fun _ => Unit) (fun _ => false) (fun _ _ => false) (fun _ => false) (false) (fun _ _ => false) (false) (fun _ _ _ _ => false) (false) (fun _ => false) (fun _ _ _ _ _ => false) (false) (fun _ _ _ => false) (false) (fun _ _ => false) (fun _ _ => false) (false) (fun _ _ _ => false) (fun _ _ _ _ => false) (fun i' z' => andB (Nat.beq i i') (eqB z z')) Unit.unit (fun _ _ _ _ => Unit.unit) (y)))
  (fun b => (List.rec (motive := fun _ => Bool) (true) (fun _ _ _ => false) (b)))
  (fun _ _ ih il b => (List.rec (motive := fun _ => Bool) (false) (fun y r _ => andB (ih y) (il r)) (b)))
  a

/-! ### which operations come first -/

noncomputable def bindsB (e : Edge) : Bool := Edge.rec (motive := fun _ => Bool) (fun _ g => (Ground.rec (motive := fun _ => Bool) (true) (true) (true) (true) (fun _ => false) (fun _ => false) (g))) e

/-- 'k n', with 'n' worked out first -/
noncomputable def forceN {α : Type} (n : Nat) (k : Nat → α) : α := (Nat.rec (motive := fun _ => α) (k 0) (fun m _ => k (Nat.succ m)) (n))

noncomputable def bitB (A i : Nat) : Bool := Nat.beq (Nat.land (Nat.shiftRight A i) 1) 1

/-- what is forced before an operation, as the bits of a number -/
noncomputable def ancOf (l : List Edge) : (Nat → Nat) → Nat := (List.rec (motive := fun _ => (Nat → Nat) → Nat) (fun _ => 0) (fun e _ ih => fun look => selB (bindsB e) (Nat.lor (Nat.lor (Nat.pow 2 e.on) (look e.on)) (ih look)) (ih look)) (l))

noncomputable def putN (look : Nat → Nat) (i A : Nat) : Nat → Nat := fun j => (Bool.rec (motive := fun _ => Nat) (look j) (A) (Nat.beq j i))

/-! ### a region whose order is drawn -/

noncomputable def T.bndq {α β : Type} (t : T (Rs α)) : Pc → (α → Mem → Pc → T β) → T β := (T.rec (motive := fun _ => Pc → (α → Mem → Pc → T β) → T β) (fun a => fun p f => f a.v a.m p) (fun c _ _ ix iy => fun p f => .br c (ix (p.add c true) f) (iy (p.add c false) f)) (fun s => fun _ _ => .fail s) (t))
noncomputable def T.bndpq {α β : Type} (t : T (Rp α)) : Pc → (α → Pc → T β) → T β := (T.rec (motive := fun _ => Pc → (α → Pc → T β) → T β) (fun a => fun p f => f a.v p) (fun c _ _ ix iy => fun p f => .br c (ix (p.add c true) f) (iy (p.add c false) f)) (fun s => fun _ _ => .fail s) (t))

/-- a memory that was, and the operations (bits) that ended it; 'g': they lay entries into that map, with keys of that type, in any order: then 'm' is the memory without the map -/
structure Sn where
  e : Nat
  m : Mem
  g : Option (Nat × TypeId)

noncomputable def subN (e A : Nat) : Bool := Nat.beq (Nat.land e A) e

/-- an operation that has read, and what it has read -/
structure Wt where
  i : Nat
  f : R V
  v : V
  p : Pc

noncomputable def allL {α : Type} (f : α → Bool) (l : List α) : Bool := (List.rec (motive := fun _ => Bool) (true) (fun a _ ih => (Bool.rec (motive := fun _ => Bool) (false) (ih) (f a))) (l))
noncomputable def keepL {α : Type} (f : α → Bool) (l : List α) : List α := (List.rec (motive := fun _ => List α) ([]) (fun a _ ih => (Bool.rec (motive := fun _ => List α) (a :: ih) (ih) (f a))) (l))

/-- the operation reads the same there -/
noncomputable def sameAt (f : R V) (v : V) (p : Pc) (m : Mem) : Bool := (T.rec (motive := fun _ => Bool) (fun a => eqVV a.v v) (fun _ _ _ _ _ => false) (fun _ => false) (f m p))

noncomputable def slotOk (d : Option Nat) (n : Nat) : Bool := (Option.rec (motive := fun _ => Bool) (true) (fun d => Nat.blt d n) (d))
noncomputable def putE (d : Option Nat) (env : Env) (v : V) : Env := (Option.rec (motive := fun _ => Env) (env) (fun d => env.put d v) (d))

/-- on behind an operation: what the slots, the memories that were, and the operations that have read are now -/
abbrev Kn : Type := Env → List Sn → List Wt → M Env

noncomputable def drRd (dst : Option Nat) (n i A : Nat) (env : Env) (sn : List Sn) (ws : List Wt) (f : R V) (k : Kn) : M Env := fun m p =>
  (f m p).bndpq p fun v p => selB (allL (fun s => orB (subN s.e A) (sameAt f v p s.m)) sn)
    (selB (slotOk dst n) (k (putE dst env v) sn (⟨i, f, v, p⟩ :: ws) m p) (.fail "a slot beyond the frame"))
    (.fail "an operation that may read another value")

noncomputable def lastOk (A : Nat) (sn : List Sn) : Bool := (List.rec (motive := fun _ => Bool) (true) (fun s _ _ => subN s.e A) (sn))

noncomputable def drEf (dst : Option Nat) (n i A : Nat) (env : Env) (sn : List Sn) (ws : List Wt) (f : M V) (k : Kn) : M Env := fun m p =>
  selB (lastOk A sn)
    ((f m p).bndq p fun v m1 p => selB (allL (fun w => orB (bitB A w.i) (sameAt w.f w.v w.p m1)) ws)
      (selB (slotOk dst n) (k (putE dst env v) (⟨Nat.pow 2 i, m, none⟩ :: sn) (keepL (fun w => bitB A w.i) ws) m1 p) (.fail "a slot beyond the frame"))
      (.fail "an operation that may have read another value"))
    (.fail "two operations with no order")

noncomputable def isG (g : Option (Nat × TypeId)) (b : Nat) (kt : TypeId) : Bool := (Option.rec (motive := fun _ => Bool) (false) (fun x => andB (Nat.beq x.1 b) (Nat.beq x.2 kt)) (g))

/-- the memories that were, behind one more entry of the map b: among the last entries, or behind all -/
noncomputable def snIns (b : Nat) (kt : TypeId) (i A : Nat) (m : Mem) (sn : List Sn) : Option (List Sn) := (List.rec (motive := fun _ => Option (List Sn)) (some [⟨Nat.pow 2 i, delB m b, some (b, kt)⟩]) (fun s r _ => selB (andB (isG s.g b kt) (lastOk A r)) (some (⟨Nat.lor s.e (Nat.pow 2 i), s.m, s.g⟩ :: r)) (selB (subN s.e A) (some (⟨Nat.pow 2 i, delB m b, some (b, kt)⟩ :: s :: r)) none)) (sn))

noncomputable def headM (m : Mem) (sn : List Sn) : Mem := (List.rec (motive := fun _ => Mem) (m) (fun s _ _ => s.m) (sn))

noncomputable def drIns (P : Program) (dst : Option Nat) (n i A : Nat) (env : Env) (sn : List Sn) (ws : List Wt) (x : Ins) (k : Kn) : M Env := fun m p =>
  pmOf (m.tr.get x.b) (fun es => selB (allL (fun e => apartK P x.kt m.nb m.nt p x.k e.1) es)
    ((Option.rec (motive := fun _ => T (Rs Env)) (.fail "two operations with no order") (fun sn' => selB (allL (fun w => sameAt w.f w.v w.p (headM m sn')) ws)
        (selB (slotOk dst n) (k (putE dst env undefV) sn' ws (setB m x.b (.pm (es ++ [(x.k, x.v)]) true)) p) (.fail "a slot beyond the frame"))
        (.fail "an operation that may have read another value")) (snIns x.b x.kt i A m sn))) (.fail "an entry the key")) (.fail "an entry no map")

noncomputable def guardO (g : Option (Nat × Bool)) (gr : Nat × Bool → R Bool) : R Bool := (Option.rec (motive := fun _ => R Bool) (R.pure true) (fun g => gr g) (g))

end Go.Sy
