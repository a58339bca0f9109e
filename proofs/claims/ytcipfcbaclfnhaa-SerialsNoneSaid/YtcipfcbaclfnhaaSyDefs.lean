/-
  What is defined here: a symbolic evaluator for the model's code: integer terms, values, an abstract memory, and how conditions are decided.
  Conditions: none (definitions only).
-/
import GoSem.Step
namespace Go.Sy

/-! ### integers, by constructors -/

noncomputable def limN (k : IntKind) : Nat := (IntKind.rec (motive := fun _ => Nat) (128) (32768) (2147483648) (9223372036854775808) (256) (65536) (4294967296) (18446744073709551616) (k))

noncomputable def wrapZ (k : IntKind) (z : Int) : Int := (Int.rec (motive := fun _ => Int) (fun m => (Bool.rec (motive := fun _ => Int) (k.wrap (.ofNat m)) (.ofNat m) (Nat.blt m (limN k)))) (fun m => (Bool.rec (motive := fun _ => Int) (k.wrap (.negSucc m)) (.negSucc m) (k.signed && Nat.blt m (limN k)))) (z))

noncomputable def eqZ (a : Int) : Int → Bool := (Int.rec (motive := fun _ => Int → Bool) (fun a => fun b => (Int.rec (motive := fun _ => Bool) (fun b => Nat.beq a b) (fun _ => false) (b))) (fun a => fun b => (Int.rec (motive := fun _ => Bool) (fun _ => false) (fun b => Nat.beq a b) (b))) (a))

noncomputable def ltZ (a : Int) : Int → Bool := (Int.rec (motive := fun _ => Int → Bool) (fun a => fun b => (Int.rec (motive := fun _ => Bool) (fun b => Nat.blt a b) (fun _ => false) (b))) (fun a => fun b => (Int.rec (motive := fun _ => Bool) (fun _ => true) (fun b => Nat.blt b a) (b))) (a))

noncomputable def notB (a : Bool) : Bool := (Bool.rec (motive := fun _ => Bool) (true) (false) (a))
noncomputable def andB (a b : Bool) : Bool := (Bool.rec (motive := fun _ => Bool) (false) (b) (a))
noncomputable def orB (a b : Bool) : Bool := (Bool.rec (motive := fun _ => Bool) (b) (true) (a))
noncomputable def eqB (a b : Bool) : Bool := (Bool.rec (motive := fun _ => Bool) (notB b) (b) (a))
noncomputable def selB {α : Type} (c : Bool) (t f : α) : α := (Bool.rec (motive := fun _ => α) (f) (t) (c))

noncomputable def leZ (a b : Int) : Bool := notB (ltZ b a)

/-- the model's own bit operations -/
def bitsZ (op : BinOp) (k : IntKind) (x y : Int) : Int :=
  let a := BitVec.ofInt k.bits x
  let b := BitVec.ofInt k.bits y
  match op with
  | .and => k.wrap (a &&& b).toNat
  | .or => k.wrap (a ||| b).toNat
  | .xor => k.wrap (a ^^^ b).toNat
  | _ => k.wrap (a &&& ~~~b).toNat

/-- the same at numbers of the kind that are not negative -/
noncomputable def bitsN (op : BinOp) : Nat → Nat → Nat := (BinOp.rec (motive := fun _ => Nat → Nat → Nat) (fun a b => Nat.xor a (Nat.land a b)) (fun a b => Nat.xor a (Nat.land a b)) (fun a b => Nat.xor a (Nat.land a b)) (fun a b => Nat.xor a (Nat.land a b)) (fun a b => Nat.xor a (Nat.land a b)) (Nat.land) (Nat.lor) (Nat.xor) (fun a b => Nat.xor a (Nat.land a b)) (fun a b => Nat.xor a (Nat.land a b)) (fun a b => Nat.xor a (Nat.land a b)) (fun a b => Nat.xor a (Nat.land a b)) (fun a b => Nat.xor a (Nat.land a b)) (fun a b => Nat.xor a (Nat.land a b)) (fun a b => Nat.xor a (Nat.land a b)) (fun a b => Nat.xor a (Nat.land a b)) (fun a b => Nat.xor a (Nat.land a b)) (op))

noncomputable def bitsF (op : BinOp) (k : IntKind) (x y : Int) : Int := (Int.rec (motive := fun _ => Int) (fun a => (Int.rec (motive := fun _ => Int) (fun b => (Bool.rec (motive := fun _ => Int) (bitsZ op k x y) (.ofNat (bitsN op a b)) (andB (Nat.blt a (limN k)) (Nat.blt b (limN k))))) (fun _ => bitsZ op k x y) (y))) (fun _ => bitsZ op k x y) (x))

noncomputable def shlZ (k : IntKind) (x y : Int) : Int := (Int.rec (motive := fun _ => Int) (fun a => wrapZ k (.ofNat (Nat.mul a (Nat.pow 2 (min y.toNat k.bits))))) (fun _ => k.wrap (x * 2 ^ (min y.toNat k.bits))) (x))

noncomputable def shrZ (k : IntKind) (x y : Int) : Int := (Int.rec (motive := fun _ => Int) (fun a => .ofNat (Nat.div a (Nat.pow 2 (min y.toNat k.bits)))) (fun _ => x.fdiv (2 ^ (min y.toNat k.bits))) (x))

noncomputable def binZ (op : BinOp) : IntKind → Int → Int → Int := (BinOp.rec (motive := fun _ => IntKind → Int → Int → Int) (fun k x y => wrapZ k (Int.add x y)) (fun k x y => wrapZ k (Int.sub x y)) (fun k x y => wrapZ k (Int.mul x y)) (fun k x y => wrapZ k (x.tdiv y)) (fun _ x y => x.tmod y) (bitsF .and) (bitsF .or) (bitsF .xor) (shlZ) (shrZ) (bitsF .andNot) (fun _ _ _ => 0) (fun _ _ _ => 0) (fun _ _ _ => 0) (fun _ _ _ => 0) (fun _ _ _ => 0) (fun _ _ _ => 0) (op))

/-! ### terms -/

/-- an integer term -/
inductive E where
  | n (z : Int)
  | x (i : Nat)
  | bin (op : BinOp) (k : IntKind) (a b : E)
  | cv (k : IntKind) (a : E)
  /-- cell r of element e of the symbolic row a: a number from lo to hi -/
  | rd (a r : Nat) (lo hi : Int) (e : E)
  /-- a table's number at e: from lo to hi -/
  | tab (l : List Int) (lo hi : Int) (e : E)
  deriving Inhabited

/-- the variable of cell r of element j of the row a -/
def rowVar (a r j : Nat) : Nat := 1000 + (r + 64 * a) + 4096 * j

noncomputable def clampZ (lo hi v : Int) : Int := selB (andB (leZ lo v) (leZ v hi)) v lo

noncomputable def nthZ (l : List Int) : Nat → Int := (List.rec (motive := fun _ => Nat → Int) (fun _ => 0) (fun a _ ih => fun i => (Nat.rec (motive := fun _ => Int) (a) (fun i _ => ih i) (i))) (l))

noncomputable def E.den (ρ : Nat → Int) : E → Int
  | .n z => z
  | .x i => ρ i
  | .bin op k a b => binZ op k (a.den ρ) (b.den ρ)
  | .cv k a => k.wrap (a.den ρ)
  | .rd a r lo hi e => clampZ lo hi (ρ (rowVar a r (e.den ρ).toNat))
  | .tab l lo hi e => clampZ lo hi (nthZ l (e.den ρ).toNat)

def opNo : BinOp → Nat
  | .add => 0 | .sub => 1 | .mul => 2 | .quo => 3 | .rem => 4 | .and => 5 | .or => 6 | .xor => 7 | .shl => 8 | .shr => 9 | .andNot => 10
  | .eql => 11 | .neq => 12 | .lss => 13 | .leq => 14 | .gtr => 15 | .geq => 16

noncomputable def kindNo (k : IntKind) : Nat := (IntKind.rec (motive := fun _ => Nat) (0) (1) (2) (3) (4) (5) (6) (7) (k))

noncomputable def eqZs (a : List Int) : List Int → Bool := (List.rec (motive := fun _ => List Int → Bool) (fun b => (List.rec (motive := fun _ => Bool) (true) (fun _ _ _ => false) (b))) (fun x _ ih => fun b => (List.rec (motive := fun _ => Bool) (false) (fun y r _ => andB (eqZ x y) (ih r)) (b))) (a))

noncomputable def E.beq : E → E → Bool
  | .n a, .n b => eqZ a b
  | .x a, .x b => Nat.beq a b
  | .bin o k a b, .bin o' k' a' b' => Nat.beq (opNo o) (opNo o') && Nat.beq (kindNo k) (kindNo k') && E.beq a a' && E.beq b b'
  | .cv k a, .cv k' a' => Nat.beq (kindNo k) (kindNo k') && E.beq a a'
  | .rd a r lo hi e, .rd a' r' lo' hi' e' => Nat.beq a a' && Nat.beq r r' && eqZ lo lo' && eqZ hi hi' && E.beq e e'
  | .tab l lo hi e, .tab l' lo' hi' e' => eqZs l l' && eqZ lo lo' && eqZ hi hi' && E.beq e e'
  | _, _ => false

/-- a condition -/
inductive B where
  | lit (v : Bool)
  | lt (a b : E)
  | eq (a b : E)
  | not (a : B)
  deriving Inhabited

noncomputable def B.den (ρ : Nat → Int) : B → Bool
  | .lit v => v
  | .lt a b => decide (a.den ρ < b.den ρ)
  | .eq a b => a.den ρ == b.den ρ
  | .not a => !a.den ρ

noncomputable def mkNot (a : B) : B := (B.rec (motive := fun _ => B) (fun v => .lit (notB v)) (fun a b => .not (.lt a b)) (fun a b => .not (.eq a b)) (fun a _ => a) (a))

/-- a term that is a number -/
noncomputable def onN {α : Type} (e : E) : (Int → α) → α → α := (E.rec (motive := fun _ => (Int → α) → α → α) (fun z => fun f _ => f z) (fun _ => fun _ d => d) (fun _ _ _ _ _ _ => fun _ d => d) (fun _ _ _ => fun _ d => d) (fun _ _ _ _ _ _ => fun _ d => d) (fun _ _ _ _ _ => fun _ d => d) (e))

noncomputable def mkLt (a b : E) : B := onN a (fun x => onN b (fun y => .lit (ltZ x y)) (.lt a b)) (.lt a b)
noncomputable def mkEq (a b : E) : B := onN a (fun x => onN b (fun y => .lit (eqZ x y)) (.eq a b)) (.eq a b)

noncomputable def mkCmp (op : BinOp) : E → E → B := (BinOp.rec (motive := fun _ => E → E → B) (fun a b => mkNot (mkLt a b)) (fun a b => mkNot (mkLt a b)) (fun a b => mkNot (mkLt a b)) (fun a b => mkNot (mkLt a b)) (fun a b => mkNot (mkLt a b)) (fun a b => mkNot (mkLt a b)) (fun a b => mkNot (mkLt a b)) (fun a b => mkNot (mkLt a b)) (fun a b => mkNot (mkLt a b)) (fun a b => mkNot (mkLt a b)) (fun a b => mkNot (mkLt a b)) (mkEq) (fun a b => mkNot (mkEq a b)) (mkLt) (fun a b => mkNot (mkLt b a)) (fun a b => mkLt b a) (fun a b => mkNot (mkLt a b)) (op))

/-! ### values -/

/-- a capacity: a number, or what a token stands for, less a number -/
inductive Cp where
  | n (c : Nat)
  | t (i k : Nat)
  deriving Inhabited

/-- a value; 'ptr i o': cell o of the abstract block i; 'bad': nothing is known -/
inductive V where
  | bool (b : B)
  | int (k : IntKind) (e : E)
  | str (l : List E)
  | nilPtr
  | ptr (i o : Nat)
  | nilSlice
  | slice (i o len : Nat) (c : Cp)
  | nilMap
  | map (i : Nat)
  | func (fn : Fn) (first captured : List V)
  | nilFunc
  | iface (t : TypeId) (v : V)
  | nilIface
  | agg (l : List V)
  | tuple (l : List V)
  | bad
  /-- a slice over the symbolic row i: elements of 'sz' cells, 'len' of them -/
  | sarr (i sz : Nat) (len : E)
  /-- cell f of element e of the symbolic row i -/
  | sptr (i sz : Nat) (e : E) (f : Nat)
  /-- a slice without elements, somewhere in the block i; 'z': of no capacity -/
  | eslice (i : Nat) (z : Bool)
  deriving Inhabited

/-- a cell of a symbolic row -/
inductive Lf where
  | int (k : IntKind)
  | bool
  deriving DecidableEq, Inhabited

def undefV : V := .tuple []

noncomputable def V.cells (v : V) : List V := (V.rec (motive_1 := fun _ => List V → List V) (motive_2 := fun _ => Unit) (fun _ => fun d => d) (fun _ _ => fun d => d) (fun _ => fun d => d) (fun d => d) (fun _ _ => fun d => d) (fun d => d) (fun _ _ _ _ => fun d => d) (fun d => d) (fun _ => fun d => d) (fun _ _ _ _ _ => fun d => d) (fun d => d) (fun _ _ _ => fun d => d) (fun d => d) (fun l _ => fun _ => l) (fun _ _ => fun d => d) (fun d => d) (fun _ _ _ => fun d => d) (fun _ _ _ _ => fun d => d) (fun _ _ => fun d => d) Unit.unit (fun _ _ _ _ => Unit.unit) (v)) [v]

/-- a value that one cell holds -/
noncomputable def V.cellb (v : V) : Bool := (V.rec (motive_1 := fun _ => Bool) (motive_2 := fun _ => Unit) (fun _ => true) (fun _ _ => true) (fun _ => true) (true) (fun _ _ => true) (true) (fun _ _ _ _ => true) (true) (fun _ => true) (fun _ _ _ _ _ => true) (true) (fun _ _ _ => true) (true) (fun _ _ => false) (fun _ _ => false) (false) (fun _ _ _ => false) (fun _ _ _ _ => false) (fun _ _ => true) Unit.unit (fun _ _ _ _ => Unit.unit) (v))

noncomputable def allCells (l : List V) : Bool := (List.rec (motive := fun _ => Bool) (true) (fun v _ ih => (Bool.rec (motive := fun _ => Bool) (false) (ih) (v.cellb))) (l))

noncomputable def onBool {α : Type} (v : V) : (B → α) → α → α := (V.rec (motive_1 := fun _ => (B → α) → α → α) (motive_2 := fun _ => Unit) (fun b => fun f _ => f b) (fun _ _ => fun _ d => d) (fun _ => fun _ d => d) (fun _ d => d) (fun _ _ => fun _ d => d) (fun _ d => d) (fun _ _ _ _ => fun _ d => d) (fun _ d => d) (fun _ => fun _ d => d) (fun _ _ _ _ _ => fun _ d => d) (fun _ d => d) (fun _ _ _ => fun _ d => d) (fun _ d => d) (fun _ _ => fun _ d => d) (fun _ _ => fun _ d => d) (fun _ d => d) (fun _ _ _ => fun _ d => d) (fun _ _ _ _ => fun _ d => d) (fun _ _ => fun _ d => d) Unit.unit (fun _ _ _ _ => Unit.unit) (v))
noncomputable def onInt {α : Type} (v : V) : (IntKind → E → α) → α → α := (V.rec (motive_1 := fun _ => (IntKind → E → α) → α → α) (motive_2 := fun _ => Unit) (fun _ => fun _ d => d) (fun k e => fun f _ => f k e) (fun _ => fun _ d => d) (fun _ d => d) (fun _ _ => fun _ d => d) (fun _ d => d) (fun _ _ _ _ => fun _ d => d) (fun _ d => d) (fun _ => fun _ d => d) (fun _ _ _ _ _ => fun _ d => d) (fun _ d => d) (fun _ _ _ => fun _ d => d) (fun _ d => d) (fun _ _ => fun _ d => d) (fun _ _ => fun _ d => d) (fun _ d => d) (fun _ _ _ => fun _ d => d) (fun _ _ _ _ => fun _ d => d) (fun _ _ => fun _ d => d) Unit.unit (fun _ _ _ _ => Unit.unit) (v))
noncomputable def onStr {α : Type} (v : V) : (List E → α) → α → α := (V.rec (motive_1 := fun _ => (List E → α) → α → α) (motive_2 := fun _ => Unit) (fun _ => fun _ d => d) (fun _ _ => fun _ d => d) (fun l => fun f _ => f l) (fun _ d => d) (fun _ _ => fun _ d => d) (fun _ d => d) (fun _ _ _ _ => fun _ d => d) (fun _ d => d) (fun _ => fun _ d => d) (fun _ _ _ _ _ => fun _ d => d) (fun _ d => d) (fun _ _ _ => fun _ d => d) (fun _ d => d) (fun _ _ => fun _ d => d) (fun _ _ => fun _ d => d) (fun _ d => d) (fun _ _ _ => fun _ d => d) (fun _ _ _ _ => fun _ d => d) (fun _ _ => fun _ d => d) Unit.unit (fun _ _ _ _ => Unit.unit) (v))
noncomputable def onPtr {α : Type} (v : V) : (Nat → Nat → α) → α → α := (V.rec (motive_1 := fun _ => (Nat → Nat → α) → α → α) (motive_2 := fun _ => Unit) (fun _ => fun _ d => d) (fun _ _ => fun _ d => d) (fun _ => fun _ d => d) (fun _ d => d) (fun i o => fun f _ => f i o) (fun _ d => d) (fun _ _ _ _ => fun _ d => d) (fun _ d => d) (fun _ => fun _ d => d) (fun _ _ _ _ _ => fun _ d => d) (fun _ d => d) (fun _ _ _ => fun _ d => d) (fun _ d => d) (fun _ _ => fun _ d => d) (fun _ _ => fun _ d => d) (fun _ d => d) (fun _ _ _ => fun _ d => d) (fun _ _ _ _ => fun _ d => d) (fun _ _ => fun _ d => d) Unit.unit (fun _ _ _ _ => Unit.unit) (v))
noncomputable def onAgg {α : Type} (v : V) : (List V → α) → α → α := (V.rec (motive_1 := fun _ => (List V → α) → α → α) (motive_2 := fun _ => Unit) (fun _ => fun _ d => d) (fun _ _ => fun _ d => d) (fun _ => fun _ d => d) (fun _ d => d) (fun _ _ => fun _ d => d) (fun _ d => d) (fun _ _ _ _ => fun _ d => d) (fun _ d => d) (fun _ => fun _ d => d) (fun _ _ _ _ _ => fun _ d => d) (fun _ d => d) (fun _ _ _ => fun _ d => d) (fun _ d => d) (fun l _ => fun f _ => f l) (fun _ _ => fun _ d => d) (fun _ d => d) (fun _ _ _ => fun _ d => d) (fun _ _ _ _ => fun _ d => d) (fun _ _ => fun _ d => d) Unit.unit (fun _ _ _ _ => Unit.unit) (v))
noncomputable def onTup {α : Type} (v : V) : (List V → α) → α → α := (V.rec (motive_1 := fun _ => (List V → α) → α → α) (motive_2 := fun _ => Unit) (fun _ => fun _ d => d) (fun _ _ => fun _ d => d) (fun _ => fun _ d => d) (fun _ d => d) (fun _ _ => fun _ d => d) (fun _ d => d) (fun _ _ _ _ => fun _ d => d) (fun _ d => d) (fun _ => fun _ d => d) (fun _ _ _ _ _ => fun _ d => d) (fun _ d => d) (fun _ _ _ => fun _ d => d) (fun _ d => d) (fun _ _ => fun _ d => d) (fun l _ => fun f _ => f l) (fun _ d => d) (fun _ _ _ => fun _ d => d) (fun _ _ _ _ => fun _ d => d) (fun _ _ => fun _ d => d) Unit.unit (fun _ _ _ _ => Unit.unit) (v))
noncomputable def onMap {α : Type} (v : V) : (Nat → α) → α → α := (V.rec (motive_1 := fun _ => (Nat → α) → α → α) (motive_2 := fun _ => Unit) (fun _ => fun _ d => d) (fun _ _ => fun _ d => d) (fun _ => fun _ d => d) (fun _ d => d) (fun _ _ => fun _ d => d) (fun _ d => d) (fun _ _ _ _ => fun _ d => d) (fun _ d => d) (fun i => fun f _ => f i) (fun _ _ _ _ _ => fun _ d => d) (fun _ d => d) (fun _ _ _ => fun _ d => d) (fun _ d => d) (fun _ _ => fun _ d => d) (fun _ _ => fun _ d => d) (fun _ d => d) (fun _ _ _ => fun _ d => d) (fun _ _ _ _ => fun _ d => d) (fun _ _ => fun _ d => d) Unit.unit (fun _ _ _ _ => Unit.unit) (v))
noncomputable def onIface {α : Type} (v : V) : (TypeId → V → α) → α → α := (V.rec (motive_1 := fun _ => (TypeId → V → α) → α → α) (motive_2 := fun _ => Unit) (fun _ => fun _ d => d) (fun _ _ => fun _ d => d) (fun _ => fun _ d => d) (fun _ d => d) (fun _ _ => fun _ d => d) (fun _ d => d) (fun _ _ _ _ => fun _ d => d) (fun _ d => d) (fun _ => fun _ d => d) (fun _ _ _ _ _ => fun _ d => d) (fun _ d => d) (fun t x _ => fun f _ => f t x) (fun _ d => d) (fun _ _ => fun _ d => d) (fun _ _ => fun _ d => d) (fun _ d => d) (fun _ _ _ => fun _ d => d) (fun _ _ _ _ => fun _ d => d) (fun _ _ => fun _ d => d) Unit.unit (fun _ _ _ _ => Unit.unit) (v))

inductive Blk where
  /-- cells; 'wr': they may be written; 'pl': no mark of a string on them; 'g': a token and the size of an element, if the row goes on behind what is known, up to the token's number of elements -/
  | cells (l : List V) (wr pl : Bool) (g : Option (Nat × Nat))
  | map (es : List (V × V × Nat)) (clock : Nat) (wr : Bool)
  | siter (l : List E) (pos : Nat)
  /-- the symbolic row a: n elements, of such cells -/
  | srow (a : Nat) (ls : List Lf) (n : E)
  /-- a map: its entries, whatever their order -/
  | pm (es : List (V × V)) (wr : Bool)
  deriving Inhabited

/-! ### a trie with four children a node -/

inductive Tr (α : Type) where
  | nil
  | node (v : Option α) (t0 t1 t2 t3 : Tr α)
  deriving Inhabited

noncomputable def Tr.get {α : Type} (t : Tr α) : Nat → Option α :=
  Tr.rec (motive := fun _ => Nat → Option α) (fun _ => none) (fun v _ _ _ _ g0 g1 g2 g3 k => Nat.rec v (fun k _ =>
    Bool.rec (Bool.rec (g3 (Nat.div k 4)) (g2 (Nat.div k 4)) (Nat.beq (Nat.mod k 4) 2)) (Bool.rec (g1 (Nat.div k 4)) (g0 (Nat.div k 4)) (Nat.beq (Nat.mod k 4) 0)) (Nat.blt (Nat.mod k 4) 2)) k) t

noncomputable def Tr.open {α : Type} (t : Tr α) : Tr α := Tr.rec (.node none .nil .nil .nil .nil) (fun u t0 t1 t2 t3 _ _ _ _ => .node u t0 t1 t2 t3) t

noncomputable def Tr.setF {α : Type} (f : Nat) : Option α → Tr α → Nat → Tr α :=
  Nat.rec (fun _ t _ => t) (fun _ ih v t k =>
    Tr.rec (motive := fun _ => Tr α) .nil
      (fun u t0 t1 t2 t3 _ _ _ _ => Nat.rec (.node v t0 t1 t2 t3) (fun k _ => Bool.rec
        (Bool.rec (.node u t0 t1 t2 (ih v t3 (Nat.div k 4))) (.node u t0 t1 (ih v t2 (Nat.div k 4)) t3) (Nat.beq (Nat.mod k 4) 2))
        (Bool.rec (.node u t0 (ih v t1 (Nat.div k 4)) t2 t3) (.node u (ih v t0 (Nat.div k 4)) t1 t2 t3) (Nat.beq (Nat.mod k 4) 0)) (Nat.blt (Nat.mod k 4) 2)) k)
      t.open) f

noncomputable def Tr.set {α : Type} (t : Tr α) (k : Nat) (v : α) : Tr α := Tr.setF (Nat.succ k) (some v) t k
noncomputable def Tr.del {α : Type} (t : Tr α) (k : Nat) : Tr α := Tr.setF (Nat.succ k) none t k

/-! ### states, trees of outcomes -/

structure Mem where
  tr : Tr Blk
  nb : Nat
  tok : Tr Nat
  nt : Nat
  deriving Inhabited

/-- the path's conditions, and the ranges of the variables -/
structure Pc where
  cs : List (B × Bool)
  rng : List (Int × Int)
  deriving Inhabited

inductive T (α : Type) where
  | ret (a : α)
  | br (c : B) (x y : T α)
  | fail (why : String)
  deriving Inhabited

/-- a value, the memory, the path -/
structure Rs (α : Type) where
  v : α
  m : Mem
  p : Pc

/-- a value, the path -/
structure Rp (α : Type) where
  v : α
  p : Pc

noncomputable def T.bnd {α β : Type} (t : T (Rs α)) : (α → Mem → Pc → T β) → T β := (T.rec (motive := fun _ => (α → Mem → Pc → T β) → T β) (fun a => fun f => Rs.rec (motive := fun _ => T β) f a) (fun c _ _ ix iy => fun f => .br c (ix f) (iy f)) (fun s => fun _ => .fail s) (t))
noncomputable def T.bndp {α β : Type} (t : T (Rp α)) : (α → Pc → T β) → T β := (T.rec (motive := fun _ => (α → Pc → T β) → T β) (fun a => fun f => Rp.rec (motive := fun _ => T β) f a) (fun c _ _ ix iy => fun f => .br c (ix f) (iy f)) (fun s => fun _ => .fail s) (t))

/-- a computation that reads -/
def R (α : Type) : Type := Mem → Pc → T (Rp α)
/-- a computation -/
def M (α : Type) : Type := Mem → Pc → T (Rs α)

def R.pure {α : Type} (a : α) : R α := fun _ p => .ret ⟨a, p⟩
def R.fail {α : Type} (s : String) : R α := fun _ _ => .fail s
noncomputable def R.bnd {α β : Type} (x : R α) (f : α → R β) : R β := fun m p => (x m p).bndp fun v p => f v m p
def M.pure {α : Type} (a : α) : M α := fun m p => .ret ⟨a, m, p⟩
def M.fail {α : Type} (s : String) : M α := fun _ _ => .fail s
noncomputable def M.bnd {α β : Type} (x : M α) (f : α → M β) : M β := fun m p => (x m p).bnd f
noncomputable def R.thn {α β : Type} (x : R α) (f : α → M β) : M β := fun m p => (x m p).bndp fun v p => f v m p
noncomputable def R.opt {α : Type} (s : String) (x : Option α) : R α := (Option.rec (motive := fun _ => R α) (R.fail s) (fun a => R.pure a) (x))

/-! ### deciding conditions -/

noncomputable def kMin (k : IntKind) : Int := cond k.signed (-(limN k : Int)) 0
noncomputable def kMax (k : IntKind) : Int := (limN k : Int) - 1

noncomputable def minZ (a b : Int) : Int := cond (ltZ b a) b a
noncomputable def maxZ (a b : Int) : Int := cond (ltZ a b) b a

/-- within the kind, or the kind's whole range -/
noncomputable def clip (k : IntKind) (lo hi : Int) : Option (Int × Int) :=
  cond (leZ (kMin k) lo && leZ hi (kMax k)) (some (lo, hi)) (some (kMin k, kMax k))

/-- bounds of a term, if any are known -/
noncomputable def E.iv (rng : List (Int × Int)) : E → Option (Int × Int)
  | .n z => some (z, z)
  | .x i => rng[i]?
  | .rd _ _ lo hi _ => selB (leZ lo hi) (some (lo, hi)) none
  | .tab _ lo hi _ => selB (leZ lo hi) (some (lo, hi)) none
  | .cv k a =>
    match a.iv rng with
    | some (lo, hi) => clip k lo hi
    | none => some (kMin k, kMax k)
  | .bin op k a b =>
    match op, a.iv rng, b.iv rng with
    | .add, some (al, ah), some (bl, bh) => clip k (al + bl) (ah + bh)
    | .sub, some (al, ah), some (bl, bh) => clip k (al - bh) (ah - bl)
    | .mul, some (al, ah), some (bl, bh) => cond (leZ 0 al && leZ 0 bl) (clip k (Int.mul al bl) (Int.mul ah bh)) (some (kMin k, kMax k))
    | .rem, some (al, ah), some (bl, bh) => cond (leZ 0 al && ltZ 0 bl) (some (0, minZ ah (bh - 1))) none
    | .quo, some (al, ah), some (bl, _) => cond (leZ 0 al && ltZ 0 bl && leZ ah (kMax k)) (some (0, ah)) none
    | .and, some (al, ah), some (bl, bh) => cond (leZ 0 al && leZ 0 bl && leZ ah (kMax k) && leZ bh (kMax k)) (some (0, minZ ah bh)) none
    | .shr, some (al, ah), some (bl, bh) => cond (leZ 0 al) (cond (leZ 0 bl && eqZ bl bh && leZ bl k.bits) (some (0, Int.ofNat (Nat.div ah.toNat (Nat.pow 2 bl.toNat)))) (some (0, ah))) none
    | .shl, some (al, ah), some (bl, bh) => cond (leZ 0 al && leZ 0 bl && eqZ bl bh && leZ bl k.bits && leZ (Int.mul ah (Int.ofNat (Nat.pow 2 bl.toNat))) (kMax k)) (some (0, Int.mul ah (Int.ofNat (Nat.pow 2 bl.toNat)))) none
    | .or, some (al, ah), some (bl, bh) => cond (leZ 0 al && leZ 0 bl && leZ ah (kMax k) && leZ bh (kMax k)) (some (0, Int.sub (Int.ofNat (Nat.pow 2 (Nat.succ (Nat.log2 (maxZ ah bh).toNat)))) 1)) none
    | .andNot, some (al, ah), some (bl, bh) => cond (leZ 0 al && leZ 0 bl && leZ ah (kMax k) && leZ bh (kMax k)) (some (0, ah)) none
    | _, _, _ => none

noncomputable def ltIv (a b : Option (Int × Int)) : Option Bool :=
  match a, b with
  | some (al, ah), some (bl, bh) => cond (ltZ ah bl) (some true) (cond (leZ bh al) (some false) none)
  | _, _ => none

noncomputable def eqIv (a b : Option (Int × Int)) : Option Bool :=
  match a, b with
  | some (al, ah), some (bl, bh) => cond (ltZ ah bl || ltZ bh al) (some false) (cond (eqZ al ah && eqZ bl bh && eqZ al bl) (some true) none)
  | _, _ => none

noncomputable def ivLt (rng : List (Int × Int)) (a b : E) : Option Bool := ltIv (a.iv rng) (b.iv rng)
noncomputable def ivEq (rng : List (Int × Int)) (a b : E) : Option Bool := eqIv (a.iv rng) (b.iv rng)

/-- what a condition of the path says of 'a < b' -/
noncomputable def factLt (a b : E) : B × Bool → Option Bool
  | (.lt c d, v) => cond (E.beq a c && E.beq b d) (some v) (cond (v && E.beq a d && E.beq b c) (some false) none)
  | (.eq c d, v) => cond (v && (E.beq a c && E.beq b d || E.beq a d && E.beq b c)) (some false) none
  | _ => none

noncomputable def factEq (a b : E) : B × Bool → Option Bool
  | (.eq c d, v) => cond (E.beq a c && E.beq b d || E.beq a d && E.beq b c) (some v) none
  | (.lt c d, v) => cond (v && (E.beq a c && E.beq b d || E.beq a d && E.beq b c)) (some false) none
  | _ => none

def findFact (f : B × Bool → Option Bool) : List (B × Bool) → Option Bool
  | [] => none
  | c :: cs => match f c with
    | some v => some v
    | none => findFact f cs

/-- a remainder is less than what it is divided by -/
noncomputable def remLt (rng : List (Int × Int)) : E → E → Bool
  | .bin op _ x y, c => Nat.beq (opNo op) 4 && E.beq y c && (match x.iv rng with | some (l, _) => leZ 0 l | none => false) && (match y.iv rng with | some (l, _) => ltZ 0 l | none => false)
  | _, _ => false

/-- what a condition of the path says of a term's bounds -/
noncomputable def neIv (r : Int × Int) (z : Int) : Int × Int := (cond (eqZ r.1 z) (Int.add z 1) r.1, cond (eqZ r.2 z) (Int.sub z 1) r.2)

noncomputable def factIv (a : E) (c : B × Bool) (r : Int × Int) : Int × Int := (B.rec (motive := fun _ => Int × Int) (fun _ => r) (fun x y => onN y (fun z => selB (E.beq a x) (selB c.2 (r.1, minZ r.2 (Int.sub z 1)) (maxZ r.1 z, r.2)) r) (onN x (fun z => selB (E.beq a y) (selB c.2 (maxZ r.1 (Int.add z 1), r.2) (r.1, minZ r.2 z)) r) r)) (fun x y => onN y (fun z => selB (E.beq a x) (selB c.2 (z, z) (neIv r z)) r) (onN x (fun z => selB (E.beq a y) (selB c.2 (z, z) (neIv r z)) r) r)) (fun _ _ => r) (c.1))

noncomputable def foldIv (a : E) (r : Int × Int) (cs : List (B × Bool)) : Int × Int := (List.rec (motive := fun _ => Int × Int) (r) (fun c _ ih => factIv a c ih) (cs))

noncomputable def foldO (a : E) (cs : List (B × Bool)) (r : Option (Int × Int)) : Option (Int × Int) := (Option.rec (motive := fun _ => Option (Int × Int)) (none) (fun r => some (foldIv a r cs)) (r))

noncomputable def ivAdd (op : BinOp) (k : IntKind) (a b d : Option (Int × Int)) : Option (Int × Int) := (BinOp.rec (motive := fun _ => Option (Int × Int)) ((Option.rec (motive := fun _ => Option (Int × Int)) (d) (fun x => (Option.rec (motive := fun _ => Option (Int × Int)) (d) (fun y => clip k (Int.add x.1 y.1) (Int.add x.2 y.2)) (b))) (a))) (d) (d) (d) (d) (d) (d) (d) (d) (d) (d) (d) (d) (d) (d) (d) (d) (op))

noncomputable def ivf (p : Pc) (a : E) : Option (Int × Int) := (E.rec (motive := fun _ => Option (Int × Int)) (fun z => some (z, z)) (fun i => foldO (.x i) p.cs (E.iv p.rng (.x i))) (fun op k a b ia ib => foldO (.bin op k a b) p.cs (ivAdd op k ia ib (E.iv p.rng (.bin op k a b)))) (fun k a _ => foldO (.cv k a) p.cs (E.iv p.rng (.cv k a))) (fun a r lo hi e _ => foldO (.rd a r lo hi e) p.cs (E.iv p.rng (.rd a r lo hi e))) (fun l lo hi e _ => foldO (.tab l lo hi e) p.cs (E.iv p.rng (.tab l lo hi e))) (a))

noncomputable def facLt (p : Pc) (a b : E) : Option Bool := onN b (fun z => ltIv (ivf p a) (some (z, z))) (onN a (fun z => ltIv (some (z, z)) (ivf p b)) none)
noncomputable def facEq (p : Pc) (a b : E) : Option Bool := onN b (fun z => eqIv (ivf p a) (some (z, z))) (onN a (fun z => eqIv (some (z, z)) (ivf p b)) none)

noncomputable def orElse' (x y : Option Bool) : Option Bool := (Option.rec (motive := fun _ => Option Bool) (y) (fun v => some v) (x))

noncomputable def dec (p : Pc) : B → Option Bool
  | .lit v => some v
  | .not a => (dec p a).map not
  | .lt a b => match ivLt p.rng a b with
    | some v => some v
    | none => cond (E.beq a b) (some false) (cond (remLt p.rng a b) (some true) (orElse' (findFact (factLt a b) p.cs) (facLt p a b)))
  | .eq a b => match ivEq p.rng a b with
    | some v => some v
    | none => cond (E.beq a b) (some true) (orElse' (findFact (factEq a b) p.cs) (facEq p a b))

def setRng (rng : List (Int × Int)) (i : Nat) (f : Int × Int → Int × Int) : List (Int × Int) :=
  match rng, i with
  | [], _ => []
  | x :: l, 0 => f x :: l
  | x :: l, i + 1 => x :: setRng l i f

/-- a variable's range behind a condition -/
noncomputable def narrow (rng : List (Int × Int)) : B → Bool → List (Int × Int)
  | .lt (.x i) (.n c), true => setRng rng i fun r => (r.1, minZ r.2 (c - 1))
  | .lt (.x i) (.n c), false => setRng rng i fun r => (maxZ r.1 c, r.2)
  | .lt (.n c) (.x i), true => setRng rng i fun r => (maxZ r.1 (c + 1), r.2)
  | .lt (.n c) (.x i), false => setRng rng i fun r => (r.1, minZ r.2 c)
  | .eq (.x i) (.n c), true => setRng rng i fun _ => (c, c)
  | .eq (.n c) (.x i), true => setRng rng i fun _ => (c, c)
  | .eq (.x i) (.n c), false => setRng rng i fun r => (cond (eqZ r.1 c) (c + 1) r.1, cond (eqZ r.2 c) (c - 1) r.2)
  | .not a, v => narrow rng a (!v)
  | _, _ => rng

/-- the condition without the 'not's in front -/
def strip : B → Bool → B × Bool
  | .not a, v => strip a (!v)
  | a, v => (a, v)

noncomputable def Pc.add (p : Pc) (c : B) (v : Bool) : Pc := { cs := strip c v :: p.cs, rng := narrow p.rng c v }

/-! ### deciding by trying: a condition of one variable with few values -/

/-- the atoms of a term: 'some none': none; 'none': more than one; else the one -/
abbrev At1 : Type := Option (Option E)
noncomputable def at2 (a b : At1) : At1 := (Option.rec (motive := fun _ => At1) (none) (fun x => (Option.rec (motive := fun _ => At1) (b) (fun x => (Option.rec (motive := fun _ => At1) (none) (fun y => (Option.rec (motive := fun _ => At1) (some (some x)) (fun y => selB (E.beq x y) (some (some x)) none) (y))) (b))) (x))) (a))
noncomputable def E.at1 (e : E) : At1 := (E.rec (motive := fun _ => At1) (fun _ => some none) (fun i => some (some (.x i))) (fun _ _ _ _ ia ib => at2 ia ib) (fun _ _ ia => ia) (fun a r lo hi e _ => some (some (.rd a r lo hi e))) (fun _ _ _ _ ie => ie) (e))
noncomputable def B.at1 (c : B) : At1 := (B.rec (motive := fun _ => At1) (fun _ => some none) (fun a b => at2 a.at1 b.at1) (fun a b => at2 a.at1 b.at1) (fun _ ih => ih) (c))

/-- the term's value where its atoms are 'z' -/
noncomputable def E.dn (e : E) : Int → Int := (E.rec (motive := fun _ => Int → Int) (fun a => fun _ => a) (fun _ => fun z => z) (fun op k _ _ ia ib => fun z => binZ op k (ia z) (ib z)) (fun k _ ia => fun z => wrapZ k (ia z)) (fun _ _ _ _ _ _ => fun z => z) (fun l lo hi _ ie => fun z => clampZ lo hi (nthZ l (Int.toNat (ie z)))) (e))
noncomputable def B.dn (c : B) : Int → Bool := (B.rec (motive := fun _ => Int → Bool) (fun v => fun _ => v) (fun a b => fun z => ltZ (a.dn z) (b.dn z)) (fun a b => fun z => eqZ (a.dn z) (b.dn z)) (fun _ ih => fun z => notB (ih z)) (c))

noncomputable def isAt (x : E) (a : At1) : Bool := (Option.rec (motive := fun _ => Bool) (false) (fun y => (Option.rec (motive := fun _ => Bool) (false) (fun y => E.beq x y) (y))) (a))

/-- the facts of the path about that variable alone -/
noncomputable def factsOf (k : E) (cs : List (B × Bool)) : List (B × Bool) := (List.rec (motive := fun _ => List (B × Bool)) ([]) (fun c _ ih => (Bool.rec (motive := fun _ => List (B × Bool)) (ih) (c :: ih) (isAt k c.1.at1))) (cs))
noncomputable def holdAt (z : Int) (cs : List (B × Bool)) : Bool := (List.rec (motive := fun _ => Bool) (true) (fun c _ ih => (Bool.rec (motive := fun _ => Bool) ((Bool.rec (motive := fun _ => Bool) (ih) (false) (c.2))) ((Bool.rec (motive := fun _ => Bool) (false) (ih) (c.2))) (c.1.dn z))) (cs))

/-- at all of lo, lo + 1, .. (n of them) where the facts hold, the condition is 'v' -/
noncomputable def allAt (c : B) (v : Bool) (cs : List (B × Bool)) (lo : Int) (n : Nat) : Bool := (Nat.rec (motive := fun _ => Bool) (true) (fun i ih => (Bool.rec (motive := fun _ => Bool) (ih) ((Bool.rec (motive := fun _ => Bool) (false) (ih) (eqB (c.dn (Int.add lo (.ofNat i))) v))) (holdAt (Int.add lo (.ofNat i)) cs))) (n))

noncomputable def tryAll (c : B) (cs : List (B × Bool)) (lo : Int) (n : Nat) : Option Bool :=
  selB (Nat.ble n 300) (selB (allAt c true cs lo n) (some true) (selB (allAt c false cs lo n) (some false) none)) none

noncomputable def isVar (e : E) : Bool := (E.rec (motive := fun _ => Bool) (fun _ => false) (fun _ => true) (fun _ _ _ _ _ _ => false) (fun _ _ _ => false) (fun _ _ _ _ _ _ => true) (fun _ _ _ _ _ => false) (e))
noncomputable def isNum (e : E) : Bool := (E.rec (motive := fun _ => Bool) (fun _ => true) (fun _ => false) (fun _ _ _ _ _ _ => false) (fun _ _ _ => false) (fun _ _ _ _ _ _ => false) (fun _ _ _ _ _ => false) (e))

/-- a variable held against a number -/
noncomputable def plainCmp (c : B) : Bool := (B.rec (motive := fun _ => Bool) (fun _ => true) (fun a b => orB (andB (isVar a) (isNum b)) (andB (isNum a) (isVar b))) (fun a b => orB (andB (isVar a) (isNum b)) (andB (isNum a) (isVar b))) (fun _ ih => ih) (c))

noncomputable def enumDec (p : Pc) (c : B) : Option Bool := (Option.rec (motive := fun _ => Option Bool) (none) (fun x => (Option.rec (motive := fun _ => Option Bool) (none) (fun x => (Option.rec (motive := fun _ => Option Bool) (none) (fun r => selB (andB (plainCmp c) (ltZ (Int.add r.1 12) r.2)) none (tryAll c (factsOf x p.cs) r.1 (Int.toNat (Int.add (Int.sub r.2 r.1) 1)))) (ivf p x))) (x))) (c.at1))

noncomputable def decE (p : Pc) (c : B) : Option Bool :=
  match dec p c with
  | some v => some v
  | none => enumDec p c

noncomputable def decS (c : B) : R Bool := fun _ p =>
  match decE p c with
  | some v => .ret ⟨v, p⟩
  | none => .br c (.ret ⟨true, p.add c true⟩) (.ret ⟨false, p.add c false⟩)

noncomputable def decR (c : B) : R Bool := (B.rec (motive := fun _ => B → R Bool) (fun v => fun _ => R.pure v) (fun _ _ => decS) (fun _ _ => decS) (fun _ _ => decS) (c)) c

/-- the number that a term is -/
noncomputable def litS (e : E) : R Int := fun _ p =>
  match e.iv p.rng with
  | some (lo, hi) => cond (eqZ lo hi) (.ret ⟨lo, p⟩) (.fail "a number that is not known")
  | none => .fail "a number that is not known"

noncomputable def litR (e : E) : R Int := onN e R.pure (litS e)

noncomputable def natZ (z : Int) : R Nat := (Int.rec (motive := fun _ => R Nat) (fun n => R.pure n) (fun _ => R.fail "a number below 0") (z))

noncomputable def natR (e : E) : R Nat := onN e natZ ((litS e).bnd natZ)

/-! ### values of the text -/

noncomputable def mapO {α β : Type} (f : α → Option β) (l : List α) : Option (List β) := (List.rec (motive := fun _ => Option (List β)) (some []) (fun a _ ih => (Option.rec (motive := fun _ => Option (List β)) (none) (fun b => (Option.rec (motive := fun _ => Option (List β)) (none) (fun r => some (b :: r)) (ih))) (f a))) (l))

def sliceVal : Option Addr → Nat → Nat → Option V
  | none, 0, 0 => some .nilSlice
  | _, _, _ => none

def ptrVal : Option Addr → Option V
  | none => some .nilPtr
  | some _ => none

def mapVal : Option Nat → Option V
  | none => some .nilMap
  | some _ => none

noncomputable def intVal (k : IntKind) (n : Int) : Option V := cond (leZ (kMin k) n && leZ n (kMax k)) (some (.int k (.n n))) none

def strVal' (s : ByteArray) : Option V := some (.str (s.data.toList.map fun c => .n (.ofNat c.toNat)))

def funcVal (fn : Fn) : Option (List V) → Option (List V) → Option V
  | some a, some b => some (.func fn a b)
  | _, _ => none

/-- a constant of the text -/
noncomputable def ofVal : Nat → Value → Option V
  | 0 => fun _ => none
  | d + 1 => fun v =>
    match v with
    | .bool x => some (.bool (.lit x))
    | .int k n => intVal k n
    | .string s => strVal' s
    | .pointer a => ptrVal a
    | .slice a n c => sliceVal a n c
    | .map r => mapVal r
    | .nilFunc => some .nilFunc
    | .nilIface => some .nilIface
    | .func fn first captured => funcVal fn (mapO (ofVal d) first.toList) (mapO (ofVal d) captured.toList)
    | .iface t x => (ofVal d x).map (.iface t)
    | .agg cs => (mapO (ofVal d) cs.toList).map .agg
    | .tuple cs => (mapO (ofVal d) cs.toList).map .tuple
    | _ => none

noncomputable def constV (v : Value) : V := (Option.rec (motive := fun _ => V) (.bad) (fun x => x) (ofVal 8 v))

/-- the frame's slots -/
abbrev Env : Type := Nat → V

noncomputable def Env.put (env : Env) (d : Nat) (v : V) : Env := fun j => (Bool.rec (motive := fun _ => V) (env j) (v) (Nat.beq j d))

noncomputable def opd (x : Operand) : Env → V := (Operand.rec (motive := fun _ => Env → V) (fun t => fun env => env t) (fun v => fun _ => constV v) (fun g => fun _ => selB (Nat.blt g 4096) (.ptr g 0) .bad) (fun f => fun _ => .func (.func f) [] []) (x))

noncomputable def opds (l : List Operand) : Env → List V := (List.rec (motive := fun _ => Env → List V) (fun _ => []) (fun x _ ih => fun env => opd x env :: ih env) (l))

end Go.Sy
