/-
  What is defined here: the symbolic evaluator's operations.
  Conditions: none (definitions only).
-/
import Derived.Test.YtcipfcbaclfnhaaSyDefs
namespace Go.Sy

/-! ### types: each of these is a closed term where it is used, and is reckoned once -/

def szOf (P : Program) (t : TypeId) : Option Nat := (P.info? t).map (·.size)

def aggD : TypeDesc → Bool
  | .struct _ => true
  | .array _ _ => true
  | _ => false

def isAggT (P : Program) (t : TypeId) : Option Bool := (P.underlying t).map aggD

/-- none: a plain cell; some n: n cells -/
def aggSz (P : Program) (t : TypeId) : Option (Option Nat) :=
  match isAggT P t, szOf P t with
  | some true, some n => some (some n)
  | some false, some _ => some none
  | _, _ => none

noncomputable def zeroOf (P : Program) (t : TypeId) : Option V :=
  match P.info? t with
  | some i => match i.zero with
    | some z => ofVal 8 z
    | none => none
  | none => none

def isByteT (P : Program) (t : TypeId) : Bool :=
  match P.underlying t with
  | some (.int .u8) => true
  | _ => false

def isStrT (P : Program) (t : TypeId) : Bool :=
  match P.underlying t with
  | some .string => true
  | _ => false

def isMapT (P : Program) (t : TypeId) : Bool :=
  match P.underlying t with
  | some (.map _ _) => true
  | _ => false

def hasT (P : Program) (t : TypeId) : Bool :=
  match P.underlying t with
  | some _ => true
  | none => false

def elemOf (P : Program) (t : TypeId) : Option TypeId :=
  match P.underlying t with
  | some (.slice e) => some e
  | _ => none

def ptrElem (P : Program) (t : TypeId) : Option TypeId :=
  match P.underlying t with
  | some (.pointer e) => some e
  | _ => none

def intT (P : Program) (t : TypeId) : Option IntKind :=
  match P.underlying t with
  | some (.int k) => some k
  | _ => none

def fieldOf (P : Program) (t : TypeId) (f : Nat) : Option Field :=
  match P.underlying t with
  | some (.struct fields) => fields[f]?
  | _ => none

def posO : Option Nat → Bool
  | some (_ + 1) => true
  | _ => false

/-- where a field of some size lies -/
def fieldOff (P : Program) (t : TypeId) (f : Nat) : Option Nat :=
  match fieldOf P t f with
  | some fd => cond (posO (szOf P fd.type)) (some fd.offset) none
  | none => none

/-- an array's length, its element, the element's size -/
def arrOf (P : Program) (t : TypeId) : Option (Nat × TypeId × Nat) :=
  match P.underlying t with
  | some (.array n e) => (szOf P e).map fun s => (n, e, s)
  | _ => none

/-- a slice's element, and its size -/
def slcOf (P : Program) (t : TypeId) : Option (TypeId × Nat) :=
  match P.underlying t with
  | some (.slice e) => (szOf P e).map fun s => (e, s)
  | _ => none

def placesOf (P : Program) : List Field → Option (List (Nat × Nat))
  | [] => some []
  | f :: fs => match szOf P f.type, placesOf P fs with
    | some n, some r => some ((f.offset, n) :: r)
    | _, _ => none

def structPlaces (P : Program) (t : TypeId) : Option (List (Nat × Nat)) :=
  match P.underlying t with
  | some (.struct fs) => placesOf P fs.toList
  | _ => none

/-- a type of keys that are numbers, texts, or yes and no -/
def plainK (P : Program) (t : TypeId) : Bool :=
  match P.underlying t with
  | some (.int _) => true
  | some .string => true
  | some .bool => true
  | _ => false

/-- an array of numbers: its length, its element -/
def keyArr (P : Program) (t : TypeId) : Option (Nat × TypeId) :=
  match P.underlying t with
  | some (.array n e) => match P.underlying e, szOf P e with
    | some (.int _), some 1 => some (n, e)
    | _, _ => none
  | _ => none

def keyOK (P : Program) (t : TypeId) : Bool := plainK P t || (keyArr P t).isSome

/-- a map's key type, and element type -/
def mapOf (P : Program) (t : TypeId) : Option (TypeId × TypeId) :=
  match P.underlying t with
  | some (.map k e) => cond (keyOK P k) (some (k, e)) none
  | _ => none

/-- an interface's methods -/
def wantsOf (P : Program) (t : TypeId) : Option (Array (String × TypeId)) :=
  match P.underlying t with
  | some (.interface w) => some w
  | _ => none

def meets (P : Program) (w : Array (String × TypeId)) (u : TypeId) : Option Bool :=
  match P.info? u with
  | some i => match Instr.missingMethod w i.methods with
    | none => some true
    | some _ => some false
  | none => none

/-- a type's method: its function, and whether it takes a pointer; only those with no path -/
def methodOf (P : Program) (t : TypeId) (name : String) : Option (FuncId × Bool) :=
  match P.info? t with
  | none => none
  | some i => match i.methods.find? (·.name == name) with
    | none => none
    | some mt => match mt.path.toList with
      | [] => mt.func
      | _ :: _ => none

def comparableT (P : Program) (t : TypeId) : Bool :=
  match P.info? t with
  | some i => i.comparable
  | none => false

/-- a zero of the type's size -/
def zeroFits (i : TypeInfo) : Bool :=
  match i.zero with
  | some z => Nat.beq z.cells.size i.size
  | none => false

/-- an element's size and bytes, where both are something -/
def elemSz (P : Program) (t : TypeId) : Option (Nat × Nat) :=
  match elemOf P t with
  | some e => match P.info? e with
    | some i => cond (Nat.blt 0 i.size && Nat.blt 0 i.bytes && zeroFits i) (some (i.size, i.bytes)) none
    | none => none
  | none => none

def elemInfo (P : Program) (t : TypeId) : Option (TypeId × Nat × Nat) :=
  match elemOf P t with
  | some e => match P.info? e with
    | some i => some (e, i.size, i.bytes)
    | none => none
  | none => none

/-- the second argument is no number (the translation's mark of 'make' in its place) -/
def plainSrc (P : Program) (us : List TypeId) : Bool :=
  match us with
  | [] => true
  | u :: _ => match P.underlying u with
    | some (.int _) => false
    | some _ => true
    | none => false

def hasStruct (P : Program) (t : TypeId) : Bool := P.stoodInHeld t

/-! ### lists -/

noncomputable def takeE {α : Type} (n : Nat) : List α → Option (List α) := (Nat.rec (motive := fun _ => List α → Option (List α)) (fun _ => some []) (fun _ ih => fun l => (List.rec (motive := fun _ => Option (List α)) (none) (fun a r _ => (Option.rec (motive := fun _ => Option (List α)) (none) (fun q => some (a :: q)) (ih r))) (l))) (n))

noncomputable def dropN {α : Type} (n : Nat) : List α → List α := (Nat.rec (motive := fun _ => List α → List α) (fun l => l) (fun _ ih => fun l => (List.rec (motive := fun _ => List α) ([]) (fun _ r _ => ih r) (l))) (n))

noncomputable def nth {α : Type} (n : Nat) : List α → Option α := (Nat.rec (motive := fun _ => List α → Option α) (fun l => (List.rec (motive := fun _ => Option α) (none) (fun a _ _ => some a) (l))) (fun _ ih => fun l => (List.rec (motive := fun _ => Option α) (none) (fun _ r _ => ih r) (l))) (n))

/-- the list with 'vs' laid over it, if they fit -/
noncomputable def over0 {α : Type} (vs : List α) : List α → Option (List α) := (List.rec (motive := fun _ => List α → Option (List α)) (fun l => some l) (fun v _ ih => fun l => (List.rec (motive := fun _ => Option (List α)) (none) (fun _ r _ => (Option.rec (motive := fun _ => Option (List α)) (none) (fun q => some (v :: q)) (ih r))) (l))) (vs))

/-- the same from place o on -/
noncomputable def over {α : Type} (o : Nat) : List α → List α → Option (List α) := (Nat.rec (motive := fun _ => List α → List α → Option (List α)) (over0) (fun _ ih => fun vs l => (List.rec (motive := fun _ => Option (List α)) (none) (fun a r _ => (Option.rec (motive := fun _ => Option (List α)) (none) (fun q => some (a :: q)) (ih vs r))) (l))) (o))

noncomputable def lenL {α : Type} (l : List α) : Nat := (List.rec (motive := fun _ => Nat) (0) (fun _ _ ih => Nat.succ ih) (l))

/-! ### reading -/

noncomputable def onCells {α : Type} (b : Option Blk) : (List V → Bool → Bool → Option (Nat × Nat) → α) → α → α := (Option.rec (motive := fun _ => (List V → Bool → Bool → Option (Nat × Nat) → α) → α → α) (fun _ d => d) (fun b => (Blk.rec (motive := fun _ => (List V → Bool → Bool → Option (Nat × Nat) → α) → α → α) (fun l wr pl g => fun f _ => f l wr pl g) (fun _ _ _ => fun _ d => d) (fun _ _ => fun _ d => d) (fun _ _ _ => fun _ d => d) (fun _ _ => fun _ d => d) (b))) (b))

noncomputable def onMapB {α : Type} (b : Option Blk) : (List (V × V × Nat) → Nat → Bool → α) → α → α := (Option.rec (motive := fun _ => (List (V × V × Nat) → Nat → Bool → α) → α → α) (fun _ d => d) (fun b => (Blk.rec (motive := fun _ => (List (V × V × Nat) → Nat → Bool → α) → α → α) (fun _ _ _ _ => fun _ d => d) (fun es c wr => fun f _ => f es c wr) (fun _ _ => fun _ d => d) (fun _ _ _ => fun _ d => d) (fun _ _ => fun _ d => d) (b))) (b))

/-- a map whose entries' order is not known -/
noncomputable def onPm {α : Type} (b : Option Blk) : (List (V × V) → Bool → α) → α → α := (Option.rec (motive := fun _ => (List (V × V) → Bool → α) → α → α) (fun _ d => d) (fun b => (Blk.rec (motive := fun _ => (List (V × V) → Bool → α) → α → α) (fun _ _ _ _ => fun _ d => d) (fun _ _ _ => fun _ d => d) (fun _ _ => fun _ d => d) (fun _ _ _ => fun _ d => d) (fun es wr => fun f _ => f es wr) (b))) (b))

noncomputable def rdCells (i o n : Nat) : R (List V) := fun m p => onCells (m.tr.get i) (fun l _ _ _ => R.opt "load a cell that is not known" (takeE n (dropN o l)) m p) (.fail "load no row of cells")

noncomputable def rd1 (i o : Nat) : R V := fun m p => onCells (m.tr.get i) (fun l _ _ _ => R.opt "load a cell that is not known" (nth o l) m p) (.fail "load no row of cells")

noncomputable def loadV (P : Program) (t : TypeId) (i o : Nat) : R V := (Option.rec (motive := fun _ => Nat → Nat → R V) (fun _ _ => R.fail "load no such type") (fun x => (Option.rec (motive := fun _ => Nat → Nat → R V) (rd1) (fun n => fun i o => (rdCells i o n).bnd fun l => R.pure (.agg l)) (x))) (aggSz P t)) i o

/-- the condition must hold -/
noncomputable def mustR (c : B) : R Unit := fun _ p => (Option.rec (motive := fun _ => T (Rp Unit)) (.fail "a bound that is not known") (fun v => selB v (.ret ⟨(), p⟩) (.fail "a bound that does not hold")) (decE p c))

/-- a cell of a symbolic row -/
noncomputable def leafV (a : Nat) (e : E) (l : Lf) (r : Nat) : V := (Lf.rec (motive := fun _ => V) (fun k => .int k (.rd a r (kMin k) (kMax k) e)) (.bool (.eq (.rd a r 0 1 e) (.n 1))) (l))
noncomputable def leafVs (a : Nat) (e : E) (ls : List Lf) : Nat → List V := (List.rec (motive := fun _ => Nat → List V) (fun _ => []) (fun l _ ih => fun r => leafV a e l r :: ih (Nat.succ r)) (ls))

noncomputable def onRow {α : Type} (b : Option Blk) : (Nat → List Lf → E → α) → α → α := (Option.rec (motive := fun _ => (Nat → List Lf → E → α) → α → α) (fun _ d => d) (fun b => (Blk.rec (motive := fun _ => (Nat → List Lf → E → α) → α → α) (fun _ _ _ _ => fun _ d => d) (fun _ _ _ => fun _ d => d) (fun _ _ => fun _ d => d) (fun a ls n => fun f _ => f a ls n) (fun _ _ => fun _ d => d) (b))) (b))

/-- a load from a symbolic row -/
noncomputable def loadS (P : Program) (t : TypeId) (i sz : Nat) (e : E) (f : Nat) : R V := fun m p => onRow (m.tr.get i) (fun a ls n =>
  selB (Nat.beq (lenL ls) sz) ((mustR (mkLt e n)).bnd (fun _ => (Option.rec (motive := fun _ => R V) (R.fail "load") (fun k => (Option.rec (motive := fun _ => R V) (R.opt "load a row" ((nth f ls).map fun l => leafV a e l f)) (fun k => R.opt "load a row" ((takeE k (dropN f ls)).map fun l => .agg (leafVs a e l f))) (k))) (aggSz P t))) m p) (.fail "load sizes")) (.fail "load no row")

noncomputable def loadX (P : Program) (t : TypeId) (v : V) : R V := (V.rec (motive_1 := fun _ => R V) (motive_2 := fun _ => Unit) (fun _ => R.fail "load no address") (fun _ _ => R.fail "load no address") (fun _ => R.fail "load no address") (R.fail "load no address") (fun _ _ => R.fail "load no address") (R.fail "load no address") (fun _ _ _ _ => R.fail "load no address") (R.fail "load no address") (fun _ => R.fail "load no address") (fun _ _ _ _ _ => R.fail "load no address") (R.fail "load no address") (fun _ _ _ => R.fail "load no address") (R.fail "load no address") (fun _ _ => R.fail "load no address") (fun _ _ => R.fail "load no address") (R.fail "load no address") (fun _ _ _ => R.fail "load no address") (fun i sz e f => loadS P t i sz e f) (fun _ _ => R.fail "load no address") Unit.unit (fun _ _ _ _ => Unit.unit) (v))

noncomputable def loadPtr (P : Program) (t : TypeId) (v : V) : R V := onPtr v (loadV P t) (loadX P t v)

noncomputable def partV (P : Program) (t : TypeId) (l : List V) (off : Nat) : Option V := (Option.rec (motive := fun _ => List V → Nat → Option V) (fun _ _ => none) (fun x => (Option.rec (motive := fun _ => List V → Nat → Option V) (fun l off => nth off l) (fun n => fun l off => (takeE n (dropN off l)).map .agg) (x))) (aggSz P t)) l off


noncomputable def allE (a : List E) : List E → R Bool := (List.rec (motive := fun _ => List E → R Bool) (fun y => (List.rec (motive := fun _ => R Bool) (R.pure true) (fun _ _ _ => R.pure false) (y))) (fun a _ ih => fun y => (List.rec (motive := fun _ => R Bool) (R.pure false) (fun b y _ => (decR (mkEq a b)).bnd fun v => (Bool.rec (motive := fun _ => R Bool) (R.pure false) (ih y) (v))) (y))) (a))

noncomputable def strEq (a b : List E) : R Bool := selB (Nat.beq (lenL a) (lenL b)) (allE a b) (R.pure false)

noncomputable def eqBool (x y : V) : R Bool := onBool x (fun a => onBool y (fun b => (decR a).bnd fun u => (decR b).bnd fun v => R.pure (eqB u v)) (R.fail "")) (R.fail "")

noncomputable def eqInt (x y : V) : R Bool := onInt x (fun k a => onInt y (fun k' b => selB (Nat.beq (kindNo k) (kindNo k')) (decR (mkEq a b)) (R.fail "kinds")) (R.fail "")) (R.fail "")

noncomputable def eqStr (x y : V) : R Bool := onStr x (fun a => onStr y (fun b => strEq a b) (R.fail "")) (R.fail "")

noncomputable def plainB (b : Option Blk) : Bool := onCells b (fun _ _ pl _ => pl) false

noncomputable def eqAddr (i o j q : Nat) : R Bool :=
  selB (Nat.beq i j) (R.pure (Nat.beq o q)) fun m p => selB (andB (plainB (m.tr.get i)) (plainB (m.tr.get j))) (.ret ⟨false, p⟩) (.fail "pointers")

noncomputable def eqPtr (P : Program) (elem : TypeId) (x y : V) : R Bool :=
  match x with
  | .nilPtr => (match y with
    | .nilPtr => R.pure true
    | .ptr _ _ => R.pure false
    | _ => R.fail "")
  | .ptr i o => (match y with
    | .nilPtr => R.pure false
    | .ptr j q => cond (posO (szOf P elem)) (eqAddr i o j q) (R.fail "pointers to nothing")
    | _ => R.fail "")
  | _ => R.fail ""

/-- what may be held against nil alone: 0: nil, 1: not nil -/
def nilNo : V → Nat
  | .nilSlice => 0
  | .slice _ _ _ _ => 1
  | .eslice _ _ => 1
  | .nilMap => 0
  | .map _ => 1
  | .nilFunc => 0
  | .func _ _ _ => 1
  | _ => 2

def eqNil (x y : V) : R Bool :=
  match nilNo x, nilNo y with
  | 0, 0 => R.pure true
  | 0, 1 => R.pure false
  | 1, 0 => R.pure false
  | _, _ => R.fail ""

def isSliceV : V → Bool
  | .nilSlice => true
  | .slice _ _ _ _ => true
  | .eslice _ _ => true
  | _ => false

def isMapV : V → Bool
  | .nilMap => true
  | .map _ => true
  | _ => false

def isFuncV : V → Bool
  | .nilFunc => true
  | .func _ _ _ => true
  | _ => false

def eqIface (P : Program) (rec : TypeId → V → V → R Bool) (x y : V) : R Bool :=
  match x with
  | .nilIface => (match y with
    | .nilIface => R.pure true
    | .iface _ _ => R.pure false
    | _ => R.fail "")
  | .iface t v => (match y with
    | .nilIface => R.pure false
    | .iface u w => cond (Nat.beq t u) (cond (comparableT P t) (rec t v w) (R.fail "not comparable")) (R.pure false)
    | _ => R.fail "")
  | _ => R.fail ""

noncomputable def eqOpt (rec : TypeId → V → V → R Bool) (t : TypeId) (a b : Option V) : R Bool := (Option.rec (motive := fun _ => R Bool) (R.fail "") (fun a => (Option.rec (motive := fun _ => R Bool) (R.fail "") (fun b => rec t a b) (b))) (a))

def blankF (f : Field) : Bool := f.name == "_"

noncomputable def eqFields (P : Program) (rec : TypeId → V → V → R Bool) (xs ys : List V) (fs : List Field) : R Bool := (List.rec (motive := fun _ => R Bool) (R.pure true) (fun f _ ih => selB (blankF f) (R.fail "a blank field") ((eqOpt rec f.type (partV P f.type xs f.offset) (partV P f.type ys f.offset)).bnd fun v => (Bool.rec (motive := fun _ => R Bool) (R.pure false) (ih) (v)))) (fs))

noncomputable def eqElems (P : Program) (rec : TypeId → V → V → R Bool) (xs ys : List V) (elem n : Nat) (len : Nat) : Nat → R Bool := (Nat.rec (motive := fun _ => Nat → R Bool) (fun _ => R.pure true) (fun _ ih => fun i => (eqOpt rec elem (partV P elem xs (i * n)) (partV P elem ys (i * n))).bnd fun v => (Bool.rec (motive := fun _ => R Bool) (R.pure false) (ih (Nat.succ i)) (v))) (len))

noncomputable def eqStruct (P : Program) (rec : TypeId → V → V → R Bool) (t : TypeId) (fs : Array Field) (x y : V) : R Bool :=
  onAgg x (fun xs => onAgg y (fun ys => selB (P.stoodInHeld t) (R.fail "stood in") (eqFields P rec xs ys fs.toList)) (R.fail "")) (R.fail "")

noncomputable def eqArr (P : Program) (rec : TypeId → V → V → R Bool) (len : Nat) (elem : TypeId) (x y : V) : R Bool :=
  onAgg x (fun xs => onAgg y (fun ys => (Option.rec (motive := fun _ => R Bool) (R.fail "") (fun n => eqElems P rec xs ys elem n len 0) (szOf P elem))) (R.fail "")) (R.fail "")

noncomputable def eqD (d : TypeDesc) : Program → (TypeId → V → V → R Bool) → TypeId → V → V → R Bool := (TypeDesc.rec (motive := fun _ => Program → (TypeId → V → V → R Bool) → TypeId → V → V → R Bool) (fun _ _ _ _ _ => R.fail "") (fun _ _ _ => eqBool) (fun _ => fun _ _ _ => eqInt) (fun _ => fun _ _ _ _ _ => R.fail "") (fun _ => fun _ _ _ _ _ => R.fail "") (fun _ _ _ => eqStr) (fun _ _ _ _ _ => R.fail "") (fun e => fun P _ _ => eqPtr P e) (fun _ => fun _ _ _ x y => cond (isSliceV x && isSliceV y) (eqNil x y) (R.fail "")) (fun n e => fun P rec _ => eqArr P rec n e) (fun _ _ => fun _ _ _ x y => cond (isMapV x && isMapV y) (eqNil x y) (R.fail "")) (fun _ _ => fun _ _ _ _ _ => R.fail "") (fun fs => fun P rec t => eqStruct P rec t fs) (fun _ _ _ => fun _ _ _ x y => cond (isFuncV x && isFuncV y) (eqNil x y) (R.fail "")) (fun _ => fun P rec _ => eqIface P rec) (fun _ => fun _ _ _ _ _ => R.fail "") (fun _ _ => fun _ _ _ _ _ => R.fail "") (d))

/-- '==' by the type -/
noncomputable def eqIn (P : Program) (d : Nat) : TypeId → V → V → R Bool := (Nat.rec (motive := fun _ => TypeId → V → V → R Bool) (fun _ _ _ => R.fail "depth") (fun _ ih => fun t x y => (Option.rec (motive := fun _ => R Bool) (R.fail "") (fun td => eqD td P ih t x y) (P.underlying t))) (d))

def isConst : Operand → Bool
  | .const _ => true
  | _ => false

/-- bytes in order -/
noncomputable def ltE (a : List E) : List E → R Bool := (List.rec (motive := fun _ => List E → R Bool) (fun y => (List.rec (motive := fun _ => R Bool) (R.pure false) (fun _ _ _ => R.pure true) (y))) (fun a _ ih => fun y => (List.rec (motive := fun _ => R Bool) (R.pure false) (fun b y _ => (decR (mkLt a b)).bnd fun v => (Bool.rec (motive := fun _ => R Bool) ((decR (mkEq a b)).bnd fun u => (Bool.rec (motive := fun _ => R Bool) (R.pure false) (ih y) (u))) (R.pure true) (v))) (y))) (a))

noncomputable def litB (x : R Bool) : R V := x.bnd fun v => R.pure (.bool (.lit v))
noncomputable def litNB (x : R Bool) : R V := x.bnd fun v => R.pure (.bool (.lit (notB v)))

noncomputable def catE (a b : List E) : List E := (List.rec (motive := fun _ => List E) (b) (fun x _ ih => x :: ih) (a))

noncomputable def strOp (op : BinOp) : List E → List E → R V := (BinOp.rec (motive := fun _ => List E → List E → R V) (fun a b => selB (Nat.ble (Nat.add (lenL a) (lenL b)) 4611686018427387904) (R.pure (.str (catE a b))) (R.fail "a long string")) (fun _ _ => R.fail "an operator on strings") (fun _ _ => R.fail "an operator on strings") (fun _ _ => R.fail "an operator on strings") (fun _ _ => R.fail "an operator on strings") (fun _ _ => R.fail "an operator on strings") (fun _ _ => R.fail "an operator on strings") (fun _ _ => R.fail "an operator on strings") (fun _ _ => R.fail "an operator on strings") (fun _ _ => R.fail "an operator on strings") (fun _ _ => R.fail "an operator on strings") (fun a b => litB (strEq a b)) (fun a b => litNB (strEq a b)) (fun a b => litB (ltE a b)) (fun a b => litNB (ltE b a)) (fun a b => litB (ltE b a)) (fun a b => litNB (ltE a b)) (op))

noncomputable def mkBin (op : BinOp) (k : IntKind) (a b : E) : E := onN a (fun x => onN b (fun y => .n (binZ op k x y)) (.bin op k a b)) (.bin op k a b)

/-! ### bits -/

/-- pieces of a number's bits, from the lowest on: w zeros; w ones; w bits of a term's value from bit o on -/
inductive Bt where
  | z (w : Nat)
  | o (w : Nat)
  | f (a : E) (o w : Nat)
  deriving Inhabited

noncomputable def Bt.w (p : Bt) : Nat := (Bt.rec (motive := fun _ => Nat) (fun w => w) (fun w => w) (fun _ _ w => w) (p))
noncomputable def Bt.cut (p : Bt) (n : Nat) : Bt := (Bt.rec (motive := fun _ => Bt) (fun _ => .z n) (fun _ => .o n) (fun a o _ => .f a o n) (p))
noncomputable def Bt.rest (p : Bt) (n : Nat) : Bt := (Bt.rec (motive := fun _ => Bt) (fun w => .z (Nat.sub w n)) (fun w => .o (Nat.sub w n)) (fun a o w => .f a (Nat.add o n) (Nat.sub w n)) (p))

noncomputable def takeB (l : List Bt) : Nat → List Bt := (List.rec (motive := fun _ => Nat → List Bt) (fun _ => []) (fun p _ ih => fun n => selB (Nat.ble n p.w) [p.cut n] (p :: ih (Nat.sub n p.w))) (l))
noncomputable def dropB (l : List Bt) : Nat → List Bt := (List.rec (motive := fun _ => Nat → List Bt) (fun _ => []) (fun p r ih => fun n => selB (Nat.blt n p.w) (p.rest n :: r) (ih (Nat.sub n p.w))) (l))
noncomputable def widB (l : List Bt) : Nat := (List.rec (motive := fun _ => Nat) (0) (fun p _ ih => Nat.add p.w ih) (l))

/-- the sum, where one of the two is zero -/
noncomputable def orP (p q : Bt) : Option Bt := (Bt.rec (motive := fun _ => Option Bt) (fun _ => some q) (fun _ => (Bt.rec (motive := fun _ => Option Bt) (fun _ => some p) (fun _ => none) (fun _ _ _ => none) (q))) (fun _ _ _ => (Bt.rec (motive := fun _ => Option Bt) (fun _ => some p) (fun _ => none) (fun _ _ _ => none) (q))) (p))
noncomputable def andP (p q : Bt) : Option Bt := (Bt.rec (motive := fun _ => Option Bt) (fun _ => some p) (fun _ => some q) (fun _ _ _ => (Bt.rec (motive := fun _ => Option Bt) (fun _ => some q) (fun _ => some p) (fun _ _ _ => none) (q))) (p))

noncomputable def consOB (x : Option Bt) (y : Option (List Bt)) : Option (List Bt) := (Option.rec (motive := fun _ => Option (List Bt)) (none) (fun x => (Option.rec (motive := fun _ => Option (List Bt)) (none) (fun y => some (x :: y)) (y))) (x))

noncomputable def zipB (g : Bt → Bt → Option Bt) (or : Bool) (n : Nat) : List Bt → List Bt → Option (List Bt) := (Nat.rec (motive := fun _ => List Bt → List Bt → Option (List Bt)) (fun _ _ => none) (fun _ ih => fun a b => (List.rec (motive := fun _ => Option (List Bt)) (some (selB or b [])) (fun p a' _ => (List.rec (motive := fun _ => Option (List Bt)) (some (selB or a [])) (fun q b' _ => selB (Nat.beq p.w q.w) (consOB (g p q) (ih a' b')) (selB (Nat.blt p.w q.w) (consOB (g p (q.cut p.w)) (ih a' (q.rest p.w :: b'))) (consOB (g (p.cut q.w) q) (ih (p.rest q.w :: a') b')))) (b))) (a))) (n))

noncomputable def isZ (p : Bt) : Bool := (Bt.rec (motive := fun _ => Bool) (fun _ => true) (fun _ => false) (fun _ _ _ => false) (p))

/-- two pieces as one, if they are -/
noncomputable def joinP (p q : Bt) : Option Bt := (Bt.rec (motive := fun _ => Option Bt) (fun w => (Bt.rec (motive := fun _ => Option Bt) (fun u => some (.z (Nat.add w u))) (fun _ => none) (fun _ _ _ => none) (q))) (fun w => (Bt.rec (motive := fun _ => Option Bt) (fun _ => none) (fun u => some (.o (Nat.add w u))) (fun _ _ _ => none) (q))) (fun a o w => (Bt.rec (motive := fun _ => Option Bt) (fun _ => none) (fun _ => none) (fun b r u => selB (andB (Nat.beq r (Nat.add o w)) (E.beq a b)) (some (.f a o (Nat.add w u))) none) (q))) (p))

noncomputable def consB (p : Bt) (l : List Bt) : List Bt := selB (Nat.beq p.w 0) l (List.rec (motive := fun _ => List Bt) (selB (isZ p) [] [p]) (fun q r _ => (Option.rec (motive := fun _ => List Bt) (p :: l) (fun j => j :: r) (joinP p q))) (l))
noncomputable def normB (l : List Bt) : List Bt := (List.rec (motive := fun _ => List Bt) ([]) (fun p _ ih => consB p ih) (l))

noncomputable def bitsL (n : Nat) : Nat → List Bt := (Nat.rec (motive := fun _ => Nat → List Bt) (fun _ => []) (fun _ ih => fun v => selB (Nat.beq (Nat.mod v 2) 0) (.z 1) (.o 1) :: ih (Nat.div v 2)) (n))
noncomputable def numB (v : Nat) : List Bt := normB (bitsL (Nat.succ (Nat.log2 v)) v)

/-- the bits of a number of the kind that is not negative -/
noncomputable def kb (k : IntKind) : Nat := (IntKind.rec (motive := fun _ => Nat) (7) (15) (31) (63) (8) (16) (32) (64) (k))

noncomputable def fitsB (k : IntKind) (l : List Bt) : Option (List Bt) := selB (Nat.ble (widB l) (kb k)) (some l) (selB k.signed none (some (normB (takeB l (kb k)))))
noncomputable def fitB (k : IntKind) (l : List Bt) : Option (List Bt) := fitsB k (normB l)
noncomputable def fitO (k : IntKind) (l : Option (List Bt)) : Option (List Bt) := (Option.rec (motive := fun _ => Option (List Bt)) (none) (fun l => fitB k l) (l))

noncomputable def atomB (rng : List (Int × Int)) (e : E) : Option (List Bt) := (Option.rec (motive := fun _ => Option (List Bt)) (none) (fun r => selB (leZ 0 r.1) (selB (eqZ r.1 r.2) (some (numB (Int.toNat r.1))) (some [.f e 0 (Nat.succ (Nat.log2 (Int.toNat r.2)))])) none) (e.iv rng))
noncomputable def orAtom (rng : List (Int × Int)) (e : E) (l : Option (List Bt)) : Option (List Bt) := (Option.rec (motive := fun _ => Option (List Bt)) (atomB rng e) (fun l => some l) (l))

noncomputable def powZ (z : Int) : Option Nat := (Int.rec (motive := fun _ => Option Nat) (fun m => selB (Nat.beq (Nat.pow 2 (Nat.log2 m)) m) (some (Nat.log2 m)) none) (fun _ => none) (z))
noncomputable def powE (e : E) : Option Nat := onN e powZ none
noncomputable def numZ (z : Int) : Option Nat := (Int.rec (motive := fun _ => Option Nat) (fun m => some m) (fun _ => none) (z))
noncomputable def numE (e : E) : Option Nat := onN e numZ none

noncomputable def onO {α β : Type} (x : Option α) (f : α → Option β) : Option β := (Option.rec (motive := fun _ => Option β) (none) (fun a => f a) (x))

noncomputable def zip2 (g : Bt → Bt → Option Bt) (or : Bool) (l r : List Bt) : Option (List Bt) := zipB g or (Nat.succ (Nat.add (lenL l) (lenL r))) l r

noncomputable def mulB (k : IntKind) (l r : List Bt) (a b : E) : Option (List Bt) := (Option.rec (motive := fun _ => Option (List Bt)) (onO (powE a) (fun c => fitB k (.z c :: r))) (fun c => fitB k (.z c :: l)) (powE b))

noncomputable def binB (op : BinOp) : IntKind → List Bt → List Bt → E → E → Option (List Bt) := (BinOp.rec (motive := fun _ => IntKind → List Bt → List Bt → E → E → Option (List Bt)) (fun k l r _ _ => fitO k (zip2 orP true l r)) (fun _ _ _ _ _ => none) (fun k l r a b => mulB k l r a b) (fun k l _ _ b => onO (powE b) (fun c => fitB k (dropB l c))) (fun _ l _ _ b => onO (powE b) (fun c => some (normB (takeB l c)))) (fun k l r _ _ => selB (andB (Nat.ble (widB l) (kb k)) (Nat.ble (widB r) (kb k))) (onO (zip2 andP false l r) (fun l => some (normB l))) none) (fun k l r _ _ => selB (andB (Nat.ble (widB l) (kb k)) (Nat.ble (widB r) (kb k))) (onO (zip2 orP true l r) (fun l => some (normB l))) none) (fun _ _ _ _ _ => none) (fun k l _ _ b => onO (numE b) (fun c => selB (Nat.ble c k.bits) (fitB k (.z c :: l)) none)) (fun k l _ _ b => onO (numE b) (fun c => selB (Nat.ble c k.bits) (some (normB (dropB l c))) none)) (fun _ _ _ _ _ => none) (fun _ _ _ _ _ => none) (fun _ _ _ _ _ => none) (fun _ _ _ _ _ => none) (fun _ _ _ _ _ => none) (fun _ _ _ _ _ => none) (fun _ _ _ _ _ => none) (op))

/-- the bits of a term -/
noncomputable def toB (rng : List (Int × Int)) (e : E) : Option (List Bt) := (E.rec (motive := fun _ => Option (List Bt)) (fun z => onO (numZ z) (fun m => some (numB m))) (fun i => atomB rng (.x i)) (fun op k a b ia ib => orAtom rng (.bin op k a b) (onO ia fun l => onO ib fun r => binB op k l r a b)) (fun k a ia => orAtom rng (.cv k a) (fitO k ia)) (fun a r lo hi e _ => atomB rng (.rd a r lo hi e)) (fun l lo hi e _ => atomB rng (.tab l lo hi e)) (e))

noncomputable def quoIf (a : E) (o : Nat) : E := selB (Nat.beq o 0) a (mkBin .quo .u64 a (.n (.ofNat (Nat.pow 2 o))))
noncomputable def remIf (o w h : Nat) (e : E) : E := selB (Nat.blt (Nat.div h (Nat.pow 2 o)) (Nat.pow 2 w)) e (mkBin .rem .u64 e (.n (.ofNat (Nat.pow 2 w))))
noncomputable def fieldE (rng : List (Int × Int)) (a : E) (o w : Nat) : Option E := (Option.rec (motive := fun _ => Option E) (none) (fun r => selB (andB (leZ 0 r.1) (ltZ r.2 18446744073709551616)) (some (remIf o w (Int.toNat r.2) (quoIf a o))) none) (a.iv rng))
noncomputable def pieceE (rng : List (Int × Int)) (p : Bt) : Option E := (Bt.rec (motive := fun _ => Option E) (fun _ => some (.n 0)) (fun w => some (.n (.ofNat (Nat.sub (Nat.pow 2 w) 1)))) (fun a o w => fieldE rng a o w) (p))

noncomputable def mulIf (e : E) (off : Nat) : E := selB (Nat.beq off 0) e (mkBin .mul .u64 e (.n (.ofNat (Nat.pow 2 off))))
noncomputable def isN0 (e : E) : Bool := onN e (fun z => eqZ z 0) false
noncomputable def addIf (e s : E) : E := selB (isN0 s) e (selB (isN0 e) s (mkBin .add .u64 e s))

noncomputable def sumB (rng : List (Int × Int)) (l : List Bt) : Nat → Option E := (List.rec (motive := fun _ => Nat → Option E) (fun _ => some (.n 0)) (fun p _ ih => fun off => onO (pieceE rng p) fun e => onO (ih (Nat.add off p.w)) fun s => some (addIf (mulIf e off) s)) (l))

/-- the term made anew out of its bits -/
noncomputable def canon (rng : List (Int × Int)) (e : E) : E := (Option.rec (motive := fun _ => E) (e) (fun e => e) (onO (toB rng e) (fun l => selB (Nat.ble (widB l) 64) (sumB rng l 0) none)))

noncomputable def mkCan (k : IntKind) (e : E) : R V := fun _ p => .ret ⟨.int k (canon p.rng e), p⟩
noncomputable def canR (k : IntKind) (e : E) : R V := onN e (fun _ => R.pure (.int k e)) (mkCan k e)

noncomputable def arith (op : BinOp) (k : IntKind) (a b : E) : R V := R.pure (.int k (mkBin op k a b))
noncomputable def arithC (op : BinOp) (k : IntKind) (a b : E) : R V := canR k (mkBin op k a b)
noncomputable def divide (op : BinOp) (k : IntKind) (a b : E) : R V := (decR (mkEq b (.n 0))).bnd fun v => (Bool.rec (motive := fun _ => R V) (canR k (mkBin op k a b)) (R.fail "division by zero") (v))
noncomputable def compared (op : BinOp) (_ : IntKind) (a b : E) : R V := R.pure (.bool (mkCmp op a b))

noncomputable def intOp (op : BinOp) : IntKind → E → E → R V := (BinOp.rec (motive := fun _ => IntKind → E → E → R V) (arithC .add) (arith .sub) (arithC .mul) (divide .quo) (divide .rem) (arithC .and) (arithC .or) (arith .xor) (fun _ _ _ => R.fail "shift") (fun _ _ _ => R.fail "shift") (arith .andNot) (compared .eql) (compared .neq) (compared .lss) (compared .leq) (compared .gtr) (compared .geq) (op))

noncomputable def isShift (op : BinOp) : Bool := (BinOp.rec (motive := fun _ => Bool) (false) (false) (false) (false) (false) (false) (false) (false) (true) (true) (false) (false) (false) (false) (false) (false) (false) (op))

/-- a term by cases over its values -/
noncomputable def splitN (e : E) (n : Nat) : Int → R E := (Nat.rec (motive := fun _ => Int → R E) (fun _ => R.pure e) (fun _ ih => fun z => (decR (mkEq e (.n z))).bnd fun v => (Bool.rec (motive := fun _ => R E) (ih (Int.add z 1)) (R.pure (.n z)) (v))) (n))

noncomputable def splitS (e : E) : R E := fun m p => (Option.rec (motive := fun _ => T (Rp E)) (R.pure e m p) (fun r => selB (leZ r.2 (Int.add r.1 40)) (splitN e (Int.toNat (Int.add (Int.sub r.2 r.1) 1)) r.1 m p) (R.pure e m p)) (e.iv p.rng))

noncomputable def splitE (e : E) : R E := onN e (fun _ => R.pure e) (splitS e)

noncomputable def shiftR (op : BinOp) (k : IntKind) (a b : E) : R V := (decR (mkLt b (.n 0))).bnd fun v => (Bool.rec (motive := fun _ => R V) ((splitE b).bnd fun b => canR k (mkBin op k a b)) (R.fail "shift by less than 0") (v))

noncomputable def binInt (op : BinOp) (k : IntKind) (a : E) (y : V) : R V :=
  onInt y (fun yk b => selB (isShift op) (shiftR op k a b) (selB (Nat.beq (kindNo k) (kindNo yk)) (intOp op k a b) (R.fail "kinds"))) (R.fail "an operator")

noncomputable def binStr (op : BinOp) (a : List E) (y : V) : R V := onStr y (fun b => strOp op a b) (R.fail "an operator")

noncomputable def isNilIface (v : V) : Bool := (V.rec (motive_1 := fun _ => Bool) (motive_2 := fun _ => Unit) (fun _ => false) (fun _ _ => false) (fun _ => false) (false) (fun _ _ => false) (false) (fun _ _ _ _ => false) (false) (fun _ => false) (fun _ _ _ _ _ => false) (false) (fun _ _ _ => false) (true) (fun _ _ => false) (fun _ _ => false) (false) (fun _ _ _ => false) (fun _ _ _ _ => false) (fun _ _ => false) Unit.unit (fun _ _ _ _ => Unit.unit) (v))
noncomputable def isAggV (v : V) : Bool := (V.rec (motive_1 := fun _ => Bool) (motive_2 := fun _ => Unit) (fun _ => false) (fun _ _ => false) (fun _ => false) (false) (fun _ _ => false) (false) (fun _ _ _ _ => false) (false) (fun _ => false) (fun _ _ _ _ _ => false) (false) (fun _ _ _ => false) (false) (fun _ _ => true) (fun _ _ => false) (false) (fun _ _ _ => false) (fun _ _ _ _ => false) (fun _ _ => false) Unit.unit (fun _ _ _ _ => Unit.unit) (v))

noncomputable def eqOp (op : BinOp) (P : Program) (t : TypeId) (x y : V) : R V := (BinOp.rec (motive := fun _ => Program → TypeId → V → V → R V) (fun _ _ _ _ => R.fail "an operator") (fun _ _ _ _ => R.fail "an operator") (fun _ _ _ _ => R.fail "an operator") (fun _ _ _ _ => R.fail "an operator") (fun _ _ _ _ => R.fail "an operator") (fun _ _ _ _ => R.fail "an operator") (fun _ _ _ _ => R.fail "an operator") (fun _ _ _ _ => R.fail "an operator") (fun _ _ _ _ => R.fail "an operator") (fun _ _ _ _ => R.fail "an operator") (fun _ _ _ _ => R.fail "an operator") (fun P t x y => litB (eqIn P 10 t x y)) (fun P t x y => litNB (eqIn P 10 t x y)) (fun _ _ _ _ => R.fail "an operator") (fun _ _ _ _ => R.fail "an operator") (fun _ _ _ _ => R.fail "an operator") (fun _ _ _ _ => R.fail "an operator") (op)) P t x y

noncomputable def guardT (P : Program) (t : TypeId) : Bool := P.eqGuardType P.depth t

noncomputable def binEq (x : V) (op : BinOp) (P : Program) (t : TypeId) (cst : Bool) (y : V) : R V :=
  selB (orB (andB (isNilIface x) (andB (isNilIface y) (notB cst))) (andB (isAggV x) (andB (isAggV y) (guardT P t)))) (R.fail "two nils") (eqOp op P t x y)

/-- 0: a number, 1: a string, 2: another value -/
noncomputable def binR (op : BinOp) (P : Program) (t : TypeId) (cst : Bool) (x y : V) : R V := (V.rec (motive_1 := fun _ => BinOp → Program → TypeId → Bool → V → V → R V) (motive_2 := fun _ => Unit) (fun _ => fun op P t cst x y => binEq x op P t cst y) (fun k a => fun op _ _ _ _ y => binInt op k a y) (fun l => fun op _ _ _ _ y => binStr op l y) (fun op P t cst x y => binEq x op P t cst y) (fun _ _ => fun op P t cst x y => binEq x op P t cst y) (fun op P t cst x y => binEq x op P t cst y) (fun _ _ _ _ => fun op P t cst x y => binEq x op P t cst y) (fun op P t cst x y => binEq x op P t cst y) (fun _ => fun op P t cst x y => binEq x op P t cst y) (fun _ _ _ _ _ => fun op P t cst x y => binEq x op P t cst y) (fun op P t cst x y => binEq x op P t cst y) (fun _ _ _ => fun op P t cst x y => binEq x op P t cst y) (fun op P t cst x y => binEq x op P t cst y) (fun _ _ => fun op P t cst x y => binEq x op P t cst y) (fun _ _ => fun op P t cst x y => binEq x op P t cst y) (fun _ _ _ _ _ _ => R.fail "an operator") (fun _ _ _ => fun op P t cst x y => binEq x op P t cst y) (fun _ _ _ _ => fun op P t cst x y => binEq x op P t cst y) (fun _ _ => fun op P t cst x y => binEq x op P t cst y) Unit.unit (fun _ _ _ _ => Unit.unit) (x)) op P t cst x y

noncomputable def unR (op : UnOp) : V → R V := (UnOp.rec (motive := fun _ => V → R V) (fun x => onInt x (fun k e => R.pure (.int k (mkBin .sub k (.n 0) e))) (R.fail "an operator")) (fun x => onInt x (fun k e => R.pure (.int k (mkBin .xor k (.n (cond k.signed (-1) (kMax k))) e))) (R.fail "an operator")) (fun x => onBool x (fun b => R.pure (.bool (mkNot b))) (R.fail "an operator")) (fun _ => R.fail "an operator") (op))

noncomputable def mkCvS (k : IntKind) (e : E) : R V := fun _ p =>
  match e.iv p.rng with
  | some (lo, hi) => cond (leZ (kMin k) lo && leZ hi (kMax k)) (.ret ⟨.int k e, p⟩) (.ret ⟨.int k (canon p.rng (.cv k e)), p⟩)
  | none => .ret ⟨.int k (.cv k e), p⟩

noncomputable def convInt (k : IntKind) (x : V) : R V := onInt x (fun _ e => onN e (fun z => R.pure (.int k (.n (wrapZ k z)))) (mkCvS k e)) (R.fail "convert")

noncomputable def byteE (v : V) : Option E := onInt v (fun k e => selB (Nat.beq (kindNo k) 4) (some e) none) none

/-- the bytes that cells hold -/
noncomputable def bytesOf (l : List V) : Option (List E) := mapO byteE l

noncomputable def convBytes (P : Program) (src : TypeId) (x : V) : R V := (Option.rec (motive := fun _ => R V) (R.fail "convert") (fun e => selB (isByteT P e) ((V.rec (motive_1 := fun _ => R V) (motive_2 := fun _ => Unit) (fun _ => R.fail "convert") (fun _ _ => R.fail "convert") (fun _ => R.fail "convert") (R.fail "convert") (fun _ _ => R.fail "convert") (R.pure (.str [])) (fun i o len _ => (rdCells i o len).bnd fun l => R.opt "convert bytes" ((bytesOf l).map .str)) (R.fail "convert") (fun _ => R.fail "convert") (fun _ _ _ _ _ => R.fail "convert") (R.fail "convert") (fun _ _ _ => R.fail "convert") (R.fail "convert") (fun _ _ => R.fail "convert") (fun _ _ => R.fail "convert") (R.fail "convert") (fun _ _ _ => R.fail "convert") (fun _ _ _ _ => R.fail "convert") (fun _ _ => R.pure (.str [])) Unit.unit (fun _ _ _ _ => Unit.unit) (x))) (R.fail "convert")) (elemOf P src))

noncomputable def convStr (P : Program) (src : TypeId) (x : V) : R V := onStr x (fun l => selB (isStrT P src) (R.pure (.str l)) (R.fail "convert")) (convBytes P src x)

noncomputable def convR (P : Program) (src dst : TypeId) (x : V) : R V := (Option.rec (motive := fun _ => R V) (selB (isStrT P dst) (convStr P src x) (R.fail "convert")) (fun k => selB (hasT P src) (convInt k x) (R.fail "convert")) (intT P dst))

noncomputable def fieldR (P : Program) (t : TypeId) (f : Nat) (x : V) : R V := (Option.rec (motive := fun _ => R V) (R.fail "field") (fun fd => onAgg x (fun l => R.opt "field" (partV P fd.type l fd.offset)) (R.fail "field")) (fieldOf P t f))

noncomputable def fieldAddrR (P : Program) (t : TypeId) (f : Nat) (x : V) : R V := (Option.rec (motive := fun _ => R V) (R.fail "fieldAddr") (fun d => onPtr x (fun i o => R.pure (.ptr i (Nat.add o d))) (V.rec (motive_1 := fun _ => R V) (motive_2 := fun _ => Unit) (fun _ => R.fail "fieldAddr") (fun _ _ => R.fail "fieldAddr") (fun _ => R.fail "fieldAddr") (R.fail "fieldAddr") (fun _ _ => R.fail "fieldAddr") (R.fail "fieldAddr") (fun _ _ _ _ => R.fail "fieldAddr") (R.fail "fieldAddr") (fun _ => R.fail "fieldAddr") (fun _ _ _ _ _ => R.fail "fieldAddr") (R.fail "fieldAddr") (fun _ _ _ => R.fail "fieldAddr") (R.fail "fieldAddr") (fun _ _ => R.fail "fieldAddr") (fun _ _ => R.fail "fieldAddr") (R.fail "fieldAddr") (fun _ _ _ => R.fail "fieldAddr") (fun i sz e f => R.pure (.sptr i sz e (Nat.add f d))) (fun _ _ => R.fail "fieldAddr") Unit.unit (fun _ _ _ _ => Unit.unit) (x))) (fieldOff P t f))

/-- an index below n -/
noncomputable def indexN (ix : V) (n : Nat) : R Nat := onInt ix (fun _ e => (natR e).bnd fun i => selB (Nat.blt i n) (R.pure i) (R.fail "index out of range")) (R.fail "index")

noncomputable def idxPtr (P : Program) (t : TypeId) (i o : Nat) (ix : V) : R V := (Option.rec (motive := fun _ => R V) (R.fail "indexAddr") (fun a => (indexN ix a.1).bnd fun j => R.pure (.ptr i (Nat.add o (Nat.mul j a.2.2)))) (arrOf P t))
noncomputable def idxSlice (P : Program) (t : TypeId) (i o len : Nat) (ix : V) : R V := (Option.rec (motive := fun _ => R V) (R.fail "indexAddr") (fun a => (indexN ix len).bnd fun j => R.pure (.ptr i (Nat.add o (Nat.mul j a.2)))) (slcOf P t))

noncomputable def litOf (rng : List (Int × Int)) (e : E) : E := (Option.rec (motive := fun _ => E) (e) (fun r => selB (eqZ r.1 r.2) (.n r.1) e) (e.iv rng))
noncomputable def sptrR (i sz : Nat) (e : E) : R V := fun _ p => .ret ⟨.sptr i sz (litOf p.rng e) 0, p⟩

noncomputable def idxSarr (P : Program) (t : TypeId) (i sz : Nat) (len : E) (ix : V) : R V := (Option.rec (motive := fun _ => R V) (R.fail "indexAddr") (fun a => selB (Nat.beq a.2 sz)
  (onInt ix (fun _ e => (mustR (mkNot (mkLt e (.n 0)))).bnd fun _ => (mustR (mkLt e len)).bnd fun _ => sptrR i sz e) (R.fail "index")) (R.fail "index")) (slcOf P t))
noncomputable def indexAddrR (P : Program) (t : TypeId) (x ix : V) : R V := (V.rec (motive_1 := fun _ => Program → TypeId → V → R V) (motive_2 := fun _ => Unit) (fun _ => fun _ _ _ => R.fail "indexAddr") (fun _ _ => fun _ _ _ => R.fail "indexAddr") (fun _ => fun _ _ _ => R.fail "indexAddr") (fun _ _ _ => R.fail "indexAddr") (fun i o => fun P t ix => idxPtr P t i o ix) (fun _ _ _ => R.fail "indexAddr") (fun i o len _ => fun P t ix => idxSlice P t i o len ix) (fun _ _ _ => R.fail "indexAddr") (fun _ => fun _ _ _ => R.fail "indexAddr") (fun _ _ _ _ _ => fun _ _ _ => R.fail "indexAddr") (fun _ _ _ => R.fail "indexAddr") (fun _ _ _ => fun _ _ _ => R.fail "indexAddr") (fun _ _ _ => R.fail "indexAddr") (fun _ _ => fun _ _ _ => R.fail "indexAddr") (fun _ _ => fun _ _ _ => R.fail "indexAddr") (fun _ _ _ => R.fail "indexAddr") (fun i sz len => fun P t ix => idxSarr P t i sz len ix) (fun _ _ _ _ => fun _ _ _ => R.fail "indexAddr") (fun _ _ => fun _ _ _ => R.fail "indexAddr") Unit.unit (fun _ _ _ _ => Unit.unit) (x)) P t ix

noncomputable def indexR (P : Program) (t : TypeId) (x ix : V) : R V :=
  onAgg x (fun l => (Option.rec (motive := fun _ => R V) (R.fail "index") (fun a => (indexN ix a.1).bnd fun j => R.opt "index" (partV P a.2.1 l (Nat.mul j a.2.2))) (arrOf P t)))
    (onStr x (fun l => selB (isStrT P t) ((indexN ix (lenL l)).bnd fun j => R.opt "index" ((nth j l).map (.int .u8))) (R.fail "index")) (R.fail "index"))

/-- a bound of a slice expression, at most y -/
noncomputable def boundV (x : V) (y : Nat) : R Nat := onInt x (fun _ e => (natR e).bnd fun i => selB (Nat.ble i y) (R.pure i) (R.fail "slice bounds out of range")) (R.fail "slice bounds")

noncomputable def boundR (x : Option V) (dflt y : Nat) : R Nat := (Option.rec (motive := fun _ => R Nat) (selB (Nat.ble dflt y) (R.pure dflt) (R.fail "slice bounds")) (fun v => boundV v y) (x))

noncomputable def lbTok (m : Mem) (i : Nat) : Nat := (Option.rec (motive := fun _ => Nat) (0) (fun n => n) (m.tok.get i))

/-- the bounds (low, high), at most 'cap' -/
noncomputable def bounds2 (lo hi : Option V) (len cap : Nat) (f : Nat → Nat → R V) : R V := (boundR hi len cap).bnd fun h => (boundR lo 0 h).bnd fun j => f j h

def noneV (x : Option V) : Bool :=
  match x with
  | none => true
  | some _ => false

/-- a slice with a third bound has a second one -/
def has2 (hi mx : Option V) : Bool := noneV mx || !noneV hi

noncomputable def sliceStr (l : List E) (lo hi : Option V) : R V := bounds2 lo hi (lenL l) (lenL l) fun j h => R.opt "slice" ((takeE (Nat.sub h j) (dropN j l)).map .str)

/-- over a row whose capacity is known -/
noncomputable def sliceN (sz i o len c : Nat) (lo hi mx : Option V) : R V :=
  (boundR mx c c).bnd fun m => bounds2 lo hi len m fun j h => R.pure (.slice i (selB (Nat.beq m j) o (Nat.add o (Nat.mul j sz))) (Nat.sub h j) (.n (Nat.sub m j)))

noncomputable def sliceT (sz i o len tk k : Nat) (lo hi : Option V) : R V :=
  bounds2 lo hi len len fun j h => fun m p =>
    selB (orB (Nat.beq j 0) (Nat.blt (Nat.add j k) (lbTok m tk))) (.ret ⟨.slice i (Nat.add o (Nat.mul j sz)) (Nat.sub h j) (.t tk (Nat.add k j)), p⟩) (selB (Nat.beq h j) (.ret ⟨.eslice i false, p⟩) (.fail "slice at the end"))

noncomputable def sliceS (sz i o len : Nat) (c : Cp) (lo hi mx : Option V) : R V := (Cp.rec (motive := fun _ => R V) (fun c => sliceN sz i o len c lo hi mx) (fun tk k => selB (noneV mx) (sliceT sz i o len tk k lo hi) (sliceN sz i o len len lo hi mx)) (c))

noncomputable def sliceX (P : Program) (t : TypeId) (lo hi mx : Option V) (x : V) : R V := (V.rec (motive_1 := fun _ => Program → TypeId → Option V → Option V → Option V → R V) (motive_2 := fun _ => Unit) (fun _ => fun _ _ _ _ _ => R.fail "slice") (fun _ _ => fun _ _ _ _ _ => R.fail "slice") (fun l => fun P t lo hi mx => selB (andB (isStrT P t) (noneV mx)) (sliceStr l lo hi) (R.fail "slice")) (fun _ _ _ _ _ => R.fail "slice") (fun i o => fun P t lo hi mx => (Option.rec (motive := fun _ => R V) (R.fail "slice") (fun a => sliceN a.2.2 i o a.1 a.1 lo hi mx) (arrOf P t))) (fun P t lo hi mx => (Option.rec (motive := fun _ => R V) (R.fail "slice") (fun _ => (boundR mx 0 0).bnd fun _ => bounds2 lo hi 0 0 fun _ _ => R.pure .nilSlice) (slcOf P t))) (fun i o len c => fun P t lo hi mx => (Option.rec (motive := fun _ => R V) (R.fail "slice") (fun a => sliceS a.2 i o len c lo hi mx) (slcOf P t))) (fun _ _ _ _ _ => R.fail "slice") (fun _ => fun _ _ _ _ _ => R.fail "slice") (fun _ _ _ _ _ => fun _ _ _ _ _ => R.fail "slice") (fun _ _ _ _ _ => R.fail "slice") (fun _ _ _ => fun _ _ _ _ _ => R.fail "slice") (fun _ _ _ _ _ => R.fail "slice") (fun _ _ => fun _ _ _ _ _ => R.fail "slice") (fun _ _ => fun _ _ _ _ _ => R.fail "slice") (fun _ _ _ _ _ => R.fail "slice") (fun _ _ _ => fun _ _ _ _ _ => R.fail "slice") (fun _ _ _ _ => fun _ _ _ _ _ => R.fail "slice") (fun i z => fun P t lo hi mx => (Option.rec (motive := fun _ => R V) (R.fail "slice") (fun _ => (boundR mx 0 0).bnd fun _ => bounds2 lo hi 0 0 fun _ _ => R.pure (.eslice i (orB z (notB (noneV mx))))) (slcOf P t))) Unit.unit (fun _ _ _ _ => Unit.unit) (x)) P t lo hi mx

noncomputable def sliceR (P : Program) (t : TypeId) (lo hi mx : Option V) (x : V) : R V := selB (has2 hi mx) (sliceX P t lo hi mx x) (R.fail "slice")

/-- '==' of keys -/
noncomputable def keyEqD (d : TypeDesc) : V → V → R Bool := (TypeDesc.rec (motive := fun _ => V → V → R Bool) (fun _ _ => R.fail "keys") (eqBool) (fun _ => eqInt) (fun _ => fun _ _ => R.fail "keys") (fun _ => fun _ _ => R.fail "keys") (eqStr) (fun _ _ => R.fail "keys") (fun _ => fun _ _ => R.fail "keys") (fun _ => fun _ _ => R.fail "keys") (fun _ _ => fun _ _ => R.fail "keys") (fun _ _ => fun _ _ => R.fail "keys") (fun _ _ => fun _ _ => R.fail "keys") (fun _ => fun _ _ => R.fail "keys") (fun _ _ _ => fun _ _ => R.fail "keys") (fun _ => fun _ _ => R.fail "keys") (fun _ => fun _ _ => R.fail "keys") (fun _ _ => fun _ _ => R.fail "keys") (d))

noncomputable def keyEq0 (P : Program) (kt : TypeId) : V → V → R Bool := (Option.rec (motive := fun _ => V → V → R Bool) (fun _ _ => R.fail "keys") (fun d => keyEqD d) (P.underlying kt))

noncomputable def keyEq (P : Program) (kt : TypeId) : V → V → R Bool := (Option.rec (motive := fun _ => V → V → R Bool) (keyEq0 P kt) (fun _ => eqIn P 10 kt) (keyArr P kt))

/-- the key has its type's cells -/
noncomputable def keyFit (P : Program) (kt : TypeId) (k : V) : Bool := (Option.rec (motive := fun _ => Bool) (true) (fun a => onAgg k (fun l => Nat.beq (lenL l) a.1) false) (keyArr P kt))

noncomputable def findKey (P : Program) (kt : TypeId) (k : V) (es : List (V × V × Nat)) : Nat → R (Option (Nat × V)) := (List.rec (motive := fun _ => Nat → R (Option (Nat × V))) (fun _ => R.pure none) (fun e _ ih => fun i => (keyEq P kt k e.1).bnd fun v => (Bool.rec (motive := fun _ => R (Option (Nat × V))) (ih (Nat.succ i)) (R.pure (some (i, e.2.1))) (v))) (es))

noncomputable def entriesR (x : V) : R (List (V × V × Nat)) := (V.rec (motive_1 := fun _ => R (List (V × V × Nat))) (motive_2 := fun _ => Unit) (fun _ => R.fail "no map") (fun _ _ => R.fail "no map") (fun _ => R.fail "no map") (R.fail "no map") (fun _ _ => R.fail "no map") (R.fail "no map") (fun _ _ _ _ => R.fail "no map") (R.pure []) (fun i => fun m p => onMapB (m.tr.get i) (fun es _ _ => .ret ⟨es, p⟩) (.fail "no map")) (fun _ _ _ _ _ => R.fail "no map") (R.fail "no map") (fun _ _ _ => R.fail "no map") (R.fail "no map") (fun _ _ => R.fail "no map") (fun _ _ => R.fail "no map") (R.fail "no map") (fun _ _ _ => R.fail "no map") (fun _ _ _ _ => R.fail "no map") (fun _ _ => R.fail "no map") Unit.unit (fun _ _ _ _ => Unit.unit) (x))

noncomputable def okV (ok : Bool) (v : V) (is : Bool) : R V := R.pure (selB ok (.tuple [v, .bool (.lit is)]) v)

noncomputable def foundR (P : Program) (et : TypeId) (ok : Bool) (r : Option (Nat × V)) : R V := (Option.rec (motive := fun _ => R V) ((R.opt "zero" (zeroOf P et)).bnd fun z => okV ok z false) (fun r => okV ok r.2 true) (r))

/-- the one entry with a key: held against all -/
noncomputable def findPm (P : Program) (kt : TypeId) (k : V) (es : List (V × V)) : R (Option V) := (List.rec (motive := fun _ => R (Option V)) (R.pure none) (fun e _ ih => (keyEq P kt k e.1).bnd fun v => ih.bnd fun r => (Bool.rec (motive := fun _ => R (Option V)) (R.pure r) ((Option.rec (motive := fun _ => R (Option V)) (R.pure (some e.2)) (fun _ => R.fail "lookup two") (r))) (v))) (es))

noncomputable def foundP (P : Program) (et : TypeId) (ok : Bool) (r : Option V) : R V := (Option.rec (motive := fun _ => R V) ((R.opt "zero" (zeroOf P et)).bnd fun z => okV ok z false) (fun r => okV ok r true) (r))

noncomputable def lookE (P : Program) (a : TypeId × TypeId) (ok : Bool) (x k : V) : R V := (entriesR x).bnd fun es => (findKey P a.1 k es 0).bnd fun r => foundR P a.2 ok r
noncomputable def lookM (P : Program) (a : TypeId × TypeId) (ok : Bool) (x k : V) : R V := fun m p => onMap x (fun i => onPm (m.tr.get i) (fun es _ => ((findPm P a.1 k es).bnd fun r => foundP P a.2 ok r) m p) (lookE P a ok x k m p)) (lookE P a ok x k m p)

noncomputable def lookupR (P : Program) (t : TypeId) (ok : Bool) (x k : V) : R V := (Option.rec (motive := fun _ => R V) (R.fail "lookup") (fun a => selB (keyFit P a.1 k) (lookM P a ok x k) (R.fail "lookup")) (mapOf P t))

noncomputable def assertNo (P : Program) (t : TypeId) (ok : Bool) : R V :=
  selB ok ((R.opt "zero" (zeroOf P t)).bnd fun z => R.pure (.tuple [z, .bool (.lit false)])) (R.fail "type assertion")

noncomputable def assertIs (P : Program) (t : TypeId) (ok : Bool) (v : V) (is : Option Bool) : R V := (Option.rec (motive := fun _ => R V) (R.fail "type assertion") (fun b => (Bool.rec (motive := fun _ => R V) (assertNo P t ok) (okV ok v true) (b))) (is))

noncomputable def assertR (P : Program) (t : TypeId) (ok : Bool) (x : V) : R V := (V.rec (motive_1 := fun _ => V → R V) (motive_2 := fun _ => Unit) (fun _ => fun _ => R.fail "type assertion") (fun _ _ => fun _ => R.fail "type assertion") (fun _ => fun _ => R.fail "type assertion") (fun _ => R.fail "type assertion") (fun _ _ => fun _ => R.fail "type assertion") (fun _ => R.fail "type assertion") (fun _ _ _ _ => fun _ => R.fail "type assertion") (fun _ => R.fail "type assertion") (fun _ => fun _ => R.fail "type assertion") (fun _ _ _ _ _ => fun _ => R.fail "type assertion") (fun _ => R.fail "type assertion") (fun u v _ => fun x => (Option.rec (motive := fun _ => R V) (selB (hasT P t) (assertIs P t ok v (some (Nat.beq u t))) (R.fail "type assertion")) (fun w => assertIs P t ok x (meets P w u)) (wantsOf P t))) (fun _ => selB (hasT P t) (assertNo P t ok) (R.fail "type assertion")) (fun _ _ => fun _ => R.fail "type assertion") (fun _ _ => fun _ => R.fail "type assertion") (fun _ => R.fail "type assertion") (fun _ _ _ => fun _ => R.fail "type assertion") (fun _ _ _ _ => fun _ => R.fail "type assertion") (fun _ _ => fun _ => R.fail "type assertion") Unit.unit (fun _ _ _ _ => Unit.unit) (x)) x

noncomputable def intN (n : Nat) : V := .int .i64 (.n (.ofNat n))

noncomputable def lenN (n : Nat) : R V := selB (Nat.ble n 4611686018427387904) (R.pure (intN n)) (R.fail "a great length")

noncomputable def lenStrX (x : V) : R V := onStr x (fun l => lenN (lenL l)) (R.fail "len")
noncomputable def lenSliceX (x : V) : R V := (V.rec (motive_1 := fun _ => R V) (motive_2 := fun _ => Unit) (fun _ => R.fail "len") (fun _ _ => R.fail "len") (fun _ => R.fail "len") (R.fail "len") (fun _ _ => R.fail "len") (R.pure (intN 0)) (fun _ _ n _ => lenN n) (R.fail "len") (fun _ => R.fail "len") (fun _ _ _ _ _ => R.fail "len") (R.fail "len") (fun _ _ _ => R.fail "len") (R.fail "len") (fun _ _ => R.fail "len") (fun _ _ => R.fail "len") (R.fail "len") (fun _ _ n => R.pure (.int .i64 n)) (fun _ _ _ _ => R.fail "len") (fun _ _ => R.pure (intN 0)) Unit.unit (fun _ _ _ _ => Unit.unit) (x))
noncomputable def lenMapX (x : V) : R V := (V.rec (motive_1 := fun _ => R V) (motive_2 := fun _ => Unit) (fun _ => R.fail "len") (fun _ _ => R.fail "len") (fun _ => R.fail "len") (R.fail "len") (fun _ _ => R.fail "len") (R.fail "len") (fun _ _ _ _ => R.fail "len") (R.pure (intN 0)) (fun i => (fun m p => onPm (m.tr.get i) (fun es _ => lenN (lenL es) m p) (onMapB (m.tr.get i) (fun es _ _ => lenN (lenL es) m p) (.fail "len no map")))) (fun _ _ _ _ _ => R.fail "len") (R.fail "len") (fun _ _ _ => R.fail "len") (R.fail "len") (fun _ _ => R.fail "len") (fun _ _ => R.fail "len") (R.fail "len") (fun _ _ _ => R.fail "len") (fun _ _ _ _ => R.fail "len") (fun _ _ => R.fail "len") Unit.unit (fun _ _ _ _ => Unit.unit) (x))

noncomputable def lenD (d : TypeDesc) : V → R V := (TypeDesc.rec (motive := fun _ => V → R V) (fun _ => R.fail "len") (fun _ => R.fail "len") (fun _ => fun _ => R.fail "len") (fun _ => fun _ => R.fail "len") (fun _ => fun _ => R.fail "len") (lenStrX) (fun _ => R.fail "len") (fun _ => fun _ => R.fail "len") (fun _ => lenSliceX) (fun n _ => fun _ => lenN n) (fun _ _ => lenMapX) (fun _ _ => fun _ => R.fail "len") (fun _ => fun _ => R.fail "len") (fun _ _ _ => fun _ => R.fail "len") (fun _ => fun _ => R.fail "len") (fun _ => fun _ => R.fail "len") (fun _ _ => fun _ => R.fail "len") (d))

noncomputable def lenR (P : Program) (t : TypeId) (x : V) : R V := (Option.rec (motive := fun _ => R V) (R.fail "len") (fun d => lenD d x) (P.underlying t))

noncomputable def capX (x : V) : R V := (V.rec (motive_1 := fun _ => R V) (motive_2 := fun _ => Unit) (fun _ => R.fail "cap") (fun _ _ => R.fail "cap") (fun _ => R.fail "cap") (R.fail "cap") (fun _ _ => R.fail "cap") (R.pure (intN 0)) (fun _ _ _ c => (Cp.rec (motive := fun _ => R V) (fun c => lenN c) (fun _ _ => R.fail "cap not known") (c))) (R.fail "cap") (fun _ => R.fail "cap") (fun _ _ _ _ _ => R.fail "cap") (R.fail "cap") (fun _ _ _ => R.fail "cap") (R.fail "cap") (fun _ _ => R.fail "cap") (fun _ _ => R.fail "cap") (R.fail "cap") (fun _ _ _ => R.fail "cap") (fun _ _ _ _ => R.fail "cap") (fun _ z => selB z (R.pure (intN 0)) (R.fail "cap not known")) Unit.unit (fun _ _ _ _ => Unit.unit) (x))
noncomputable def capD (d : TypeDesc) : V → R V := (TypeDesc.rec (motive := fun _ => V → R V) (fun _ => R.fail "cap") (fun _ => R.fail "cap") (fun _ => fun _ => R.fail "cap") (fun _ => fun _ => R.fail "cap") (fun _ => fun _ => R.fail "cap") (fun _ => R.fail "cap") (fun _ => R.fail "cap") (fun _ => fun _ => R.fail "cap") (fun _ => capX) (fun n _ => fun _ => lenN n) (fun _ _ => fun _ => R.fail "cap") (fun _ _ => fun _ => R.fail "cap") (fun _ => fun _ => R.fail "cap") (fun _ _ _ => fun _ => R.fail "cap") (fun _ => fun _ => R.fail "cap") (fun _ => fun _ => R.fail "cap") (fun _ _ => fun _ => R.fail "cap") (d))
noncomputable def capR (P : Program) (t : TypeId) (x : V) : R V := (Option.rec (motive := fun _ => R V) (R.fail "cap") (fun d => capD d x) (P.underlying t))

noncomputable def minMax (lt : Bool) (k : IntKind) (l : List V) : E → R V := (List.rec (motive := fun _ => E → R V) (fun a => R.pure (.int k a)) (fun y _ ih => fun a => onInt y (fun k' b => (decR (selB lt (mkLt b a) (mkLt a b))).bnd fun v => selB (Nat.beq (kindNo k) (kindNo k')) (ih (selB v b a)) (R.fail "min kinds")) (R.fail "min")) (l))

noncomputable def minMax1 (lt : Bool) (l : List V) : R V := (List.rec (motive := fun _ => R V) (R.fail "min") (fun v l _ => onInt v (fun k a => minMax lt k l a) (R.fail "min")) (l))

noncomputable def isFn (fn : Fn) : Option FuncId := (Fn.rec (motive := fun _ => Option FuncId) (fun f => some f) (fun _ => none) (fun _ _ => none) (fun _ _ _ _ => none) (fun _ => none) (fn))

noncomputable def onHead {α : Type} (l : List V) (f : V → List V → α) (d : α) : α := (List.rec (motive := fun _ => α) (d) (fun v r _ => f v r) (l))

def notPtr (P : Program) (t : TypeId) : Bool :=
  match P.underlying t with
  | some (.pointer _) => false
  | some _ => true
  | none => false

/-- a method's value that surely has a receiver -/
noncomputable def nilMeth (P : Program) (name : String) (a : List V) : Bool := onHead a (fun r _ => onIface r (fun t _ => (Option.rec (motive := fun _ => Bool) (false) (fun m => orB m.2 (notPtr P t)) (methodOf P t name))) false) false

noncomputable def nilCheckR (P : Program) (x : V) : R V := (V.rec (motive_1 := fun _ => R V) (motive_2 := fun _ => Unit) (fun _ => R.fail "nil") (fun _ _ => R.fail "nil") (fun _ => R.fail "nil") (R.fail "nil") (fun _ _ => R.pure x) (R.fail "nil") (fun _ _ _ _ => R.fail "nil") (R.fail "nil") (fun _ => R.fail "nil") (fun fn a _ _ _ => (Fn.rec (motive := fun _ => R V) (fun _ => R.pure x) (fun name => selB (nilMeth P name a) (R.pure x) (R.fail "nil")) (fun _ _ => R.fail "nil") (fun _ _ _ _ => R.fail "nil") (fun _ => R.fail "nil") (fn))) (R.fail "nil") (fun _ _ _ => R.pure x) (R.fail "nil") (fun _ _ => R.fail "nil") (fun _ _ => R.fail "nil") (R.fail "nil") (fun _ _ _ => R.fail "nil") (fun _ _ _ _ => R.pure x) (fun _ _ => R.fail "nil") Unit.unit (fun _ _ _ _ => Unit.unit) (x))

noncomputable def fill1 (l : List V) (v : V) (pl : Option (Nat × Nat)) : Option (List V) := (Option.rec (motive := fun _ => Option (List V)) (none) (fun a => selB (andB (allCells v.cells) (Nat.beq (lenL v.cells) a.2)) (over a.1 v.cells l) none) (pl))

noncomputable def fillV (place : Nat → Option (Nat × Nat)) (ps : List (Nat × V)) : List V → Option (List V) := (List.rec (motive := fun _ => List V → Option (List V)) (fun l => some l) (fun x _ ih => fun l => (Option.rec (motive := fun _ => Option (List V)) (none) (fun l' => ih l') (fill1 l x.2 (place x.1)))) (ps))

noncomputable def buildA (P : Program) (t : TypeId) (parts : List (Nat × V)) (z : List V) : Option (List V) := (Option.rec (motive := fun _ => Option (List V)) (none) (fun a => fillV (fun i => some (Nat.mul i a.2.2, a.2.2)) parts z) (arrOf P t))

noncomputable def buildL (P : Program) (t : TypeId) (parts : List (Nat × V)) (z : List V) : Option (List V) := (Option.rec (motive := fun _ => Option (List V)) (buildA P t parts z) (fun ps => fillV (fun i => nth i ps) parts z) (structPlaces P t))

noncomputable def buildR (P : Program) (t : TypeId) (parts : List (Nat × V)) : R V := (Option.rec (motive := fun _ => R V) (R.fail "build no zero") (fun z => R.opt "build" ((buildL P t parts z.cells).map .agg)) (zeroOf P t))

noncomputable def partsV (l : List (Nat × Operand)) : Env → List (Nat × V) := (List.rec (motive := fun _ => Env → List (Nat × V)) (fun _ => []) (fun x _ ih => fun env => (x.1, opd x.2 env) :: ih env) (l))

noncomputable def optV (x : Option Operand) (env : Env) : Option V := (Option.rec (motive := fun _ => Option V) (none) (fun x => some (opd x env)) (x))

/-! ### what makes memory -/

noncomputable def catV (a b : List V) : List V := (List.rec (motive := fun _ => List V) (b) (fun x _ ih => x :: ih) (a))

noncomputable def repl (n : Nat) (l : List V) : List V := (Nat.rec (motive := fun _ => List V) ([]) (fun _ ih => catV l ih) (n))

/-- a new block's value: an address, a map, or a slice over it -/
inductive Shp where
  | ptr | map
  | slice (len cap : Nat)

noncomputable def Shp.val (s : Shp) : Nat → V := (Shp.rec (motive := fun _ => Nat → V) (fun i => .ptr i 0) (fun i => .map i) (fun len cap => fun i => .slice i 0 len (.n cap)) (s))

noncomputable def zfit (sz : Nat) (z : Option V) : Option (List V) := (Option.rec (motive := fun _ => Option (List V)) (none) (fun z => selB (Nat.beq (lenL z.cells) sz) (some z.cells) none) (z))

/-- a zero's cells; 'n': of how many elements there is need -/
noncomputable def zcells (P : Program) (t : TypeId) (sz n : Nat) : Option (List V) := (Nat.rec (motive := fun _ => Option (List V)) (some []) (fun _ _ => zfit sz (zeroOf P t)) (Nat.mul n sz))

def newCells (l : List V) : Blk := .cells l true true none

noncomputable def sliceLit (n sz : Nat) (ps : List (Nat × V)) (z : Option (List V)) : Option (List V) := (Option.rec (motive := fun _ => Option (List V)) (none) (fun z => selB (Nat.ble (Nat.mul n sz) 16777216) (fillV (fun i => some (Nat.mul i sz, sz)) ps (repl n z)) none) (z))

noncomputable def buildSliceR (P : Program) (t : TypeId) (n : Nat) (ps : List (Nat × V)) : R (Blk × Shp) := (Option.rec (motive := fun _ => R (Blk × Shp)) (R.fail "buildSlice") (fun a => R.opt "buildSlice" ((sliceLit n a.2 ps (zcells P a.1 a.2 n)).map fun l => (newCells l, .slice n n))) (slcOf P t))

noncomputable def makeSliceL (P : Program) (len cap : Nat) (i : TypeId × Nat × Nat) : R (Blk × Shp) := (Option.rec (motive := fun _ => R (Blk × Shp)) (R.fail "makeSlice no zero") (fun z => selB (andB (Nat.ble len cap) (andB (Nat.ble cap 1099511627776) (Nat.ble (Nat.mul i.2.2 cap) 1099511627776))) (R.pure (newCells (repl cap z), .slice len cap)) (R.fail "makeSlice great")) (zcells P i.1 i.2.1 cap))

noncomputable def makeSliceR (P : Program) (t : TypeId) (a b : V) : R (Blk × Shp) := (Option.rec (motive := fun _ => R (Blk × Shp)) (R.fail "makeSlice") (fun i => onInt a (fun _ el => onInt b (fun _ ec => (natR el).bnd fun len => (natR ec).bnd fun cap => makeSliceL P len cap i) (R.fail "makeSlice")) (R.fail "makeSlice")) (elemInfo P t))

noncomputable def newBlk (b : Blk) : M Nat := fun m p => (Mem.rec (motive := fun _ => Pc → T (Rs Nat)) (fun tr nb tok nt => fun p => .ret ⟨nb, ⟨tr.set nb b, Nat.succ nb, tok, nt⟩, p⟩) (m)) p

noncomputable def newTok (lb : Nat) : M Nat := fun m p => (Mem.rec (motive := fun _ => Pc → T (Rs Nat)) (fun tr nb tok nt => fun p => .ret ⟨nt, ⟨tr, nb, tok.set nt lb, Nat.succ nt⟩, p⟩) (m)) p

/-! ### what writes memory -/

noncomputable def putBlk (i : Nat) (b : Blk) : M Unit := fun m p => (Mem.rec (motive := fun _ => Pc → T (Rs Unit)) (fun tr nb tok nt => fun p => .ret ⟨(), ⟨tr.set i b, nb, tok, nt⟩, p⟩) (m)) p

noncomputable def killBlk (i : Nat) : M Unit := fun m p => (Mem.rec (motive := fun _ => Pc → T (Rs Unit)) (fun tr nb tok nt => fun p => .ret ⟨(), ⟨tr.del i, nb, tok, nt⟩, p⟩) (m)) p

noncomputable def wrL (i : Nat) (pl : Bool) (g : Option (Nat × Nat)) (l : Option (List V)) : M Unit := (Option.rec (motive := fun _ => M Unit) (M.fail "store no such cell") (fun l => putBlk i (.cells l true pl g)) (l))

noncomputable def wrCells (i o : Nat) (vs : List V) : M Unit := fun m p =>
  onCells (m.tr.get i) (fun l wr pl g => selB (andB wr (allCells vs)) (wrL i pl g (over o vs l) m p) (.fail "store")) (.fail "store no row that may be written")

noncomputable def wrSome (i o : Nat) (vs : List V) : M Unit := (List.rec (motive := fun _ => Nat → Nat → List V → M Unit) (fun _ _ _ => M.pure ()) (fun _ _ _ => wrCells) (vs)) i o vs

noncomputable def storeM (P : Program) (t : TypeId) (a x : V) : M Unit := (Option.rec (motive := fun _ => M Unit) (M.fail "store") (fun n => onPtr a (fun i o => selB (Nat.beq (lenL x.cells) n) (wrSome i o x.cells) (M.fail "store size")) (M.fail "store no address")) (szOf P t))

/-- the cells of the first n elements of a slice, or of a string -/
noncomputable def firstR (sz n : Nat) (x : V) : R (List V) := (V.rec (motive_1 := fun _ => R (List V)) (motive_2 := fun _ => Unit) (fun _ => R.fail "slice or string") (fun _ _ => R.fail "slice or string") (fun l => R.opt "bytes" ((takeE n l).map fun r => r.map (.int .u8))) (R.fail "slice or string") (fun _ _ => R.fail "slice or string") (R.pure []) (fun i o _ _ => rdCells i o (Nat.mul n sz)) (R.fail "slice or string") (fun _ => R.fail "slice or string") (fun _ _ _ _ _ => R.fail "slice or string") (R.fail "slice or string") (fun _ _ _ => R.fail "slice or string") (R.fail "slice or string") (fun _ _ => R.fail "slice or string") (fun _ _ => R.fail "slice or string") (R.fail "slice or string") (fun _ _ _ => R.fail "slice or string") (fun _ _ _ _ => R.fail "slice or string") (fun _ _ => (Nat.rec (motive := fun _ => R (List V)) (R.pure []) (fun _ _ => R.fail "slice or string") (n))) Unit.unit (fun _ _ _ _ => Unit.unit) (x))

noncomputable def lenV (x : V) : Option Nat := (V.rec (motive_1 := fun _ => Option Nat) (motive_2 := fun _ => Unit) (fun _ => none) (fun _ _ => none) (fun l => some (lenL l)) (none) (fun _ _ => none) (some 0) (fun _ _ n _ => some n) (none) (fun _ => none) (fun _ _ _ _ _ => none) (none) (fun _ _ _ => none) (none) (fun _ _ => none) (fun _ _ => none) (none) (fun _ _ _ => none) (fun _ _ _ _ => none) (fun _ _ => some 0) Unit.unit (fun _ _ _ _ => Unit.unit) (x))

/-- a new row of a capacity that is not known -/
noncomputable def growM (sz need : Nat) (l : List V) : M V :=
  selB (Nat.beq (lenL l) (Nat.mul need sz)) ((newTok need).bnd fun tk => (newBlk (.cells l true true (some (tk, sz)))).bnd fun i => M.pure (.slice i 0 need (.t tk 0))) (M.fail "append size")

/-- a row that may be written and goes on up to the token's number of elements -/
noncomputable def goesOn (b : Option Blk) (tk sz : Nat) : Bool :=
  onCells b (fun _ wr pl g => andB wr (andB pl (Option.rec (motive := fun _ => Bool) (false) (fun a => andB (Nat.beq a.1 tk) (Nat.beq a.2 sz)) (g)))) false

noncomputable def isOn (i tk sz : Nat) : M Unit := fun m p => selB (goesOn (m.tr.get i) tk sz) (.ret ⟨(), m, p⟩) (.fail "append a row of another make")

def bigN : Nat := 1099511627776

noncomputable def appNil (sz n : Nat) (x : V) : M V := (Nat.rec (motive := fun _ => M V) (M.pure .nilSlice) (fun q _ => (firstR sz (Nat.succ q) x).thn fun l => growM sz (Nat.succ q) l) (n))

noncomputable def appIn (sz n i o len c : Nat) (x : V) : M V :=
  (firstR sz n x).thn fun l => (wrSome i (Nat.add o (Nat.mul len sz)) l).bnd fun _ => M.pure (.slice i o (Nat.add len n) (.n c))

noncomputable def appGrow (sz n i o len : Nat) (x : V) : M V :=
  (rdCells i o (Nat.mul len sz)).thn fun old => (firstR sz n x).thn fun l => growM sz (Nat.add len n) (catV old l)

noncomputable def appTok (sz n i o len tk k : Nat) (x : V) : M V := (Nat.rec (motive := fun _ => M V) ((firstR sz 0 x).thn fun _ => M.pure (.slice i o len (.t tk k))) (fun q _ => (rdCells i o (Nat.mul len sz)).thn fun old => (firstR sz (Nat.succ q) x).thn fun l => (isOn i tk sz).bnd fun _ =>
      selB (andB (Nat.beq o (Nat.mul k sz)) (allCells l)) ((killBlk i).bnd fun _ => growM sz (Nat.add len (Nat.succ q)) (catV old l)) (M.fail "append a slice at another place")) (n))

noncomputable def appSlice (sz by' n i o len : Nat) (c : Cp) (x : V) : M V :=
  selB (Nat.ble (Nat.mul (Nat.add len n) by') bigN) (Cp.rec (motive := fun _ => M V) (fun c => selB (Nat.ble (Nat.add len n) c) (appIn sz n i o len c x) (appGrow sz n i o len x)) (fun tk k => appTok sz n i o len tk k x) (c)) (M.fail "append great")

noncomputable def appV (sz by' n : Nat) (s x : V) : M V := (V.rec (motive_1 := fun _ => Nat → Nat → Nat → V → M V) (motive_2 := fun _ => Unit) (fun _ => fun _ _ _ _ => M.fail "append") (fun _ _ => fun _ _ _ _ => M.fail "append") (fun _ => fun _ _ _ _ => M.fail "append") (fun _ _ _ _ => M.fail "append") (fun _ _ => fun _ _ _ _ => M.fail "append") (fun sz by' n x => selB (Nat.ble (Nat.mul n by') bigN) (appNil sz n x) (M.fail "append great")) (fun i o len c => fun sz by' n x => appSlice sz by' n i o len c x) (fun _ _ _ _ => M.fail "append") (fun _ => fun _ _ _ _ => M.fail "append") (fun _ _ _ _ _ => fun _ _ _ _ => M.fail "append") (fun _ _ _ _ => M.fail "append") (fun _ _ _ => fun _ _ _ _ => M.fail "append") (fun _ _ _ _ => M.fail "append") (fun _ _ => fun _ _ _ _ => M.fail "append") (fun _ _ => fun _ _ _ _ => M.fail "append") (fun _ _ _ _ => M.fail "append") (fun _ _ _ => fun _ _ _ _ => M.fail "append") (fun _ _ _ _ => fun _ _ _ _ => M.fail "append") (fun i z => fun sz by' n x => (Nat.rec (motive := fun _ => M V) (M.pure (.eslice i z)) (fun q _ => selB (andB z (Nat.ble (Nat.mul (Nat.succ q) by') bigN)) ((firstR sz (Nat.succ q) x).thn fun l => growM sz (Nat.succ q) l) (M.fail "append")) (n))) Unit.unit (fun _ _ _ _ => Unit.unit) (s)) sz by' n x

noncomputable def appendT (P : Program) (t : TypeId) (us : List TypeId) (s x : V) : M V := (Option.rec (motive := fun _ => M V) (M.fail "append") (fun a => (Option.rec (motive := fun _ => M V) (M.fail "append") (fun n => selB (plainSrc P us) (appV a.1 a.2 n s x) (M.fail "append of a made slice")) (lenV x))) (elemSz P t))

noncomputable def copyL (n : Nat) (d : V) (l : List V) : M V := (V.rec (motive_1 := fun _ => Nat → List V → M V) (motive_2 := fun _ => Unit) (fun _ => fun _ _ => M.fail "copy") (fun _ _ => fun _ _ => M.fail "copy") (fun _ => fun _ _ => M.fail "copy") (fun _ _ => M.fail "copy") (fun _ _ => fun _ _ => M.fail "copy") (fun n l => (List.rec (motive := fun _ => M V) ((lenN n).thn M.pure) (fun _ _ _ => M.fail "copy") (l))) (fun i o _ _ => fun n l => (wrSome i o l).bnd fun _ => (lenN n).thn M.pure) (fun _ _ => M.fail "copy") (fun _ => fun _ _ => M.fail "copy") (fun _ _ _ _ _ => fun _ _ => M.fail "copy") (fun _ _ => M.fail "copy") (fun _ _ _ => fun _ _ => M.fail "copy") (fun _ _ => M.fail "copy") (fun _ _ => fun _ _ => M.fail "copy") (fun _ _ => fun _ _ => M.fail "copy") (fun _ _ => M.fail "copy") (fun _ _ _ => fun _ _ => M.fail "copy") (fun _ _ _ _ => fun _ _ => M.fail "copy") (fun _ _ => fun _ _ => M.fail "copy") Unit.unit (fun _ _ _ _ => Unit.unit) (d)) n l

noncomputable def minN (a b : Nat) : Nat := selB (Nat.ble a b) a b



noncomputable def copyM (P : Program) (t : TypeId) (d s : V) : M V := (Option.rec (motive := fun _ => M V) (M.fail "copy") (fun a => (Option.rec (motive := fun _ => M V) (M.fail "copy") (fun dn => (Option.rec (motive := fun _ => M V) (M.fail "copy") (fun sn => (firstR a.2 (minN sn dn) s).thn fun l => copyL (minN sn dn) d l) (lenV s))) (lenV d))) (slcOf P t))

noncomputable def setEntry (k v : V) (es : List (V × V × Nat)) : Nat → List (V × V × Nat) := (List.rec (motive := fun _ => Nat → List (V × V × Nat)) (fun _ => []) (fun e es ih => fun i => (Nat.rec (motive := fun _ => List (V × V × Nat)) ((k, v, e.2.2) :: es) (fun i _ => e :: ih i) (i))) (es))

noncomputable def delEntry (es : List (V × V × Nat)) : Nat → List (V × V × Nat) := (List.rec (motive := fun _ => Nat → List (V × V × Nat)) (fun _ => []) (fun e es ih => fun i => (Nat.rec (motive := fun _ => List (V × V × Nat)) (es) (fun i _ => e :: ih i) (i))) (es))

noncomputable def getMap (i : Nat) : R (List (V × V × Nat) × Nat) := fun m p => onMapB (m.tr.get i) (fun es c wr => selB wr (.ret ⟨(es, c), p⟩) (.fail "no map that may be written")) (.fail "no map that may be written")

noncomputable def setMap (i : Nat) (es : List (V × V × Nat)) (clock : Nat) : M Unit := putBlk i (.map es clock true)

noncomputable def updFound (pk : Bool) (i : Nat) (es : List (V × V × Nat)) (clock : Nat) (k v : V) (r : Option (Nat × V)) : M Unit := (Option.rec (motive := fun _ => M Unit) (setMap i (es ++ [(k, v, clock)]) (Nat.succ clock)) (fun a => selB pk (setMap i (setEntry k v es a.1) clock) (M.fail "map update there already")) (r))

/-- a map's entry done anew, or laid -/
noncomputable def mapUpdateM (P : Program) (t : TypeId) (mp k v : V) : M Unit := (Option.rec (motive := fun _ => M Unit) (M.fail "map update") (fun a => selB (keyFit P a.1 k) (onMap mp (fun i => (getMap i).thn fun es => (findKey P a.1 k es.1 0).thn fun r => updFound (plainK P a.1) i es.1 es.2 k v r) (M.fail "map update")) (M.fail "map update the key")) (mapOf P t))

noncomputable def delFound (i : Nat) (es : List (V × V × Nat)) (clock : Nat) (r : Option (Nat × V)) : M V := (Option.rec (motive := fun _ => M V) (M.pure (.tuple [])) (fun a => (setMap i (delEntry es a.1) clock).bnd fun _ => M.pure (.tuple [])) (r))

noncomputable def deleteM (P : Program) (t : TypeId) (mp k : V) : M V := (Option.rec (motive := fun _ => M V) (M.fail "delete") (fun a => selB (keyFit P a.1 k) (V.rec (motive_1 := fun _ => M V) (motive_2 := fun _ => Unit) (fun _ => M.fail "delete") (fun _ _ => M.fail "delete") (fun _ => M.fail "delete") (M.fail "delete") (fun _ _ => M.fail "delete") (M.fail "delete") (fun _ _ _ _ => M.fail "delete") (M.pure (.tuple [])) (fun i => (getMap i).thn fun es => (findKey P a.1 k es.1 0).thn fun r => delFound i es.1 es.2 r) (fun _ _ _ _ _ => M.fail "delete") (M.fail "delete") (fun _ _ _ => M.fail "delete") (M.fail "delete") (fun _ _ => M.fail "delete") (fun _ _ => M.fail "delete") (M.fail "delete") (fun _ _ _ => M.fail "delete") (fun _ _ _ _ => M.fail "delete") (fun _ _ => M.fail "delete") Unit.unit (fun _ _ _ _ => Unit.unit) (mp)) (M.fail "delete the key")) (mapOf P t))

noncomputable def bornAt (es : List (V × V × Nat)) (j : Nat) : Nat := (Option.rec (motive := fun _ => Nat) (0) (fun e => e.2.2) (nth j es))

noncomputable def entFound (pk : Bool) (P : Program) (et : TypeId) (i : Nat) (es : List (V × V × Nat)) (clock : Nat) (k : V) (r : Option (Nat × V)) : M V := (Option.rec (motive := fun _ => M V) ((R.opt "zero" (zeroOf P et)).thn fun z => (setMap i (es ++ [(k, z, clock)]) (Nat.succ clock)).bnd fun _ => (lenN clock).thn fun n => M.pure (.tuple [z, n])) (fun a => selB pk ((setMap i (setEntry k a.2 es a.1) clock).bnd fun _ => (lenN (bornAt es a.1)).thn fun n => M.pure (.tuple [a.2, n])) (M.fail "map entry there already")) (r))

noncomputable def mapEntryM (P : Program) (t : TypeId) (mp k : V) : M V := (Option.rec (motive := fun _ => M V) (M.fail "map entry") (fun a => selB (keyFit P a.1 k) (onMap mp (fun i => (getMap i).thn fun es => (findKey P a.1 k es.1 0).thn fun r => entFound (plainK P a.1) P a.2 i es.1 es.2 k r) (M.fail "map entry")) (M.fail "map entry the key")) (mapOf P t))

noncomputable def findBorn (b : Int) (es : List (V × V × Nat)) : Nat → Option Nat := (List.rec (motive := fun _ => Nat → Option Nat) (fun _ => none) (fun e _ ih => fun i => selB (eqZ (.ofNat e.2.2) b) (some i) (ih (Nat.succ i))) (es))

noncomputable def setVal (v : V) (es : List (V × V × Nat)) : Nat → List (V × V × Nat) := (List.rec (motive := fun _ => Nat → List (V × V × Nat)) (fun _ => []) (fun e es ih => fun i => (Nat.rec (motive := fun _ => List (V × V × Nat)) ((e.1, v, e.2.2) :: es) (fun i _ => e :: ih i) (i))) (es))

noncomputable def entStore (i : Nat) (es : List (V × V × Nat)) (clock : Nat) (v : V) (j : Option Nat) : M Unit := (Option.rec (motive := fun _ => M Unit) (M.fail "entry gone") (fun j => setMap i (setVal v es j) clock) (j))

noncomputable def entryStoreM (mp st v : V) : M Unit :=
  onMap mp (fun i => onInt st (fun _ e => (litR e).thn fun b => (getMap i).thn fun es => entStore i es.1 es.2 v (findBorn b es.1 0)) (M.fail "entry")) (M.fail "entry")

/-- the slice of bytes of a string -/
noncomputable def bytesM (P : Program) (dst : TypeId) (x : V) : M V := (Option.rec (motive := fun _ => M V) (M.fail "convert") (fun a => selB (andB (isByteT P a.1) (Nat.beq a.2 1))
      (onStr x (fun l => (newTok (lenL l)).bnd fun tk => (newBlk (.cells (l.map (.int .u8)) true false (some (tk, 1)))).bnd fun i => M.pure (.slice i 0 (lenL l) (.t tk 0))) (M.fail "convert"))
      (M.fail "convert")) (slcOf P dst))

noncomputable def skipV (x : M Unit) : M V := x.bnd fun _ => M.pure undefV

noncomputable def recvR (P : Program) (t : TypeId) (v : V) (pr : Bool) : R V := (Option.rec (motive := fun _ => R V) (selB (andB (hasT P t) (notB pr)) (R.pure v) (R.fail "method a pointers")) (fun el => selB pr (R.pure v) (loadPtr P el v)) (ptrElem P t))

noncomputable def invokeM (P : Program) (cf : FuncId → List V → M V) (name : String) (recv : V) (args : List V) : M V :=
  onIface recv (fun t v => (Option.rec (motive := fun _ => M V) (M.fail "no method") (fun a => (recvR P t v a.2).thn fun x => cf a.1 (x :: args)) (methodOf P t name))) (M.fail "a method of nil")

/-- functions that the model answers itself: 1: CountString, 2: IndexByteString -/
def extNo (P : Program) (f : FuncId) : Nat :=
  match P.funcs[f]? with
  | some fn => cond (fn.body.isNone && fn.origin == "") (cond (fn.name == "internal/bytealg.CountString") 1 (cond (fn.name == "internal/bytealg.IndexByteString") 2 0)) 0
  | none => 0

noncomputable def cntR (e : E) (l : List E) : Nat → R Nat := (List.rec (motive := fun _ => Nat → R Nat) (fun n => R.pure n) (fun b _ ih => fun n => (decR (mkEq b e)).bnd fun v => ih (selB v (Nat.succ n) n)) (l))
noncomputable def idxR (e : E) (l : List E) : Nat → R V := (List.rec (motive := fun _ => Nat → R V) (fun _ => R.pure (.int .i64 (.n (-1)))) (fun b _ ih => fun i => (decR (mkEq b e)).bnd fun v => (Bool.rec (motive := fun _ => R V) (ih (Nat.succ i)) (lenN i) (v))) (l))

noncomputable def on2x {α : Type} (l : List V) (f : V → V → α) (d : α) : α := (List.rec (motive := fun _ => α) (d) (fun v r _ => (List.rec (motive := fun _ => α) (d) (fun u r _ => (List.rec (motive := fun _ => α) (f v u) (fun _ _ _ => d) (r))) (r))) (l))

noncomputable def extR (n : Nat) (args : List V) : R V := on2x args (fun s b => onStr s (fun l => onInt b (fun k e => selB (Nat.beq (kindNo k) 4) (Nat.rec (motive := fun _ => R V) ((cntR e l 0).bnd lenN) (fun _ _ => idxR e l 0) (n)) (R.fail "extern")) (R.fail "extern")) (R.fail "extern")) (R.fail "extern")

noncomputable def cfx (P : Program) (cf : FuncId → List V → M V) (f : FuncId) (args : List V) : M V := (Nat.rec (motive := fun _ => M V) (cf f args) (fun n _ => (extR n args).thn M.pure) (extNo P f))

/-- a call of a value -/
noncomputable def callFn (P : Program) (cf : FuncId → List V → M V) (fn : Fn) (a args b : List V) : M V := (Fn.rec (motive := fun _ => M V) (fun g => cfx P cf g (catV a (catV args b))) (fun name => onHead (catV a args) (fun r l => invokeM P cf name r l) (M.fail "call")) (fun _ _ => M.fail "call of a methods value") (fun _ _ _ _ => M.fail "call of a methods value") (fun _ => M.fail "call of a methods value") (fn))

noncomputable def callV (P : Program) (cf : FuncId → List V → M V) (f : V) (args : List V) : M V := (V.rec (motive_1 := fun _ => Program → (FuncId → List V → M V) → List V → M V) (motive_2 := fun _ => Unit) (fun _ => fun _ _ _ => M.fail "call of what") (fun _ _ => fun _ _ _ => M.fail "call of what") (fun _ => fun _ _ _ => M.fail "call of what") (fun _ _ _ => M.fail "call of what") (fun _ _ => fun _ _ _ => M.fail "call of what") (fun _ _ _ => M.fail "call of what") (fun _ _ _ _ => fun _ _ _ => M.fail "call of what") (fun _ _ _ => M.fail "call of what") (fun _ => fun _ _ _ => M.fail "call of what") (fun fn a b _ _ => fun P cf args => callFn P cf fn a args b) (fun _ _ _ => M.fail "call of what") (fun _ _ _ => fun _ _ _ => M.fail "call of what") (fun _ _ _ => M.fail "call of what") (fun _ _ => fun _ _ _ => M.fail "call of what") (fun _ _ => fun _ _ _ => M.fail "call of what") (fun _ _ _ => M.fail "call of what") (fun _ _ _ => fun _ _ _ => M.fail "call of what") (fun _ _ _ _ => fun _ _ _ => M.fail "call of what") (fun _ _ => fun _ _ _ => M.fail "call of what") Unit.unit (fun _ _ _ _ => Unit.unit) (f)) P cf args

/-- an index by cases over its values, where the cells are known -/
noncomputable def knownV (x : V) : Bool := (V.rec (motive_1 := fun _ => Bool) (motive_2 := fun _ => Unit) (fun _ => true) (fun _ _ => true) (fun _ => true) (true) (fun _ _ => true) (true) (fun _ _ _ _ => true) (true) (fun _ => true) (fun _ _ _ _ _ => true) (true) (fun _ _ _ => true) (true) (fun _ _ => true) (fun _ _ => true) (true) (fun _ _ _ => false) (fun _ _ _ _ => false) (fun _ _ => true) Unit.unit (fun _ _ _ _ => Unit.unit) (x))
noncomputable def splitIx (x ix : V) : R V := selB (knownV x) (onInt ix (fun k e => (splitE e).bnd fun e => R.pure (.int k e)) (R.pure ix)) (R.pure ix)
noncomputable def splitO (x : V) (o : Option V) : R (Option V) := (Option.rec (motive := fun _ => R (Option V)) (R.pure none) (fun v => (splitIx x v).bnd fun v => R.pure (some v)) (o))

/-! ### an entry of a literal map -/

/-- an entry that is laid into the map b -/
structure Ins where
  kt : TypeId
  b : Nat
  k : V
  v : V

noncomputable def insOf (o : Op) : Program → Env → Option Ins := (Op.rec (motive := fun _ => Program → Env → Option Ins) (fun _ => fun _ _ => none) (fun _ => fun _ _ => none) (fun _ _ _ => fun _ _ => none) (fun _ => fun _ _ => none) (fun _ _ => fun _ _ => none) (fun _ _ => fun _ _ => none) (fun _ _ _ => fun _ _ => none) (fun t m k x => fun P env => (Option.rec (motive := fun _ => Option Ins) (none) (fun a => selB (keyFit P a.1 (opd k env)) (onMap (opd m env) (fun i => some ⟨a.1, i, opd k env, opd x env⟩) none) none) (mapOf P t))) (fun _ _ => fun _ _ => none) (fun _ _ _ => fun _ _ => none) (fun _ => fun _ _ => none) (fun _ => fun _ _ => none) (fun _ => fun _ _ => none) (fun _ _ _ _ _ => fun _ _ => none) (fun _ _ _ => fun _ _ => none) (fun _ _ _ => fun _ _ => none) (fun _ _ => fun _ _ => none) (fun _ _ => fun _ _ => none) (fun _ _ _ => fun _ _ => none) (fun _ _ => fun _ _ => none) (fun _ _ => fun _ _ => none) (fun _ _ _ => fun _ _ => none) (fun _ _ _ _ _ => fun _ _ => none) (fun _ _ _ => fun _ _ => none) (fun _ _ _ => fun _ _ => none) (fun _ _ _ => fun _ _ => none) (fun _ _ _ => fun _ _ => none) (fun _ _ _ _ => fun _ _ => none) (fun _ _ _ _ => fun _ _ => none) (fun _ _ _ => fun _ _ => none) (fun _ _ _ _ => fun _ _ => none) (fun _ _ => fun _ _ => none) (fun _ _ => fun _ _ => none) (fun _ => fun _ _ => none) (fun _ _ _ _ => fun _ _ => none) (fun _ _ => fun _ _ => none) (fun _ => fun _ _ => none) (fun _ => fun _ _ => none) (fun _ => fun _ _ => none) (fun _ => fun _ _ => none) (fun _ _ => fun _ _ => none) (fun _ _ _ => fun _ _ => none) (fun _ _ => fun _ _ => none) (o))

/-- the entries of a map that may be written -/
noncomputable def pmOf {α : Type} (b : Option Blk) (f : List (V × V) → α) (d : α) : α := onPm b (fun es wr => selB wr (f es) d) (onMapB b (fun es _ wr => selB wr (f (es.map fun e => (e.1, e.2.1))) d) d)

noncomputable def isNo (t : T (Rp Bool)) : Bool := (T.rec (motive := fun _ => Bool) (fun a => notB a.v) (fun _ _ _ _ _ => false) (fun _ => false) (t))

/-- two keys that are surely not one -/
noncomputable def apartK (P : Program) (kt : TypeId) (nb nt : Nat) (p : Pc) (a b : V) : Bool := andB (isNo (keyEq P kt a b ⟨.nil, nb, .nil, nt⟩ p)) (isNo (keyEq P kt b a ⟨.nil, nb, .nil, nt⟩ p))

noncomputable def setB (m : Mem) (i : Nat) (b : Blk) : Mem := (Mem.rec (motive := fun _ => Mem) (fun tr nb tok nt => ⟨tr.set i b, nb, tok, nt⟩) (m))
noncomputable def delB (m : Mem) (i : Nat) : Mem := (Mem.rec (motive := fun _ => Mem) (fun tr nb tok nt => ⟨tr.del i, nb, tok, nt⟩) (m))

/-! ### the operations -/

inductive Kd where
  | rd (f : R V)
  | al (f : R (Blk × Shp))
  | ef (f : M V)

/-- how an operation is done -/
abbrev Hn : Type := Program → (FuncId → List V → M V) → Env → Kd

def hNone : Hn := fun _ _ _ => .ef (M.fail "an operation")
noncomputable def hMove (x : Operand) : Hn := fun _ _ env => .rd (R.pure (opd x env))
noncomputable def hPick (c a b : Operand) : Hn := fun _ _ env => .rd (onBool (opd c env) (fun t => (decR t).bnd fun t => (Bool.rec (motive := fun _ => R V) (R.pure (opd b env)) (R.pure (opd a env)) (t))) (R.fail "pick"))
noncomputable def hBuild (t : TypeId) (parts : Array (Nat × Operand)) : Hn := fun P _ env => .rd (buildR P t (partsV parts.toList env))
noncomputable def hLoad (t : TypeId) (a : Operand) : Hn := fun P _ env => .rd (loadPtr P t (opd a env))
noncomputable def hNilCheck (x : Operand) : Hn := fun P _ env => .rd (nilCheckR P (opd x env))
noncomputable def hBin (op : BinOp) (t : TypeId) (x y : Operand) (_ : TypeId) : Hn := fun P _ env => .rd (binR op P t (orB (isConst x) (isConst y)) (opd x env) (opd y env))
noncomputable def hUn (op : UnOp) (_ : TypeId) (x : Operand) : Hn := fun _ _ env => .rd (unR op (opd x env))
/-- a string to a slice -/
def toSlice (P : Program) (src dst : TypeId) : Bool := isStrT P src && (elemOf P dst).isSome
/-- a slice of bytes to its own type: a mark that a string was made of it -/
def markT (P : Program) (src dst : TypeId) : Bool := Nat.beq src dst && !isStrT P src && (match P.underlying src with | some (.slice e) => isByteT P e | _ => false)
noncomputable def markM (x : V) : M V := (V.rec (motive_1 := fun _ => M V) (motive_2 := fun _ => Unit) (fun _ => M.fail "mark") (fun _ _ => M.fail "mark") (fun _ => M.fail "mark") (M.fail "mark") (fun _ _ => M.fail "mark") (M.fail "mark") (fun i _ _ _ => fun m p => onCells (m.tr.get i) (fun l wr _ g => selB wr ((putBlk i (.cells l true false g)).bnd fun _ => M.pure x) (M.fail "mark") m p) (.fail "mark")) (M.fail "mark") (fun _ => M.fail "mark") (fun _ _ _ _ _ => M.fail "mark") (M.fail "mark") (fun _ _ _ => M.fail "mark") (M.fail "mark") (fun _ _ => M.fail "mark") (fun _ _ => M.fail "mark") (M.fail "mark") (fun _ _ _ => M.fail "mark") (fun _ _ _ _ => M.fail "mark") (fun _ _ => M.fail "mark") Unit.unit (fun _ _ _ _ => Unit.unit) (x))
noncomputable def hConv (src dst : TypeId) (x : Operand) : Hn := fun P _ env => (Bool.rec (motive := fun _ => Kd) ((Bool.rec (motive := fun _ => Kd) (.rd (convR P src dst (opd x env))) (.ef (markM (opd x env))) (markT P src dst))) (.ef (bytesM P dst (opd x env))) (toSlice P src dst))
noncomputable def hIface (t : TypeId) (x : Operand) : Hn := fun P _ env => .rd (Option.rec (motive := fun _ => R V) (selB (hasT P t) (R.pure (.iface t (opd x env))) (R.fail "makeInterface")) (fun _ => R.fail "makeInterface") (wantsOf P t))
noncomputable def hFunc (fn : Fn) (first captured : Array Operand) : Hn := fun _ _ env => .rd (R.pure (.func fn (opds first.toList env) (opds captured.toList env)))
noncomputable def hSlice (t : TypeId) (x : Operand) (lo hi mx : Option Operand) : Hn := fun P _ env => .rd ((splitO (opd x env) (optV lo env)).bnd fun l => (splitO (opd x env) (optV hi env)).bnd fun h => sliceR P t l h (optV mx env) (opd x env))
noncomputable def hFieldAddr (t : TypeId) (x : Operand) (f : Nat) : Hn := fun P _ env => .rd (fieldAddrR P t f (opd x env))
noncomputable def hField (t : TypeId) (x : Operand) (f : Nat) : Hn := fun P _ env => .rd (fieldR P t f (opd x env))
noncomputable def hIndexAddr (t : TypeId) (x ix : Operand) : Hn := fun P _ env => .rd ((splitIx (opd x env) (opd ix env)).bnd fun i => indexAddrR P t (opd x env) i)
noncomputable def hIndex (t : TypeId) (x ix : Operand) : Hn := fun P _ env => .rd ((splitIx (opd x env) (opd ix env)).bnd fun i => indexR P t (opd x env) i)
noncomputable def hLookup (t : TypeId) (x ix : Operand) (ok : Bool) : Hn := fun P _ env => .rd (lookupR P t ok (opd x env) (opd ix env))
noncomputable def hAssert (x : Operand) (_ t : TypeId) (ok : Bool) : Hn := fun P _ env => .rd (assertR P t ok (opd x env))
noncomputable def hExtract (x : Operand) (i : Nat) : Hn := fun _ _ env => .rd (onTup (opd x env) (fun l => R.opt "extract" (nth i l)) (R.fail "extract"))

noncomputable def hAlloc (t : TypeId) : Hn := fun P _ _ => .al (R.opt "alloc no zero" ((zeroOf P t).map fun z => (newCells z.cells, Shp.ptr)))
noncomputable def hBox (_ : TypeId) (x : Operand) : Hn := fun _ _ env => .al (selB (allCells (opd x env).cells) (R.pure (newCells (opd x env).cells, .ptr)) (R.fail "box"))
noncomputable def hBuildSlice (t : TypeId) (n : Nat) (parts : Array (Nat × Operand)) : Hn := fun P _ env => .al (buildSliceR P t n (partsV parts.toList env))
noncomputable def hMakeMap (t : TypeId) (r : Option Operand) : Hn := fun P _ env => .al (Option.rec (motive := fun _ => R (Blk × Shp)) (R.pure (.map [] 0 true, .map)) (fun x => onInt (opd x env) (fun _ _ => selB (isMapT P t) (R.pure (.map [] 0 true, .map)) (R.fail "makeMap")) (R.fail "makeMap")) (r))
noncomputable def hMakeSlice (t : TypeId) (l c : Operand) : Hn := fun P _ env => .al (makeSliceR P t (opd l env) (opd c env))

noncomputable def hStore (t : TypeId) (a x : Operand) : Hn := fun P _ env => .ef (skipV (storeM P t (opd a env) (opd x env)))
noncomputable def hUpdate (t : TypeId) (m k x : Operand) : Hn := fun P _ env => .ef (skipV (mapUpdateM P t (opd m env) (opd k env) (opd x env)))
noncomputable def hEntry (t : TypeId) (m k : Operand) : Hn := fun P _ env => .ef (mapEntryM P t (opd m env) (opd k env))
noncomputable def hEntStore (_ : TypeId) (m s x : Operand) : Hn := fun _ _ env => .ef (skipV (entryStoreM (opd m env) (opd s env) (opd x env)))

noncomputable def on1 {α : Type} (l : List V) (f : V → α) (d : α) : α := (List.rec (motive := fun _ => α) (d) (fun v _ _ => f v) (l))
noncomputable def on2 {α : Type} (l : List V) (f : V → V → α) (d : α) : α := (List.rec (motive := fun _ => α) (d) (fun v r _ => (List.rec (motive := fun _ => α) (d) (fun u _ _ => f v u) (r))) (l))
noncomputable def onT {α : Type} (l : List TypeId) (f : TypeId → List TypeId → α) (d : α) : α := (List.rec (motive := fun _ => α) (d) (fun v r _ => f v r) (l))

noncomputable def hLen (ts : Array TypeId) (args : Array Operand) : Hn := fun P _ env => .rd (onT ts.toList (fun t _ => on1 (opds args.toList env) (lenR P t) (R.fail "len")) (R.fail "len"))
noncomputable def hCap (ts : Array TypeId) (args : Array Operand) : Hn := fun P _ env => .rd (onT ts.toList (fun t _ => on1 (opds args.toList env) (capR P t) (R.fail "cap")) (R.fail "cap"))
noncomputable def hMin (lt : Bool) (args : Array Operand) : Hn := fun _ _ env => .rd (minMax1 lt (opds args.toList env))
noncomputable def hAppend (ts : Array TypeId) (args : Array Operand) : Hn := fun P _ env => .ef (onT ts.toList (fun t us => on2 (opds args.toList env) (appendT P t us) (M.fail "append")) (M.fail "append"))
noncomputable def hCopy (ts : Array TypeId) (args : Array Operand) : Hn := fun P _ env => .ef (onT ts.toList (fun t _ => on2 (opds args.toList env) (copyM P t) (M.fail "copy")) (M.fail "copy"))
noncomputable def hDelete (ts : Array TypeId) (args : Array Operand) : Hn := fun P _ env => .ef (onT ts.toList (fun t _ => on2 (opds args.toList env) (deleteM P t) (M.fail "delete")) (M.fail "delete"))

noncomputable def hBuiltin (b : Builtin) : Array TypeId → Array Operand → Hn := (Builtin.rec (motive := fun _ => Array TypeId → Array Operand → Hn) (hAppend) (hCap) (fun _ _ => hNone) (fun _ _ => hNone) (fun _ _ => hNone) (hCopy) (hDelete) (fun _ _ => hNone) (hLen) (fun _ _ => hNone) (fun _ => hMin false) (fun _ => hMin true) (fun _ _ => hNone) (fun _ _ => hNone) (fun _ _ => hNone) (fun _ _ => hNone) (fun _ _ => hNone) (fun _ _ => hNone) (fun _ _ => hNone) (fun _ _ => hNone) (fun _ _ => hNone) (fun _ _ => hNone) (fun _ _ => hNone) (fun _ _ => hNone) (fun _ _ => hNone) (fun _ _ => hNone) (b))

noncomputable def hValue (f : Operand) (args : Array Operand) : Hn := fun P cf env => .ef (callV P cf (opd f env) (opds args.toList env))
noncomputable def hInvoke (r : Operand) (name : String) (args : Array Operand) : Hn := fun P cf env => .ef (invokeM P cf name (opd r env) (opds args.toList env))

noncomputable def hCall (c : Call) : Hn := (Callee.rec (motive := fun _ => Array TypeId → Array Operand → Hn) (fun f => fun _ => hValue f) (fun r n => fun _ => hInvoke r n) (fun b => hBuiltin b) (c.callee)) c.argTypes c.args

noncomputable def evKind (o : Op) : Hn := (Op.rec (motive := fun _ => Hn) (fun x => hMove x) (fun x => hMove x) (fun c a b => hPick c a b) (fun t => hAlloc t) (fun t x => hBox t x) (fun t ps => hBuild t ps) (fun t n ps => hBuildSlice t n ps) (fun t m k x => hUpdate t m k x) (fun t a => hLoad t a) (fun t a x => hStore t a x) (fun _ => hNone) (fun _ => hNone) (fun x => hNilCheck x) (fun op t x y u => hBin op t x y u) (fun op t x => hUn op t x) (fun s d x => hConv s d x) (fun _ _ => hNone) (fun t x => hIface t x) (fun fn a b => hFunc fn a b) (fun t r => hMakeMap t r) (fun _ _ => hNone) (fun t l c => hMakeSlice t l c) (fun t x l h m => hSlice t x l h m) (fun t x f => hFieldAddr t x f) (fun t x f => hField t x f) (fun t x i => hIndexAddr t x i) (fun t x i => hIndex t x i) (fun t x i ok => hLookup t x i ok) (fun t m k x => hUpdate t m k x) (fun t m k => hEntry t m k) (fun t m s x => hEntStore t m s x) (fun _ _ => hNone) (fun _ _ => hNone) (fun _ => hNone) (fun x t u ok => hAssert x t u ok) (fun x i => hExtract x i) (fun c => hCall c) (fun _ => hNone) (fun _ => hNone) (fun _ => hNone) (fun _ _ => hNone) (fun _ _ _ => hNone) (fun _ _ => hNone) (o))

end Go.Sy
