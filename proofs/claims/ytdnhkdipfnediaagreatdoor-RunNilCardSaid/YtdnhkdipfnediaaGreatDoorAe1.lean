/- An evaluator over an abstract heap: its definitions. No condition: definitions alone. -/
import GoSem.Step
set_option linter.unusedSectionVars false
namespace Go.AE
noncomputable section

/-- A map from numbers to things, as a tree by the number's bits. -/
inductive T (α : Type) where
  | leaf
  | node (l : T α) (v : Option α) (r : T α)

/-- A number's way through a tree. -/
def bitsF (f : Nat) : Nat → List Bool :=
  Nat.rec (motive := fun _ => Nat → List Bool) (fun _ => []) (fun _ ih n => Nat.rec (motive := fun _ => List Bool) []
    (fun k _ => Bool.rec (motive := fun _ => List Bool) (true :: ih (Nat.div k 2)) (false :: ih (Nat.div k 2)) (Nat.beq (Nat.mod k 2) 0)) n) f
def bits (n : Nat) : List Bool := bitsF n n

def getB {α : Type} (bs : List Bool) : T α → Option α :=
  List.rec (motive := fun _ => T α → Option α) (fun t => T.rec (motive := fun _ => Option α) none (fun _ v _ _ _ => v) t)
    (fun b _ ih t => T.rec (motive := fun _ => Option α) none (fun l _ r _ _ => Bool.rec (motive := fun _ => Option α) (ih l) (ih r) b) t) bs
def setB {α : Type} (bs : List Bool) : T α → Option α → T α :=
  List.rec (motive := fun _ => T α → Option α → T α) (fun t x => T.rec (motive := fun _ => T α) (.node .leaf x .leaf) (fun l _ r _ _ => .node l x r) t)
    (fun b _ ih t x => T.rec (motive := fun _ => T α)
      (Bool.rec (motive := fun _ => T α) (.node (ih .leaf x) none .leaf) (.node .leaf none (ih .leaf x)) b)
      (fun l v r _ _ => Bool.rec (motive := fun _ => T α) (.node (ih l x) v r) (.node l v (ih r x)) b) t) bs

def T.get {α : Type} (t : T α) (n : Nat) : Option α := getB (bits n) t
def T.put {α : Type} (t : T α) (n : Nat) (x : Option α) : T α := setB (bits n) t x

/-- What is known of a slice's capacity: it, or that it is at least the length (elements of so many cells). -/
inductive Cap where
  | exact (c : Nat)
  | more (size : Nat)
  deriving DecidableEq, Inhabited, Repr

inductive AV where
  | bool (b : Bool)
  | int (k : IntKind) (n : Int)
  | str (l : List Nat)
  | nilPtr
  | ptr (n o : Nat)
  | nilSlice
  | slice (n o len : Nat) (c : Cap)
  /-- a slice without elements that is not nil -/
  | emptySlice
  | nilMap
  | map (n : Nat)
  | func (fn : Fn) (first captured : List AV)
  | nilFunc
  | iface (t : TypeId) (v : AV)
  | nilIface
  | agg (cs : List AV)
  | tup (vs : List AV)
  /-- a number that is known by a name alone -/
  | sym (k : IntKind) (i : Nat)
  deriving Inhabited, Repr

def AV.undef : AV := .tup []

def AV.cells : AV → List AV
  | .agg cs => cs
  | v => [v]

inductive Blk where
  | cells (cs : List AV) (elem : TypeId)
  | map (es : List (AV × AV × Nat)) (clock : Nat)
  | strIter (s : List Nat) (pos : Nat)
  | mapIter (m : Option Nat) (since : Nat) (seen : List Nat) (stepped : Nat)
  | loop (st : LoopState) (pending : Option Code) (nt : Nat) (tm : T AV) (params : List Tmp) (assign body : Code) (defers : Nat)
  | dfr

structure H where
  tr : T Blk
  nx : Nat

inductive R (α : Type) where
  | ok (a : α)
  | bad (why : String)

def R.bind {α β : Type} : R α → (α → R β) → R β
  | .ok a, f => f a
  | .bad w, _ => .bad w

instance : Monad R where
  pure := R.ok
  bind := R.bind

def H.get (h : H) (n : Nat) : Option Blk := h.tr.get n
def H.put (h : H) (n : Nat) (b : Blk) : H := { h with tr := h.tr.put n (some b) }
def H.kill (h : H) (n : Nat) : H := { h with tr := h.tr.put n none }
def H.new (h : H) (b : Blk) : H := { tr := h.tr.put h.nx (some b), nx := h.nx + 1 }

/-- A type, as far as it is asked. -/
inductive UD where
  | int (k : IntKind)
  | bool
  | str
  | ptr (e : TypeId)
  | slice (e : TypeId)
  | arr (n : Nat) (e : TypeId)
  | struct (fs : List (Nat × TypeId))
  | map (k e : TypeId)
  | func
  | iface
  | other
  deriving Inhabited, Repr

/-- What a cell is. -/
inductive CK where
  | int (k : IntKind)
  | bool
  | str
  deriving DecidableEq, Inhabited, Repr

structure TI where
  und : UD
  size : Nat
  bytes : Nat
  zero : Option (List AV)
  /-- equality of two values of the type is that of their cells, each a number, a text or a truth: what each is -/
  kinds : Option (List CK)
  /-- may two values of the type be compared? -/
  cmp : Bool
  meths : List (String × FuncId)
  deriving Inhabited, Repr

def TI.agg (t : TI) : Bool := match t.und with | .arr .. | .struct _ => true | _ => false

inductive Ext where
  | indexByteString
  deriving Repr

structure Env where
  fn : T Func
  ty : T TI
  ext : T Ext
  globals : Nat
  /-- is the number of one name that of another? -/
  symEq : Nat → Nat → Option Bool
  /-- is it this number? -/
  symC : Nat → Int → Option Bool

/-! ### Values -/

def ofV1 : Value → Option AV
  | .bool b => some (.bool b)
  | .int k n => some (.int k n)
  | .string s => some (.str (s.data.toList.map UInt8.toNat))
  | .pointer none => some .nilPtr
  | .slice none 0 0 => some .nilSlice
  | .map none => some .nilMap
  | .nilFunc => some .nilFunc
  | .nilIface => some .nilIface
  | _ => none

def ofVs : List Value → Option (List AV)
  | [] => some []
  | v :: l => match ofV1 v, ofVs l with
    | some a, some m => some (a :: m)
    | _, _ => none

def ofV : Value → Option AV
  | .agg cs => match ofVs cs.toList with | some l => some (.agg l) | none => none
  | .tuple cs => match ofVs cs.toList with | some l => some (.tup l) | none => none
  | .func (.func f) fi ca => match fi.toList, ca.toList with | [], [] => some (.func (.func f) [] []) | _, _ => none
  | v => ofV1 v

def tmGet (tm : T AV) (t : Nat) : AV := match tm.get t with | some v => v | none => .undef

def evX (tm : T AV) : Operand → R AV
  | .tmp t => .ok (tmGet tm t)
  | .const v => match ofV v with | some a => .ok a | none => .bad "const"
  | .global g => bif Nat.blt g 1000 then .ok (.ptr g 0) else .bad "global"
  | .func f => .ok (.func (.func f) [] [])

def evXs (tm : T AV) : List Operand → R (List AV)
  | [] => .ok []
  | x :: l => match evX tm x with
    | .ok a => (match evXs tm l with | .ok m => .ok (a :: m) | .bad w => .bad w)
    | .bad w => .bad w

def lenA {α : Type} : List α → Nat
  | [] => 0
  | _ :: l => Nat.succ (lenA l)

/-- Numbers, forced. -/
def okNat (k : IntKind) : Nat → R AV
  | 0 => .ok (.int k (.ofNat 0))
  | n + 1 => .ok (.int k (.ofNat (n + 1)))
def okNeg (k : IntKind) : Nat → R AV
  | 0 => .ok (.int k (.negSucc 0))
  | n + 1 => .ok (.int k (.negSucc (n + 1)))
def okInt (k : IntKind) : Int → R AV
  | .ofNat n => okNat k n
  | .negSucc n => okNeg k n

def wrapA (k : IntKind) (n : Int) : Int :=
  match k, n with
  | .i64, .ofNat m => bif Nat.blt m 9223372036854775808 then .ofNat m else k.wrap n
  | .i64, .negSucc m => bif Nat.blt m 9223372036854775808 then .negSucc m else k.wrap n
  | .u64, .ofNat m => .ofNat (m % 18446744073709551616)
  | .u32, .ofNat m => .ofNat (m % 4294967296)
  | .u16, .ofNat m => .ofNat (m % 65536)
  | .u8, .ofNat m => .ofNat (m % 256)
  | .i32, .ofNat m => bif Nat.blt m 2147483648 then .ofNat m else k.wrap n
  | .i32, .negSucc m => bif Nat.blt m 2147483648 then .negSucc m else k.wrap n
  | k, n => k.wrap n

def beqInt : Int → Int → Bool
  | .ofNat a, .ofNat b => Nat.beq a b
  | .negSucc a, .negSucc b => Nat.beq a b
  | _, _ => false
def bltInt : Int → Int → Bool
  | .ofNat a, .ofNat b => Nat.blt a b
  | .negSucc a, .negSucc b => Nat.blt b a
  | .negSucc _, .ofNat _ => true
  | .ofNat _, .negSucc _ => false
def bleInt (a b : Int) : Bool := !bltInt b a

def beqL : List Nat → List Nat → Bool
  | [], [] => true
  | a :: l, b :: m => Nat.beq a b && beqL l m
  | _, _ => false
def lessL : List Nat → List Nat → Bool
  | _, [] => false
  | [], _ :: _ => true
  | a :: x, b :: y => Nat.blt a b || (Nat.beq a b && lessL x y)

def kindEq (a b : IntKind) : Bool := decide (a = b)

/-- Equality of two cells that are numbers, texts or truths; none: they are not. -/
def eqCell : AV → AV → Option Bool
  | .bool a, .bool b => some (a == b)
  | .int k a, .int k' b => bif kindEq k k' then some (beqInt a b) else none
  | .str a, .str b => some (beqL a b)
  | _, _ => none
def eqCells : List AV → List AV → Option Bool
  | [], [] => some true
  | a :: l, b :: m => match eqCell a b, eqCells l m with
    | some x, some y => some (x && y)
    | _, _ => none
  | _, _ => none

def ckOk : CK → AV → Bool
  | .int k, .int k' _ => kindEq k k'
  | .bool, .bool _ => true
  | .str, .str _ => true
  | _, _ => false
def kindsOk : List CK → List AV → Bool
  | [], [] => true
  | k :: ks, a :: l => ckOk k a && kindsOk ks l
  | _, _ => false

/-- Equality of two values of a flat type. -/
def flatEq (ti : TI) (x y : AV) : Option Bool :=
  match ti.kinds with
  | none => none
  | some ks =>
    match x, y with
    | .agg a, .agg b => bif ti.agg && kindsOk ks a && kindsOk ks b then eqCells a b else none
    | x, y => bif !ti.agg && kindsOk ks [x] && kindsOk ks [y] then eqCells [x] [y] else none

def arith (op : BinOp) (k : IntKind) (a b : Int) : R AV :=
  match op with
  | .add => okInt k (wrapA k (a + b))
  | .sub => okInt k (wrapA k (a - b))
  | .mul => okInt k (wrapA k (a * b))
  | .quo => bif beqInt b 0 then .bad "division by zero" else okInt k (wrapA k (a.tdiv b))
  | .rem => bif beqInt b 0 then .bad "division by zero" else okInt k (a.tmod b)
  | .eql => .ok (.bool (beqInt a b))
  | .neq => .ok (.bool (!beqInt a b))
  | .lss => .ok (.bool (bltInt a b))
  | .leq => .ok (.bool (bleInt a b))
  | .gtr => .ok (.bool (bltInt b a))
  | .geq => .ok (.bool (bleInt b a))
  | .and => match a, b with
    | .ofNat m, .ofNat n => (match k with
      | .u8 | .u16 | .u32 | .u64 => okInt k (wrapA k (.ofNat (Nat.land m n)))
      | _ => .bad "bits of a signed number")
    | _, _ => .bad "bits"
  | .or => match a, b with
    | .ofNat m, .ofNat n => (match k with
      | .u8 | .u16 | .u32 | .u64 => okInt k (wrapA k (.ofNat (Nat.lor m n)))
      | _ => .bad "bits of a signed number")
    | _, _ => .bad "bits"
  | .xor => match a, b with
    | .ofNat m, .ofNat n => (match k with
      | .u8 | .u16 | .u32 | .u64 => okInt k (wrapA k (.ofNat (Nat.xor m n)))
      | _ => .bad "bits of a signed number")
    | _, _ => .bad "bits"
  | _ => .bad "binOp"

/-- Equality, but of numbers and texts. -/
def eqOther (E : Env) (ti : TI) (x y : AV) : Option Bool :=
  match ti.und, x, y with
  | .bool, .bool a, .bool b => some (a == b)
  | .ptr _, .nilPtr, .nilPtr => some true
  | .ptr _, .nilPtr, .ptr .. | .ptr _, .ptr .., .nilPtr => some false
  | .slice _, .nilSlice, .nilSlice => some true
  | .slice _, .nilSlice, .slice .. | .slice _, .slice .., .nilSlice => some false
  | .slice _, .nilSlice, .emptySlice | .slice _, .emptySlice, .nilSlice => some false
  | .map .., .nilMap, .nilMap => some true
  | .map .., .nilMap, .map _ | .map .., .map _, .nilMap => some false
  | .func, .nilFunc, .nilFunc => some true
  | .func, .nilFunc, .func .. | .func, .func .., .nilFunc => some false
  | .iface, .nilIface, .iface .. | .iface, .iface .., .nilIface => some false
  | .iface, .iface t v, .iface u w => bif Nat.beq t u then (match E.ty.get t with
    | some ti => bif ti.cmp then flatEq ti v w else none
    | none => none) else some false
  | _, .agg a, .agg b => flatEq ti (.agg a) (.agg b)
  | _, _, _ => none

/-- Numbers known by name: equality alone. -/
def symOp (op : BinOp) : Option Bool → R AV
  | none => .bad "symbol"
  | some r => match op with
    | .eql => .ok (.bool r)
    | .neq => .ok (.bool (!r))
    | _ => .bad "symbol"

def binOp (E : Env) (op : BinOp) (t : TypeId) (x y : AV) : R AV :=
  match x, y with
  | .sym k i, .sym k' j => bif kindEq k k' then symOp op (E.symEq i j) else .bad "symbols"
  | .sym k i, .int k' n => bif kindEq k k' then symOp op (E.symC i n) else .bad "symbols"
  | .int k n, .sym k' i => bif kindEq k k' then symOp op (E.symC i n) else .bad "symbols"
  | .int k a, .int k' b =>
    (match op with
    | .shl => bif bltInt b 0 then .bad "shift" else okInt k (wrapA k (a * 2 ^ (min b.toNat k.bits)))
    | .shr => bif bltInt b 0 then .bad "shift" else okInt k (a.fdiv (2 ^ (min b.toNat k.bits)))
    | _ => bif kindEq k k' then arith op k a b else .bad "kinds")
  | .str a, .str b =>
    (match op with
    | .add => bif Nat.blt (a.length + b.length) 1000000000 then .ok (.str (a ++ b)) else .bad "long"
    | .eql => .ok (.bool (beqL a b))
    | .neq => .ok (.bool (!beqL a b))
    | .lss => .ok (.bool (lessL a b))
    | .leq => .ok (.bool (lessL a b || beqL a b))
    | .gtr => .ok (.bool (!(lessL a b || beqL a b)))
    | .geq => .ok (.bool (!lessL a b))
    | _ => .bad "binOp str")
  | x, y =>
    match E.ty.get t with
    | none => .bad "type"
    | some ti =>
      match eqOther E ti x y, op with
      | some b, .eql => .ok (.bool b)
      | some b, .neq => .ok (.bool (!b))
      | _, _ => .bad "binOp"

def unOp (op : UnOp) (x : AV) : R AV :=
  match op, x with
  | .not, .bool b => .ok (.bool (!b))
  | .neg, .int k n => okInt k (wrapA k (0 - n))
  | _, _ => .bad "unOp"

/-! ### Cells -/

def takeL {α : Type} : Nat → List α → Option (List α)
  | 0, _ => some []
  | _ + 1, [] => none
  | n + 1, a :: l => match takeL n l with | some m => some (a :: m) | none => none
def dropL {α : Type} : Nat → List α → List α
  | 0, l => l
  | _ + 1, [] => []
  | n + 1, _ :: l => dropL n l
def nthL {α : Type} : List α → Nat → Option α
  | [], _ => none
  | a :: _, 0 => some a
  | _ :: l, n + 1 => nthL l n
/-- Values laid over cells from a place on; none: they don't lie there. -/
def overL {α : Type} : List α → Nat → List α → Option (List α)
  | l, _, [] => some l
  | [], _, _ :: _ => none
  | _ :: l, 0, v :: vs => match overL l 0 vs with | some m => some (v :: m) | none => none
  | a :: l, n + 1, vs => match overL l n vs with | some m => some (a :: m) | none => none

def readCells (h : H) (n o k : Nat) : R (List AV) :=
  match h.get n with
  | some (.cells cs _) => (match takeL k (dropL o cs) with | some l => .ok l | none => .bad "cells: past the end")
  | _ => .bad "cells: no such block"
def readCell (h : H) (n o : Nat) : R AV :=
  match h.get n with
  | some (.cells cs _) => (match nthL cs o with | some v => .ok v | none => .bad "cell: past the end")
  | _ => .bad "cell: no such block"
def AV.one : AV → Bool
  | .agg _ | .tup _ => false
  | _ => true
def allOne : List AV → Bool
  | [] => true
  | v :: l => v.one && allOne l
def writeCells (h : H) (n o : Nat) (vs : List AV) : R H :=
  match h.get n with
  | some (.cells cs e) => (match overL cs o vs with
    | some l => bif allOne vs then .ok (h.put n (.cells l e)) else .bad "write: no cells"
    | none => .bad "write: past the end")
  | _ => .bad "write: no such block"

def loadVar (E : Env) (t : TypeId) (h : H) (n o : Nat) : R AV :=
  match E.ty.get t with
  | some ti => bif ti.agg then (match readCells h n o ti.size with | .ok l => .ok (.agg l) | .bad w => .bad w) else readCell h n o
  | none => .bad "type"

def partA (E : Env) (t : TypeId) (cs : List AV) (o : Nat) : R AV :=
  match E.ty.get t with
  | some ti => bif ti.agg then (match takeL ti.size (dropL o cs) with | some l => .ok (.agg l) | none => .bad "part") else
      (match nthL cs o with | some v => .ok v | none => .bad "part")
  | none => .bad "type"

def repA {α : Type} (l : List α) : Nat → List α
  | 0 => []
  | n + 1 => l ++ repA l n

/-! ### Operations -/

inductive Out where
  | val (v : AV) (h : H)
  | call (f : FuncId) (args : List AV) (h : H)
  | round (l : Nat) (args : List AV) (h : H)

def newCells (h : H) (cs : List AV) (e : TypeId) : R Out := .ok (.val (.ptr h.nx 0) (h.new (.cells cs e)))

def fillA (place : Nat → Option (Nat × Nat)) (cells : List AV) : List (Nat × AV) → Option (List AV)
  | [] => some cells
  | (i, v) :: rest =>
    match place i with
    | none => none
    | some (o, size) => bif Nat.beq (lenA v.cells) size && Nat.blt 0 size then (match overL cells o v.cells with | some c => fillA place c rest | none => none) else none

def sizeA (E : Env) (t : TypeId) : Nat := match E.ty.get t with | some ti => ti.size | none => 0

def placeOf (E : Env) (u : UD) (i : Nat) : Option (Nat × Nat) :=
  match u with
  | .struct fs => (match nthL fs i with | some (o, t) => (match E.ty.get t with | some ti => some (o, ti.size) | none => none) | none => none)
  | .arr _ e | .slice e => (match E.ty.get e with | some ti => some (i * ti.size, ti.size) | none => none)
  | _ => none

def evParts (tm : T AV) : List (Nat × Operand) → R (List (Nat × AV))
  | [] => .ok []
  | (i, x) :: l => match evX tm x with
    | .ok a => (match evParts tm l with | .ok m => .ok ((i, a) :: m) | .bad w => .bad w)
    | .bad w => .bad w

def toNatA : AV → R Nat
  | .int _ (.ofNat n) => .ok n
  | _ => .bad "index"

def boundA (d : Nat) : Option AV → R Nat
  | none => .ok d
  | some v => toNatA v

def evOpt (tm : T AV) : Option Operand → R (Option AV)
  | none => .ok none
  | some x => match evX tm x with | .ok a => .ok (some a) | .bad w => .bad w

def maxOk : Option AV → Option AV → Bool
  | some _, none => false
  | _, _ => true

/-- The three bounds of a slice expression. -/
def bounds3 (len cap : Nat) (lo hi mx : Option AV) : R (Nat × Nat × Nat) :=
  match boundA cap mx with
  | .bad w => .bad w
  | .ok m => match boundA len hi with
    | .bad w => .bad w
    | .ok h => match boundA 0 lo with
      | .bad w => .bad w
      | .ok l => bif maxOk mx hi && Nat.ble m cap && Nat.ble h m && Nat.ble l h then .ok (l, h, m) else .bad "slice bounds"

def sliceOf (size : Nat) (x : AV) (lo hi mx : Option AV) : R AV :=
  match x with
  | .nilSlice => (match bounds3 0 0 lo hi mx with
    | .ok _ => .ok .nilSlice
    | .bad w => .bad w)
  | .emptySlice => (match bounds3 0 0 lo hi mx with
    | .ok _ => .ok .emptySlice
    | .bad w => .bad w)
  | .slice n o len (.exact cap) => (match bounds3 len cap lo hi mx with
    | .ok (l, h, m) => .ok (.slice n (bif Nat.beq m l then o else o + l * size) (h - l) (.exact (m - l)))
    | .bad w => .bad w)
  | .slice n o len (.more s) => (match bounds3 len len lo hi mx with
    | .ok (l, h, m) => (match mx with
      | some _ => .ok (.slice n (bif Nat.beq m l then o else o + l * size) (h - l) (.exact (m - l)))
      | none => bif Nat.beq s size then
          (bif Nat.beq l 0 || Nat.blt l len then .ok (.slice n (o + l * size) (h - l) (.more s)) else .ok .emptySlice) else .bad "slice: sizes")
    | .bad w => .bad w)
  | _ => .bad "slice of what"

/-- x[lo:hi:max] -/
def sliceA (E : Env) (t : TypeId) (x : AV) (lo hi mx : Option AV) : R AV :=
  match E.ty.get t with
  | none => .bad "type"
  | some ti =>
    match ti.und, x with
    | .str, .str s => (match mx with
      | some _ => .bad "slice of a text"
      | none => match bounds3 (lenA s) (lenA s) lo hi none with
        | .ok (l, h, _) => (match takeL (h - l) (dropL l s) with | some m => .ok (.str m) | none => .bad "slice")
        | .bad w => .bad w)
    | .slice e, x => (match E.ty.get e with
      | none => .bad "type"
      | some ei => sliceOf ei.size x lo hi mx)
    | .arr k e, .ptr n o => (match E.ty.get e with
      | none => .bad "type"
      | some ei => (match bounds3 k k lo hi mx with
          | .ok (l, h, m) => .ok (.slice n (bif Nat.beq m l then o else o + l * ei.size) (h - l) (.exact (m - l)))
          | .bad w => .bad w))
    | _, _ => .bad "slice of what"

def indexAddrA (E : Env) (t : TypeId) (x i : AV) : R AV :=
  match E.ty.get t, toNatA i with
  | some ti, .ok k =>
    (match ti.und, x with
    | .arr n e, .ptr b o => (match E.ty.get e with
      | some ei => bif Nat.blt k n then .ok (.ptr b (o + k * ei.size)) else .bad "index out of range"
      | none => .bad "type")
    | .slice e, .slice b o len _ => (match E.ty.get e with
      | some ei => bif Nat.blt k len then .ok (.ptr b (o + k * ei.size)) else .bad "index out of range"
      | none => .bad "type")
    | _, _ => .bad "indexAddr")
  | _, _ => .bad "indexAddr"

def indexA (E : Env) (t : TypeId) (x i : AV) : R AV :=
  match E.ty.get t, toNatA i with
  | some ti, .ok k =>
    (match ti.und, x with
    | .arr n e, .agg cs => (match E.ty.get e with
      | some ei => bif Nat.blt k n then partA E e cs (k * ei.size) else .bad "index out of range"
      | none => .bad "type")
    | .str, .str s => (match nthL s k with | some b => okNat .u8 b | none => .bad "index out of range")
    | _, _ => .bad "index")
  | _, _ => .bad "index"

/-! maps: keys are numbers, texts, truths, or flat -/
def keyEq (E : Env) (kt : TypeId) (a b : AV) : Option Bool :=
  match a, b with
  | .agg x, .agg y => (match E.ty.get kt with | some ti => flatEq ti (.agg x) (.agg y) | none => none)
  | a, b => eqCell a b

def findA (E : Env) (kt : TypeId) (k : AV) : List (AV × AV × Nat) → Nat → R (Option (Nat × AV))
  | [], _ => .ok none
  | (k', v, _) :: es, i => match keyEq E kt k k' with
    | some true => .ok (some (i, v))
    | some false => findA E kt k es (i + 1)
    | none => .bad "key"

def setVal {α β γ : Type} (v : β) : List (α × β × γ) → Nat → List (α × β × γ)
  | [], _ => []
  | (k, _, c) :: es, 0 => (k, v, c) :: es
  | e :: es, i + 1 => e :: setVal v es i

def zeroA (E : Env) (t : TypeId) : R AV :=
  match E.ty.get t with
  | some ti => (match ti.zero with
    | some cs => bif ti.agg then .ok (.agg cs) else (match cs with | [v] => .ok v | _ => .bad "zero")
    | none => .bad "zero")
  | none => .bad "type"

def mapTypes (E : Env) (t : TypeId) : R (TypeId × TypeId) :=
  match E.ty.get t with
  | some ti => (match ti.und with | .map k e => .ok (k, e) | _ => .bad "map type")
  | none => .bad "type"

def okKey (E : Env) (kt : TypeId) (k : AV) : Bool :=
  match E.ty.get kt with
  | none => false
  | some ti => match ti.und, k with
    | .int _, .int .. | .str, .str _ | .bool, .bool _ => true
    | _, .agg cs => (match flatEq ti (.agg cs) (.agg cs) with | some _ => true | none => false)
    | _, _ => false

def entsA (h : H) : AV → R (List (AV × AV × Nat))
  | .nilMap => .ok []
  | .map n => (match h.get n with | some (.map es _) => .ok es | _ => .bad "lookup")
  | _ => .bad "lookup"

def lookupA (E : Env) (t : TypeId) (x k : AV) (commaOk : Bool) (h : H) : R AV :=
  match mapTypes E t with
  | .bad w => .bad w
  | .ok (kt, et) =>
    bif okKey E kt k then
      match entsA h x with
      | .bad w => .bad w
      | .ok es => match findA E kt k es 0 with
        | .bad w => .bad w
        | .ok (some (_, v)) => .ok (bif commaOk then .tup [v, .bool true] else v)
        | .ok none => (match zeroA E et with | .ok z => .ok (bif commaOk then .tup [z, .bool false] else z) | .bad w => .bad w)
    else .bad "key"

def mapUpdateA (E : Env) (t : TypeId) (m k v : AV) (h : H) : R Out :=
  match mapTypes E t, m with
  | .ok (kt, _), .map n =>
    (match h.get n with
    | some (.map es clock) =>
      bif okKey E kt k then
        (match findA E kt k es 0 with
        | .ok (some (i, _)) => .ok (.val .undef (h.put n (.map (setVal v es i) clock)))
        | .ok none => .ok (.val .undef (h.put n (.map (es ++ [(k, v, clock)]) (clock + 1))))
        | .bad w => .bad w)
      else .bad "key"
    | _ => .bad "mapUpdate")
  | _, _ => .bad "mapUpdate"

def mapEntryA (E : Env) (t : TypeId) (m k : AV) (h : H) : R Out :=
  match mapTypes E t, m with
  | .ok (kt, et), .map n =>
    (match h.get n with
    | some (.map es clock) =>
      bif okKey E kt k then
        (match findA E kt k es 0 with
        | .ok (some (i, v)) => (match nthL es i with
          | some (_, _, b) => .ok (.val (.tup [v, .int .i64 (.ofNat b)]) (h.put n (.map es clock)))
          | none => .bad "mapEntry")
        | .ok none => (match zeroA E et with
          | .ok z => .ok (.val (.tup [z, .int .i64 (.ofNat clock)]) (h.put n (.map (es ++ [(k, z, clock)]) (clock + 1))))
          | .bad w => .bad w)
        | .bad w => .bad w)
      else .bad "key"
    | _ => .bad "mapEntry")
  | _, _ => .bad "mapEntry"

def bornAt : List (AV × AV × Nat) → Nat → Nat → Option Nat
  | [], _, _ => none
  | (_, _, b) :: es, born, i => bif Nat.beq b born then some i else bornAt es born (i + 1)

def entryStoreA (m s v : AV) (h : H) : R Out :=
  match m, toNatA s with
  | .map n, .ok born =>
    (match h.get n with
    | some (.map es clock) => (match bornAt es born 0 with
      | some i => .ok (.val .undef (h.put n (.map (setVal v es i) clock)))
      | none => .bad "entryStore")
    | _ => .bad "entryStore")
  | _, _ => .bad "entryStore"

def rangeA (E : Env) (t : TypeId) (x : AV) (h : H) : R Out :=
  match E.ty.get t with
  | none => .bad "type"
  | some ti => match ti.und, x with
    | .str, .str s => .ok (.val (.ptr h.nx 0) (h.new (.strIter s 0)))
    | .map .., .nilMap => .ok (.val (.ptr h.nx 0) (h.new (.mapIter none 0 [] 0)))
    | .map .., .map n => (match h.get n with
      | some (.map _ clock) => .ok (.val (.ptr h.nx 0) (h.new (.mapIter (some n) clock [] clock)))
      | _ => .bad "range")
    | _, _ => .bad "range"

def memA (n : Nat) : List Nat → Bool
  | [] => false
  | a :: l => Nat.beq a n || memA n l

def leftOf (seen : List Nat) : List (AV × AV × Nat) → List (AV × AV × Nat)
  | [] => []
  | e :: es => bif memA e.2.2 seen then leftOf seen es else e :: leftOf seen es

def someOlder (last : Nat) : List (AV × AV × Nat) → Bool
  | [] => false
  | e :: es => Nat.blt e.2.2 last || someOlder last es

def fineNext (last : Nat) : List Nat → List (AV × AV × Nat) → Bool
  | [], _ => true
  | _, [] => true
  | _, es => someOlder last es

def nextA (it : AV) (isString : Bool) (h : H) : R Out :=
  match it with
  | .ptr r 0 => (match h.get r, isString with
    | some (.strIter s pos), true => (match dropL pos s with
      | [] => .ok (.val (.tup [.bool false]) h)
      | b :: _ => bif Nat.blt b 128 then
          .ok (.val (.tup [.bool true, .int .i64 (.ofNat pos), .int .i32 (.ofNat b)]) (h.put r (.strIter s (pos + 1)))) else .bad "next: not ASCII")
    | some (.mapIter none _ _ _), false => .ok (.val (.tup [.bool false]) h)
    | some (.mapIter (some m) since seen last), false => (match h.get m with
      | some (.map es clock) =>
        bif fineNext last seen es then
          (match leftOf seen es with
          | [] => .ok (.val (.tup [.bool false]) h)
          | [(k, v, b)] => bif Nat.blt b since then
              .ok (.val (.tup [.bool true, k, v]) (h.put r (.mapIter (some m) since (seen ++ [b]) clock))) else .bad "next: a new entry"
          | _ => .bad "next: several entries")
        else .bad "next"
      | _ => .bad "next")
    | _, _ => .bad "next")
  | _ => .bad "next"

def typeAssertA (E : Env) (x : AV) (_xt at_ : TypeId) (commaOk : Bool) : R AV :=
  match E.ty.get at_ with
  | none => .bad "type"
  | some ti => match ti.und, x with
    | .iface, _ => .bad "typeAssert: an interface"
    | _, .nilIface => bif commaOk then (match zeroA E at_ with | .ok z => .ok (.tup [z, .bool false]) | .bad w => .bad w) else .bad "typeAssert"
    | _, .iface t v => bif Nat.beq t at_ then .ok (bif commaOk then .tup [v, .bool true] else v) else
        (bif commaOk then (match zeroA E at_ with | .ok z => .ok (.tup [z, .bool false]) | .bad w => .bad w) else .bad "typeAssert")
    | _, _ => .bad "typeAssert"

def utf8A (n : Nat) : List Nat := [n]

def byteCells : List AV → Option (List Nat)
  | [] => some []
  | .int .u8 (.ofNat n) :: l => bif Nat.blt n 256 then (match byteCells l with | some m => some (n :: m) | none => none) else none
  | _ :: _ => none

def toBytes : List Nat → List AV
  | [] => []
  | n :: l => .int .u8 (.ofNat n) :: toBytes l

def convertA (E : Env) (src dst : TypeId) (x : AV) (h : H) : R Out :=
  match E.ty.get src, E.ty.get dst with
  | some si, some di =>
    (match si.und, di.und, x with
    | _, .int k, .int _ n => (match okInt k (wrapA k n) with | .ok v => .ok (.val v h) | .bad w => .bad w)
    | _, .str, .str l => .ok (.val (.str l) h)
    | .int _, .str, .int _ (.ofNat n) => bif Nat.blt n 128 then .ok (.val (.str [n]) h) else .bad "convert: not ASCII"
    | _, .slice e, .str l => (match E.ty.get e with
      | some ei => (match ei.und with
        | .int .u8 => .ok (.val (.slice h.nx 0 (lenA l) (.more 1)) (h.new (.cells (toBytes l) e)))
        | _ => .bad "convert: to runes")
      | none => .bad "type")
    | .slice e, .str, .nilSlice | .slice e, .str, .emptySlice => (match E.ty.get e with
      | some ei => (match ei.und with
        | .int .u8 => .ok (.val (.str []) h)
        | _ => .bad "convert: runes")
      | none => .bad "type")
    | .slice e, .str, .slice n o len _ => (match E.ty.get e with
      | some ei => (match ei.und with
        | .int .u8 => (match readCells h n o len with
          | .ok cs => (match byteCells cs with | some l => .ok (.val (.str l) h) | none => .bad "convert: bytes")
          | .bad w => .bad w)
        | _ => .bad "convert: runes")
      | none => .bad "type")
    | _, _, _ => .bad "convert")
  | _, _ => .bad "type"

def lenOfA (h : H) : AV → R Nat
  | .str l => .ok (lenA l)
  | .nilSlice | .emptySlice => .ok 0
  | .slice _ _ n _ => .ok n
  | .nilMap => .ok 0
  | .map n => (match h.get n with | some (.map es _) => .ok (lenA es) | _ => .bad "len")
  | _ => .bad "len"

/-- the cells of the first elements of what is appended or copied -/
def firstA (h : H) (size n : Nat) : AV → R (List AV)
  | .nilSlice | .emptySlice => .ok []
  | .slice b o _ _ => readCells h b o (n * size)
  | .str l => bif Nat.beq size 1 then (match takeL n l with | some m => .ok (toBytes m) | none => .bad "cells of a text") else .bad "cells of a text"
  | _ => .bad "cells of what"

def seqLen : AV → R Nat
  | .str l => .ok (lenA l)
  | .nilSlice | .emptySlice => .ok 0
  | .slice _ _ n _ => .ok n
  | _ => .bad "len"

def appendOf (ei : TI) (e : TypeId) (n : Nat) (new : List AV) (s : AV) (h : H) : R Out :=
  match s with
  | .nilSlice => bif Nat.beq n 0 then .ok (.val .nilSlice h) else
      bif Nat.ble ((4 * n + 1000) * (ei.bytes + 1)) 281474976710656 then
      .ok (.val (.slice h.nx 0 n (.more ei.size)) (h.new (.cells new e))) else .bad "append: large"
  | .slice b o len (.exact c) =>
    bif Nat.ble (len + n) c then
      (match writeCells h b (o + len * ei.size) new with
        | .ok h' => .ok (.val (.slice b o (len + n) (.exact c)) h')
        | .bad w => .bad w)
    else bif Nat.ble ((4 * (len + n) + 1000) * (ei.bytes + 1)) 281474976710656 then
      (match readCells h b o (len * ei.size) with
      | .ok old => .ok (.val (.slice h.nx 0 (len + n) (.more ei.size)) (h.new (.cells (old ++ new) e)))
      | .bad w => .bad w) else .bad "append: large"
  | .slice b o len (.more sz) =>
    bif Nat.beq n 0 then .ok (.val (.slice b o len (.more sz)) h) else
    bif Nat.beq o 0 && Nat.blt 0 sz && Nat.beq sz ei.size && allOne new && Nat.ble ((4 * (len + n) + 1000) * (ei.bytes + 1)) 281474976710656 then
      (match h.get b, readCells h b 0 (len * ei.size) with
      | some (.cells _ e'), .ok old => bif Nat.beq e e' then .ok (.val (.slice h.nx 0 (len + n) (.more sz)) ((h.kill b).new (.cells (old ++ new) e))) else .bad "append: another row"
      | _, _ => .bad "append: cells") else .bad "append: inside"
  | _ => .bad "append"

def appendA (E : Env) (t0 : TypeId) (t1 : TypeId) (s x : AV) (h : H) : R Out :=
  match E.ty.get t0, E.ty.get t1 with
  | some ti, some xi =>
    (match ti.und, xi.und with
    | .slice _, .int _ => .bad "append of make"
    | .slice _, .other => .bad "append of what"
    | .slice e, _ => (match E.ty.get e with
      | some ei => (match ei.zero, seqLen x with
        | some _, .ok n => (match firstA h ei.size n x with
          | .bad w => .bad w
          | .ok new => appendOf ei e n new s h)
        | _, _ => .bad "append")
      | none => .bad "type")
    | _, _ => .bad "append")
  | _, _ => .bad "type"

def copyA (E : Env) (t0 : TypeId) (d x : AV) (h : H) : R Out :=
  match E.ty.get t0 with
  | some ti => (match ti.und with
    | .slice e => (match E.ty.get e, seqLen d, seqLen x with
      | some ei, .ok dl, .ok xl =>
        let n := bif Nat.ble xl dl then xl else dl
        (match firstA h ei.size n x with
        | .bad w => .bad w
        | .ok new => match d with
          | .nilSlice | .emptySlice => .ok (.val (.int .i64 (.ofNat n)) h)
          | .slice b o _ _ => (match writeCells h b o new with
            | .ok h' => .ok (.val (.int .i64 (.ofNat n)) h')
            | .bad w => .bad w)
          | _ => .bad "copy")
      | _, _, _ => .bad "copy")
    | _ => .bad "copy")
  | none => .bad "type"

def minmax (mx : Bool) : AV → List AV → R AV
  | v, [] => .ok v
  | .int k a, .int _ b :: l => minmax mx (.int k (bif (bif mx then bltInt a b else bltInt b a) then b else a)) l
  | _, _ => .bad "min, max"

def lenFits : UD → AV → Bool
  | .str, .str _ => true
  | .slice _, .nilSlice | .slice _, .emptySlice | .slice _, .slice .. => true
  | .map .., .nilMap | .map .., .map _ => true
  | _, _ => false

def builtinA (E : Env) (b : Builtin) (ts : List TypeId) (args : List AV) (h : H) : R Out :=
  match b, ts, args with
  | .len, t :: _, [x] => (match E.ty.get t with
    | some ti => (match ti.und with
      | .arr n _ => .ok (.val (.int .i64 (.ofNat n)) h)
      | .ptr e => (match E.ty.get e with
        | some ei => (match ei.und with | .arr n _ => .ok (.val (.int .i64 (.ofNat n)) h) | _ => .bad "len")
        | none => .bad "type")
      | u => bif lenFits u x then (match lenOfA h x with | .ok n => .ok (.val (.int .i64 (.ofNat n)) h) | .bad w => .bad w) else .bad "len")
    | none => .bad "type")
  | .cap, t :: _, [x] => (match E.ty.get t with
    | some ti => (match ti.und, x with
      | .slice _, .slice _ _ _ (.exact c) => .ok (.val (.int .i64 (.ofNat c)) h)
      | .slice _, .nilSlice => .ok (.val (.int .i64 (.ofNat 0)) h)
      | _, _ => .bad "cap")
    | none => .bad "type")
  | .append, t0 :: t1 :: _, [s, x] => appendA E t0 t1 s x h
  | .copy, t0 :: _, [d, x] => copyA E t0 d x h
  | .max, _, v :: l => (match minmax true v l with | .ok v => .ok (.val v h) | .bad w => .bad w)
  | .min, _, v :: l => (match minmax false v l with | .ok v => .ok (.val v h) | .bad w => .bad w)
  | _, _, _ => .bad "builtin"

def indexByteL (c : Nat) : List Nat → Nat → Int
  | [], _ => -1
  | a :: l, i => bif Nat.beq a c then .ofNat i else indexByteL c l (i + 1)

/-- a call of a function by its number -/
def callA (E : Env) (f : FuncId) (args : List AV) (h : H) : R Out :=
  match E.ext.get f with
  | none => .ok (.call f args h)
  | some .indexByteString => (match args with
    | [.str s, .int .u8 (.ofNat c)] => bif Nat.blt c 256 then (match okInt .i64 (indexByteL c s 0) with | .ok v => .ok (.val v h) | .bad w => .bad w) else .bad "indexByteString: no byte"
    | _ => .bad "indexByteString")

def invokeA (E : Env) (recv : AV) (name : String) (args : List AV) (h : H) : R Out :=
  match recv with
  | .iface t v => (match E.ty.get t with
    | some ti => (match ti.meths.find? (·.1 == name) with
      | some (_, f) => callA E f (v :: args) h
      | none => .bad "invoke: no such method")
    | none => .bad "type")
  | _ => .bad "invoke"

def callValue (E : Env) (f : AV) (args : List AV) (h : H) : R Out :=
  match f with
  | .func (.func g) first captured => callA E g (first ++ args ++ captured) h
  | .func (.yield l) [] [] => .ok (.round l args h)
  | _ => .bad "call of what"

def evCallOp (E : Env) (tm : T AV) (c : Call) (h : H) : R Out :=
  match evXs tm c.args.toList with
  | .bad w => .bad w
  | .ok args =>
    match c.callee with
    | .builtin b => builtinA E b c.argTypes.toList args h
    | .invoke r name => (match evX tm r with | .ok v => invokeA E v name args h | .bad w => .bad w)
    | .value f => (match evX tm f with | .ok v => callValue E v args h | .bad w => .bad w)

def v1 (h : H) : R AV → R Out
  | .ok v => .ok (.val v h)
  | .bad w => .bad w

def funcOk : Fn → Bool
  | .yield _ => false
  | _ => true

def nilA : AV → R AV
  | .nilPtr => .bad "nil"
  | .nilIface => .bad "nil"
  | .nilFunc => .bad "nil"
  | .func (.method _) _ _ => .bad "nilCheck of a method"
  | v => .ok v

def ptrKnown (h : H) : AV → Bool
  | .ptr n _ => (h.get n).isSome
  | _ => true

def evOp (E : Env) (tm : T AV) (op : Op) (h : H) : R Out :=
  match op with
  | .move x | .assign x => v1 h (evX tm x)
  | .pick c a b => (match evX tm c with
    | .ok (.bool t) => v1 h (evX tm (bif t then a else b))
    | _ => .bad "pick")
  | .alloc e => (match E.ty.get e with
    | some ti => (match ti.zero with | some cs => newCells h cs e | none => .bad "alloc")
    | none => .bad "type")
  | .box e x => (match evX tm x with | .ok v => newCells h v.cells e | .bad w => .bad w)
  | .build t parts => (match E.ty.get t, evParts tm parts.toList with
    | some ti, .ok ps => (match ti.und, ti.zero with
      | .struct _, some z => (match fillA (placeOf E ti.und) z ps with | some cs => .ok (.val (.agg cs) h) | none => .bad "build")
      | .arr _ e, some z => (match E.ty.get e with
        | some _ => (match fillA (placeOf E ti.und) z ps with | some cs => .ok (.val (.agg cs) h) | none => .bad "build")
        | none => .bad "type")
      | _, _ => .bad "build")
    | _, _ => .bad "build")
  | .buildSlice t len parts => (match E.ty.get t, evParts tm parts.toList with
    | some ti, .ok ps => (match ti.und with
      | .slice e => (match E.ty.get e with
        | some ei => (match ei.zero with
          | some z => bif Nat.ble (len * ei.size) 16777216 && Nat.beq (lenA z) ei.size then (match fillA (placeOf E ti.und) (repA z len) ps with
            | some cs => .ok (.val (.slice h.nx 0 len (.exact len)) (h.new (.cells cs e)))
            | none => .bad "buildSlice") else .bad "buildSlice"
          | none => .bad "buildSlice")
        | none => .bad "type")
      | _ => .bad "buildSlice")
    | _, _ => .bad "buildSlice")
  | .insert t m k v | .mapUpdate t m k v => (match evX tm m, evX tm k, evX tm v with
    | .ok m, .ok k, .ok v => mapUpdateA E t m k v h
    | _, _, _ => .bad "mapUpdate")
  | .load t a => (match evX tm a with
    | .ok (.ptr n o) => v1 h (loadVar E t h n o)
    | _ => .bad "load: no address")
  | .store t a v => (match E.ty.get t, evX tm a, evX tm v with
    | some ti, .ok (.ptr n o), .ok v => bif Nat.beq (lenA v.cells) ti.size then
        (match writeCells h n o v.cells with | .ok h' => .ok (.val .undef h') | .bad w => .bad w) else .bad "store: size"
    | _, _, _ => .bad "store")
  | .nilCheck x => (match evX tm x with
    | .ok v => v1 h (nilA v)
    | .bad w => .bad w)
  | .binOp op t x y _ => (match evX tm x, evX tm y with
    | .ok x, .ok y => v1 h (binOp E op t x y)
    | _, _ => .bad "binOp")
  | .unOp op _ x => (match evX tm x with | .ok v => v1 h (unOp op v) | .bad w => .bad w)
  | .convert s d x => (match evX tm x with | .ok v => convertA E s d v h | .bad w => .bad w)
  | .makeInterface t x => (match E.ty.get t, evX tm x with
    | some ti, .ok v => (match ti.und with | .iface => .bad "makeInterface" | _ => .ok (.val (.iface t v) h))
    | _, _ => .bad "makeInterface")
  | .makeFunc fn fi ca => (match evXs tm fi.toList, evXs tm ca.toList with
    | .ok fi, .ok ca => bif funcOk fn then .ok (.val (.func fn fi ca) h) else .bad "makeFunc"
    | _, _ => .bad "makeFunc")
  | .makeMap t r => (match evOpt tm r with
    | .ok none => .ok (.val (.map h.nx) (h.new (.map [] 0)))
    | .ok (some (.int ..)) => (match mapTypes E t with | .ok _ => .ok (.val (.map h.nx) (h.new (.map [] 0))) | .bad w => .bad w)
    | _ => .bad "makeMap")
  | .makeSlice t l c => (match E.ty.get t, evX tm l, evX tm c with
    | some ti, .ok (.int _ (.ofNat l)), .ok (.int _ (.ofNat c)) => (match ti.und with
      | .slice e => (match E.ty.get e with
        | some ei => (match ei.zero with
          | some z => bif Nat.ble l c && Nat.blt c 1000000 && Nat.ble (ei.bytes * c) 281474976710656 && Nat.beq (lenA z) ei.size then
              .ok (.val (.slice h.nx 0 l (.exact c)) (h.new (.cells (repA z c) e))) else .bad "makeSlice"
          | none => .bad "makeSlice")
        | none => .bad "type")
      | _ => .bad "makeSlice")
    | _, _, _ => .bad "makeSlice")
  | .slice t x lo hi mx => (match evX tm x, evOpt tm lo, evOpt tm hi, evOpt tm mx with
    | .ok x, .ok lo, .ok hi, .ok mx => bif ptrKnown h x then v1 h (sliceA E t x lo hi mx) else .bad "slice: an unknown block"
    | _, _, _, _ => .bad "slice")
  | .fieldAddr s x f => (match E.ty.get s, evX tm x with
    | some ti, .ok (.ptr n o) => (match ti.und with
      | .struct fs => (match placeOf E (.struct fs) f with
        | some (d, size) => bif Nat.beq size 0 then .bad "fieldAddr: of no size" else .ok (.val (.ptr n (o + d)) h)
        | none => .bad "fieldAddr")
      | _ => .bad "fieldAddr")
    | _, _ => .bad "fieldAddr: no address")
  | .field t x f => (match E.ty.get t, evX tm x with
    | some ti, .ok (.agg cs) => (match ti.und with
      | .struct fs => (match nthL fs f with | some (d, ft) => v1 h (partA E ft cs d) | none => .bad "field")
      | _ => .bad "field")
    | _, _ => .bad "field")
  | .indexAddr t x i => (match evX tm x, evX tm i with
    | .ok x, .ok i => v1 h (indexAddrA E t x i)
    | _, _ => .bad "indexAddr")
  | .index t x i => (match evX tm x, evX tm i with
    | .ok x, .ok i => v1 h (indexA E t x i)
    | _, _ => .bad "index")
  | .lookup t x k ok => (match evX tm x, evX tm k with
    | .ok x, .ok k => v1 h (lookupA E t x k ok h)
    | _, _ => .bad "lookup")
  | .mapEntry t m k => (match evX tm m, evX tm k with
    | .ok m, .ok k => mapEntryA E t m k h
    | _, _ => .bad "mapEntry")
  | .entryStore _ m s v => (match evX tm m, evX tm s, evX tm v with
    | .ok m, .ok s, .ok v => entryStoreA m s v h
    | _, _, _ => .bad "entryStore")
  | .range t x => (match evX tm x with | .ok v => rangeA E t v h | .bad w => .bad w)
  | .next it s => (match evX tm it with | .ok v => nextA v s h | .bad w => .bad w)
  | .typeAssert x xt t ok => (match evX tm x with | .ok v => v1 h (typeAssertA E v xt t ok) | .bad w => .bad w)
  | .extract t i => (match evX tm t with
    | .ok (.tup vs) => (match nthL vs i with | some v => .ok (.val v h) | none => .bad "extract")
    | _ => .bad "extract")
  | .call c => evCallOp E tm c h
  | _ => .bad "operation"
end
end Go.AE
