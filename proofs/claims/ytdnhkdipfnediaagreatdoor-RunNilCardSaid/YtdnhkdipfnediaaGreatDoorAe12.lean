/- The evaluator once more, in small steps (the same function). No condition: definitions and equations. -/
import Derived.Test.YtdnhkdipfnediaaGreatDoorAe11
set_option linter.unusedSectionVars false
namespace Go.AE
noncomputable section

/-! ### Operations -/
def xMove (tm : T AV) (x : Operand) (h : H) : R Out := v1 h (evX tm x)
def xPick (tm : T AV) (c a b : Operand) (h : H) : R Out := match evX tm c with
  | .ok (.bool t) => v1 h (evX tm (bif t then a else b))
  | _ => .bad "pick"
def xAlloc (E : Env) (e : TypeId) (h : H) : R Out := match E.ty.get e with
  | some ti => (match ti.zero with | some cs => newCells h cs e | none => .bad "alloc")
  | none => .bad "type"
def xBox (tm : T AV) (e : TypeId) (x : Operand) (h : H) : R Out := match evX tm x with | .ok v => newCells h v.cells e | .bad w => .bad w
def xBuild (E : Env) (tm : T AV) (t : TypeId) (parts : Array (Nat × Operand)) (h : H) : R Out := match E.ty.get t, evParts tm parts.toList with
    | some ti, .ok ps => (match ti.und, ti.zero with
      | .struct _, some z => (match fillA (placeOf E ti.und) z ps with | some cs => .ok (.val (.agg cs) h) | none => .bad "build")
      | .arr _ e, some z => (match E.ty.get e with
        | some _ => (match fillA (placeOf E ti.und) z ps with | some cs => .ok (.val (.agg cs) h) | none => .bad "build")
        | none => .bad "type")
      | _, _ => .bad "build")
    | _, _ => .bad "build"
def xBuildSlice (E : Env) (tm : T AV) (t : TypeId) (len : Nat) (parts : Array (Nat × Operand)) (h : H) : R Out := match E.ty.get t, evParts tm parts.toList with
    | some ti, .ok ps => (match ti.und with
      | .slice e => (match E.ty.get e with
        | some ei => (match ei.zero with
          | some z => bif Nat.ble (len * ei.size) 16777216 && Nat.beq (lenA z) ei.size then (match fillA (placeOf E ti.und) (repA z len) ps with
            | some cs => .ok (.val (.slice h.nx 0 len (.exact len)) (h.new (.cells cs e)))
            | none => .bad "buildSlice") else .bad "buildSlice"
          | none => .bad "buildSlice")
        | none => .bad "type")
      | _ => .bad "buildSlice")
    | _, _ => .bad "buildSlice"
def xUpdate (E : Env) (tm : T AV) (t : TypeId) (m k v : Operand) (h : H) : R Out := match evX tm m, evX tm k, evX tm v with
    | .ok m, .ok k, .ok v => mapUpdateA E t m k v h
    | _, _, _ => .bad "mapUpdate"
def xLoad2 (E : Env) (t : TypeId) (h : H) (v : AV) : R Out := match v with
  | .ptr n o => v1 h (loadVar E t h n o)
  | _ => .bad "load: no address"
def xLoad (E : Env) (tm : T AV) (t : TypeId) (a : Operand) (h : H) : R Out := match evX tm a with
    | .ok v => xLoad2 E t h v
    | .bad _ => .bad "load: no address"
def xStore3 (h : H) (n o : Nat) (cs : List AV) : R Out := match writeCells h n o cs with | .ok h' => .ok (.val .undef h') | .bad w => .bad w
def xStore2 (ti : TI) (h : H) (a v : AV) : R Out := match a with
  | .ptr n o => bif Nat.beq (lenA v.cells) ti.size then xStore3 h n o v.cells else .bad "store: size"
  | _ => .bad "store"
def xStore (E : Env) (tm : T AV) (t : TypeId) (a v : Operand) (h : H) : R Out := match E.ty.get t, evX tm a, evX tm v with
    | some ti, .ok a, .ok v => xStore2 ti h a v
    | _, _, _ => .bad "store"
def xNil (tm : T AV) (x : Operand) (h : H) : R Out := match evX tm x with
    | .ok v => v1 h (nilA v)
    | .bad w => .bad w

def fShift (op : BinOp) (k : IntKind) (a b : Int) : R AV := match op with
    | .shl => bif bltInt b 0 then .bad "shift" else okInt k (wrapA k (a * 2 ^ (min b.toNat k.bits)))
    | _ => bif bltInt b 0 then .bad "shift" else okInt k (a.fdiv (2 ^ (min b.toNat k.bits)))
def fAdd (k : IntKind) (a b : Int) : R AV := okInt k (wrapA k (a + b))
def fSub (k : IntKind) (a b : Int) : R AV := okInt k (wrapA k (a - b))
def fMul (k : IntKind) (a b : Int) : R AV := okInt k (wrapA k (a * b))
def fQuo (k : IntKind) (a b : Int) : R AV := bif beqInt b 0 then .bad "division by zero" else okInt k (wrapA k (a.tdiv b))
def fRem (k : IntKind) (a b : Int) : R AV := bif beqInt b 0 then .bad "division by zero" else okInt k (a.tmod b)
def fArith (op : BinOp) (k : IntKind) (a b : Int) : R AV := match op with
  | .add => fAdd k a b
  | .sub => fSub k a b
  | .mul => fMul k a b
  | .quo => fQuo k a b
  | .rem => fRem k a b
  | .eql => .ok (.bool (beqInt a b))
  | .neq => .ok (.bool (!beqInt a b))
  | .lss => .ok (.bool (bltInt a b))
  | .leq => .ok (.bool (bleInt a b))
  | .gtr => .ok (.bool (bltInt b a))
  | .geq => .ok (.bool (bleInt b a))
  | op => arith op k a b
theorem fArith_eq (op : BinOp) (k : IntKind) (a b : Int) : fArith op k a b = arith op k a b := by cases op <;> rfl
def fInts (op : BinOp) (k k' : IntKind) (a b : Int) : R AV := match op with
    | .shl => fShift .shl k a b
    | .shr => fShift .shr k a b
    | op => bif kindEq k k' then fArith op k a b else .bad "kinds"
def fStrs (op : BinOp) (a b : List Nat) : R AV := match op with
    | .add => bif Nat.blt (a.length + b.length) 1000000000 then .ok (.str (a ++ b)) else .bad "long"
    | .eql => .ok (.bool (beqL a b))
    | .neq => .ok (.bool (!beqL a b))
    | .lss => .ok (.bool (lessL a b))
    | .leq => .ok (.bool (lessL a b || beqL a b))
    | .gtr => .ok (.bool (!(lessL a b || beqL a b)))
    | .geq => .ok (.bool (!lessL a b))
    | _ => .bad "binOp str"
def fOther2 (op : BinOp) : Option Bool → R AV
  | some b => (match op with
    | .eql => .ok (.bool b)
    | .neq => .ok (.bool (!b))
    | _ => .bad "binOp")
  | none => .bad "binOp"
def fOther (E : Env) (op : BinOp) (t : TypeId) (x y : AV) : R AV := match E.ty.get t with
    | none => .bad "type"
    | some ti => fOther2 op (eqOther E ti x y)
def fInt1 (E : Env) (op : BinOp) (t : TypeId) (k : IntKind) (a : Int) (y : AV) : R AV := match y with
  | .int k' b => fInts op k k' a b
  | .sym k' i => bif kindEq k k' then symOp op (E.symC i a) else .bad "symbols"
  | y => fOther E op t (.int k a) y
def fStr1 (E : Env) (op : BinOp) (t : TypeId) (a : List Nat) (y : AV) : R AV := match y with
  | .str b => fStrs op a b
  | y => fOther E op t (.str a) y
def fSym1 (E : Env) (op : BinOp) (t : TypeId) (k : IntKind) (i : Nat) (y : AV) : R AV := match y with
  | .sym k' j => bif kindEq k k' then symOp op (E.symEq i j) else .bad "symbols"
  | .int k' n => bif kindEq k k' then symOp op (E.symC i n) else .bad "symbols"
  | y => fOther E op t (.sym k i) y
def fBin (E : Env) (op : BinOp) (t : TypeId) (x y : AV) : R AV := match x with
  | .int k a => fInt1 E op t k a y
  | .str a => fStr1 E op t a y
  | .sym k i => fSym1 E op t k i y
  | x => fOther E op t x y
theorem fOther2_eq (op : BinOp) (o : Option Bool) : fOther2 op o = (match o, op with
      | some b, .eql => .ok (.bool b)
      | some b, .neq => .ok (.bool (!b))
      | _, _ => .bad "binOp") := by cases o <;> cases op <;> rfl
theorem fOther_eq (E : Env) (op : BinOp) (t : TypeId) (x y : AV) : fOther E op t x y = (match E.ty.get t with
    | none => .bad "type"
    | some ti =>
      match eqOther E ti x y, op with
      | some b, .eql => .ok (.bool b)
      | some b, .neq => .ok (.bool (!b))
      | _, _ => .bad "binOp") := by
  unfold fOther
  cases E.ty.get t with
  | none => rfl
  | some ti => exact fOther2_eq _ _
theorem fInts_eq (op : BinOp) (k k' : IntKind) (a b : Int) : fInts op k k' a b = (match op with
    | .shl => bif bltInt b 0 then .bad "shift" else okInt k (wrapA k (a * 2 ^ (min b.toNat k.bits)))
    | .shr => bif bltInt b 0 then .bad "shift" else okInt k (a.fdiv (2 ^ (min b.toNat k.bits)))
    | _ => bif kindEq k k' then arith op k a b else .bad "kinds") := by
  cases op <;> simp only [fInts, fArith_eq] <;> rfl
theorem fBin_eq (E : Env) (op : BinOp) (t : TypeId) (x y : AV) : fBin E op t x y = binOp E op t x y := by
  cases x <;> cases y <;> first
    | exact fOther_eq E op t _ _
    | exact fInts_eq op _ _ _ _
    | rfl

def xBin (E : Env) (tm : T AV) (op : BinOp) (t : TypeId) (x y : Operand) (h : H) : R Out := match evX tm x, evX tm y with
    | .ok x, .ok y => v1 h (fBin E op t x y)
    | _, _ => .bad "binOp"
def xUn (tm : T AV) (op : UnOp) (x : Operand) (h : H) : R Out := match evX tm x with | .ok v => v1 h (unOp op v) | .bad w => .bad w
def xConv (E : Env) (tm : T AV) (s d : TypeId) (x : Operand) (h : H) : R Out := match evX tm x with | .ok v => convertA E s d v h | .bad w => .bad w
def xIface (E : Env) (tm : T AV) (t : TypeId) (x : Operand) (h : H) : R Out := match E.ty.get t, evX tm x with
    | some ti, .ok v => (match ti.und with | .iface => .bad "makeInterface" | _ => .ok (.val (.iface t v) h))
    | _, _ => .bad "makeInterface"
def xFunc (tm : T AV) (fn : Fn) (fi ca : Array Operand) (h : H) : R Out := match evXs tm fi.toList, evXs tm ca.toList with
    | .ok fi, .ok ca => bif funcOk fn then .ok (.val (.func fn fi ca) h) else .bad "makeFunc"
    | _, _ => .bad "makeFunc"
def xMap (E : Env) (tm : T AV) (t : TypeId) (r : Option Operand) (h : H) : R Out := match evOpt tm r with
    | .ok none => .ok (.val (.map h.nx) (h.new (.map [] 0)))
    | .ok (some (.int ..)) => (match mapTypes E t with | .ok _ => .ok (.val (.map h.nx) (h.new (.map [] 0))) | .bad w => .bad w)
    | _ => .bad "makeMap"
def xMakeSlice (E : Env) (tm : T AV) (t : TypeId) (l c : Operand) (h : H) : R Out := match E.ty.get t, evX tm l, evX tm c with
    | some ti, .ok (.int _ (.ofNat l)), .ok (.int _ (.ofNat c)) => (match ti.und with
      | .slice e => (match E.ty.get e with
        | some ei => (match ei.zero with
          | some z => bif Nat.ble l c && Nat.blt c 1000000 && Nat.ble (ei.bytes * c) 281474976710656 && Nat.beq (lenA z) ei.size then
              .ok (.val (.slice h.nx 0 l (.exact c)) (h.new (.cells (repA z c) e))) else .bad "makeSlice"
          | none => .bad "makeSlice")
        | none => .bad "type")
      | _ => .bad "makeSlice")
    | _, _, _ => .bad "makeSlice"
def xSlice (E : Env) (tm : T AV) (t : TypeId) (x : Operand) (lo hi mx : Option Operand) (h : H) : R Out := match evX tm x, evOpt tm lo, evOpt tm hi, evOpt tm mx with
    | .ok x, .ok lo, .ok hi, .ok mx => bif ptrKnown h x then v1 h (sliceA E t x lo hi mx) else .bad "slice: an unknown block"
    | _, _, _, _ => .bad "slice"
def xFieldAddr3 (h : H) (n o : Nat) : Option (Nat × Nat) → R Out
  | some (d, size) => bif Nat.beq size 0 then .bad "fieldAddr: of no size" else .ok (.val (.ptr n (o + d)) h)
  | none => .bad "fieldAddr"
def xFieldAddr2 (E : Env) (ti : TI) (f : Nat) (h : H) (v : AV) : R Out := match v with
  | .ptr n o => (match ti.und with
      | .struct fs => xFieldAddr3 h n o (placeOf E (.struct fs) f)
      | _ => .bad "fieldAddr")
  | _ => .bad "fieldAddr: no address"
def xFieldAddr (E : Env) (tm : T AV) (s : TypeId) (x : Operand) (f : Nat) (h : H) : R Out := match E.ty.get s, evX tm x with
    | some ti, .ok v => xFieldAddr2 E ti f h v
    | _, _ => .bad "fieldAddr: no address"
def xField (E : Env) (tm : T AV) (t : TypeId) (x : Operand) (f : Nat) (h : H) : R Out := match E.ty.get t, evX tm x with
    | some ti, .ok (.agg cs) => (match ti.und with
      | .struct fs => (match nthL fs f with | some (d, ft) => v1 h (partA E ft cs d) | none => .bad "field")
      | _ => .bad "field")
    | _, _ => .bad "field"
def xIndexAddr (E : Env) (tm : T AV) (t : TypeId) (x i : Operand) (h : H) : R Out := match evX tm x, evX tm i with
    | .ok x, .ok i => v1 h (indexAddrA E t x i)
    | _, _ => .bad "indexAddr"
def xIndex (E : Env) (tm : T AV) (t : TypeId) (x i : Operand) (h : H) : R Out := match evX tm x, evX tm i with
    | .ok x, .ok i => v1 h (indexA E t x i)
    | _, _ => .bad "index"
def xLookup (E : Env) (tm : T AV) (t : TypeId) (x k : Operand) (ok : Bool) (h : H) : R Out := match evX tm x, evX tm k with
    | .ok x, .ok k => v1 h (lookupA E t x k ok h)
    | _, _ => .bad "lookup"
def xEntry (E : Env) (tm : T AV) (t : TypeId) (m k : Operand) (h : H) : R Out := match evX tm m, evX tm k with
    | .ok m, .ok k => mapEntryA E t m k h
    | _, _ => .bad "mapEntry"
def xEntryStore (tm : T AV) (m s v : Operand) (h : H) : R Out := match evX tm m, evX tm s, evX tm v with
    | .ok m, .ok s, .ok v => entryStoreA m s v h
    | _, _, _ => .bad "entryStore"
def xRange (E : Env) (tm : T AV) (t : TypeId) (x : Operand) (h : H) : R Out := match evX tm x with | .ok v => rangeA E t v h | .bad w => .bad w
def xNext (tm : T AV) (it : Operand) (s : Bool) (h : H) : R Out := match evX tm it with | .ok v => nextA v s h | .bad w => .bad w
def xAssert (E : Env) (tm : T AV) (x : Operand) (xt t : TypeId) (ok : Bool) (h : H) : R Out := match evX tm x with | .ok v => v1 h (typeAssertA E v xt t ok) | .bad w => .bad w
def xExtract (tm : T AV) (t : Operand) (i : Nat) (h : H) : R Out := match evX tm t with
    | .ok (.tup vs) => (match nthL vs i with | some v => .ok (.val v h) | none => .bad "extract")
    | _ => .bad "extract"

def fLen2 (h : H) (u : UD) (x : AV) : R Out := bif lenFits u x then (match lenOfA h x with | .ok n => .ok (.val (.int .i64 (.ofNat n)) h) | .bad w => .bad w) else .bad "len"
def fLenP (E : Env) (e : TypeId) (h : H) : R Out := match E.ty.get e with
        | some ei => (match ei.und with | .arr n _ => .ok (.val (.int .i64 (.ofNat n)) h) | _ => .bad "len")
        | none => .bad "type"
def fLen1 (E : Env) (u : UD) (x : AV) (h : H) : R Out := match u with
      | .arr n _ => .ok (.val (.int .i64 (.ofNat n)) h)
      | .ptr e => fLenP E e h
      | u => fLen2 h u x
def fLen (E : Env) (t : TypeId) (x : AV) (h : H) : R Out := match E.ty.get t with
    | some ti => fLen1 E ti.und x h
    | none => .bad "type"
def fBuiltin (E : Env) (b : Builtin) (ts : List TypeId) (args : List AV) (h : H) : R Out := match b with
  | .len => (match ts, args with
    | t :: _, [x] => fLen E t x h
    | _, _ => .bad "builtin")
  | .append => (match ts, args with
    | t0 :: t1 :: _, [s, x] => appendA E t0 t1 s x h
    | _, _ => .bad "builtin")
  | b => builtinA E b ts args h
theorem fBuiltin_eq (E : Env) (b : Builtin) (ts : List TypeId) (args : List AV) (h : H) : fBuiltin E b ts args h = builtinA E b ts args h := by
  cases b with
  | len =>
    cases ts with
    | nil => rfl
    | cons t ts => match args with
      | [] => rfl
      | [x] =>
        simp only [fBuiltin, fLen, builtinA]
        cases E.ty.get t with
        | none => rfl
        | some ti =>
          simp only [fLen1]
          cases ti.und <;> rfl
      | _ :: _ :: _ => rfl
  | append => match ts, args with
    | [], _ => rfl
    | [_], _ => rfl
    | _ :: _ :: _, [] => rfl
    | _ :: _ :: _, [_] => rfl
    | _ :: _ :: _, [_, _] => rfl
    | _ :: _ :: _, _ :: _ :: _ :: _ => rfl
  | _ => rfl
def fCall3 (E : Env) (tm : T AV) (f : Operand) (args : List AV) (h : H) : R Out := match evX tm f with | .ok v => callValue E v args h | .bad w => .bad w
def fInv3 (E : Env) (tm : T AV) (r : Operand) (name : String) (args : List AV) (h : H) : R Out := match evX tm r with | .ok v => invokeA E v name args h | .bad w => .bad w
def fCall2 (E : Env) (tm : T AV) (c : Callee) (ts : Array TypeId) (args : List AV) (h : H) : R Out := match c with
    | .builtin b => fBuiltin E b ts.toList args h
    | .invoke r name => fInv3 E tm r name args h
    | .value f => fCall3 E tm f args h
def xCall (E : Env) (tm : T AV) (c : Call) (h : H) : R Out := match evXs tm c.args.toList with
  | .bad w => .bad w
  | .ok args => fCall2 E tm c.callee c.argTypes args h
theorem xCall_eq (E : Env) (tm : T AV) (c : Call) (h : H) : xCall E tm c h = evCallOp E tm c h := by
  unfold xCall evCallOp
  cases evXs tm c.args.toList with
  | bad w => rfl
  | ok args =>
    simp only [fCall2, fBuiltin_eq]
    cases c.callee <;> rfl

def evOpF (E : Env) (tm : T AV) (op : Op) (h : H) : R Out :=
  match op with
  | .move x => xMove tm x h
  | .assign x => xMove tm x h
  | .pick c a b => xPick tm c a b h
  | .alloc e => xAlloc E e h
  | .box e x => xBox tm e x h
  | .build t parts => xBuild E tm t parts h
  | .buildSlice t len parts => xBuildSlice E tm t len parts h
  | .insert t m k v => xUpdate E tm t m k v h
  | .mapUpdate t m k v => xUpdate E tm t m k v h
  | .load t a => xLoad E tm t a h
  | .store t a v => xStore E tm t a v h
  | .nilCheck x => xNil tm x h
  | .binOp op t x y _ => xBin E tm op t x y h
  | .unOp op _ x => xUn tm op x h
  | .convert s d x => xConv E tm s d x h
  | .makeInterface t x => xIface E tm t x h
  | .makeFunc fn fi ca => xFunc tm fn fi ca h
  | .makeMap t r => xMap E tm t r h
  | .makeSlice t l c => xMakeSlice E tm t l c h
  | .slice t x lo hi mx => xSlice E tm t x lo hi mx h
  | .fieldAddr s x f => xFieldAddr E tm s x f h
  | .field t x f => xField E tm t x f h
  | .indexAddr t x i => xIndexAddr E tm t x i h
  | .index t x i => xIndex E tm t x i h
  | .lookup t x k ok => xLookup E tm t x k ok h
  | .mapEntry t m k => xEntry E tm t m k h
  | .entryStore _ m s v => xEntryStore tm m s v h
  | .range t x => xRange E tm t x h
  | .next it s => xNext tm it s h
  | .typeAssert x xt t ok => xAssert E tm x xt t ok h
  | .extract t i => xExtract tm t i h
  | .call c => xCall E tm c h
  | _ => .bad "operation"

theorem evOpF_eq (E : Env) (tm : T AV) (op : Op) (h : H) : evOpF E tm op h = evOp E tm op h := by
  cases op with
  | call c => exact xCall_eq E tm c h
  | binOp op t x y yt =>
    simp only [evOpF, xBin, evOp, fBin_eq]
    cases evX tm x <;> cases evX tm y <;> rfl
  | load t a =>
    simp only [evOpF, xLoad, evOp]
    cases evX tm a with
    | bad w => rfl
    | ok v => cases v <;> rfl
  | store t a v =>
    simp only [evOpF, xStore, evOp]
    cases E.ty.get t with
    | none => rfl
    | some ti => cases evX tm a with
      | bad w => rfl
      | ok x => cases evX tm v with
        | bad w => cases x <;> rfl
        | ok y => cases x <;> rfl
  | fieldAddr s x f =>
    simp only [evOpF, xFieldAddr, evOp]
    cases E.ty.get s with
    | none => rfl
    | some ti => cases evX tm x with
      | bad w => rfl
      | ok v => cases v with
        | ptr n o =>
          simp only [xFieldAddr2]
          cases ti.und <;> rfl
        | _ => rfl
  | _ => rfl

/-! ### Regions in the order of their text -/
def seqNext (nt : Nat) (dst : Option Tmp) (ih : T AV → H → R (T AV × H)) (tm : T AV) (v : AV) (h : H) : R (T AV × H) := match dst with
  | none => ih tm h
  | some d => bif Nat.blt d nt then ih (tm.put d (some v)) h else .bad "tmp"
def seqFin2 (nt : Nat) (o : Oper) (ih : T AV → H → R (T AV × H)) (tm : T AV) : R (AV × H) → R (T AV × H)
  | .ok (v, h) => seqNext nt o.dst ih tm v h
  | .bad w => .bad (o.pos ++ ": " ++ w)
def seqOut (call : Caller) (nt : Nat) (o : Oper) (ih : T AV → H → R (T AV × H)) (tm : T AV) : Out → R (T AV × H)
  | .val v h => seqNext nt o.dst ih tm v h
  | .call f args h => seqFin2 nt o ih tm (call (.fn f args) h)
  | .round l args h => seqFin2 nt o ih tm (call (.round l args) h)
def seqFin (call : Caller) (nt : Nat) (o : Oper) (ih : T AV → H → R (T AV × H)) (tm : T AV) : R Out → R (T AV × H)
  | .ok out => seqOut call nt o ih tm out
  | .bad w => .bad (o.pos ++ ": " ++ w)
def isWanted (want : Bool) : AV → Bool
  | .bool b => b == want
  | _ => false
def wantedG (all : List Oper) (tm : T AV) (j : Nat) (want : Bool) : Bool := match nthL all j with
  | some o => (match o.dst with
    | some d => isWanted want (tmGet tm d)
    | none => false)
  | none => false
def wantedF (all : List Oper) (tm : T AV) : Option (Nat × Bool) → Bool
  | none => true
  | some (j, want) => wantedG all tm j want
def seqStep (E : Env) (call : Caller) (nt : Nat) (all : List Oper) (o : Oper) (ih : T AV → H → R (T AV × H)) (tm : T AV) (h : H) : R (T AV × H) :=
  bif wantedF all tm o.guard then seqFin call nt o ih tm (evOpF E tm o.op h) else seqNext nt o.dst ih tm .undef h
noncomputable def evSeqF (E : Env) (call : Caller) (nt : Nat) (all : List Oper) (ops : List Oper) : T AV → H → R (T AV × H) :=
  List.rec (motive := fun _ => T AV → H → R (T AV × H)) (fun tm h => .ok (tm, h)) (fun o _ ih tm h => seqStep E call nt all o ih tm h) ops

theorem wantedF_eq (all : List Oper) (tm : T AV) (g : Option (Nat × Bool)) : wantedF all tm g = wantedA all tm g := by
  cases g with
  | none => rfl
  | some jw =>
    obtain ⟨j, want⟩ := jw
    simp only [wantedF, wantedG, wantedA]
    cases nthL all j with
    | none => rfl
    | some o =>
      simp only []
      cases o.dst with
      | none => rfl
      | some d =>
        simp only []
        cases tmGet tm d <;> rfl

theorem seqNext_eq (nt : Nat) (dst : Option Tmp) (ih : T AV → H → R (T AV × H)) (tm : T AV) (v : AV) (h : H) :
    seqNext nt dst ih tm v h = (match putT nt tm dst v with | .ok tm' => ih tm' h | .bad w => .bad w) := by
  cases dst with
  | none => rfl
  | some d =>
    simp only [seqNext, putT]
    cases Nat.blt d nt <;> rfl

theorem evSeqF_eq (E : Env) {call call' : Caller} (hc : ∀ r h, call r h = call' r h) (nt : Nat) (all : List Oper) : ∀ (ops : List Oper) (tm : T AV) (h : H), evSeqF E call nt all ops tm h = evSeq E call' nt all ops tm h
  | [], _, _ => rfl
  | o :: ops, tm, h => by
    have ih : (fun tm h => evSeqF E call nt all ops tm h) = fun tm h => evSeq E call' nt all ops tm h := by
      funext tm h; exact evSeqF_eq E hc nt all ops tm h
    show seqStep E call nt all o (fun tm h => evSeqF E call nt all ops tm h) tm h = _
    rw [ih]
    simp only [evSeq, seqStep, wantedF_eq, evOpF_eq]
    cases wantedA all tm o.guard with
    | false =>
      simp only [cond_false, seqNext_eq]
      cases putT nt tm o.dst .undef <;> rfl
    | true =>
      simp only [cond_true]
      cases evOp E tm o.op h with
      | bad w => rfl
      | ok out => cases out with
        | val v h' =>
          simp only [seqFin, seqOut, fin, seqNext_eq]
          cases putT nt tm o.dst v <;> rfl
        | call f args h' =>
          simp only [seqFin, seqOut, fin, hc]
          cases call' (.fn f args) h' with
          | bad w => rfl
          | ok x =>
            obtain ⟨v, h1⟩ := x
            simp only [seqFin2, seqNext_eq]
            cases putT nt tm o.dst v <;> rfl
        | round l args h' =>
          simp only [seqFin, seqOut, fin, hc]
          cases call' (.round l args) h' with
          | bad w => rfl
          | ok x =>
            obtain ⟨v, h1⟩ := x
            simp only [seqFin2, seqNext_eq]
            cases putT nt tm o.dst v <;> rfl

/-! ### Regions whose order is open -/
def drRead2 (lo hi : Nat) (d : Dr) (o : Oper) (tm' : T AV) (v : AV) : R Dr :=
  .ok { d with tm := tm', looks := bif Nat.beq lo hi then d.looks else ⟨o.op, d.tm, v, lo, hi⟩ :: d.looks }
def drReadV (E : Env) (nt : Nat) (all : List Oper) (ms : List Nat) (i : Nat) (o : Oper) (m : Nat) (d : Dr) (v : AV) : R Dr := match o.dst with
  | none => drRead2 (loOf E m 0 all 0 0) (hiOf E i all ms 0) d o d.tm v
  | some t => bif Nat.blt t nt then drRead2 (loOf E m 0 all 0 0) (hiOf E i all ms 0) d o (d.tm.put t (some v)) v else .bad "tmp"
def drRead (E : Env) (nt : Nat) (all : List Oper) (ms : List Nat) (i : Nat) (o : Oper) (m : Nat) (d : Dr) : R Out → R Dr
  | .ok (.val v _) => drReadV E nt all ms i o m d v
  | .ok _ => .bad "draw: a read that calls"
  | .bad w => .bad (o.pos ++ ": " ++ w)
def drAlloc2 (nt nx0 i : Nat) (o : Oper) (d : Dr) (v : AV) (h' : H) : R Dr := match h'.get (nx0 + i), putT nt d.tm o.dst v with
  | some b, .ok tm' => .ok { d with tm := tm', pend := (i, b) :: d.pend }
  | _, _ => .bad "draw: alloc"
def drAlloc (nt nx0 i : Nat) (o : Oper) (d : Dr) : R Out → R Dr
  | .ok (.val v h') => drAlloc2 nt nx0 i o d v h'
  | .ok _ => .bad "draw: alloc"
  | .bad w => .bad (o.pos ++ ": " ++ w)
def drEff3 (m : Nat) (d : Dr) (tm' : T AV) (h' : H) : R Dr := .ok { d with tm := tm', h := h', stages := h' :: d.stages, k := d.k + 1, pend := pendLeft m d.pend }
def drEff2 (nt : Nat) (o : Oper) (m : Nat) (d : Dr) (v : AV) (h' : H) : R Dr := match o.dst with
  | none => drEff3 m d d.tm h'
  | some t => bif Nat.blt t nt then drEff3 m d (d.tm.put t (some v)) h' else .bad "tmp"
def drEff (nt : Nat) (o : Oper) (m : Nat) (d : Dr) : R (AV × H) → R Dr
  | .ok (v, h') => drEff2 nt o m d v h'
  | .bad w => .bad (o.pos ++ ": " ++ w)
def drSkip2 (c : Cls) (d : Dr) (tm' : T AV) : R Dr := match c with
  | .eff => .ok { d with tm := tm', stages := d.h :: d.stages, k := d.k + 1 }
  | _ => .ok { d with tm := tm' }
def drSkip (c : Cls) (nt : Nat) (o : Oper) (d : Dr) : R Dr := match putT nt d.tm o.dst .undef with
  | .ok tm' => drSkip2 c d tm'
  | .bad w => .bad w
def drDo (E : Env) (call : Caller) (nt nx0 : Nat) (all : List Oper) (ms : List Nat) (i : Nat) (o : Oper) (m : Nat) (d : Dr) (c : Cls) : R Dr := match c with
  | .read => drRead E nt all ms i o m d (evOpF E d.tm o.op (withPend nx0 m d.pend d.h))
  | .alloc => drAlloc nt nx0 i o d (evOpF E d.tm o.op { d.h with nx := nx0 + i })
  | .eff => drEff nt o m d (fin call (evOpF E d.tm o.op (withPend nx0 m d.pend d.h)))
def drStepF (E : Env) (call : Caller) (nt nx0 : Nat) (all : List Oper) (ms : List Nat) (i : Nat) (o : Oper) (m : Nat) (d : Dr) : R Dr :=
  bif wantedF all d.tm o.guard then drDo E call nt nx0 all ms i o m d (clsOf E o.op) else drSkip (clsOf E o.op) nt o d

theorem fin_eq {call call' : Caller} (hc : ∀ r h, call r h = call' r h) (r : R Out) : fin call r = fin call' r := by
  cases r with
  | bad w => rfl
  | ok o => cases o <;> simp only [fin, hc]

theorem drStepF_eq (E : Env) {call call' : Caller} (hc : ∀ r h, call r h = call' r h) (nt nx0 : Nat) (all : List Oper) (ms : List Nat) (i : Nat) (o : Oper) (m : Nat) (d : Dr) :
    drStepF E call nt nx0 all ms i o m d = drStep E call' nt nx0 all ms i o m d := by
  simp only [drStepF, drStep, wantedF_eq]
  cases wantedA all d.tm o.guard with
  | false =>
    simp only [cond_false, drSkip]
    cases putT nt d.tm o.dst .undef with
    | bad w => rfl
    | ok tm' =>
      simp only []
      cases clsOf E o.op <;> rfl
  | true =>
    simp only [cond_true]
    cases clsOf E o.op with
    | read =>
      simp only [drDo, evOpF_eq]
      cases evOp E d.tm o.op (withPend nx0 m d.pend d.h) with
      | bad w => rfl
      | ok out => cases out with
        | val v h' =>
          simp only [drRead, drReadV]
          cases o.dst with
          | none => rfl
          | some t =>
            simp only [putT]
            cases Nat.blt t nt <;> rfl
        | call f a h' => rfl
        | round l a h' => rfl
    | alloc =>
      simp only [drDo, evOpF_eq]
      cases evOp E d.tm o.op { d.h with nx := nx0 + i } with
      | bad w => rfl
      | ok out => cases out with
        | val v h' =>
          simp only [drAlloc, drAlloc2]
          cases h'.get (nx0 + i) with
          | none => cases putT nt d.tm o.dst v <;> rfl
          | some b => cases putT nt d.tm o.dst v <;> rfl
        | call f a h' => rfl
        | round l a h' => rfl
    | eff =>
      simp only [drDo, evOpF_eq, fin_eq hc]
      cases fin call' (evOp E d.tm o.op (withPend nx0 m d.pend d.h)) with
      | bad w => rfl
      | ok x =>
        obtain ⟨v, h'⟩ := x
        simp only [drEff, drEff2]
        cases o.dst with
        | none => rfl
        | some t =>
          simp only [putT]
          cases Nat.blt t nt <;> rfl

def drGo (f : Dr → R Dr) : R Dr → R Dr
  | .ok d => f d
  | .bad w => .bad w
noncomputable def evDrawF (E : Env) (call : Caller) (nt nx0 : Nat) (all : List Oper) (ms : List Nat) (ops : List Oper) : Nat → List Nat → Dr → R Dr :=
  List.rec (motive := fun _ => Nat → List Nat → Dr → R Dr) (fun _ _ d => .ok d) (fun o _ ih i mm d => match mm with
    | m :: mrest => drGo (ih (i + 1) mrest) (drStepF E call nt nx0 all ms i o m d)
    | [] => .bad "draw: masks") ops

theorem evDrawF_eq (E : Env) {call call' : Caller} (hc : ∀ r h, call r h = call' r h) (nt nx0 : Nat) (all : List Oper) (ms : List Nat) :
    ∀ (ops : List Oper) (i : Nat) (mm : List Nat) (d : Dr), evDrawF E call nt nx0 all ms ops i mm d = evDraw E call' nt nx0 all ms i ops mm d
  | [], _, _, _ => by simp only [evDraw]; rfl
  | o :: ops, i, [], d => rfl
  | o :: ops, i, m :: mm, d => by
    show drGo (evDrawF E call nt nx0 all ms ops (i + 1) mm) (drStepF E call nt nx0 all ms i o m d) = _
    simp only [evDraw, drStepF_eq E hc]
    cases drStep E call' nt nx0 all ms i o m d with
    | bad w => rfl
    | ok d' => exact evDrawF_eq E hc nt nx0 all ms ops (i + 1) mm d'

/-- The look at a region's order: once for each region. -/
def regChk (E : Env) (ops : Array Oper) : Bool := effsChained E 0 ops.toList (masks ops.toList []) 0 && regOk ops.toList 0 ops.toList (masks ops.toList []) []
def drawEnd (E : Env) (nx0 len : Nat) : R Dr → R (T AV × H)
  | .ok d => bif allLooks E d.k d.stages d.looks then .ok (d.tm, withPend nx0 (Nat.pow 2 len - 1) d.pend d.h) else .bad "draw: a look hangs on the order"
  | .bad w => .bad w
noncomputable def drawOn (E : Env) (call : Caller) (nt : Nat) (ops : Array Oper) (tm : T AV) (h h0 : H) : R (T AV × H) :=
  drawEnd E h.nx (lenA ops.toList) (evDrawF E call nt h.nx ops.toList (masks ops.toList []) ops.toList 0 (masks ops.toList []) ⟨tm, h0, [h0], 0, [], []⟩)
noncomputable def evRegionF (E : Env) (call : Caller) (nt : Nat) (ops : Array Oper) (draw : Bool) (tm : T AV) (h : H) : R (T AV × H) :=
  bif draw then (bif regChk E ops then drawOn E call nt ops tm h { h with nx := h.nx + lenA ops.toList } else .bad "draw: no order") else evSeqF E call nt ops.toList ops.toList tm h

theorem evRegionF_eq (E : Env) {call call' : Caller} (hc : ∀ r h, call r h = call' r h) (nt : Nat) (ops : Array Oper) (draw : Bool) (tm : T AV) (h : H) :
    evRegionF E call nt ops draw tm h = evRegion E call' nt ops draw tm h := by
  cases draw with
  | false => exact evSeqF_eq E hc nt ops.toList ops.toList tm h
  | true =>
    simp only [evRegionF, evRegion, cond_true, regChk]
    cases (effsChained E 0 ops.toList (masks ops.toList []) 0 && regOk ops.toList 0 ops.toList (masks ops.toList []) []) with
    | false => rfl
    | true =>
      simp only [cond_true, drawOn, evDrawF_eq E hc]
      cases evDraw E call' nt h.nx ops.toList (masks ops.toList []) 0 ops.toList (masks ops.toList []) ⟨tm, { h with nx := h.nx + lenA ops.toList }, [{ h with nx := h.nx + lenA ops.toList }], 0, [], []⟩ <;> rfl

/-! ### Control -/
def cRegion (s : S) : R (T AV × H) → R (Ex × S)
  | .ok (tm, h) => .ok (.norm, { s with tm := tm, h := h })
  | .bad w => .bad w
def cSeq (ev : S → R (Ex × S)) : R (Ex × S) → R (Ex × S)
  | .ok (.norm, s') => ev s'
  | r => r
def cCond (evA evB : S → R (Ex × S)) (s : S) : R AV → R (Ex × S)
  | .ok (.bool true) => evA s
  | .ok (.bool false) => evB s
  | _ => .bad "cond"
def cBlock (id : Nat) : R (Ex × S) → R (Ex × S)
  | .ok (.exit j, s') => .ok (bif Nat.beq j id then .norm else .exit j, s')
  | r => r
def cRange4 (s : S) (l : Nat) (df : List Nat) (h3 : H) : Option Blk → R (Ex × S)
  | some (.loop .busy _ _ _ _ _ _ _) => .bad "rangeFunc: busy"
  | some (.loop _ pend nt' tm' ps' as' bo' d') =>
    let s' : S := { tm := s.tm, h := h3.put l (.loop .exhausted pend nt' tm' ps' as' bo' d'), df := df }
    (match pend with
    | none => .ok (.norm, s')
    | some .ret => .ok (.ret, s')
    | some (.exit id) => .ok (.exit id, s')
    | some (.goto t) => .ok (.goto t, s')
    | _ => .bad "rangeFunc: pending")
  | _ => .bad "rangeFunc: no loop"
def cRange3 (s : S) (l : Nat) (df : List Nat) : R (AV × H) → R (Ex × S)
  | .bad w => .bad w
  | .ok (_, h3) => cRange4 s l df h3 (h3.get l)
def cRange2 (E : Env) (call : Caller) (s : S) (l : Nat) (df : List Nat) (h2 : H) (gv : AV) : R (Ex × S) := match callValue E gv [.func (.yield l) [] []] h2 with
  | .bad w => .bad w
  | .ok (.val _ _) => .bad "rangeFunc: over what"
  | .ok (.round _ _ _) => .bad "rangeFunc: over a yield"
  | .ok (.call gf gargs _) => cRange3 s l df (call (.fn gf gargs) h2)
def cRange1 (E : Env) (call : Caller) (nt : Nat) (around : Option Nat) (ps : Array Tmp) (assign body : Code) (s : S) (gv : AV) : R (Ex × S) := match enterA around s with
  | .bad w => .bad w
  | .ok (d, h1, df) => cRange2 E call s h1.nx df (h1.new (.loop .ready none nt s.tm ps.toList assign body d)) gv
def cRange (E : Env) (call : Caller) (nt : Nat) (around : Option Nat) (g : Operand) (ps : Array Tmp) (assign body : Code) (s : S) : R (Ex × S) := match evX s.tm g with
  | .bad w => .bad w
  | .ok gv => cRange1 E call nt around ps assign body s gv
noncomputable def stepC (E : Env) (call : Caller) (nt : Nat) (around : Option Nat) (f : Nat) (ev : Code → S → R (Ex × S)) (c : Code) (s : S) : R (Ex × S) :=
  match c with
  | .skip => .ok (.norm, s)
  | .label _ => .ok (.norm, s)
  | .region _ ops draw => cRegion s (evRegionF E call nt ops draw s.tm s.h)
  | .seq a b => cSeq (ev b) (ev a s)
  | .cond c a b => cCond (ev a) (ev b) s (evX s.tm c)
  | .block id a => cBlock id (ev a s)
  | .loop a => cSeq (ev (.loop a)) (ev a s)
  | .exit id => .ok (.exit id, s)
  | .goto l => .ok (.goto l, s)
  | .ret => .ok (.ret, s)
  | .scope a => scopeA ev a f a s
  | .rangeFunc g ps assign body => cRange E call nt around g ps assign body s
  | .refuse w => .bad w
noncomputable def evCF (E : Env) (call : Caller) (nt : Nat) (around : Option Nat) (n : Nat) : Code → S → R (Ex × S) :=
  Nat.rec (motive := fun _ => Code → S → R (Ex × S)) (fun _ _ => .bad "fuel") (fun f ev c s => stepC E call nt around f ev c s) n

theorem evCF_eq (E : Env) {call call' : Caller} (hc : ∀ r h, call r h = call' r h) (nt : Nat) (around : Option Nat) : ∀ (n : Nat) (c : Code) (s : S), evCF E call nt around n c s = evC E call' nt around n c s
  | 0, _, _ => by simp only [evC]; rfl
  | f + 1, c, s => by
    have ih : (fun c s => evCF E call nt around f c s) = fun c s => evC E call' nt around f c s := by
      funext c s; exact evCF_eq E hc nt around f c s
    show stepC E call nt around f (fun c s => evCF E call nt around f c s) c s = _
    rw [ih]
    cases c with
    | skip => simp only [evC]; rfl
    | label l => simp only [evC]; rfl
    | region id ops draw =>
      simp only [evC, stepC, evRegionF_eq E hc]
      cases evRegion E call' nt ops draw s.tm s.h <;> rfl
    | seq a b =>
      simp only [evC, stepC]
      cases evC E call' nt around f a s with
      | bad w => rfl
      | ok x => obtain ⟨e, s'⟩ := x; cases e <;> rfl
    | cond c a b =>
      simp only [evC, stepC]
      cases evX s.tm c with
      | bad w => rfl
      | ok v => cases v with
        | bool b => cases b <;> rfl
        | _ => rfl
    | block id a =>
      simp only [evC, stepC]
      cases evC E call' nt around f a s with
      | bad w => rfl
      | ok x => obtain ⟨e, s'⟩ := x; cases e <;> rfl
    | loop a =>
      simp only [evC, stepC]
      cases evC E call' nt around f a s with
      | bad w => rfl
      | ok x => obtain ⟨e, s'⟩ := x; cases e <;> rfl
    | exit id => simp only [evC]; rfl
    | goto l => simp only [evC]; rfl
    | ret => simp only [evC]; rfl
    | scope a => simp only [evC]; rfl
    | refuse w => simp only [evC]; rfl
    | rangeFunc g ps assign body =>
      simp only [evC, stepC, cRange]
      cases evX s.tm g with
      | bad w => rfl
      | ok gv =>
        simp only [cRange1]
        cases enterA around s with
        | bad w => rfl
        | ok x =>
          obtain ⟨d, h1, df⟩ := x
          simp only [cRange2]
          cases callValue E gv [.func (.yield h1.nx) [] []] (h1.new (.loop .ready none nt s.tm ps.toList assign body d)) with
          | bad w => rfl
          | ok out => cases out with
            | val v h' => rfl
            | round l a h' => rfl
            | call gf gargs h' =>
              simp only [hc]
              cases call' (.fn gf gargs) (h1.new (.loop .ready none nt s.tm ps.toList assign body d)) with
              | bad w => rfl
              | ok y =>
                obtain ⟨v, h3⟩ := y
                simp only [cRange3]
                cases h3.get h1.nx with
                | none => rfl
                | some b => cases b with
                  | loop st pend a1 a2 a3 a4 a5 a6 => cases st <;> first | rfl | (cases pend <;> first | rfl | (rename_i c; cases c <;> rfl))
                  | _ => rfl

/-! ### Calls -/
def kRes3 (fn : Func) (h1 : H) : R (List AV) → R (AV × H)
  | .ok vs => .ok (tupA vs, h1)
  | .bad w => .bad (fn.name ++ " / " ++ w)
def kRes2 (E : Env) (fn : Func) (s : S) : R H → R (AV × H)
  | .ok h1 => kRes3 fn h1 (evResults E s.tm h1 fn.results.toList)
  | .bad w => .bad (fn.name ++ " / " ++ w)
def kRes (E : Env) (fn : Func) : R (Ex × S) → R (AV × H)
  | .ok (.norm, s) => kRes2 E fn s (takeDf s.df s.h)
  | .ok (.ret, s) => kRes2 E fn s (takeDf s.df s.h)
  | .ok _ => .bad (fn.name ++ " / a jump out of a function")
  | .bad w => .bad (fn.name ++ " / " ++ w)
noncomputable def kBody (E : Env) (call : Caller) (big : Nat) (fn : Func) (args : List AV) (h : H) : Option Code → R (AV × H)
  | none => .bad ("no body: " ++ fn.name)
  | some c => bif Nat.ble (lenA args) fn.ntmps then kRes E fn (evCF E call fn.ntmps none big c { tm := argsT args 0 .leaf, h := h, df := [] }) else .bad "arguments"
noncomputable def kFunc (E : Env) (call : Caller) (big : Nat) (args : List AV) (h : H) : Option Func → R (AV × H)
  | none => .bad "no such function"
  | some fn => kBody E call big fn args h fn.body
noncomputable def kFn (E : Env) (call : Caller) (big : Nat) (f : FuncId) (args : List AV) (h : H) : Option (AV × H) → R (AV × H)
  | some (v, h') => .ok (v, h')
  | none => kFunc E call big args h (E.fn.get f)
def kRnd4 (l : Nat) (e : Ex) (s2 : S) : Option Blk → List Nat → R (AV × H)
  | some (.loop _ _ nt' tm' ps' as' bo' d'), [] => .ok (.bool (jumpOf e).isNone, s2.h.put l (.loop (match jumpOf e with | none => .ready | some _ => .done) (jumpOf e) nt' tm' ps' as' bo' d'))
  | _, _ => .bad "round: end"
def kRnd3 (l : Nat) : R (Ex × S) → R (AV × H)
  | .ok (e, s2) => kRnd4 l e s2 (s2.h.get l) s2.df
  | .bad w => .bad ("round / " ++ w)
noncomputable def kRnd2 (E : Env) (call : Caller) (big : Nat) (l nt : Nat) (bo : Code) (s1 : S) : Option Blk → List Nat → R (AV × H)
  | some (.loop .ready pe' nt' tm' ps' as' bo' d'), [] => kRnd3 l (evCF E call nt (some l) big bo { s1 with h := s1.h.put l (.loop .busy pe' nt' tm' ps' as' bo' d') })
  | _, _ => .bad "round: not ready"
noncomputable def kRnd1 (E : Env) (call : Caller) (big : Nat) (l nt : Nat) (bo : Code) : R (Ex × S) → R (AV × H)
  | .ok (.norm, s1) => kRnd2 E call big l nt bo s1 (s1.h.get l) s1.df
  | .ok _ => .bad "round: assign"
  | .bad w => .bad ("round / " ++ w)
noncomputable def kRnd0 (E : Env) (call : Caller) (big : Nat) (l nt : Nat) (as bo : Code) (h : H) : R (T AV) → R (AV × H)
  | .bad w => .bad w
  | .ok tm1 => kRnd1 E call big l nt bo (evCF E call nt (some l) big as { tm := tm1, h := h, df := [] })
noncomputable def kRound (E : Env) (call : Caller) (big : Nat) (l : Nat) (args : List AV) (h : H) : Option Blk → R (AV × H)
  | some (.loop _ _ nt tm ps as bo _) => kRnd0 E call big l nt as bo h (putParams nt ps args tm)
  | _ => .bad "round: no loop"
noncomputable def kCall (E : Env) (M : Memo) (big : Nat) (call : Caller) : Caller := fun r h => match r with
  | .fn f args => kFn E call big f args h (M f args h)
  | .round l args => kRound E call big l args h (h.get l)
noncomputable def evCallF (E : Env) (M : Memo) (big : Nat) (d : Nat) : Caller :=
  Nat.rec (motive := fun _ => Caller) (fun _ _ => .bad "depth") (fun _ call => kCall E M big call) d

theorem evCallF_eq (E : Env) (M : Memo) (big : Nat) : ∀ (d : Nat) (r : Rq) (h : H), evCallF E M big d r h = evCall E M big d r h
  | 0, r, h => by cases r <;> simp only [evCall] <;> rfl
  | d + 1, .fn f args, h => by
    have hc := evCallF_eq E M big d
    show kFn E (evCallF E M big d) big f args h (M f args h) = _
    simp only [evCall]
    cases M f args h with
    | some x => rfl
    | none =>
      simp only [kFn]
      cases E.fn.get f with
      | none => rfl
      | some fn =>
        simp only [kFunc]
        cases fn.body with
        | none => rfl
        | some c =>
          simp only [kBody]
          cases Nat.ble (lenA args) fn.ntmps with
          | false => rfl
          | true =>
            simp only [cond_true, evCF_eq E hc]
            cases evC E (evCall E M big d) fn.ntmps none big c { tm := argsT args 0 .leaf, h := h, df := [] } with
            | bad w => rfl
            | ok x =>
              obtain ⟨e, s⟩ := x
              cases e with
              | norm =>
                simp only [kRes]
                cases takeDf s.df s.h with
                | bad w => rfl
                | ok h1 =>
                  simp only [kRes2]
                  cases evResults E s.tm h1 fn.results.toList <;> rfl
              | ret =>
                simp only [kRes]
                cases takeDf s.df s.h with
                | bad w => rfl
                | ok h1 =>
                  simp only [kRes2]
                  cases evResults E s.tm h1 fn.results.toList <;> rfl
              | exit i => rfl
              | goto l => rfl
  | d + 1, .round l args, h => by
    have hc := evCallF_eq E M big d
    show kRound E (evCallF E M big d) big l args h (h.get l) = _
    simp only [evCall]
    cases h.get l with
    | none => rfl
    | some b => cases b with
      | loop st pe nt tm ps as bo df =>
        simp only [kRound]
        cases putParams nt ps args tm with
        | bad w => rfl
        | ok tm1 =>
          simp only [kRnd0, evCF_eq E hc]
          cases evC E (evCall E M big d) nt (some l) big as { tm := tm1, h := h, df := [] } with
          | bad w => rfl
          | ok x =>
            obtain ⟨e, s1⟩ := x
            cases e with
            | norm =>
              obtain ⟨t1, h1, d1⟩ := s1
              simp only [kRnd1]
              cases h1.get l with
              | none => rfl
              | some b => cases b with
                | loop st pe nt' tm' ps' as' bo' d' => cases st with
                  | ready => cases d1 with
                    | cons _ _ => rfl
                    | nil =>
                      simp only [kRnd2, evCF_eq E hc]
                      cases evC E (evCall E M big d) nt (some l) big bo { tm := t1, h := h1.put l (.loop .busy pe nt' tm' ps' as' bo' d'), df := [] } with
                      | bad w => rfl
                      | ok y =>
                        obtain ⟨e, t2, h2, d2⟩ := y
                        simp only [kRnd3]
                        cases h2.get l with
                        | none => rfl
                        | some b => cases b with
                          | loop a1 a2 a3 a4 a5 a6 a7 a8 => cases d2 <;> rfl
                          | _ => rfl
                  | _ => rfl
                | _ => rfl
            | _ => rfl
      | _ => rfl

theorem evCallF_ok [Syms] {P : Program} {E : Env} (hE : EnvOk P E) {M : Memo} (hM : MemoOk P M) (big d : Nat) : CallOk P (evCallF E M big d) := by
  have h := evCall_ok hE hM big d
  have e : evCallF E M big d = evCall E M big d := by funext r h; exact evCallF_eq E M big d r h
  rw [e]; exact h
end
end Go.AE
set_option linter.unusedSectionVars false
namespace Go.AE
noncomputable section

/-- Of one operation: which ones stand before it, what it is, the first and the last stage at which it may stand. -/
structure OI where
  m : Nat
  c : Cls
  lo : Nat
  hi : Nat

def oiOf (E : Env) (all : List Oper) (ms : List Nat) : Nat → List Oper → List Nat → List OI
  | i, o :: ops, m :: mm => ⟨m, clsOf E o.op, loOf E m 0 all 0 0, hiOf E i all ms 0⟩ :: oiOf E all ms (i + 1) ops mm
  | _, _, _ => []
def riOf (E : Env) (ops : Array Oper) : List OI := oiOf E ops.toList (masks ops.toList []) 0 ops.toList (masks ops.toList [])

def beqCls : Cls → Cls → Bool
  | .eff, .eff => true
  | .alloc, .alloc => true
  | .read, .read => true
  | _, _ => false
def beqOI (a b : OI) : Bool := Nat.beq a.m b.m && beqCls a.c b.c && Nat.beq a.lo b.lo && Nat.beq a.hi b.hi
def beqOIs : List OI → List OI → Bool
  | [], [] => true
  | a :: l, b :: m => beqOI a b && beqOIs l m
  | _, _ => false
theorem beqOI_ok {a b : OI} (h : beqOI a b = true) : a = b := by
  obtain ⟨a1, a2, a3, a4⟩ := a
  obtain ⟨b1, b2, b3, b4⟩ := b
  simp only [beqOI, Bool.and_eq_true] at h
  obtain ⟨⟨⟨h1, h2⟩, h3⟩, h4⟩ := h
  have e2 : a2 = b2 := by cases a2 <;> cases b2 <;> first | rfl | cases h2
  rw [Nat.eq_of_beq_eq_true h1, e2, Nat.eq_of_beq_eq_true h3, Nat.eq_of_beq_eq_true h4]
theorem beqOIs_ok : ∀ {l m : List OI}, beqOIs l m = true → l = m
  | [], [], _ => rfl
  | [], _ :: _, h => by cases h
  | _ :: _, [], h => by cases h
  | a :: l, b :: m, h => by
    simp only [beqOIs, Bool.and_eq_true] at h
    rw [beqOI_ok h.1, beqOIs_ok h.2]

def drReadVR (nt : Nat) (o : Oper) (x : OI) (d : Dr) (v : AV) : R Dr := match o.dst with
  | none => drRead2 x.lo x.hi d o d.tm v
  | some t => bif Nat.blt t nt then drRead2 x.lo x.hi d o (d.tm.put t (some v)) v else .bad "tmp"
def drReadR (nt : Nat) (o : Oper) (x : OI) (d : Dr) : R Out → R Dr
  | .ok (.val v _) => drReadVR nt o x d v
  | .ok _ => .bad "draw: a read that calls"
  | .bad w => .bad (o.pos ++ ": " ++ w)
def drDoR (E : Env) (call : Caller) (nt nx0 i : Nat) (o : Oper) (x : OI) (d : Dr) : Cls → R Dr
  | .read => drReadR nt o x d (evOpF E d.tm o.op (withPend nx0 x.m d.pend d.h))
  | .alloc => drAlloc nt nx0 i o d (evOpF E d.tm o.op { d.h with nx := nx0 + i })
  | .eff => drEff nt o x.m d (fin call (evOpF E d.tm o.op (withPend nx0 x.m d.pend d.h)))
def drStepR (E : Env) (call : Caller) (nt nx0 : Nat) (all : List Oper) (i : Nat) (o : Oper) (x : OI) (d : Dr) : R Dr :=
  bif wantedF all d.tm o.guard then drDoR E call nt nx0 i o x d x.c else drSkip x.c nt o d
noncomputable def evDrawR (E : Env) (call : Caller) (nt nx0 : Nat) (all : List Oper) (ops : List Oper) : Nat → List OI → Dr → R Dr :=
  List.rec (motive := fun _ => Nat → List OI → Dr → R Dr) (fun _ _ d => .ok d) (fun o _ ih i xs d => match xs with
    | x :: rest => drGo (ih (i + 1) rest) (drStepR E call nt nx0 all i o x d)
    | [] => .bad "draw: masks") ops

theorem drStepR_eq (E : Env) (call : Caller) (nt nx0 : Nat) (all : List Oper) (ms : List Nat) (i : Nat) (o : Oper) (m : Nat) (d : Dr) :
    drStepR E call nt nx0 all i o ⟨m, clsOf E o.op, loOf E m 0 all 0 0, hiOf E i all ms 0⟩ d = drStepF E call nt nx0 all ms i o m d := by
  simp only [drStepR, drStepF]
  cases wantedF all d.tm o.guard with
  | false => rfl
  | true =>
    simp only [cond_true]
    cases clsOf E o.op with
    | read =>
      simp only [drDoR, drDo]
      cases evOpF E d.tm o.op (withPend nx0 m d.pend d.h) with
      | bad w => rfl
      | ok out => cases out <;> rfl
    | alloc => rfl
    | eff => rfl

theorem evDrawR_eq (E : Env) (call : Caller) (nt nx0 : Nat) (all : List Oper) (ms : List Nat) :
    ∀ (ops : List Oper) (i : Nat) (mm : List Nat) (d : Dr), evDrawR E call nt nx0 all ops i (oiOf E all ms i ops mm) d = evDrawF E call nt nx0 all ms ops i mm d
  | [], _, _, _ => rfl
  | o :: ops, i, [], d => rfl
  | o :: ops, i, m :: mm, d => by
    show drGo (evDrawR E call nt nx0 all ops (i + 1) (oiOf E all ms (i + 1) ops mm)) (drStepR E call nt nx0 all i o ⟨m, clsOf E o.op, loOf E m 0 all 0 0, hiOf E i all ms 0⟩ d) =
      drGo (evDrawF E call nt nx0 all ms ops (i + 1) mm) (drStepF E call nt nx0 all ms i o m d)
    rw [drStepR_eq E call nt nx0 all ms]
    cases drStepF E call nt nx0 all ms i o m d with
    | bad w => rfl
    | ok d' => exact evDrawR_eq E call nt nx0 all ms ops (i + 1) mm d'

noncomputable def drawOnR (E : Env) (call : Caller) (nt : Nat) (ops : List Oper) (ri : List OI) (tm : T AV) (h h0 : H) : R (T AV × H) :=
  drawEnd E h.nx (lenA ops) (evDrawR E call nt h.nx ops ops 0 ri ⟨tm, h0, [h0], 0, [], []⟩)
noncomputable def regionT (E : Env) (call : Caller) (nt : Nat) (ops : Array Oper) (tm : T AV) (h : H) : Option (List OI) → R (T AV × H)
  | some ri => drawOnR E call nt ops.toList ri tm h { h with nx := h.nx + lenA ops.toList }
  | none => evRegionF E call nt ops true tm h
noncomputable def evRegionR (E : Env) (call : Caller) (nt : Nat) (rt : T (List OI)) (id : Nat) (ops : Array Oper) (draw : Bool) (tm : T AV) (h : H) : R (T AV × H) :=
  bif draw then regionT E call nt ops tm h (rt.get id) else evSeqF E call nt ops.toList ops.toList tm h

def riChk (E : Env) (ops : Array Oper) : Option (List OI) → Bool
  | none => true
  | some ri => regChk E ops && beqOIs ri (riOf E ops)
def regsChk (E : Env) (rt : T (List OI)) : Code → Bool
  | .region id ops draw => bif draw then riChk E ops (rt.get id) else true
  | .seq a b => regsChk E rt a && regsChk E rt b
  | .cond _ a b => regsChk E rt a && regsChk E rt b
  | .block _ a => regsChk E rt a
  | .loop a => regsChk E rt a
  | .scope a => regsChk E rt a
  | _ => true

theorem evRegionR_eq (E : Env) (call : Caller) (nt : Nat) (rt : T (List OI)) (id : Nat) (ops : Array Oper) (draw : Bool) (hr : regsChk E rt (.region id ops draw) = true) (tm : T AV) (h : H) :
    evRegionR E call nt rt id ops draw tm h = evRegionF E call nt ops draw tm h := by
  cases draw with
  | false => rfl
  | true =>
    simp only [regsChk, cond_true] at hr
    simp only [evRegionR, cond_true]
    cases hg : rt.get id with
    | none => rfl
    | some ri =>
      rw [hg] at hr
      simp only [riChk, Bool.and_eq_true] at hr
      have e := beqOIs_ok hr.2
      subst e
      simp only [regionT, evRegionF, cond_true, hr.1, drawOnR, drawOn, riOf, evDrawR_eq]

noncomputable def stepCR (E : Env) (call : Caller) (nt : Nat) (around : Option Nat) (rt : T (List OI)) (f : Nat) (ev : Code → S → R (Ex × S)) (c : Code) (s : S) : R (Ex × S) :=
  match c with
  | .skip => .ok (.norm, s)
  | .label _ => .ok (.norm, s)
  | .region id ops draw => cRegion s (evRegionR E call nt rt id ops draw s.tm s.h)
  | .seq a b => cSeq (ev b) (ev a s)
  | .cond c a b => cCond (ev a) (ev b) s (evX s.tm c)
  | .block id a => cBlock id (ev a s)
  | .loop a => cSeq (ev (.loop a)) (ev a s)
  | .exit id => .ok (.exit id, s)
  | .goto l => .ok (.goto l, s)
  | .ret => .ok (.ret, s)
  | .scope a => scopeA ev a f a s
  | .rangeFunc g ps assign body => cRange E call nt around g ps assign body s
  | .refuse w => .bad w
noncomputable def evCR (E : Env) (call : Caller) (nt : Nat) (around : Option Nat) (rt : T (List OI)) (n : Nat) : Code → S → R (Ex × S) :=
  Nat.rec (motive := fun _ => Code → S → R (Ex × S)) (fun _ _ => .bad "fuel") (fun f ev c s => stepCR E call nt around rt f ev c s) n

theorem findLabel_regs {E : Env} {rt : T (List OI)} : ∀ (c : Code) (l : Nat) (r : Code), regsChk E rt c = true → findLabel c l = some r → regsChk E rt r = true
  | .seq a b, l, r, hc, hf => by
    simp only [regsChk, Bool.and_eq_true] at hc
    simp only [findLabel] at hf
    cases ha : findLabel a l with
    | some x =>
      rw [ha] at hf
      cases hf
      simp only [regsChk, Bool.and_eq_true]
      exact ⟨findLabel_regs a l x hc.1 ha, hc.2⟩
    | none => rw [ha] at hf; exact findLabel_regs b l r hc.2 hf
  | .label l', l, r, _, hf => by
    simp only [findLabel] at hf
    split at hf
    · cases hf; rfl
    · cases hf
  | .skip, _, _, _, hf => by simp [findLabel] at hf
  | .region .., _, _, _, hf => by simp [findLabel] at hf
  | .cond .., _, _, _, hf => by simp [findLabel] at hf
  | .block .., _, _, _, hf => by simp [findLabel] at hf
  | .loop .., _, _, _, hf => by simp [findLabel] at hf
  | .exit .., _, _, _, hf => by simp [findLabel] at hf
  | .goto .., _, _, _, hf => by simp [findLabel] at hf
  | .ret, _, _, _, hf => by simp [findLabel] at hf
  | .scope .., _, _, _, hf => by simp [findLabel] at hf
  | .rangeFunc .., _, _, _, hf => by simp [findLabel] at hf
  | .refuse .., _, _, _, hf => by simp [findLabel] at hf

theorem scopeA_eq {E : Env} {rt : T (List OI)} {ev ev' : Code → S → R (Ex × S)} (h : ∀ c s, regsChk E rt c = true → ev c s = ev' c s) {body : Code} (hb : regsChk E rt body = true) :
    ∀ (n : Nat) (c : Code) (s : S), regsChk E rt c = true → scopeA ev body n c s = scopeA ev' body n c s
  | 0, _, _, _ => rfl
  | n + 1, c, s, hc => by
    simp only [scopeA, h c s hc]
    cases ev' c s with
    | bad w => rfl
    | ok x =>
      obtain ⟨e, s'⟩ := x
      cases e with
      | goto l =>
        simp only []
        cases hf : findLabel body l with
        | none => rfl
        | some r => exact scopeA_eq h hb n r s' (findLabel_regs body l r hb hf)
      | _ => rfl

theorem evCR_eq (E : Env) (call : Caller) (nt : Nat) (around : Option Nat) (rt : T (List OI)) : ∀ (n : Nat) (c : Code) (s : S), regsChk E rt c = true → evCR E call nt around rt n c s = evCF E call nt around n c s
  | 0, _, _, _ => rfl
  | f + 1, c, s, hc => by
    have ih := fun c s (h : regsChk E rt c = true) => evCR_eq E call nt around rt f c s h
    show stepCR E call nt around rt f (fun c s => evCR E call nt around rt f c s) c s = stepC E call nt around f (fun c s => evCF E call nt around f c s) c s
    cases c with
    | region id ops draw => simp only [stepCR, stepC, evRegionR_eq E call nt rt id ops draw hc]
    | seq a b =>
      simp only [regsChk, Bool.and_eq_true] at hc
      simp only [stepCR, stepC, ih a s hc.1]
      cases evCF E call nt around f a s with
      | bad w => rfl
      | ok x =>
        obtain ⟨e, s'⟩ := x
        cases e with
        | norm => exact ih b s' hc.2
        | _ => rfl
    | cond c a b =>
      simp only [regsChk, Bool.and_eq_true] at hc
      simp only [stepCR, stepC]
      cases evX s.tm c with
      | bad w => rfl
      | ok v => cases v with
        | bool t => cases t with
          | true => exact ih a s hc.1
          | false => exact ih b s hc.2
        | _ => rfl
    | block id a => simp only [stepCR, stepC, ih a s hc]
    | loop a =>
      have hl : regsChk E rt (.loop a) = true := hc
      simp only [regsChk] at hc
      simp only [stepCR, stepC, ih a s hc]
      cases evCF E call nt around f a s with
      | bad w => rfl
      | ok x =>
        obtain ⟨e, s'⟩ := x
        cases e with
        | norm => exact ih _ s' hl
        | _ => rfl
    | scope a =>
      have hc' : regsChk E rt a = true := hc
      exact scopeA_eq (fun c s h => ih c s h) hc' f a s hc'
    | _ => rfl

/-- The tables: by the function's number, then by the region's. -/
abbrev RT := T (T (List OI))
def rtChk (E : Env) (t : T (List OI)) : Option Func → Bool
  | some fn => (match fn.body with | some c => regsChk E t c | none => true)
  | none => true

noncomputable def kBodyR (E : Env) (call : Caller) (big : Nat) (fn : Func) (args : List AV) (h : H) (rt : T (List OI)) : Option Code → R (AV × H)
  | none => .bad ("no body: " ++ fn.name)
  | some c => bif Nat.ble (lenA args) fn.ntmps then kRes E fn (evCR E call fn.ntmps none rt big c { tm := argsT args 0 .leaf, h := h, df := [] }) else .bad "arguments"
noncomputable def kBodyT (E : Env) (call : Caller) (big : Nat) (fn : Func) (args : List AV) (h : H) (c : Option Code) : Option (T (List OI)) → R (AV × H)
  | some rt => kBodyR E call big fn args h rt c
  | none => kBody E call big fn args h c
noncomputable def kFuncR (E : Env) (call : Caller) (big : Nat) (args : List AV) (h : H) (rt : Option (T (List OI))) : Option Func → R (AV × H)
  | none => .bad "no such function"
  | some fn => kBodyT E call big fn args h fn.body rt
noncomputable def kFnR (E : Env) (rts : RT) (call : Caller) (big : Nat) (f : FuncId) (args : List AV) (h : H) : Option (AV × H) → R (AV × H)
  | some (v, h') => .ok (v, h')
  | none => kFuncR E call big args h (rts.get f) (E.fn.get f)
noncomputable def kCallR (E : Env) (rts : RT) (M : Memo) (big : Nat) (call : Caller) : Caller := fun r h => match r with
  | .fn f args => kFnR E rts call big f args h (M f args h)
  | .round l args => kRound E call big l args h (h.get l)
noncomputable def evCallR (E : Env) (rts : RT) (M : Memo) (big : Nat) (d : Nat) : Caller :=
  Nat.rec (motive := fun _ => Caller) (fun _ _ => .bad "depth") (fun _ call => kCallR E rts M big call) d

theorem kCallR_eq {E : Env} {rts : RT} (hrt : T.chk (fun f t => rtChk E t (E.fn.get f)) rts 1 0 = true) (M : Memo) (big : Nat) (call : Caller) (r : Rq) (h : H) : kCallR E rts M big call r h = kCall E M big call r h := by
  cases r with
  | round l args => rfl
  | fn f args =>
    simp only [kCallR, kCall]
    cases M f args h with
    | some x => rfl
    | none =>
      simp only [kFnR, kFn]
      cases hf : E.fn.get f with
      | none => rfl
      | some fn =>
        simp only [kFuncR, kFunc]
        cases hr : rts.get f with
        | none => rfl
        | some rt =>
          have := T.All_get (T.chk_all hrt) f rt hr
          have e : 1 * f + 0 = f := Nat.one_mul f
          rw [e, hf] at this
          simp only [kBodyT]
          cases hb : fn.body with
          | none => rfl
          | some c =>
            simp only [rtChk, hb] at this
            simp only [kBodyR, kBody, evCR_eq E call fn.ntmps none rt big c _ this]

theorem evCallR_eq {E : Env} {rts : RT} (hrt : T.chk (fun f t => rtChk E t (E.fn.get f)) rts 1 0 = true) (M : Memo) (big : Nat) : ∀ (d : Nat), evCallR E rts M big d = evCallF E M big d
  | 0 => rfl
  | d + 1 => by
    show kCallR E rts M big (evCallR E rts M big d) = kCall E M big (evCallF E M big d)
    rw [evCallR_eq hrt M big d]
    funext r h
    exact kCallR_eq hrt M big _ r h

theorem evCallR_ok [Syms] {P : Program} {E : Env} (hE : EnvOk P E) {rts : RT} (hrt : T.chk (fun f t => rtChk E t (E.fn.get f)) rts 1 0 = true) {M : Memo} (hM : MemoOk P M) (big d : Nat) : CallOk P (evCallR E rts M big d) := by
  rw [evCallR_eq hrt]; exact evCallF_ok hE hM big d
end
end Go.AE
set_option linter.unusedSectionVars false
namespace Go.AE
noncomputable section

mutual
/-- All names are below k. -/
def below (k : Nat) : AV → Bool
  | .ptr n _ => Nat.blt n k
  | .slice n _ _ _ => Nat.blt n k
  | .map n => Nat.blt n k
  | .func (.func _) fi ca => belows k fi && belows k ca
  | .func _ _ _ => false
  | .iface _ v => below k v
  | .agg cs => belows k cs
  | .tup cs => belows k cs
  | _ => true
def belows (k : Nat) : List AV → Bool
  | [] => true
  | a :: l => below k a && belows k l
end

/-- A call, the blocks that it reads, what it hands back. -/
structure SubE where
  f : FuncId
  args : List AV
  blks : List (Nat × List AV × TypeId)
  nx : Nat
  v : AV

def heapOf (nx : Nat) : List (Nat × List AV × TypeId) → H
  | [] => ⟨.leaf, nx⟩
  | (n, cs, e) :: l => (heapOf nx l).put n (.cells cs e)

def isBlk (cs : List AV) (e : TypeId) : Option Blk → Bool
  | some (.cells cs' e') => Nat.beq e' e && beqVs cs' cs
  | _ => false
def allHere (h : H) : List (Nat × List AV × TypeId) → Bool
  | [] => true
  | (n, cs, e) :: l => isBlk cs e (h.get n) && allHere h l
def blksOk (nx : Nat) : List (Nat × List AV × TypeId) → Bool
  | [] => true
  | (n, cs, _) :: l => Nat.blt n nx && belows nx cs && blksOk nx l

def subEnd (x : SubE) : R (AV × H) → Bool
  | .ok (v, h) => beqV v x.v && allHere h x.blks
  | .bad _ => false
def subChk (call : Caller) (x : SubE) : Bool :=
  Nat.ble 1000 x.nx && plainV x.v && belows x.nx x.args && blksOk x.nx x.blks && allHere (heapOf x.nx x.blks) x.blks && subEnd x (call (.fn x.f x.args) (heapOf x.nx x.blks))

def subHit (x : SubE) (args : List AV) (h : H) : Bool := beqVs x.args args && Nat.ble x.nx h.nx && allHere h x.blks
def subGet (args : List AV) (h : H) : List SubE → Option AV
  | [] => none
  | x :: l => bif subHit x args h then some x.v else subGet args h l
def subMemo (args : List AV) (h : H) (r : Option (AV × H)) : Option (List SubE) → Option (AV × H)
  | none => r
  | some l => (match subGet args h l with
    | some v => some (v, h)
    | none => r)
def memoSub (t : T (List SubE)) (M : Memo) : Memo := fun f args h => subMemo args h (M f args h) (t.get f)

theorem isBlk_ok {cs : List AV} {e : TypeId} {b : Option Blk} (h : isBlk cs e b = true) : b = some (.cells cs e) := by
  unfold isBlk at h
  split at h
  · simp only [Bool.and_eq_true] at h
    rw [Nat.eq_of_beq_eq_true h.1, beqVs_ok _ _ h.2]
  · cases h

theorem allHere_ok {h : H} : ∀ {l : List (Nat × List AV × TypeId)}, allHere h l = true → ∀ n cs e, (n, cs, e) ∈ l → h.get n = some (.cells cs e)
  | (n, cs, e) :: l, hh, m, cs', e', hm => by
    simp only [allHere, Bool.and_eq_true] at hh
    rcases List.mem_cons.1 hm with e1 | hm
    · cases e1; exact isBlk_ok hh.1
    · exact allHere_ok hh.2 m cs' e' hm

theorem blksOk_ok {nx : Nat} : ∀ {l : List (Nat × List AV × TypeId)}, blksOk nx l = true → ∀ n cs e, (n, cs, e) ∈ l → n < nx ∧ belows nx cs = true
  | (n, cs, e) :: l, hh, m, cs', e', hm => by
    simp only [blksOk, Bool.and_eq_true] at hh
    rcases List.mem_cons.1 hm with e1 | hm
    · cases e1; exact ⟨by rw [← Nat.blt_eq]; exact hh.1.1, hh.1.2⟩
    · exact blksOk_ok hh.2 m cs' e' hm

theorem heapOf_get {nx : Nat} : ∀ {l : List (Nat × List AV × TypeId)} {n : Nat} {b : Blk}, (heapOf nx l).get n = some b → ∃ cs e, (n, cs, e) ∈ l ∧ b = .cells cs e
  | [], n, b, h => by
    have : (T.leaf : T Blk).get n = some b := h
    rw [T.get_leaf] at this
    cases this
  | (m, cs, e) :: l, n, b, h => by
    simp only [heapOf, H.get_put] at h
    by_cases e1 : n = m
    · rw [if_pos e1] at h
      cases h
      exact ⟨cs, e, by rw [e1]; simp, rfl⟩
    · rw [if_neg e1] at h
      obtain ⟨cs', e', h1, h2⟩ := heapOf_get h
      exact ⟨cs', e', List.mem_cons_of_mem _ h1, h2⟩
theorem heapOf_nx {nx : Nat} : ∀ (l : List (Nat × List AV × TypeId)), (heapOf nx l).nx = nx
  | [] => rfl
  | (m, cs, e) :: l => by simp only [heapOf, H.nx_put]; exact heapOf_nx l

/-- The names below k alone. -/
def Pl.cut (p : Pl) (k : Nat) : Pl := fun n => if n < k then p n else none
theorem Pl.cut_le (p : Pl) (k : Nat) : (p.cut k).le p := by
  intro n x h
  unfold Pl.cut at h
  split at h
  · exact h
  · cases h

mutual
theorem below_rep {p : Pl} {k : Nat} (hk : 1000 ≤ k) : ∀ (a : AV) (v : Value), below k a = true → Rep p a v → Rep (p.cut k) a v
  | .bool _, _, _, r => r
  | .int .., _, _, r => r
  | .str _, _, _, r => r
  | .nilPtr, _, _, r => r
  | .nilSlice, _, _, r => r
  | .emptySlice, _, _, r => r
  | .nilMap, _, _, r => r
  | .nilFunc, _, _, r => r
  | .nilIface, _, _, r => r
  | .ptr n o, _, h, .inl ⟨b, sz, e, r⟩ => by
    simp only [below, Nat.blt_eq] at h
    exact .inl ⟨b, sz, by unfold Pl.cut; rw [if_pos h]; exact e, r⟩
  | .ptr n o, _, _, .inr r => .inr r
  | .slice n o l (.exact c), _, h, ⟨b, sz, e, r⟩ => by
    simp only [below, Nat.blt_eq] at h
    exact ⟨b, sz, by unfold Pl.cut; rw [if_pos h]; exact e, r⟩
  | .slice n o l (.more c), _, h, ⟨b, sz, c', e, r⟩ => by
    simp only [below, Nat.blt_eq] at h
    exact ⟨b, sz, c', by unfold Pl.cut; rw [if_pos h]; exact e, r⟩
  | .map n, _, h, ⟨b, sz, e, r⟩ => by
    simp only [below, Nat.blt_eq] at h
    exact ⟨b, sz, by unfold Pl.cut; rw [if_pos h]; exact e, r⟩
  | .func (.func g) fi ca, _, h, ⟨f', fi', ca', e, rf, r1, r2⟩ => by
    simp only [below, Bool.and_eq_true] at h
    exact ⟨f', fi', ca', e, rf, belows_rep hk fi _ h.1 r1, belows_rep hk ca _ h.2 r2⟩
  | .func (.yield _) _ _, _, h, _ => by simp only [below] at h; cases h
  | .func (.method _) _ _, _, h, _ => by simp only [below] at h; cases h
  | .func (.methodOf _ _) _ _, _, h, _ => by simp only [below] at h; cases h
  | .func (.via _ _ _ _) _ _, _, h, _ => by simp only [below] at h; cases h
  | .iface _ x, _, h, ⟨y, e, r⟩ => ⟨y, e, below_rep hk x y (by simpa only [below] using h) r⟩
  | .agg cs, _, h, ⟨vs, e, r⟩ => ⟨vs, e, belows_rep hk cs _ (by simpa only [below] using h) r⟩
  | .tup cs, _, h, ⟨vs, e, r⟩ => ⟨vs, e, belows_rep hk cs _ (by simpa only [below] using h) r⟩
  | .sym _ i, _, _, ⟨b, h1, h2, e, r⟩ => ⟨b, h1, h2, by unfold Pl.cut; rw [if_pos (by omega)]; exact e, r⟩
theorem belows_rep {p : Pl} {k : Nat} (hk : 1000 ≤ k) : ∀ (l : List AV) (m : List Value), belows k l = true → Reps p l m → Reps (p.cut k) l m
  | [], _, _, r => r
  | a :: as, _, h, ⟨v, vs, e, r, rs⟩ => by
    simp only [belows, Bool.and_eq_true] at h
    exact ⟨v, vs, e, below_rep hk a v h.1 r, belows_rep hk as vs h.2 rs⟩
end

variable [Syms] {P : Program}

theorem sub_ok {call : Caller} (hC : CallOk P call) {x : SubE} (hx : subChk call x = true) : Callable P x.f ∧ ∀ p h w (args' : Array Value), x.nx ≤ h.nx → allHere h x.blks = true → Rel p h w → Reps p x.args args'.toList →
    ∀ n, CallsIn Fence.wide n P x.f args' w (EndOk p h w x.v h) := by
  simp only [subChk, Bool.and_eq_true] at hx
  obtain ⟨⟨⟨⟨⟨hk, hpl⟩, hba⟩, hbb⟩, h00⟩, hend⟩ := hx
  rw [Nat.ble_eq] at hk
  unfold subEnd at hend
  split at hend
  · rename_i v h1 he
    simp only [Bool.and_eq_true] at hend
    obtain ⟨hv, hall⟩ := hend
    have := beqV_ok _ _ hv
    subst this
    obtain ⟨hcal, hcs⟩ := hC.fn _ _ _ _ _ he
    refine ⟨hcal, fun p h w args' hnx hhere r ra n => ?_⟩
    have hbo := blksOk_ok hbb
    have hin := allHere_ok hhere
    have hout := allHere_ok hall
    have hn0 : (heapOf x.nx x.blks).nx = x.nx := heapOf_nx _
    have r0 : Rel (p.cut x.nx) (heapOf x.nx x.blks) w := by
      refine ⟨fun n b hb => ?_, fun n m c s s' hn hm e1 e2 => ?_, fun n hn => ?_, by rw [hn0]; exact hk, ?_⟩
      · obtain ⟨cs, e, hmem, rfl⟩ := heapOf_get hb
        obtain ⟨hlt, hbel⟩ := hbo n cs e hmem
        obtain ⟨c, sz, o, e1, e2, c', lo, hi, q1, q2, q3, q4, q5⟩ := r.blk n _ (hin n cs e hmem)
        exact ⟨c, sz, o, by unfold Pl.cut; rw [if_pos hlt]; exact e1, e2, c', lo, hi, q1, q2, q3, q4, belows_rep hk _ _ hbel q5⟩
      · obtain ⟨b1, hb1⟩ := Option.ne_none_iff_exists'.1 hn
        obtain ⟨b2, hb2⟩ := Option.ne_none_iff_exists'.1 hm
        obtain ⟨cs1, t1, m1, _⟩ := heapOf_get hb1
        obtain ⟨cs2, t2, m2, _⟩ := heapOf_get hb2
        exact r.inj n m c s s' (by rw [hin _ _ _ m1]; simp) (by rw [hin _ _ _ m2]; simp) (Pl.cut_le p _ _ _ e1) (Pl.cut_le p _ _ _ e2)
      · rw [hn0] at hn
        unfold Pl.cut
        rw [if_neg (by omega)]
      · refine ⟨fun n c s hn e => r.glob.1 n c s hn (Pl.cut_le p _ _ _ e), fun n h1 h2 => ?_⟩
        unfold Pl.cut
        rw [if_pos (by omega)]
        exact r.glob.2 n h1 h2
    refine CallsIn.mono (hcs (p.cut x.nx) w args' r0 (belows_rep hk _ _ hba ra) n) fun e w' hE => ?_
    cases e with
    | returned y =>
      obtain ⟨p', k1, k2, k3⟩ := hE
      have hsame : ∀ b, b < w.heap.size → (∀ n s, (heapOf x.nx x.blks).get n ≠ none → p n ≠ some (b, s)) → w'.heap[b]? = w.heap[b]? := fun b hb hno =>
        k3.same b hb fun n s hn e => hno n s hn (Pl.cut_le p _ _ _ e)
      refine ⟨p, plainV_rep k2.glob r.glob _ _ hpl k1, ⟨fun n b hb => ?_, r.inj, r.fresh, r.base, r.glob⟩, ⟨Pl.le_refl p, Nat.le_refl _, fun _ _ => rfl, k3.size, fun b hb hno => ?_, fun n b s h1 h2 => .inl ⟨n, s, h1, h2⟩, k3.os, k3.output, k3.tape⟩⟩
      · obtain ⟨c, sz, o, e1, e2, e3⟩ := r.blk n b hb
        by_cases hd : (heapOf x.nx x.blks).get n = none
        · refine ⟨c, sz, o, e1, ?_, e3⟩
          rw [hsame c (r.blockLt (by rw [hb]; simp) e1) fun m s hm em => ?_]
          · exact e2
          · obtain ⟨b2, hb2⟩ := Option.ne_none_iff_exists'.1 hm
            obtain ⟨cs2, t2, m2, _⟩ := heapOf_get hb2
            have : n = m := r.inj n m c sz s (by rw [hb]; simp) (by rw [hin _ _ _ m2]; simp) e1 em
            subst this
            exact hm hd
        · obtain ⟨b2, hb2⟩ := Option.ne_none_iff_exists'.1 hd
          obtain ⟨cs, t, hmem, _⟩ := heapOf_get hb2
          obtain ⟨hlt, hbel⟩ := hbo n cs t hmem
          have hbe : b = .cells cs t := by
            have := hin n cs t hmem
            rw [hb] at this
            exact Option.some.inj this
          subst hbe
          obtain ⟨c2, sz2, o2, f1, f2, f3⟩ := k2.blk n _ (hout n cs t hmem)
          have hp' : p' n = p n := by
            rw [k3.old n (by rw [hn0]; exact hlt)]
            unfold Pl.cut
            rw [if_pos hlt]
          rw [hp', e1] at f1
          obtain ⟨rfl, rfl⟩ := Prod.mk.inj (Option.some.inj f1)
          obtain ⟨c', lo, hi, q1, q2, q3, q4, q5⟩ := f3
          refine ⟨c, sz, o2, e1, f2, c', lo, hi, q1, q2, q3, q4, ?_⟩
          have hle : (p'.cut x.nx).le p := by
            intro m y hm
            unfold Pl.cut at hm
            split at hm
            · rename_i hm'
              rw [k3.old m (by rw [hn0]; exact hm')] at hm
              exact Pl.cut_le p _ _ _ hm
            · cases hm
          exact Reps.mono hle _ _ (belows_rep hk _ _ hbel q5)
      · exact hsame b hb fun n s hn e => hno n s (by
          obtain ⟨b2, hb2⟩ := Option.ne_none_iff_exists'.1 hn
          obtain ⟨cs2, t2, m2, _⟩ := heapOf_get hb2
          rw [hin _ _ _ m2]; simp) e
    | panicked c => exact hE.elim
    | outgrown => exact hE.elim
  · cases hend

theorem subGet_ok {args : List AV} {h : H} {v : AV} : ∀ {l : List SubE}, subGet args h l = some v → ∃ x ∈ l, x.v = v ∧ x.args = args ∧ x.nx ≤ h.nx ∧ allHere h x.blks = true
  | [], hh => by cases hh
  | x :: l, hh => by
    simp only [subGet] at hh
    cases hb : subHit x args h with
    | true =>
      rw [hb] at hh; cases hh
      simp only [subHit, Bool.and_eq_true, Nat.ble_eq] at hb
      exact ⟨x, by simp, rfl, beqVs_ok _ _ hb.1.1, hb.1.2, hb.2⟩
    | false =>
      rw [hb] at hh
      obtain ⟨y, h1, h2⟩ := subGet_ok hh
      exact ⟨y, List.mem_cons_of_mem _ h1, h2⟩

theorem memoSub_ok {call : Caller} (hC : CallOk P call) {t : T (List SubE)} (ht : T.chk (fun f (l : List SubE) => l.all fun x => Nat.beq x.f f && subChk call x) t 1 0 = true) {M : Memo} (hM : MemoOk P M) : MemoOk P (memoSub t M) := by
  intro f args h v h' hm
  unfold memoSub at hm
  cases hl : t.get f with
  | none => rw [hl] at hm; exact hM f args h v h' hm
  | some l =>
    rw [hl] at hm
    simp only [subMemo] at hm
    split at hm
    · rename_i v1 hv
      cases hm
      obtain ⟨x, hx, rfl, rfl, hn, hh⟩ := subGet_ok hv
      have := T.All_get (T.chk_all ht) f l hl
      have e : 1 * f + 0 = f := Nat.one_mul f
      rw [e] at this
      have := List.all_eq_true.1 this x hx
      simp only [Bool.and_eq_true] at this
      obtain ⟨e1, e2⟩ := this
      have e1 := Nat.eq_of_beq_eq_true e1
      subst e1
      obtain ⟨q1, q2⟩ := sub_ok hC e2
      exact ⟨q1, fun p w args' r ra n => q2 p h w args' hn hh r ra n⟩
    · exact hM f args h v h' hm

/-- One such call more. -/
def memoOne (x : SubE) (M : Memo) : Memo := fun f args h => bif Nat.beq x.f f then (bif subHit x args h then some (x.v, h) else M f args h) else M f args h
def SubOk (P : Program) (x : SubE) : Prop := Callable P x.f ∧ ∀ p h w (args' : Array Value), x.nx ≤ h.nx → allHere h x.blks = true → Rel p h w → Reps p x.args args'.toList →
    ∀ n, CallsIn Fence.wide n P x.f args' w (EndOk p h w x.v h)
theorem memoOne_ok {x : SubE} (hx : SubOk P x) {M : Memo} (hM : MemoOk P M) : MemoOk P (memoOne x M) := by
  intro f args h v h' hm
  unfold memoOne at hm
  cases hb : Nat.beq x.f f with
  | false => rw [hb] at hm; exact hM f args h v h' hm
  | true =>
    rw [hb] at hm
    simp only [cond_true] at hm
    cases hh : subHit x args h with
    | false => rw [hh] at hm; exact hM f args h v h' hm
    | true =>
      rw [hh] at hm
      cases hm
      have e := Nat.eq_of_beq_eq_true hb
      subst e
      simp only [subHit, Bool.and_eq_true, Nat.ble_eq] at hh
      have e2 := beqVs_ok _ _ hh.1.1
      subst e2
      exact ⟨hx.1, fun p w args' r ra n => hx.2 p h w args' hh.1.2 hh.2 r ra n⟩
end
end Go.AE
