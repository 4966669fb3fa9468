/- An evaluator over an abstract heap: regions, control, calls. No condition: definitions alone. -/
import Derived.Test.YtdnhkdipfnediaaGreatDoorAe1
import Derived.Test.YtdnhkdipfnediaaGreatDoorAe6
set_option linter.unusedSectionVars false
namespace Go.AE
noncomputable section

/-! ### Control -/

inductive Ex where
  | norm
  | exit (id : Nat)
  | goto (l : Nat)
  | ret

structure S where
  tm : T AV
  h : H
  df : List Nat

inductive Rq where
  | fn (f : FuncId) (args : List AV)
  | round (l : Nat) (args : List AV)

abbrev Caller := Rq → H → R (AV × H)

def putT (nt : Nat) (tm : T AV) (dst : Option Tmp) (v : AV) : R (T AV) :=
  match dst with
  | none => .ok tm
  | some d => bif Nat.blt d nt then .ok (tm.put d (some v)) else .bad "tmp"

def fin (call : Caller) : R Out → R (AV × H)
  | .ok (.val v h) => .ok (v, h)
  | .ok (.call f args h) => call (.fn f args) h
  | .ok (.round l args h) => call (.round l args) h
  | .bad w => .bad w

def wantedA (ops : List Oper) (tm : T AV) (g : Option (Nat × Bool)) : Bool :=
  match g with
  | none => true
  | some (j, want) => match nthL ops j with
    | some o => (match o.dst with
      | some d => (match tmGet tm d with | .bool b => b == want | _ => false)
      | none => false)
    | none => false

/-- A region in the order of its text. -/
def evSeq (E : Env) (call : Caller) (nt : Nat) (all : List Oper) : List Oper → T AV → H → R (T AV × H)
  | [], tm, h => .ok (tm, h)
  | o :: ops, tm, h =>
    bif wantedA all tm o.guard then
      match fin call (evOp E tm o.op h) with
      | .ok (v, h') => (match putT nt tm o.dst v with | .ok tm' => evSeq E call nt all ops tm' h' | .bad w => .bad w)
      | .bad w => .bad (o.pos ++ ": " ++ w)
    else match putT nt tm o.dst .undef with | .ok tm' => evSeq E call nt all ops tm' h | .bad w => .bad w

/-- What an operation is in a region that draws: it changes memory (or runs code), makes new memory, or at most reads. -/
inductive Cls where
  | eff | alloc | read
  deriving DecidableEq

def clsCall : Callee → Cls
  | .builtin .len | .builtin .cap | .builtin .max | .builtin .min => .read
  | _ => .eff

def clsOf (E : Env) : Op → Cls
  | .store .. | .insert .. | .mapUpdate .. | .mapEntry .. | .entryStore .. | .next .. => .eff
  | .call c => clsCall c.callee
  | .range .. => .eff
  | .alloc _ | .box .. | .buildSlice .. | .makeMap .. | .makeSlice .. => .alloc
  | .convert _ d _ => (match E.ty.get d with | some ti => (match ti.und with | .slice _ => .eff | _ => .read) | none => .eff)
  | _ => .read

def bitA (m i : Nat) : Bool := Nat.beq (Nat.land (Nat.shiftRight m i) 1) 1
def orA (m n : Nat) : Nat := Nat.lor m n

def bindsA (e : Edge) : Bool :=
  match e.ground with
  | .textOnly _ | .gcOnly _ => false
  | _ => true

/-- Which operations stand before one, its edges given, and what stands before the earlier ones. -/
def maskOf (acc : List Nat) : List Edge → Nat
  | [] => 0
  | e :: l => bif bindsA e then orA (orA (Nat.pow 2 e.on) ((nthL acc e.on).getD 0)) (maskOf acc l) else maskOf acc l

/-- Which operations stand before each one on all schedules. -/
def masks : List Oper → List Nat → List Nat
  | [], acc => acc
  | o :: l, acc => masks l (acc ++ [maskOf acc o.after.toList])

def opds : Op → List Operand
  | .alloc _ | .ready _ | .waits _ => []
  | .move x | .assign x | .box _ x | .load _ x | .nilCheck x | .unOp _ _ x | .convert _ _ x | .sliceToArrayPointer _ x | .makeInterface _ x
  | .makeChan _ x | .fieldAddr _ x _ | .field _ x _ | .range _ x | .next x _ | .entry x | .typeAssert x _ _ _ | .extract x _ | .panic x | .recv _ x _ => [x]
  | .pick c a b => [c, a, b]
  | .build _ ps | .buildSlice _ _ ps => ps.toList.map (·.2)
  | .store _ a v | .binOp _ _ a v _ | .makeSlice _ a v | .indexAddr _ a v | .index _ a v | .lookup _ a v _ | .mapEntry _ a v | .send a v => [a, v]
  | .makeFunc _ first captured => first.toList ++ captured.toList
  | .makeMap _ r => r.toList
  | .slice _ x l h m => x :: (l.toList ++ (h.toList ++ m.toList))
  | .mapUpdate _ m k v | .entryStore _ m k v | .insert _ m k v => [m, k, v]
  | .call c | .go c | .defer c => (match c.callee with | .value f => [f] | .invoke r _ => [r] | .builtin _ => []) ++ c.args.toList
  | .select _ _ => []

def tmpsOf : List Operand → List Nat
  | [] => []
  | .tmp t :: l => t :: tmpsOf l
  | _ :: l => tmpsOf l

def dstAt (all : List Oper) (j : Nat) : List Nat :=
  match nthL all j with
  | some o => (match o.dst with | some d => [d] | none => [])
  | none => []

/-- The temporaries that an operation looks at. -/
def looksL (all : List Oper) (o : Oper) : List Nat :=
  match o.guard with
  | some (j, _) => dstAt all j ++ tmpsOf (opds o.op)
  | none => tmpsOf (opds o.op)

def notInD : Option Nat → List Nat → Bool
  | none, _ => true
  | some d, l => !memA d l

def differD : Option Nat → Option Nat → Bool
  | some a, some b => !Nat.beq a b
  | _, _ => true

def pairsOk (mi : Nat) (li : List Nat) (di : Option Nat) : Nat → List (List Nat × Option Nat) → Bool
  | _, [] => true
  | j, (lj, dj) :: rest => differD di dj && (bitA mi j || (notInD dj li && notInD di lj)) && pairsOk mi li di (j + 1) rest

def edgesOk (i : Nat) : List Edge → Bool
  | [] => true
  | e :: l => (!bindsA e || Nat.blt e.on i) && edgesOk i l

/-- Operations without an order look at nothing that the other one yields; the edges lead to earlier ones; no two yield into one temporary. -/
def regOk (all : List Oper) : Nat → List Oper → List Nat → List (List Nat × Option Nat) → Bool
  | _, [], _, _ => true
  | i, o :: ops, m :: ms, acc => edgesOk i o.after.toList && pairsOk m (looksL all o) o.dst 0 acc && regOk all (i + 1) ops ms (acc ++ [(looksL all o, o.dst)])
  | _, _ :: _, [], _ => false

/-- All of an operation's earlier ones that change memory stand before it, if it changes memory itself. -/
def effsChained (E : Env) : Nat → List Oper → List Nat → Nat → Bool
  | i, o :: ops, m :: ms, before => (match clsOf E o.op with
    | .eff => Nat.beq (Nat.land m before) before && effsChained E (i + 1) ops ms (orA before (Nat.pow 2 i))
    | _ => effsChained E (i + 1) ops ms before)
  | _, _, _, _ => true

/-- A look that must come to the same at each of several stages. -/
structure Look where
  op : Op
  tm : T AV
  v : AV
  lo : Nat
  hi : Nat

structure Dr where
  tm : T AV
  h : H                                  -- the stage's memory
  stages : List H                        -- all stages' memories, the last first
  k : Nat                                -- the stage
  pend : List (Nat × Blk)                -- what was made and not yet handed to a stage: the operation, the block
  looks : List Look

def withPend (nx0 m : Nat) : List (Nat × Blk) → H → H
  | [], h => h
  | (i, b) :: l, h => withPend nx0 m l (bif bitA m i then h.put (nx0 + i) b else h)

def pendLeft (m : Nat) : List (Nat × Blk) → List (Nat × Blk)
  | [] => []
  | (i, b) :: l => bif bitA m i then pendLeft m l else (i, b) :: pendLeft m l

/-- The least stage at which an operation may stand, and the last. -/
def loOf (E : Env) (m : Nat) : Nat → List Oper → Nat → Nat → Nat
  | _, [], _, lo => lo
  | i, o :: ops, k, lo => match clsOf E o.op with
    | .eff => loOf E m (i + 1) ops (k + 1) (bif bitA m i then k + 1 else lo)
    | _ => loOf E m (i + 1) ops k lo
def hiOf (E : Env) (i : Nat) : List Oper → List Nat → Nat → Nat
  | o :: ops, m :: ms, k => match clsOf E o.op with
    | .eff => bif bitA m i then k else hiOf E i ops ms (k + 1)
    | _ => hiOf E i ops ms k
  | _, _, k => k

def beqFn (a b : Fn) : Bool := decide (a = b)
def beqCap : Cap → Cap → Bool
  | .exact a, .exact b => Nat.beq a b
  | .more a, .more b => Nat.beq a b
  | _, _ => false

mutual
def beqV : AV → AV → Bool
  | .bool a, .bool b => a == b
  | .int k a, .int k' b => kindEq k k' && beqInt a b
  | .str a, .str b => beqL a b
  | .nilPtr, .nilPtr => true
  | .ptr a b, .ptr c d => Nat.beq a c && Nat.beq b d
  | .nilSlice, .nilSlice => true
  | .emptySlice, .emptySlice => true
  | .slice a b c k, .slice a' b' c' k' => Nat.beq a a' && Nat.beq b b' && Nat.beq c c' && beqCap k k'
  | .nilMap, .nilMap => true
  | .map a, .map b => Nat.beq a b
  | .func f a b, .func g c d => beqFn f g && beqVs a c && beqVs b d
  | .nilFunc, .nilFunc => true
  | .iface t v, .iface u w => Nat.beq t u && beqV v w
  | .nilIface, .nilIface => true
  | .agg a, .agg b => beqVs a b
  | .tup a, .tup b => beqVs a b
  | .sym k i, .sym k' j => kindEq k k' && Nat.beq i j
  | _, _ => false
def beqVs : List AV → List AV → Bool
  | [], [] => true
  | a :: l, b :: m => beqV a b && beqVs l m
  | _, _ => false
end

/-- A look at the stages lo, lo + 1, .. (n of them). -/
def checkStages (E : Env) (k : Nat) (stages : List H) (lk : Look) (lo : Nat) : Nat → Bool
  | 0 => true
  | n + 1 => (match nthL stages (k - (lo + n)) with
    | some h => (match evOp E lk.tm lk.op h with
      | .ok (.val v _) => beqV v lk.v
      | _ => false)
    | none => false) && checkStages E k stages lk lo n

def allLooks (E : Env) (k : Nat) (stages : List H) : List Look → Bool
  | [] => true
  | lk :: l => checkStages E k stages lk lk.lo (lk.hi + 1 - lk.lo) && allLooks E k stages l

/-- One operation of a region whose order is open. -/
def drStep (E : Env) (call : Caller) (nt nx0 : Nat) (all : List Oper) (ms : List Nat) (i : Nat) (o : Oper) (m : Nat) (d : Dr) : R Dr :=
  bif wantedA all d.tm o.guard then
    match clsOf E o.op with
    | .read =>
      (match evOp E d.tm o.op (withPend nx0 m d.pend d.h) with
      | .ok (.val v _) => (match putT nt d.tm o.dst v with
        | .ok tm' =>
          let lo := loOf E m 0 all 0 0
          let hi := hiOf E i all ms 0
          .ok { d with tm := tm', looks := bif Nat.beq lo hi then d.looks else ⟨o.op, d.tm, v, lo, hi⟩ :: d.looks }
        | .bad w => .bad w)
      | .ok _ => .bad "draw: a read that calls"
      | .bad w => .bad (o.pos ++ ": " ++ w))
    | .alloc =>
      (match evOp E d.tm o.op { d.h with nx := nx0 + i } with
      | .ok (.val v h') => (match h'.get (nx0 + i), putT nt d.tm o.dst v with
        | some b, .ok tm' => .ok { d with tm := tm', pend := (i, b) :: d.pend }
        | _, _ => .bad "draw: alloc")
      | .ok _ => .bad "draw: alloc"
      | .bad w => .bad (o.pos ++ ": " ++ w))
    | .eff =>
      (match fin call (evOp E d.tm o.op (withPend nx0 m d.pend d.h)) with
      | .ok (v, h') => (match putT nt d.tm o.dst v with
        | .ok tm' => .ok { d with tm := tm', h := h', stages := h' :: d.stages, k := d.k + 1, pend := pendLeft m d.pend }
        | .bad w => .bad w)
      | .bad w => .bad (o.pos ++ ": " ++ w))
  else match putT nt d.tm o.dst .undef with
    | .ok tm' => (match clsOf E o.op with
      | .eff => .ok { d with tm := tm', stages := d.h :: d.stages, k := d.k + 1 }
      | _ => .ok { d with tm := tm' })
    | .bad w => .bad w

/-- A region whose order is open. -/
def evDraw (E : Env) (call : Caller) (nt nx0 : Nat) (all : List Oper) (ms : List Nat) : Nat → List Oper → List Nat → Dr → R Dr
  | _, [], _, d => .ok d
  | i, o :: ops, m :: mrest, d => (match drStep E call nt nx0 all ms i o m d with
    | .ok d' => evDraw E call nt nx0 all ms (i + 1) ops mrest d'
    | .bad w => .bad w)
  | _, _ :: _, [], _ => .bad "draw: masks"

def evRegion (E : Env) (call : Caller) (nt : Nat) (ops : Array Oper) (draw : Bool) (tm : T AV) (h : H) : R (T AV × H) :=
  bif draw then
    let ms := masks ops.toList []
    bif effsChained E 0 ops.toList ms 0 && regOk ops.toList 0 ops.toList ms [] then
      let h0 : H := { h with nx := h.nx + lenA ops.toList }
      match evDraw E call nt h.nx ops.toList ms 0 ops.toList ms ⟨tm, h0, [h0], 0, [], []⟩ with
      | .ok d => bif allLooks E d.k d.stages d.looks then .ok (d.tm, withPend h.nx (Nat.pow 2 (lenA ops.toList) - 1) d.pend d.h) else .bad "draw: a look hangs on the order"
      | .bad w => .bad w
    else .bad "draw: no order"
  else evSeq E call nt ops.toList ops.toList tm h

def scopeA (ev : Code → S → R (Ex × S)) (body : Code) : Nat → Code → S → R (Ex × S)
  | 0, _, _ => .bad "fuel"
  | n + 1, c, s => match ev c s with
    | .ok (.goto l, s') => (match findLabel body l with
      | some rest => scopeA ev body n rest s'
      | none => .ok (.goto l, s'))
    | r => r

/-- The block of the rounds' deferred calls. -/
def enterA (around : Option Nat) (s : S) : R (Nat × H × List Nat) :=
  match around with
  | some l => (match s.h.get l with | some (.loop _ _ _ _ _ _ _ d) => .ok (d, s.h, s.df) | _ => .bad "rangeFunc")
  | none => .ok (s.h.nx, s.h.new .dfr, s.h.nx :: s.df)

def evC (E : Env) (call : Caller) (nt : Nat) (around : Option Nat) : Nat → Code → S → R (Ex × S)
  | 0, _, _ => .bad "fuel"
  | f + 1, c, s =>
    match c with
    | .skip | .label _ => .ok (.norm, s)
    | .region _ ops draw => (match evRegion E call nt ops draw s.tm s.h with
      | .ok (tm, h) => .ok (.norm, { s with tm := tm, h := h })
      | .bad w => .bad w)
    | .seq a b => (match evC E call nt around f a s with
      | .ok (.norm, s') => evC E call nt around f b s'
      | r => r)
    | .cond c a b => (match evX s.tm c with
      | .ok (.bool true) => evC E call nt around f a s
      | .ok (.bool false) => evC E call nt around f b s
      | _ => .bad "cond")
    | .block id a => (match evC E call nt around f a s with
      | .ok (.exit j, s') => .ok (bif Nat.beq j id then .norm else .exit j, s')
      | r => r)
    | .loop a => (match evC E call nt around f a s with
      | .ok (.norm, s') => evC E call nt around f (.loop a) s'
      | r => r)
    | .exit id => .ok (.exit id, s)
    | .goto l => .ok (.goto l, s)
    | .ret => .ok (.ret, s)
    | .scope a => scopeA (fun c s => evC E call nt around f c s) a f a s
    | .rangeFunc g ps assign body =>
      (match evX s.tm g with
      | .bad w => .bad w
      | .ok gv =>
        match enterA around s with
        | .bad w => .bad w
        | .ok (d, h1, df) =>
          let l := h1.nx
          let h2 := h1.new (.loop .ready none nt s.tm ps.toList assign body d)
          match callValue E gv [.func (.yield l) [] []] h2 with
          | .bad w => .bad w
          | .ok (.val _ _) => .bad "rangeFunc: over what"
          | .ok (.round _ _ _) => .bad "rangeFunc: over a yield"
          | .ok (.call gf gargs _) => match call (.fn gf gargs) h2 with
          | .bad w => .bad w
          | .ok (_, h3) => (match h3.get l with
            | some (.loop .busy _ _ _ _ _ _ _) => .bad "rangeFunc: busy"
            | some (.loop _ pend nt' tm' ps' as' bo' d') =>
              let s' : S := { tm := s.tm, h := h3.put l (.loop .exhausted pend nt' tm' ps' as' bo' d'), df := df }
              (match pend with
              | none => .ok (.norm, s')
              | some .ret => .ok (.ret, s')
              | some (.exit id) => .ok (.exit id, s')
              | some (.goto t) => .ok (.goto t, s')
              | _ => .bad "rangeFunc: pending")
            | _ => .bad "rangeFunc: no loop"))
    | .refuse w => .bad w

def argsT : List AV → Nat → T AV → T AV
  | [], _, tm => tm
  | a :: l, i, tm => argsT l (i + 1) (tm.put i (some a))

def putParams (nt : Nat) : List Tmp → List AV → T AV → R (T AV)
  | [], [], tm => .ok tm
  | p :: ps, a :: as, tm => (match putT nt tm (some p) a with | .ok tm' => putParams nt ps as tm' | .bad w => .bad w)
  | _, _, _ => .bad "yield: arguments"

def evResult (E : Env) (tm : T AV) (h : H) : ResultVar → R AV
  | .tmp t => .ok (tmGet tm t)
  | .cell a t => match tmGet tm a with
    | .ptr n o => loadVar E t h n o
    | _ => .bad "result"

def evResults (E : Env) (tm : T AV) (h : H) : List ResultVar → R (List AV)
  | [] => .ok []
  | r :: l => match evResult E tm h r with
    | .ok v => (match evResults E tm h l with | .ok m => .ok (v :: m) | .bad w => .bad w)
    | .bad w => .bad w

def tupA : List AV → AV
  | [v] => v
  | l => .tup l

/-- the blocks of the rounds' deferred calls, taken: none of them holds a call -/
def takeDf : List Nat → H → R H
  | [], h => .ok h
  | n :: l, h => match h.get n with
    | some .dfr => takeDf l (h.kill n)
    | _ => .bad "deferred"

abbrev Memo := FuncId → List AV → H → Option (AV × H)

def jumpOf : Ex → Option Code
  | .norm => none
  | .ret => some .ret
  | .exit id => some (.exit id)
  | .goto l => some (.goto l)

def evCall (E : Env) (M : Memo) (big : Nat) : Nat → Caller
  | 0, _, _ => .bad "depth"
  | d + 1, .fn f args, h =>
    match M f args h with
    | some (v, h') => .ok (v, h')
    | none => match E.fn.get f with
      | none => .bad "no such function"
      | some fn => match fn.body with
        | none => .bad ("no body: " ++ fn.name)
        | some c => bif Nat.ble (lenA args) fn.ntmps then
          (match evC E (evCall E M big d) fn.ntmps none big c { tm := argsT args 0 .leaf, h := h, df := [] } with
          | .ok (.norm, s) | .ok (.ret, s) => (match takeDf s.df s.h with
            | .ok h1 => (match evResults E s.tm h1 fn.results.toList with
              | .ok vs => .ok (tupA vs, h1)
              | .bad w => .bad (fn.name ++ " / " ++ w))
            | .bad w => .bad (fn.name ++ " / " ++ w))
          | .ok _ => .bad (fn.name ++ " / a jump out of a function")
          | .bad w => .bad (fn.name ++ " / " ++ w)) else .bad "arguments"
  | d + 1, .round l args, h =>
    match h.get l with
    | some (.loop _ _ nt tm ps as bo _) =>
      (match putParams nt ps args tm with
      | .bad w => .bad w
      | .ok tm1 => match evC E (evCall E M big d) nt (some l) big as { tm := tm1, h := h, df := [] } with
        | .ok (.norm, s1) => (match s1.h.get l, s1.df with
          | some (.loop .ready pe' nt' tm' ps' as' bo' d'), [] =>
            (match evC E (evCall E M big d) nt (some l) big bo { s1 with h := s1.h.put l (.loop .busy pe' nt' tm' ps' as' bo' d') } with
            | .ok (e, s2) => (match s2.h.get l, s2.df with
              | some (.loop _ _ nt' tm' ps' as' bo' d'), [] =>
                let j := jumpOf e
                .ok (.bool j.isNone, s2.h.put l (.loop (match j with | none => .ready | some _ => .done) j nt' tm' ps' as' bo' d'))
              | _, _ => .bad "round: end")
            | .bad w => .bad ("round / " ++ w))
          | _, _ => .bad "round: not ready")
        | .ok _ => .bad "round: assign"
        | .bad w => .bad ("round / " ++ w))
    | _ => .bad "round: no loop"
end
end Go.AE
set_option linter.unusedSectionVars false
namespace Go.AE
noncomputable section
variable [Syms]
variable {P : Program} {E : Env}

/-- 'Rel', of any finite or infinite store. -/
structure RelF (p : Pl) (g : Nat → Option Blk) (nx : Nat) (w : World) : Prop where
  blk : ∀ n b, g n = some b → ∃ c sz o, p n = some (c, sz) ∧ w.heap[c]? = some o ∧ BRep p sz b o
  inj : ∀ n m c s s', g n ≠ none → g m ≠ none → p n = some (c, s) → p m = some (c, s') → n = m
  fresh : ∀ n, nx ≤ n → p n = none
  base : 1000 ≤ nx
  glob : GlobOk p

theorem Rel.toF {p : Pl} {h : H} {w : World} (r : Rel p h w) : RelF p h.get h.nx w := ⟨r.blk, r.inj, r.fresh, r.base, r.glob⟩

theorem RelF.toRel {p : Pl} {g : Nat → Option Blk} {nx : Nat} {w : World} (r : RelF p g nx w) {h : H} (hs : ∀ n b, h.get n = some b → g n = some b) (hn : h.nx = nx) : Rel p h w where
  blk := fun n b e => r.blk n b (hs n b e)
  inj := fun n m c s s' h1 h2 e1 e2 => by
    obtain ⟨b1, hb1⟩ := Option.ne_none_iff_exists'.1 h1
    obtain ⟨b2, hb2⟩ := Option.ne_none_iff_exists'.1 h2
    exact r.inj n m c s s' (by rw [hs n b1 hb1]; simp) (by rw [hs m b2 hb2]; simp) e1 e2
  fresh := fun n h => r.fresh n (hn ▸ h)
  base := hn ▸ r.base
  glob := r.glob

structure FrF (p : Pl) (g : Nat → Option Blk) (nx : Nat) (w : World) (p' : Pl) (g' : Nat → Option Blk) (nx' : Nat) (w' : World) : Prop where
  le : p.le p'
  up : nx ≤ nx'
  old : ∀ n, n < nx → p' n = p n
  size : w.heap.size ≤ w'.heap.size
  same : ∀ b, b < w.heap.size → (∀ n s, g n ≠ none → p n ≠ some (b, s)) → w'.heap[b]? = w.heap[b]?
  own : ∀ n b s, g' n ≠ none → p' n = some (b, s) → (∃ m s', g m ≠ none ∧ p m = some (b, s')) ∨ w.heap.size ≤ b
  os : w'.os = w.os
  output : w'.output = w.output
  tape : w'.tape = w.tape

theorem Fr.toF {p p' : Pl} {h h' : H} {w w' : World} (f : Fr p h w p' h' w') : FrF p h.get h.nx w p' h'.get h'.nx w' := ⟨f.le, f.nx, f.old, f.size, f.same, f.own, f.os, f.output, f.tape⟩

theorem FrF.toFr {p p' : Pl} {h h' : H} {w w' : World} {g g' : Nat → Option Blk} {nx nx' : Nat} (f : FrF p g nx w p' g' nx' w') (h1 : ∀ n, g n ≠ none → h.get n ≠ none) (hn : h.nx = nx)
    (h2 : ∀ n, h'.get n ≠ none → g' n ≠ none) (hn' : h'.nx = nx') : Fr p h w p' h' w' where
  le := f.le
  nx := by rw [hn, hn']; exact f.up
  old := fun n hh => f.old n (hn ▸ hh)
  size := f.size
  same := fun b hb hs => f.same b hb fun n s hg => hs n s (h1 n hg)
  own := fun n b s hh e => by
    rcases f.own n b s (h2 n hh) e with ⟨m, s', hm, em⟩ | hlt
    · exact .inl ⟨m, s', h1 m hm, em⟩
    · exact .inr hlt
  os := f.os
  output := f.output
  tape := f.tape

theorem FrF.refl (p : Pl) (g : Nat → Option Blk) (nx : Nat) (w : World) : FrF p g nx w p g nx w :=
  ⟨Pl.le_refl p, Nat.le_refl _, fun _ _ => rfl, Nat.le_refl _, fun _ _ _ => rfl, fun n _ s h1 h2 => .inl ⟨n, s, h1, h2⟩, rfl, rfl, rfl⟩

theorem FrF.trans {p p1 p2 : Pl} {g g1 g2 : Nat → Option Blk} {nx nx1 nx2 : Nat} {w w1 w2 : World} (a : FrF p g nx w p1 g1 nx1 w1) (b : FrF p1 g1 nx1 w1 p2 g2 nx2 w2) : FrF p g nx w p2 g2 nx2 w2 where
  le := Pl.le_trans a.le b.le
  up := Nat.le_trans a.up b.up
  old := fun n hn => (b.old n (Nat.lt_of_lt_of_le hn a.up)).trans (a.old n hn)
  size := Nat.le_trans a.size b.size
  same := fun c hc hn => by
    rw [b.same c (Nat.lt_of_lt_of_le hc a.size) ?_, a.same c hc hn]
    intro n s h1n e
    rcases a.own n c s h1n e with ⟨m, s', hm, em⟩ | hlt
    · exact hn m s' hm em
    · omega
  own := fun n c s h2n e => by
    rcases b.own n c s h2n e with ⟨m, s', hm, em⟩ | hlt
    · exact a.own m c s' hm em
    · exact .inr (Nat.le_trans a.size hlt)
  os := b.os.trans a.os
  output := b.output.trans a.output
  tape := b.tape.trans a.tape

/-- What an operation that knows a part of the store does to the whole. -/
def mixed (g : Nat → Option Blk) (h h' : H) : Nat → Option Blk := fun n => match h.get n, g n with
  | none, some b => some b
  | _, _ => h'.get n

theorem RelF.step {p p' : Pl} {g : Nat → Option Blk} {h h' : H} {w w' : World} (r : RelF p g h.nx w) (hs : ∀ n b, h.get n = some b → g n = some b) (r' : Rel p' h' w') (f : Fr p h w p' h' w') :
    RelF p' (mixed g h h') h'.nx w' ∧ FrF p g h.nx w p' (mixed g h h') h'.nx w' ∧ ∀ n, h.get n = none → g n ≠ none → h'.get n = none := by
  have hsn : ∀ n, h.get n ≠ none → g n ≠ none := fun n hn => by
    obtain ⟨b, hb⟩ := Option.ne_none_iff_exists'.1 hn
    rw [hs n b hb]; simp
  have hlt : ∀ n, g n ≠ none → n < h.nx := fun n hn => by
    obtain ⟨b, hb⟩ := Option.ne_none_iff_exists'.1 hn
    obtain ⟨c, sz, o, e1, _⟩ := r.blk n b hb
    rcases Nat.lt_or_ge n h.nx with hl | hg
    · exact hl
    · rw [r.fresh n hg] at e1; cases e1
  have hdis : ∀ n, h.get n = none → g n ≠ none → h'.get n = none := by
    intro n hn hg
    cases hh : h'.get n with
    | none => rfl
    | some b =>
      exfalso
      obtain ⟨c, sz, o, e1, e2, _⟩ := r'.blk n b hh
      have e1' : p n = some (c, sz) := by rw [← f.old n (hlt n hg)]; exact e1
      obtain ⟨b0, hb0⟩ := Option.ne_none_iff_exists'.1 hg
      obtain ⟨c0, sz0, o0, f1, f2, _⟩ := r.blk n b0 hb0
      rw [e1'] at f1
      obtain ⟨rfl, rfl⟩ := Prod.mk.inj (Option.some.inj f1)
      rcases f.own n c sz (by rw [hh]; simp) e1 with ⟨m, s', hm, em⟩ | hlt'
      · have := r.inj m n c s' sz (hsn m hm) hg em e1'
        subst this
        exact hm hn
      · have : c < w.heap.size := by
          rcases Nat.lt_or_ge c w.heap.size with hl | hg'
          · exact hl
          · rw [Array.getElem?_eq_none hg'] at f2; cases f2
        omega
  have hmix : ∀ n b, mixed g h h' n = some b → h'.get n = some b ∨ (g n = some b ∧ h.get n = none) := by
    intro n b hm
    unfold mixed at hm
    split at hm
    · cases hm; right; constructor <;> assumption
    · left; exact hm
  have hcase : ∀ n, mixed g h h' n ≠ none → h'.get n ≠ none ∨ (g n ≠ none ∧ h.get n = none) := by
    intro n hn
    obtain ⟨b, hb⟩ := Option.ne_none_iff_exists'.1 hn
    rcases hmix n b hb with h1 | ⟨h1, h2⟩
    · left; rw [h1]; simp
    · right; rw [h1]; exact ⟨by simp, h2⟩
  have hext : ∀ n, g n ≠ none → h.get n = none → ∀ c s, p n = some (c, s) → c < w.heap.size ∧ w'.heap[c]? = w.heap[c]? ∧ ∀ m s', h'.get m ≠ none → p' m ≠ some (c, s') := by
    intro n hg hn c s e
    obtain ⟨b0, hb0⟩ := Option.ne_none_iff_exists'.1 hg
    obtain ⟨c0, sz0, o0, f1, f2, _⟩ := r.blk n b0 hb0
    rw [e] at f1
    obtain ⟨rfl, rfl⟩ := Prod.mk.inj (Option.some.inj f1)
    have hc : c < w.heap.size := by
      rcases Nat.lt_or_ge c w.heap.size with hl | hg'
      · exact hl
      · rw [Array.getElem?_eq_none hg'] at f2; cases f2
    have hno : ∀ m s', h.get m ≠ none → p m ≠ some (c, s') := fun m s' hm em => by
      have := r.inj m n c s' s (hsn m hm) hg em e
      subst this
      exact hm hn
    refine ⟨hc, f.same c hc (fun m s' hm em => hno m s' hm em), ?_⟩
    intro m s' hm em
    rcases f.own m c s' hm em with ⟨m', s'', hm', em'⟩ | hge
    · exact hno m' s'' hm' em'
    · omega
  refine ⟨⟨?_, ?_, r'.fresh, r'.base, r'.glob⟩, ⟨f.le, f.nx, f.old, f.size, ?_, ?_, f.os, f.output, f.tape⟩, hdis⟩
  · intro n b hm
    rcases hmix n b hm with h1 | ⟨h1, h2⟩
    · exact r'.blk n b h1
    · obtain ⟨c, sz, o, e1, e2, e3⟩ := r.blk n b h1
      obtain ⟨_, k2, _⟩ := hext n (by rw [h1]; simp) h2 c sz e1
      exact ⟨c, sz, o, f.le _ _ e1, by rw [k2]; exact e2, BRep.mono f.le e3⟩
  · intro n m c s s' hn hm en em
    rcases hcase n hn with h1 | ⟨h1, h1'⟩
    · rcases hcase m hm with h2 | ⟨h2, h2'⟩
      · exact r'.inj n m c s s' h1 h2 en em
      · have em' : p m = some (c, s') := by rw [← f.old m (hlt m h2)]; exact em
        exact absurd en ((hext m h2 h2' c s' em').2.2 n s h1)
    · have en' : p n = some (c, s) := by rw [← f.old n (hlt n h1)]; exact en
      rcases hcase m hm with h2 | ⟨h2, h2'⟩
      · exact absurd em ((hext n h1 h1' c s en').2.2 m s' h2)
      · have em' : p m = some (c, s') := by rw [← f.old m (hlt m h2)]; exact em
        exact r.inj n m c s s' h1 h2 en' em'
  · intro b hb hno
    exact f.same b hb fun n s hn => hno n s (hsn n hn)
  · intro n b s hn e
    rcases hcase n hn with h1 | ⟨h1, h1'⟩
    · rcases f.own n b s h1 e with ⟨m, s', hm, em⟩ | hge
      · exact .inl ⟨m, s', hsn m hm, em⟩
      · exact .inr hge
    · exact .inl ⟨n, s, h1, by rw [← f.old n (hlt n h1)]; exact e⟩

theorem FrF.weaken {p p' : Pl} {g g' : Nat → Option Blk} {nx nx' nx1 : Nat} {w w' : World} (f : FrF p g nx w p' g' nx' w') (h : nx1 ≤ nx) : FrF p g nx1 w p' g' nx1 w' :=
  ⟨f.le, Nat.le_refl _, fun n hn => f.old n (by omega), f.size, f.same, f.own, f.os, f.output, f.tape⟩

/-- A new block under a name that was kept for it. -/
theorem RelF.newAt {p : Pl} {g : Nat → Option Blk} {nx n nx1 : Nat} {w : World} (r : RelF p g nx w) (hn : p n = none) (h1 : 1000 ≤ n) (h2 : n < nx) (h3 : nx1 ≤ n) {b : Blk} {o : Obj} {sz : Nat}
    (hb : ∀ q : Pl, p.le q → BRep q sz b o) :
    RelF (p.ext n w.heap.size sz) (fun m => if m = n then some b else g m) nx (w.alloc o) ∧ FrF p g nx1 w (p.ext n w.heap.size sz) (fun m => if m = n then some b else g m) nx1 (w.alloc o) := by
  have hle : p.le (p.ext n w.heap.size sz) := Pl.le_ext hn
  have hne : ∀ m, g m ≠ none → m ≠ n := fun m hm e => by
    subst e
    obtain ⟨b', hb'⟩ := Option.ne_none_iff_exists'.1 hm
    obtain ⟨c, s, o', e1, _⟩ := r.blk m b' hb'
    rw [hn] at e1; cases e1
  have hblt : ∀ m c s, g m ≠ none → p m = some (c, s) → c < w.heap.size := fun m c s hm e => by
    obtain ⟨b', hb'⟩ := Option.ne_none_iff_exists'.1 hm
    obtain ⟨c', s', o', e1, e2, _⟩ := r.blk m b' hb'
    rw [e] at e1
    obtain ⟨rfl, rfl⟩ := Prod.mk.inj (Option.some.inj e1)
    exact (Array.getElem?_eq_some_iff.1 e2).1
  have hget : ∀ m, (if m = n then some b else g m) ≠ none → m = n ∨ (m ≠ n ∧ g m ≠ none) := by
    intro m hm
    by_cases e : m = n
    · exact .inl e
    · rw [if_neg e] at hm; exact .inr ⟨e, hm⟩
  have hother : ∀ m x, m ≠ n → p.ext n w.heap.size sz m = some x → p m = some x := fun m x hm e => by simpa [Pl.ext, hm] using e
  refine ⟨⟨?_, ?_, ?_, r.base, ?_⟩, ⟨hle, Nat.le_refl _, ?_, by rw [alloc_heap]; simp, ?_, ?_, rfl, rfl, rfl⟩⟩
  · intro m b' hm
    by_cases e : m = n
    · subst e
      simp only [if_true] at hm
      cases hm
      exact ⟨w.heap.size, sz, o, Pl.ext_self _ _ _ _, by rw [alloc_heap]; exact Array.getElem?_push_size, hb _ hle⟩
    · simp only [if_neg e] at hm
      obtain ⟨c, s, o', e1, e2, e3⟩ := r.blk m b' hm
      have hlt := (Array.getElem?_eq_some_iff.1 e2).1
      refine ⟨c, s, o', hle _ _ e1, ?_, e3.mono hle⟩
      rw [alloc_heap, Array.getElem?_push, if_neg (by omega)]
      exact e2
  · intro a m c s1 s2 ha hm e1 e2
    rcases hget a ha with rfl | ⟨ha', ha''⟩ <;> rcases hget m hm with rfl | ⟨hm', hm''⟩
    · rfl
    · exfalso
      rw [Pl.ext_self] at e1
      obtain ⟨rfl, rfl⟩ := Prod.mk.inj (Option.some.inj e1)
      exact absurd (hblt m _ _ hm'' (hother m _ hm' e2)) (by omega)
    · exfalso
      rw [Pl.ext_self] at e2
      obtain ⟨rfl, rfl⟩ := Prod.mk.inj (Option.some.inj e2)
      exact absurd (hblt a _ _ ha'' (hother a _ ha' e1)) (by omega)
    · exact r.inj a m c s1 s2 ha'' hm'' (hother a _ ha' e1) (hother m _ hm' e2)
  · intro m hm
    unfold Pl.ext
    rw [if_neg (by omega)]
    exact r.fresh m hm
  · exact r.glob.ext (by omega)
  · intro m hm
    unfold Pl.ext
    rw [if_neg (by omega)]
  · intro c hc _
    rw [alloc_heap, Array.getElem?_push, if_neg (by omega)]
  · intro m c s hm e
    rcases hget m hm with rfl | ⟨hm', hm''⟩
    · rw [Pl.ext_self] at e
      obtain ⟨rfl, rfl⟩ := Prod.mk.inj (Option.some.inj e)
      exact .inr (Nat.le_refl _)
    · exact .inl ⟨m, s, hm'', hother m _ hm' e⟩

theorem RelF.up {p : Pl} {g : Nat → Option Blk} {nx nx' : Nat} {w : World} (r : RelF p g nx w) (h : nx ≤ nx') : RelF p g nx' w :=
  ⟨r.blk, r.inj, fun n hn => r.fresh n (by omega), by have := r.base; omega, r.glob⟩

theorem RelF.drawn {p : Pl} {g : Nat → Option Blk} {nx : Nat} {w : World} (r : RelF p g nx w) (k : Nat) : RelF p g nx { w with drawn := k } :=
  ⟨r.blk, r.inj, r.fresh, r.base, r.glob⟩
theorem Rel.drawn {p : Pl} {h : H} {w : World} (r : Rel p h w) (k : Nat) : Rel p h { w with drawn := k } :=
  ⟨r.blk, r.inj, r.fresh, r.base, r.glob⟩
theorem FrF.drawn (p : Pl) (g : Nat → Option Blk) (nx : Nat) (w : World) (k : Nat) : FrF p g nx w p g nx { w with drawn := k } :=
  ⟨Pl.le_refl p, Nat.le_refl _, fun _ _ => rfl, Nat.le_refl _, fun _ _ _ => rfl, fun n _ s h1 h2 => .inl ⟨n, s, h1, h2⟩, rfl, rfl, rfl⟩
theorem Fr.drawn (p : Pl) (h : H) (w : World) (k : Nat) : Fr p h w p h { w with drawn := k } :=
  ⟨Pl.le_refl p, Nat.le_refl _, fun _ _ => rfl, Nat.le_refl _, fun _ _ _ => rfl, fun n _ s h1 h2 => .inl ⟨n, s, h1, h2⟩, rfl, rfl, rfl⟩
end
end Go.AE
set_option linter.unusedSectionVars false
namespace Go.AE
variable [Syms]
variable {P : Program} {E : Env}

def FW (ro : Option Nat) : Fence := { Fence.wide with round := ro }

def EndOk (p : Pl) (h : H) (w : World) (v : AV) (h' : H) : Ending → World → Prop
  | .returned x, w' => ∃ p', Rep p' v x ∧ Rel p' h' w' ∧ Fr p h w p' h' w'
  | _, _ => False

structure CallOk (P : Program) (call : Caller) : Prop where
  fn : ∀ f args h v h', call (.fn f args) h = .ok (v, h') → Callable P f ∧ ∀ p w (args' : Array Value), Rel p h w → Reps p args args'.toList → ∀ n, CallsIn Fence.wide n P f args' w (EndOk p h w v h')
  rd : ∀ l args h v h', call (.round l args) h = .ok (v, h') → ∀ p w b sz (args' : Array Value), Rel p h w → p l = some (b, sz) → Reps p args args'.toList →
    ∃ f tmps assign body, (Instr.yield b args').run P w = .ok (.round b f tmps assign body) w ∧ ∀ n, RoundIn Fence.wide n P b f tmps assign body w (EndOk p h w v h')

theorem oper_ok' (hE : EnvOk P E) {call : Caller} (hC : CallOk P call) {o : Oper} {tm : T AV} {h h' : H} {v : AV} (he : fin call (evOp E tm o.op h) = .ok (v, h')) {p : Pl} {nt : Nat} {a : Act} {w : World}
    {a1 : Act} (ht : TmRep p nt tm a1.tmps) (heq : execOp a1.eval o = execOp a.eval o) (r : Rel p h w) (ro : Option Nat) (n : Nat) {K : Act → World → Prop} {Q : Exit → Act → World → Prop}
    (hK : ∀ x p' w', Rep p' v x → Rel p' h' w' → Fr p h w p' h' w' → K (a.put o.dst x) w') : o.wpIn (FW ro) n P a w K Q := by
  have hd : ∀ c, o.op ≠ .defer c := by
    intro c hc
    rw [hc] at he
    simp [evOp, fin] at he
  refine ⟨fun _ _ => trivial, ?_⟩
  rw [Oper.semAt_eq _ _ _ hd]
  cases hout : evOp E tm o.op h with
  | bad w0 => rw [hout] at he; cases he
  | ok out =>
    rw [hout] at he
    have hok := evOp_ok (P := P) hE hout ht r
    rw [heq] at hok
    cases out with
    | val v1 h1 =>
      cases he
      obtain ⟨y, p', w', hrun, q2, q3, q4⟩ := hok
      rcases hrun with hrun | ⟨hrun, rfl⟩
      · rw [hrun, Oper.uponIn_value]; exact hK _ _ _ q2 q3 q4
      · rw [hrun, Oper.uponIn_skip]; exact hK _ _ _ q2 q3 q4
    | call f args h1 =>
      obtain ⟨rfl, args', ra, hrun⟩ := hok
      obtain ⟨hcal, hcs⟩ := hC.fn f args _ v h' he
      rw [hrun hcal, Oper.uponIn_enter]
      refine ⟨fun hh => by simp [FW, Fence.wide] at hh, ?_⟩
      have := hcs p w args' r ra (n - 1)
      refine CallsIn.mono (F := FW ro) this fun e w' he => ?_
      cases e with
      | returned x => obtain ⟨p', k1, k2, k3⟩ := he; exact hK x p' w' k1 k2 k3
      | panicked c => exact he.elim
      | outgrown => exact he.elim
    | round l args h1 =>
      obtain ⟨rfl, b, sz, args', e1, ra, hrun⟩ := hok
      obtain ⟨f, tmps, assign, body, hy, hrd⟩ := hC.rd l args _ v h' he p w b sz args' r e1 ra
      rw [hrun, hy, Oper.uponIn_round]
      refine ⟨fun hh => by simp [FW, Fence.wide] at hh, ?_⟩
      refine RoundIn.mono (F := FW ro) (hrd (n - 1)) fun e w' he => ?_
      cases e with
      | returned x => obtain ⟨p', k1, k2, k3⟩ := he; exact hK x p' w' k1 k2 k3
      | panicked c => exact he.elim
      | outgrown => exact he.elim

theorem oper_ok (hE : EnvOk P E) {call : Caller} (hC : CallOk P call) {o : Oper} {tm : T AV} {h h' : H} {v : AV} (he : fin call (evOp E tm o.op h) = .ok (v, h')) {p : Pl} {nt : Nat} {a : Act} {w : World}
    (ht : TmRep p nt tm a.tmps) (r : Rel p h w) (ro : Option Nat) (n : Nat) {K : Act → World → Prop} {Q : Exit → Act → World → Prop}
    (hK : ∀ x p' w', Rep p' v x → Rel p' h' w' → Fr p h w p' h' w' → K (a.put o.dst x) w') : o.wpIn (FW ro) n P a w K Q :=
  oper_ok' hE hC he ht rfl r ro n hK

theorem tmGet_put (tm : T AV) (d t : Nat) (v : AV) : tmGet (tm.put d (some v)) t = if t = d then v else tmGet tm t := by
  unfold tmGet
  rw [T.get_put]
  by_cases h : t = d
  · simp [h]
  · simp [h]

theorem putT_ok {p p' : Pl} {nt : Nat} {tm tm' : T AV} {a : Act} {dst : Option Tmp} {v : AV} {x : Value} (hp : putT nt tm dst v = .ok tm') (ht : TmRep p nt tm a.tmps) (hle : p.le p') (hx : Rep p' v x) :
    TmRep p' nt tm' (a.put dst x).tmps := by
  cases dst with
  | none => cases hp; exact ht.mono hle
  | some d =>
    simp only [putT] at hp
    cases hb : Nat.blt d nt with
    | false => rw [hb] at hp; cases hp
    | true =>
      rw [hb] at hp; cases hp
      rw [Nat.blt_eq] at hb
      refine ⟨by simp [Act.put, ht.size], fun t => ?_⟩
      rw [tmGet_put]
      by_cases e : t = d
      · subst e
        rw [if_pos rfl]
        have : (a.put (some t) x).tmps.getD t undef = x := by simp [Act.put, ht.size, hb]
        rw [this]; exact hx
      · rw [if_neg e]
        have : (a.put (some d) x).tmps.getD t undef = a.tmps.getD t undef := by
          simp only [Act.put, Array.getD_eq_getD_getElem?]
          rw [Array.getElem?_setIfInBounds_ne (by omega)]
        rw [this]; exact Rep.mono hle _ _ (ht.rep t)

theorem rep_bool {p : Pl} {v : AV} {b : Bool} (h : Rep p v (.bool b)) : v = .bool b := by
  cases v with
  | bool c => cases (show Value.bool b = .bool c from h); rfl
  | int k n => cases (show Value.bool b = .int k n from h)
  | str l => obtain ⟨_, h, _⟩ := h; cases h
  | nilPtr => cases (show Value.bool b = _ from h)
  | ptr n o => rcases h with ⟨_, _, _, h⟩ | ⟨_, h⟩ <;> cases h
  | nilSlice => cases (show Value.bool b = _ from h)
  | slice n o l c => cases c with
    | exact c => obtain ⟨_, _, _, h⟩ := h; cases h
    | more c => obtain ⟨_, _, _, _, h, _⟩ := h; cases h
  | emptySlice => obtain ⟨_, _, h⟩ := h; cases h
  | nilMap => cases (show Value.bool b = _ from h)
  | map n => obtain ⟨_, _, _, h⟩ := h; cases h
  | func f fi ca => obtain ⟨_, _, _, h, _⟩ := h; cases h
  | nilFunc => cases (show Value.bool b = _ from h)
  | iface t x => obtain ⟨_, h, _⟩ := h; cases h
  | nilIface => cases (show Value.bool b = _ from h)
  | agg cs => obtain ⟨_, h, _⟩ := h; cases h
  | tup cs => obtain ⟨_, h, _⟩ := h; cases h
  | sym k i => obtain ⟨_, _, _, _, h⟩ := h; cases h

theorem wantedA_ok {ops : Array Oper} {p : Pl} {nt : Nat} {tm : T AV} {a : Act} (ht : TmRep p nt tm a.tmps) (o : Oper) : wantedA ops.toList tm o.guard = Region.wanted o (yielded ops a.tmps) := by
  unfold wantedA Region.wanted
  cases hg : o.guard with
  | none => rfl
  | some jw =>
    obtain ⟨j, want⟩ := jw
    simp only [nthL_eq, Array.getElem?_toList]
    unfold yielded
    cases hj : ops[j]? with
    | none => simp
    | some oj =>
      simp only [Option.bind_some]
      cases hd : oj.dst with
      | none => simp
      | some d =>
        simp only [Option.bind_some]
        have hr := ht.rep d
        rw [Array.getD_eq_getD_getElem?] at hr
        cases hv : a.tmps[d]? with
        | none =>
          rw [hv] at hr
          have hne : ∀ b, tmGet tm d ≠ .bool b := fun b hb => by
            rw [hb] at hr
            cases (show undef = Value.bool b from hr)
          cases htm : tmGet tm d <;> first | rfl | exact absurd htm (hne _)
        | some x =>
          rw [hv] at hr
          simp only [Option.getD_some] at hr
          cases x with
          | bool b =>
            rw [rep_bool hr]
            cases b <;> cases want <;> rfl
          | _ =>
            have hne : ∀ b, tmGet tm d ≠ .bool b := fun b hb => by
              rw [hb] at hr
              cases (show _ = Value.bool b from hr)
            cases htm : tmGet tm d <;> first | rfl | exact absurd htm (hne _)

theorem undef_rep (p : Pl) : Rep p .undef undef := ⟨#[], rfl, rfl⟩

/-- What is asked behind a region. -/
def RegPost (p : Pl) (h : H) (w : World) (nt : Nat) (tm' : T AV) (h' : H) (a : Act) (a' : Act) (w' : World) : Prop :=
  ∃ p', TmRep p' nt tm' a'.tmps ∧ Rel p' h' w' ∧ Fr p h w p' h' w' ∧ a'.defers = a.defers

theorem put_defers (a : Act) (d : Option Tmp) (x : Value) : (a.put d x).defers = a.defers := by cases d <;> rfl

theorem evSeq_ok (hE : EnvOk P E) {call : Caller} (hC : CallOk P call) {nt : Nat} {arr : Array Oper} (ro : Option Nat) (n : Nat) {Q : Exit → Act → World → Prop} :
    ∀ (ops : List Oper) (pre : List Oper) (tm tm' : T AV) (h h' : H), arr.toList = pre ++ ops → evSeq E call nt arr.toList ops tm h = .ok (tm', h') →
      ∀ (p : Pl) (a : Act) (w : World), TmRep p nt tm a.tmps → Rel p h w → (∀ a' w', RegPost p h w nt tm' h' a a' w' → Q .normal a' w') →
        wpOpsIn (FW ro) n P arr Q (List.range' pre.length ops.length) a w := by
  intro ops
  induction ops with
  | nil =>
    intro pre tm tm' h h' hall he p a w ht r hQ
    cases he
    exact hQ _ _ ⟨p, ht, r, Fr.refl _ _ _, rfl⟩
  | cons o ops ih =>
    intro pre tm tm' h h' hall he p a w ht r hQ
    have hget : arr[pre.length]? = some o := by
      rw [← Array.getElem?_toList, hall]; simp
    have hall' : arr.toList = (pre ++ [o]) ++ ops := by rw [hall]; simp
    have hlen : (pre ++ [o]).length = pre.length + 1 := by simp
    simp only [List.length_cons, List.range'_succ, wpOpsIn, hget]
    rw [← wantedA_ok ht o]
    simp only [evSeq] at he
    cases hw : wantedA arr.toList tm o.guard with
    | true =>
      rw [hw] at he; simp only [cond_true] at he
      simp only [if_true]
      split at he
      · rename_i v h1 hfin
        split at he
        · rename_i tm1 hput
          refine oper_ok hE hC hfin ht r ro n fun x p1 w1 k1 k2 k3 => ?_
          rw [← hlen]
          refine ih (pre ++ [o]) tm1 tm' h1 h' hall' he p1 (a.put o.dst x) w1 (putT_ok hput ht k3.le k1) k2 fun a' w' hq => ?_
          obtain ⟨p2, q1, q2, q3, q4⟩ := hq
          exact hQ _ _ ⟨p2, q1, q2, k3.trans q3, by rw [q4, put_defers]⟩
        · cases he
      · cases he
    | false =>
      rw [hw] at he; simp only [cond_false] at he
      simp only [Bool.false_eq_true, if_false]
      split at he
      · rename_i tm1 hput
        refine ⟨fun _ _ => trivial, ?_⟩
        rw [← hlen]
        refine ih (pre ++ [o]) tm1 tm' h h' hall' he p (a.put o.dst undef) w (putT_ok hput ht (Pl.le_refl p) (undef_rep p)) r fun a' w' hq => ?_
        obtain ⟨p2, q1, q2, q3, q4⟩ := hq
        exact hQ _ _ ⟨p2, q1, q2, q3, by rw [q4, put_defers]⟩
      · cases he
end Go.AE
