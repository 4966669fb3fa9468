/- What the evaluator is told of a program, checked. No condition: definitions and lemmas. -/
import Derived.Laws.Externs
import Derived.Test.YtdnhkdipfnediaaGreatDoorAe10
import Derived.Below
set_option linter.unusedSectionVars false
namespace Go.AE

def beqPairs : List (Nat × Nat) → List (Nat × Nat) → Bool
  | [], [] => true
  | (a, b) :: l, (c, d) :: m => Nat.beq a c && Nat.beq b d && beqPairs l m
  | _, _ => false

theorem beqPairs_ok : ∀ {a b : List (Nat × Nat)}, beqPairs a b = true → a = b
  | [], [], _ => rfl
  | [], _ :: _, h => by cases h
  | _ :: _, [], h => by cases h
  | (a, b) :: l, (c, d) :: m, h => by
    simp only [beqPairs, Bool.and_eq_true] at h
    rw [Nat.eq_of_beq_eq_true h.1.1, Nat.eq_of_beq_eq_true h.1.2, beqPairs_ok h.2]

def beqCK : CK → CK → Bool
  | .int k, .int l => kindEq k l
  | .bool, .bool => true
  | .str, .str => true
  | _, _ => false
def beqCKs : List CK → List CK → Bool
  | [], [] => true
  | a :: l, b :: m => beqCK a b && beqCKs l m
  | _, _ => false

theorem beqCK_ok {a b : CK} (h : beqCK a b = true) : a = b := by
  cases a <;> cases b <;> simp only [beqCK] at h <;> first | rfl | (simp only [kindEq, decide_eq_true_eq] at h; rw [h]) | cases h
theorem beqCKs_ok : ∀ {a b : List CK}, beqCKs a b = true → a = b
  | [], [], _ => rfl
  | [], _ :: _, h => by cases h
  | _ :: _, [], h => by cases h
  | a :: l, b :: m, h => by
    simp only [beqCKs, Bool.and_eq_true] at h
    rw [beqCK_ok h.1, beqCKs_ok h.2]

def udChk (P : Program) (t : TypeId) : UD → Bool
  | .int k => match P.underlying t with | some (.int l) => kindEq k l | _ => false
  | .bool => match P.underlying t with | some .bool => true | _ => false
  | .str => match P.underlying t with | some .string => true | _ => false
  | .ptr e => match P.underlying t with | some (.pointer f) => Nat.beq e f | _ => false
  | .slice e => match P.underlying t with | some (.slice f) => Nat.beq e f | _ => false
  | .arr n e => match P.underlying t with | some (.array m f) => Nat.beq n m && Nat.beq e f | _ => false
  | .struct fs => match P.underlying t with
    | some (.struct fields) => beqPairs (fields.toList.map (fun f => (f.offset, f.type))) fs && (fields.toList.mapM (fun f => (P.info? f.type).map fun i => (f.offset, i.size))).isSome
    | _ => false
  | .map k e => match P.underlying t with | some (.map l f) => Nat.beq k l && Nat.beq e f | _ => false
  | .func => match P.underlying t with | some (.func _ _ _) => true | _ => false
  | .iface => match P.underlying t with | some (.interface _) => true | _ => false
  | .other => false

theorem udChk_ok {P : Program} {t : TypeId} {u : UD} (h : udChk P t u = true) : UDOk P t u := by
  cases u <;> simp only [udChk] at h
  case int k =>
    split at h
    · rename_i l hu; simp only [kindEq, decide_eq_true_eq] at h; subst h; exact hu
    · cases h
  case bool => split at h; · assumption
               · cases h
  case str => split at h; · assumption
              · cases h
  case ptr e =>
    split at h
    · rename_i l hu; have := Nat.eq_of_beq_eq_true h; subst this; exact hu
    · cases h
  case slice e =>
    split at h
    · rename_i l hu; have := Nat.eq_of_beq_eq_true h; subst this; exact hu
    · cases h
  case arr n e =>
    split at h
    · rename_i m l hu
      simp only [Bool.and_eq_true] at h
      have h1 := Nat.eq_of_beq_eq_true h.1
      have h2 := Nat.eq_of_beq_eq_true h.2
      subst h1; subst h2; exact hu
    · cases h
  case struct fs =>
    split at h
    · rename_i fields hu
      simp only [Bool.and_eq_true] at h
      obtain ⟨pl, hpl⟩ := Option.isSome_iff_exists.1 h.2
      exact ⟨fields, pl, hu, beqPairs_ok h.1, hpl⟩
    · cases h
  case map k e =>
    split at h
    · rename_i m l hu
      simp only [Bool.and_eq_true] at h
      have h1 := Nat.eq_of_beq_eq_true h.1
      have h2 := Nat.eq_of_beq_eq_true h.2
      subst h1; subst h2; exact hu
    · cases h
  case func => split at h; · exact ⟨_, _, _, by assumption⟩
               · cases h
  case iface => split at h; · exact ⟨_, by assumption⟩
                · cases h
  case other => cases h

def zeroChk (ti : TI) (v : Option Value) : Bool :=
  match ti.zero with
  | none => true
  | some z => Nat.beq (lenA z) ti.size && (match v with
    | some v => bif ti.agg then (match v with
        | .agg xs => (match ofVs xs.toList with | some l => beqVs l z | none => false)
        | _ => false)
      else (match z with
        | [a] => (match ofV1 v with | some b => beqV b a | none => false)
        | _ => false)
    | none => false)

def flatFs (P : Program) (k : TypeId → Option (List CK)) : List Field → Nat → Option (List CK)
  | [], _ => some []
  | f :: fs, acc => if f.name ≠ "_" ∧ f.offset = acc then (match k f.type with
      | some ks => if (P.info? f.type).map (·.size) = some ks.length then (match flatFs P k fs (acc + ks.length) with
        | some r => some (ks ++ r)
        | none => none) else none
      | none => none) else none

def flatB (P : Program) : Nat → TypeId → Option (List CK)
  | 0, _ => none
  | d + 1, t => match P.underlying t with
    | some (.int k) => some [.int k]
    | some .bool => some [.bool]
    | some .string => some [.str]
    | some (.array n e) => (match flatB P d e with
      | some ks => if (P.info? e).map (·.size) = some ks.length then some (repA ks n) else none
      | none => none)
    | some (.struct fs) => if P.stoodInHeld t then none else flatFs P (flatB P d) fs.toList 0
    | _ => none

theorem flatFs_ok {P : Program} {k : TypeId → Option (List CK)} {D : Nat} (hk : ∀ t ks, k t = some ks → flatK P D t = some ks) : ∀ (fs : List Field) (acc : Nat) (ks : List CK), flatFs P k fs acc = some ks → flatF P (D + 1) fs acc = some ks
  | [], acc, ks, h => by rw [flatFs] at h; rw [flatF]; exact h
  | f :: fs, acc, ks, h => by
    rw [flatFs] at h
    rw [flatF]
    split at h
    · rename_i hc
      rw [if_pos hc]
      split at h
      · rename_i ks1 h1
        rw [hk _ _ h1]
        simp only []
        split at h
        · rename_i hs
          rw [if_pos hs]
          split at h
          · rename_i r hr
            rw [flatFs_ok hk fs _ r hr]
            exact h
          · cases h
        · cases h
      · cases h
    · cases h

theorem flatB_ok {P : Program} : ∀ (d : Nat) (t : TypeId) (ks : List CK), flatB P d t = some ks → ∀ D, 2 * d ≤ D → flatK P D t = some ks
  | 0, t, ks, h, _, _ => by rw [flatB] at h; cases h
  | d + 1, t, ks, h, D, hD => by
    obtain ⟨D1, rfl⟩ : ∃ D1, D = D1 + 1 + 1 := ⟨D - 2, by omega⟩
    rw [flatB] at h
    rw [flatK]
    split at h
    · rename_i hu; rw [hu]; exact h
    · rename_i hu; rw [hu]; exact h
    · rename_i hu; rw [hu]; exact h
    · rename_i n e hu
      rw [hu]
      simp only []
      split at h
      · rename_i ks1 h1
        rw [flatB_ok d e ks1 h1 (D1 + 1) (by omega)]
        exact h
      · cases h
    · rename_i fs hu
      rw [hu]
      simp only []
      split at h
      · cases h
      · rename_i hs
        rw [if_neg hs]
        exact flatFs_ok (fun t ks hh => flatB_ok d t ks hh D1 (by omega)) _ _ _ h
    · cases h

def flatChk (P : Program) (t : TypeId) : Option (List CK) → Bool
  | none => true
  | some ks => (match flatB P 40 t with | some l => beqCKs l ks | none => false) && !(P.eqGuardType P.depth t)

def nilL {α : Type} : List α → Bool
  | [] => true
  | _ => false

def tiChk (P : Program) (t : TypeId) (ti : TI) : Bool :=
  nilL ti.meths && udChk P t ti.und && flatChk P t ti.kinds && (match P.info? t with
    | some i => Nat.beq i.size ti.size && Nat.beq i.bytes ti.bytes && (!ti.cmp || i.comparable) && zeroChk ti i.zero
    | none => false)

theorem tiChk_ok {P : Program} {t : TypeId} {ti : TI} (h : tiChk P t ti = true) : TIOk P t ti := by
  simp only [tiChk, Bool.and_eq_true] at h
  obtain ⟨⟨⟨h1, h2⟩, h3⟩, h4⟩ := h
  refine ⟨?_, udChk_ok h2, ?_, ?_⟩
  · split at h4
    · rename_i i hi
      simp only [Bool.and_eq_true, Bool.or_eq_true, Bool.not_eq_true'] at h4
      obtain ⟨⟨⟨k1, k2⟩, k3⟩, k4⟩ := h4
      refine ⟨i, hi, Nat.eq_of_beq_eq_true k1, Nat.eq_of_beq_eq_true k2, fun hc => k3.resolve_left (by rw [hc]; simp), ?_⟩
      intro z hz
      unfold zeroChk at k4
      rw [hz] at k4
      simp only [Bool.and_eq_true] at k4
      obtain ⟨m1, m2⟩ := k4
      refine ⟨by rw [← lenA_eq]; exact Nat.eq_of_beq_eq_true m1, ?_⟩
      split at m2
      · rename_i v hv
        refine ⟨v, hv, ?_⟩
        cases ha : ti.agg with
        | true =>
          rw [ha] at m2
          simp only [cond_true] at m2
          simp only [if_true]
          split at m2
          · rename_i xs
            split at m2
            · rename_i l hl
              exact ⟨xs, rfl, by rw [hl, beqVs_ok _ _ m2]⟩
            · cases m2
          · cases m2
        | false =>
          rw [ha] at m2
          simp only [cond_false] at m2
          simp only [Bool.false_eq_true, if_false]
          split at m2
          · rename_i a
            split at m2
            · rename_i b hb
              exact ⟨a, rfl, by rw [hb, beqV_ok _ _ m2]⟩
            · cases m2
          · cases m2
      · cases m2
    · cases h4
  · intro ks hks
    unfold flatChk at h3
    rw [hks] at h3
    simp only [Bool.and_eq_true, Bool.not_eq_true'] at h3
    obtain ⟨k1, k2⟩ := h3
    split at k1
    · rename_i l hl
      exact ⟨⟨80, by omega, by rw [flatB_ok 40 t l hl 80 (by omega), beqCKs_ok k1]⟩, k2⟩
    · cases k1
  · intro name nm f hf
    cases hm : ti.meths with
    | nil => rw [hm] at hf; cases hf
    | cons x l => rw [hm] at h1; cases h1

/-- Of all that a tree holds. -/
def T.All {α : Type} (Q : Nat → α → Prop) : T α → Nat → Nat → Prop
  | .leaf, _, _ => True
  | .node l v r, a, b => (match v with | none => True | some x => Q b x) ∧ T.All Q l (2 * a) (a + b) ∧ T.All Q r (2 * a) (2 * a + b)

theorem All_getB {α : Type} {Q : Nat → α → Prop} : ∀ (bs : List Bool) {t : T α} {a b : Nat}, T.All Q t a b → ∀ x, getB bs t = some x → Q (a * valB bs + b) x
  | bs, .leaf, _, _, _, x, h => by rw [getB_leaf] at h; cases h
  | [], .node l v r, a, b, ⟨h1, _, _⟩, x, h => by
    have h' : v = some x := h
    rw [h'] at h1
    simpa [valB] using h1
  | false :: bs, .node l v r, a, b, ⟨_, h2, _⟩, x, h => by
    have := All_getB bs h2 x h
    have e : 2 * a * valB bs + (a + b) = a * valB (false :: bs) + b := by
      simp only [valB]
      rw [Nat.mul_add, Nat.mul_one, Nat.add_assoc, Nat.mul_comm 2 a, Nat.mul_assoc]
    rw [e] at this; exact this
  | true :: bs, .node l v r, a, b, ⟨_, _, h3⟩, x, h => by
    have := All_getB bs h3 x h
    have e : 2 * a * valB bs + (2 * a + b) = a * valB (true :: bs) + b := by
      simp only [valB]
      rw [Nat.mul_add, Nat.mul_comm 2 a, Nat.mul_assoc, Nat.add_assoc]
    rw [e] at this; exact this
/-- The number n of a tree at (a, b) stands for a * n + b. -/
theorem T.All_get {α : Type} {Q : Nat → α → Prop} {t : T α} {a b : Nat} (h : T.All Q t a b) (n : Nat) (x : α) (hx : t.get n = some x) : Q (a * n + b) x := by
  have := All_getB (bits n) h x hx
  rw [valB_bits] at this
  exact this

/-- A check of all that a tree holds, by computing. -/
def T.chk {α : Type} (q : Nat → α → Bool) : T α → Nat → Nat → Bool
  | .leaf, _, _ => true
  | .node l v r, a, b => (match v with | none => true | some x => q b x) && T.chk q l (2 * a) (a + b) && T.chk q r (2 * a) (2 * a + b)

theorem T.chk_all {α : Type} {q : Nat → α → Bool} : ∀ {t : T α} {a b : Nat}, T.chk q t a b = true → T.All (fun n x => q n x = true) t a b
  | .leaf, _, _, _ => trivial
  | .node l v r, a, b, h => by
    simp only [T.chk, Bool.and_eq_true] at h
    refine ⟨?_, T.chk_all h.1.2, T.chk_all h.2⟩
    cases v with
    | none => trivial
    | some x => exact h.1.1

theorem firstIdx_eq (s : ByteArray) (c : Nat) (hc : c < 256) : firstIdx s c.toUInt8 = indexByteL c (s.data.toList.map UInt8.toNat) 0 := by
  have key : ∀ (m i : Nat), i + m = s.size → (match (List.range' i m).find? fun j => s[j]! == c.toUInt8 with | some j => (j : Int) | none => -1) = indexByteL c ((s.data.toList.drop i).map UInt8.toNat) i := by
    intro m
    induction m with
    | zero =>
      intro i hi
      rw [List.drop_of_length_le (by rw [Array.length_toList]; exact Nat.le_of_eq hi.symm)]
      rfl
    | succ m ih =>
      intro i hi
      have hlt : i < s.data.toList.length := by rw [Array.length_toList]; show i < s.size; omega
      rw [List.drop_eq_getElem_cons hlt, List.map_cons, List.range'_succ, List.find?_cons]
      have e : s[i]! = s.data.toList[i] := by
        have hi2 : i < s.size := by omega
        rw [getElem!_pos s i hi2]
        rfl
      rw [e]
      simp only [indexByteL]
      have hb : (s.data.toList[i] == c.toUInt8) = Nat.beq s.data.toList[i].toNat c := by
        rw [Bool.eq_iff_iff, beq_iff_eq, Nat.beq_eq]
        constructor
        · intro h; rw [h]; simp; omega
        · intro h
          apply UInt8.toNat_inj.1
          rw [h]; simp; omega
      rw [hb]
      cases Nat.beq s.data.toList[i].toNat c with
      | true => rfl
      | false => exact ih (i + 1) (by omega)
  have := key s.size 0 (by omega)
  unfold firstIdx
  rw [List.range_eq_range']
  exact this

/-- The one function of the library that has no body. -/
theorem ext_index {P : Program} {f : FuncId} {fn : Func} (hf : P.funcs[f]? = some fn) (hname : (fn.name == "runtime.NumGoroutine") = false) (hb : fn.body.isNone = true) (hn : Extern.findNext fn = none)
    (he : Extern.find fn = some Extern.BytealgIndexByte.indexByte) (s : ByteArray) (c : Nat) (w : World) (hc : c < 256) :
    (callFunc f #[.string s, .int .u8 (Int.ofNat c)]).run P w = .ok (.value (.int .i64 (indexByteL c (s.data.toList.map UInt8.toNat) 0))) w := by
  rw [run_callFunc_extern hf hname hb hn he, run_indexByte_string, Result.andThen_ok]
  rw [← firstIdx_eq s c hc]
  rfl

variable [Syms]

theorem EnvOk.of {P : Program} {E : Env} (hf : T.All (fun f (fn : Func) => P.funcs[f]? = some fn) E.fn 1 0) (hn : T.chk (fun _ (fn : Func) => !(fn.name == "runtime.NumGoroutine")) E.fn 1 0 = true)
    (ht : T.chk (tiChk P) E.ty 1 0 = true)
    (hx : T.All (fun f (_ : Ext) => ∀ (s : ByteArray) (c : Nat) (w : World), c < 256 → (callFunc f #[.string s, .int .u8 (Int.ofNat c)]).run P w = .ok (.value (.int .i64 (indexByteL c (s.data.toList.map UInt8.toNat) 0))) w) E.ext 1 0)
    (hm : P.follows .mixedOrders = true) (hs : ∀ i j r, E.symEq i j = some r → (Syms.val i == Syms.val j) = r) (hc : ∀ i n r, E.symC i n = some r → (Int.ofNat (Syms.val i) == n) = r) : EnvOk P E where
  fn := fun f fn h => by
    refine ⟨by simpa using T.All_get hf f fn h, ?_⟩
    have := T.All_get (T.chk_all hn) f fn h
    simpa using this
  ty := fun t ti h => by
    have := T.All_get (T.chk_all ht) t ti h
    exact tiChk_ok (by simpa using this)
  ext := fun f h => by
    have := T.All_get hx f _ h
    simpa using this
  mixed := hm
  symEq := hs
  symC := hc
end Go.AE
set_option linter.unusedSectionVars false
namespace Go.AE
noncomputable section
variable {P : Program} {E : Env}

mutual
def plainV : AV → Bool
  | .bool _ | .int .. | .sym .. | .str _ | .nilPtr | .nilSlice | .emptySlice | .nilMap | .nilFunc | .nilIface => true
  | .iface _ v => plainV v
  | .agg cs => plainVs cs
  | .tup cs => plainVs cs
  | _ => false
def plainVs : List AV → Bool
  | [] => true
  | a :: l => plainV a && plainVs l
end

def H.zero : H := ⟨.leaf, 1000⟩

/-- The check. -/
def pureChk (call : Caller) (f : FuncId) (args : List AV) (v : AV) : Bool :=
  plainVs args && (match call (.fn f args) H.zero with
    | .ok (v', _) => plainV v' && beqV v' v
    | .bad _ => false)

/-- A table of such calls: by the function's number, then by the arguments. -/
abbrev Tab := T (List (List AV × AV))

def tabGet : List (List AV × AV) → List AV → Option AV
  | [], _ => none
  | (a, v) :: l, args => bif beqVs a args then some v else tabGet l args

def memoOf (t : Tab) : Memo := fun f args h => match t.get f with
  | none => none
  | some l => match tabGet l args with
    | none => none
    | some v => some (v, h)

variable [Syms]

mutual
theorem plainV_rep {p q : Pl} (gp : GlobOk p) (gq : GlobOk q) : ∀ (a : AV) (v : Value), plainV a = true → Rep p a v → Rep q a v
  | .bool _, _, _, r => r
  | .int .., _, _, r => r
  | .str _, _, _, r => r
  | .nilPtr, _, _, r => r
  | .nilSlice, _, _, r => r
  | .emptySlice, _, _, r => r
  | .nilMap, _, _, r => r
  | .nilFunc, _, _, r => r
  | .nilIface, _, _, r => r
  | .iface _ x, _, h, ⟨y, e, r⟩ => ⟨y, e, plainV_rep gp gq x y (by simpa only [plainV] using h) r⟩
  | .agg cs, _, h, ⟨vs, e, r⟩ => ⟨vs, e, plainVs_rep gp gq cs _ (by simpa only [plainV] using h) r⟩
  | .tup cs, _, h, ⟨vs, e, r⟩ => ⟨vs, e, plainVs_rep gp gq cs _ (by simpa only [plainV] using h) r⟩
  | .ptr .., _, h, _ => by simp only [plainV] at h; cases h
  | .slice .., _, h, _ => by simp only [plainV] at h; cases h
  | .map _, _, h, _ => by simp only [plainV] at h; cases h
  | .func .., _, h, _ => by simp only [plainV] at h; cases h
  | .sym .., _, _, ⟨b, h1, h2, e, r⟩ => ⟨b, h1, h2, by rw [gq.2 _ h1 h2, ← gp.2 _ h1 h2]; exact e, r⟩
theorem plainVs_rep {p q : Pl} (gp : GlobOk p) (gq : GlobOk q) : ∀ (l : List AV) (m : List Value), plainVs l = true → Reps p l m → Reps q l m
  | [], _, _, r => r
  | a :: as, _, h, ⟨v, vs, e, r, rs⟩ => by
    simp only [plainVs, Bool.and_eq_true] at h
    exact ⟨v, vs, e, plainV_rep gp gq a v h.1 r, plainVs_rep gp gq as vs h.2 rs⟩
end

/-- A call that hands back what bears no address, whatever the memory. -/
def PureOk (P : Program) (f : FuncId) (args : List AV) (v : AV) : Prop :=
  Callable P f ∧ ∀ p h w (args' : Array Value), Rel p h w → Reps p args args'.toList → ∀ n, CallsIn Fence.wide n P f args' w (EndOk p h w v h)

theorem pure_ok {call : Caller} (hC : CallOk P call) {f : FuncId} {args : List AV} {v : AV} (hc : pureChk call f args v = true) : PureOk P f args v := by
  simp only [pureChk, Bool.and_eq_true] at hc
  obtain ⟨ha, hc⟩ := hc
  split at hc
  · rename_i v' h1 he
    simp only [Bool.and_eq_true] at hc
    obtain ⟨hv, hb⟩ := hc
    have := beqV_ok _ _ hb
    subst this
    obtain ⟨hcal, hcs⟩ := hC.fn _ _ _ _ _ he
    refine ⟨hcal, fun p h w args' r ra n => ?_⟩
    let p0 : Pl := fun n => if n < 1000 then p n else none
    have hl : ∀ n, H.zero.get n = none := fun n => T.get_leaf n
    have r0 : Rel p0 H.zero w := by
      refine ⟨fun n b hb => (by rw [hl] at hb; cases hb), fun n m c s s' hn => absurd (hl n) hn, fun n hn => ?_, Nat.le_refl _, fun n c s hn e => ?_, fun n h1 h2 => ?_⟩
      · show (if n < 1000 then p n else none) = none
        rw [if_neg (by have : 1000 ≤ n := hn; omega)]
      · have : (if n < 1000 then p n else none) = some (c, s) := e
        rw [if_pos hn] at this
        exact r.glob.1 n c s hn this
      · show (if n < 1000 then p n else none) = _
        rw [if_pos h2]
        exact r.glob.2 n h1 h2
    refine CallsIn.mono (hcs p0 w args' r0 (plainVs_rep r.glob r0.glob _ _ ha ra) n) fun e w' hend => ?_
    cases e with
    | returned x =>
      obtain ⟨p', k1, k2, k3⟩ := hend
      have hsame : ∀ b, b < w.heap.size → w'.heap[b]? = w.heap[b]? := fun b hb => k3.same b hb fun n s hn => absurd (hl n) hn
      refine ⟨p, plainV_rep k2.glob r.glob _ _ hv k1, ⟨fun n b hb => ?_, r.inj, r.fresh, r.base, r.glob⟩, ⟨Pl.le_refl p, Nat.le_refl _, fun _ _ => rfl, k3.size, fun b hb _ => hsame b hb, fun n b s h1 h2 => .inl ⟨n, s, h1, h2⟩, k3.os, k3.output, k3.tape⟩⟩
      obtain ⟨c, sz, o, e1, e2, e3⟩ := r.blk n b hb
      exact ⟨c, sz, o, e1, by rw [hsame c (r.blockLt (by rw [hb]; simp) e1)]; exact e2, e3⟩
    | panicked c => exact hend.elim
    | outgrown => exact hend.elim
  · cases hc

def TabOk (P : Program) (t : Tab) : Prop := T.All (fun f (l : List (List AV × AV)) => ∀ x ∈ l, PureOk P f x.1 x.2) t 1 0

theorem tabGet_mem : ∀ {l : List (List AV × AV)} {args : List AV} {v : AV}, tabGet l args = some v → (args, v) ∈ l
  | [], _, _, h => by cases h
  | (a, v') :: l, args, v, h => by
    simp only [tabGet] at h
    cases hb : beqVs a args with
    | true => rw [hb] at h; cases h; rw [beqVs_ok _ _ hb]; simp
    | false => rw [hb] at h; exact List.mem_cons_of_mem _ (tabGet_mem h)

theorem memoOf_ok {t : Tab} (ht : TabOk P t) : MemoOk P (memoOf t) := by
  intro f args h v h' hm
  unfold memoOf at hm
  split at hm
  · cases hm
  · rename_i l hl
    split at hm
    · cases hm
    · rename_i v1 hv
      cases hm
      have := T.All_get ht f l hl _ (tabGet_mem hv)
      have e : 1 * f + 0 = f := Nat.one_mul f
      rw [e] at this
      exact ⟨this.1, fun p w args' r ra n => this.2 p h w args' r ra n⟩

theorem T.All_mono {α : Type} {Q R : Nat → α → Prop} (h : ∀ n x, Q n x → R n x) : ∀ {t : T α} {a b : Nat}, T.All Q t a b → T.All R t a b
  | .leaf, _, _, _ => trivial
  | .node l v r, a, b, ⟨h1, h2, h3⟩ => by
    refine ⟨?_, T.All_mono h h2, T.All_mono h h3⟩
    cases v with
    | none => trivial
    | some x => exact h _ _ h1

theorem tabOk_of {call : Caller} (hC : CallOk P call) {t : Tab} (h : T.chk (fun f (l : List (List AV × AV)) => l.all fun x => pureChk call f x.1 x.2) t 1 0 = true) : TabOk P t :=
  T.All_mono (fun _ _ hl x hx => pure_ok hC (List.all_eq_true.1 hl x hx)) (T.chk_all h)

theorem memo_none : MemoOk P (fun _ _ _ => none) := fun _ _ _ _ _ h => by cases h
end
end Go.AE
set_option linter.unusedSectionVars false
namespace Go.AE
variable [Syms]
variable {P : Program} {E : Env}

/-- The names of numbers, and no others. -/
def plOf : Pl := fun n => if 900 ≤ n ∧ n < 1000 then some (n, Syms.val n) else none

theorem plOf_glob : GlobOk (plOf : Pl) := by
  refine ⟨fun n c s hn e => ?_, fun n h1 h2 => ?_⟩
  · unfold plOf at e
    split at e
    · cases e; rfl
    · cases e
  · unfold plOf
    rw [if_pos ⟨h1, h2⟩]

theorem rel_zero (w : World) : Rel (plOf : Pl) H.zero w := by
  have hl : ∀ n, H.zero.get n = none := fun n => T.get_leaf n
  refine ⟨fun n b hb => (by rw [hl] at hb; cases hb), fun n m c s s' hn => absurd (hl n) hn, fun n hn => ?_, Nat.le_refl _, plOf_glob⟩
  unfold plOf
  rw [if_neg (by have : 1000 ≤ n := hn; omega)]

/-- What a call hands back, the world before it kept. -/
def Gives (v : AV) (w : World) (e : Ending) (w' : World) : Prop := ∃ x p', e = .returned x ∧ GlobOk p' ∧ Rep p' v x ∧ RowKit.Below w.heap.size w w'

theorem pure_calls {f : FuncId} {args : List AV} {v : AV} (h : PureOk P f args v) {args' : Array Value} (ha : Reps plOf args args'.toList) (w : World) : Calls P f args' w (Gives v w) := by
  refine Calls.mono (callsIn_wide.1 (h.2 plOf H.zero w args' (rel_zero w) ha 0)) fun e w' hend => ?_
  have hl : ∀ n, H.zero.get n = none := fun n => T.get_leaf n
  cases e with
  | returned x =>
    obtain ⟨p', k1, k2, k3⟩ := hend
    exact ⟨x, p', rfl, k2.glob, k1, k3.os, k3.tape, k3.output, k3.size, fun b hb => k3.same b hb fun n s hn => absurd (hl n) hn⟩
  | panicked c => exact hend.elim
  | outgrown => exact hend.elim

theorem calls_true {f : FuncId} {args : List AV} (h : PureOk P f args (.bool true)) {args' : Array Value} (ha : Reps plOf args args'.toList) (w : World) :
    Calls P f args' w fun e w' => e = .returned (.bool true) ∧ RowKit.Below w.heap.size w w' := by
  refine (pure_calls h ha w).mono fun e w' hg => ?_
  obtain ⟨x, p', rfl, _, hr, hb⟩ := hg
  rw [show x = _ from hr]
  exact ⟨rfl, hb⟩
end Go.AE
