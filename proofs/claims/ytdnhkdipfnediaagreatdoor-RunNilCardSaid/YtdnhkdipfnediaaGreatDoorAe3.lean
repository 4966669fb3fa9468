/- The evaluator's numbers, texts and comparisons are the model's. No condition: lemmas. -/
import Derived.Test.YtdnhkdipfnediaaGreatDoorAe2
import Derived.DeepKeys3
set_option linter.unusedSectionVars false
namespace Go.AE
variable {P : Program}

theorem okNat_eq (k : IntKind) (n : Nat) : okNat k n = .ok (.int k (.ofNat n)) := by cases n <;> rfl
theorem okNeg_eq (k : IntKind) (n : Nat) : okNeg k n = .ok (.int k (.negSucc n)) := by cases n <;> rfl
theorem okInt_eq (k : IntKind) (n : Int) : okInt k n = .ok (.int k n) := by
  cases n with
  | ofNat n => exact okNat_eq k n
  | negSucc n => exact okNeg_eq k n

theorem wrap_i64 {n : Int} (h1 : -9223372036854775808 ≤ n) (h2 : n < 9223372036854775808) : IntKind.i64.wrap n = n := by
  simp only [IntKind.wrap, IntKind.bits, IntKind.signed]
  simp
  omega
theorem wrap_i32 {n : Int} (h1 : -2147483648 ≤ n) (h2 : n < 2147483648) : IntKind.i32.wrap n = n := by
  simp only [IntKind.wrap, IntKind.bits, IntKind.signed]
  simp
  omega

theorem cond_same {α : Type} {b : Bool} {x y : α} (h : b = true → x = y) : (bif b then x else y) = y := by
  cases b
  · rfl
  · exact h rfl

theorem wrapA_eq (k : IntKind) (n : Int) : wrapA k n = k.wrap n := by
  cases n with
  | ofNat m =>
    cases k <;> simp only [wrapA]
    case i64 => exact cond_same fun hb => by rw [Nat.blt_eq] at hb; rw [wrap_i64] <;> simp only [Int.ofNat_eq_natCast] <;> omega
    case i32 => exact cond_same fun hb => by rw [Nat.blt_eq] at hb; rw [wrap_i32] <;> simp only [Int.ofNat_eq_natCast] <;> omega
    all_goals simp [IntKind.wrap, IntKind.bits, IntKind.signed]
  | negSucc m =>
    cases k <;> simp only [wrapA]
    case i64 => exact cond_same fun hb => by rw [Nat.blt_eq] at hb; rw [wrap_i64] <;> simp only [Int.negSucc_eq] <;> omega
    case i32 => exact cond_same fun hb => by rw [Nat.blt_eq] at hb; rw [wrap_i32] <;> simp only [Int.negSucc_eq] <;> omega

theorem beqInt_eq (a b : Int) : beqInt a b = (a == b) := by
  cases a <;> cases b <;> simp only [beqInt] <;> rw [Bool.eq_iff_iff]
  · rw [Nat.beq_eq, beq_iff_eq, Int.ofNat_eq_natCast, Int.ofNat_eq_natCast]; omega
  · rw [beq_iff_eq]; simp
  · rw [beq_iff_eq]; simp
  · rw [Nat.beq_eq, beq_iff_eq, Int.negSucc_eq, Int.negSucc_eq]; omega
theorem bltInt_eq (a b : Int) : bltInt a b = decide (a < b) := by
  cases a <;> cases b <;> simp only [bltInt] <;> rw [Bool.eq_iff_iff]
  · rw [Nat.blt_eq, decide_eq_true_iff, Int.ofNat_eq_natCast, Int.ofNat_eq_natCast]; omega
  · rw [decide_eq_true_iff, Int.ofNat_eq_natCast, Int.negSucc_eq]; simp; omega
  · rw [decide_eq_true_iff, Int.ofNat_eq_natCast, Int.negSucc_eq]; simp; omega
  · rw [Nat.blt_eq, decide_eq_true_iff, Int.negSucc_eq, Int.negSucc_eq]; omega
theorem bleInt_eq (a b : Int) : bleInt a b = decide (a ≤ b) := by
  unfold bleInt
  rw [bltInt_eq, Bool.eq_iff_iff]
  simp

theorem beqL_eq : ∀ (l m : List Nat), beqL l m = (l == m)
  | [], [] => rfl
  | [], _ :: _ => rfl
  | _ :: _, [] => rfl
  | a :: l, b :: m => by
    simp only [beqL, beqL_eq l m]
    have : Nat.beq a b = (a == b) := by rw [Bool.eq_iff_iff, Nat.beq_eq, beq_iff_eq]
    rw [this]
    rfl
theorem lessL_eq : ∀ (x y : List UInt8), lessL (x.map UInt8.toNat) (y.map UInt8.toNat) = Op.bytesLess x y
  | x, [] => by cases x <;> rfl
  | [], _ :: _ => rfl
  | a :: x, b :: y => by
    simp only [List.map_cons, lessL, Op.bytesLess, lessL_eq x y]
    have h1 : Nat.blt a.toNat b.toNat = decide (a < b) := by
      rw [Bool.eq_iff_iff, Nat.blt_eq, decide_eq_true_iff]; rfl
    have h2 : Nat.beq a.toNat b.toNat = (a == b) := by
      rw [Bool.eq_iff_iff, Nat.beq_eq, beq_iff_eq]
      exact ⟨fun h => UInt8.toNat_inj.1 h, fun h => by rw [h]⟩
    rw [h1, h2]

theorem str_eq {s t : ByteArray} : beqL (s.data.toList.map UInt8.toNat) (t.data.toList.map UInt8.toNat) = (s.toList == t.toList) := by
  rw [beqL_eq, ByteArray.toList_eq, ByteArray.toList_eq, Bool.eq_iff_iff, beq_iff_eq, beq_iff_eq]
  exact ⟨fun h => (List.map_inj_right (fun a b hab => UInt8.toNat_inj.1 hab)).1 h, fun h => by rw [h]⟩

theorem str_less {s t : ByteArray} : lessL (s.data.toList.map UInt8.toNat) (t.data.toList.map UInt8.toNat) = Op.bytesLess s.toList t.toList := by
  rw [ByteArray.toList_eq, ByteArray.toList_eq]; exact lessL_eq _ _

theorem kindEq_iff {a b : IntKind} : kindEq a b = true ↔ a = b := by simp [kindEq]

theorem land_mod (k : Nat) (m n : Nat) : ((BitVec.ofInt k (Int.ofNat m) &&& BitVec.ofInt k (Int.ofNat n)).toNat) = (Nat.land m n) % 2 ^ k := by
  have h : ∀ m : Nat, (BitVec.ofInt k (Int.ofNat m)).toNat = m % 2 ^ k := fun m => by simp
  rw [BitVec.toNat_and, h, h]
  exact (Nat.and_mod_two_pow).symm
theorem lor_mod (k : Nat) (m n : Nat) : ((BitVec.ofInt k (Int.ofNat m) ||| BitVec.ofInt k (Int.ofNat n)).toNat) = (Nat.lor m n) % 2 ^ k := by
  have h : ∀ m : Nat, (BitVec.ofInt k (Int.ofNat m)).toNat = m % 2 ^ k := fun m => by simp
  rw [BitVec.toNat_or, h, h]
  exact (Nat.or_mod_two_pow).symm
theorem xor_mod (k : Nat) (m n : Nat) : ((BitVec.ofInt k (Int.ofNat m) ^^^ BitVec.ofInt k (Int.ofNat n)).toNat) = (Nat.xor m n) % 2 ^ k := by
  have h : ∀ m : Nat, (BitVec.ofInt k (Int.ofNat m)).toNat = m % 2 ^ k := fun m => by simp
  rw [BitVec.toNat_xor, h, h]
  exact (Nat.xor_mod_two_pow).symm
theorem wrap_mod {k : IntKind} (hk : k.signed = false) (n : Nat) : k.wrap (Int.ofNat (n % 2 ^ k.bits)) = k.wrap (Int.ofNat n) := by
  cases k <;> simp [IntKind.signed] at hk <;> simp [IntKind.wrap, IntKind.bits, IntKind.signed]

/-- Numbers. -/
theorem arith_ok {op : BinOp} {k : IntKind} {a b : Int} {v : AV} (t : TypeId) (w : World) (h : arith op k a b = .ok v) (h1 : op ≠ .shl) (h2 : op ≠ .shr) :
    ∃ x, (Go.binOp op t (.int k a) (.int k b)).run P w = .ok x w ∧ ∀ p, Rep p v x := by
  cases op <;> simp only [arith] at h <;> try contradiction
  case add => rw [okInt_eq, wrapA_eq] at h; cases h; exact ⟨.int k (k.wrap (a + b)), by simp [Go.binOp, Op.intArith], fun p => rfl⟩
  case sub => rw [okInt_eq, wrapA_eq] at h; cases h; exact ⟨.int k (k.wrap (a - b)), by simp [Go.binOp, Op.intArith], fun p => rfl⟩
  case mul => rw [okInt_eq, wrapA_eq] at h; cases h; exact ⟨.int k (k.wrap (a * b)), by simp [Go.binOp, Op.intArith], fun p => rfl⟩
  case quo =>
    cases hb : beqInt b 0 with
    | true => rw [hb] at h; cases h
    | false =>
      rw [hb] at h; simp only [cond_false] at h
      rw [okInt_eq, wrapA_eq] at h; cases h
      rw [beqInt_eq, beq_eq_false_iff_ne] at hb
      exact ⟨.int k (k.wrap (a.tdiv b)), by simp [Go.binOp, Op.intDiv, hb], fun p => rfl⟩
  case rem =>
    cases hb : beqInt b 0 with
    | true => rw [hb] at h; cases h
    | false =>
      rw [hb] at h; simp only [cond_false] at h
      rw [okInt_eq] at h; cases h
      rw [beqInt_eq, beq_eq_false_iff_ne] at hb
      exact ⟨.int k (a.tmod b), by simp [Go.binOp, Op.intDiv, hb], fun p => rfl⟩
  case eql => cases h; exact ⟨.bool (a == b), by simp [Go.binOp, Op.intCmp], fun p => by rw [beqInt_eq]; rfl⟩
  case neq => cases h; exact ⟨.bool (a != b), by simp [Go.binOp, Op.intCmp], fun p => by rw [beqInt_eq]; rfl⟩
  case lss => cases h; exact ⟨.bool (a < b), by simp [Go.binOp, Op.intCmp], fun p => by rw [bltInt_eq]; rfl⟩
  case leq => cases h; exact ⟨.bool (a ≤ b), by simp [Go.binOp, Op.intCmp], fun p => by rw [bleInt_eq]; rfl⟩
  case gtr => cases h; exact ⟨.bool (a > b), by simp [Go.binOp, Op.intCmp], fun p => by rw [bltInt_eq]; rfl⟩
  case geq => cases h; exact ⟨.bool (a ≥ b), by simp [Go.binOp, Op.intCmp], fun p => by rw [bleInt_eq]; rfl⟩
  case and =>
    cases a with
    | negSucc m => simp at h
    | ofNat m => cases b with
      | negSucc n => simp at h
      | ofNat n =>
        have hk : k.signed = false := by cases k <;> first | rfl | (simp only [] at h; cases h)
        have h' : v = .int k (k.wrap (Int.ofNat (Nat.land m n))) := by
          cases k <;> first | (simp [IntKind.signed] at hk; done) | (simp only [] at h; rw [okInt_eq, wrapA_eq] at h; cases h; rfl) | (rw [okInt_eq, wrapA_eq] at h; cases h; rfl)
        subst h'
        refine ⟨_, by simp [Go.binOp, Op.intBits]; rfl, fun p => ?_⟩
        have := land_mod k.bits m n
        simp only [Int.ofNat_eq_natCast, BitVec.ofInt_natCast] at this
        simp only [Rep, BitVec.toNat_and, BitVec.toNat_ofNat] at this ⊢
        rw [this]
        exact congrArg _ (wrap_mod hk _)
  case or =>
    cases a with
    | negSucc m => simp at h
    | ofNat m => cases b with
      | negSucc n => simp at h
      | ofNat n =>
        have hk : k.signed = false := by cases k <;> first | rfl | (simp only [] at h; cases h)
        have h' : v = .int k (k.wrap (Int.ofNat (Nat.lor m n))) := by
          cases k <;> first | (simp [IntKind.signed] at hk; done) | (simp only [] at h; rw [okInt_eq, wrapA_eq] at h; cases h; rfl) | (rw [okInt_eq, wrapA_eq] at h; cases h; rfl)
        subst h'
        refine ⟨_, by simp [Go.binOp, Op.intBits]; rfl, fun p => ?_⟩
        have := lor_mod k.bits m n
        simp only [Int.ofNat_eq_natCast, BitVec.ofInt_natCast] at this
        simp only [Rep, BitVec.toNat_or, BitVec.toNat_ofNat] at this ⊢
        rw [this]
        exact congrArg _ (wrap_mod hk _)
  case xor =>
    cases a with
    | negSucc m => simp at h
    | ofNat m => cases b with
      | negSucc n => simp at h
      | ofNat n =>
        have hk : k.signed = false := by cases k <;> first | rfl | (simp only [] at h; cases h)
        have h' : v = .int k (k.wrap (Int.ofNat (Nat.xor m n))) := by
          cases k <;> first | (simp [IntKind.signed] at hk; done) | (simp only [] at h; rw [okInt_eq, wrapA_eq] at h; cases h; rfl) | (rw [okInt_eq, wrapA_eq] at h; cases h; rfl)
        subst h'
        refine ⟨_, by simp [Go.binOp, Op.intBits]; rfl, fun p => ?_⟩
        have := xor_mod k.bits m n
        simp only [Int.ofNat_eq_natCast, BitVec.ofInt_natCast] at this
        simp only [Rep, BitVec.toNat_xor, BitVec.toNat_ofNat] at this ⊢
        rw [this]
        exact congrArg _ (wrap_mod hk _)

end Go.AE
set_option linter.unusedSectionVars false
namespace Go.AE
variable {P : Program}

mutual
def flatK (P : Program) : Nat → TypeId → Option (List CK)
  | 0, _ => none
  | d + 1, t => match P.underlying t with
    | some (.int k) => some [.int k]
    | some .bool => some [.bool]
    | some .string => some [.str]
    | some (.array n e) => (match flatK P d e with
      | some ks => if (P.info? e).map (·.size) = some ks.length then some (repA ks n) else none
      | none => none)
    | some (.struct fs) => if P.stoodInHeld t then none else flatF P d fs.toList 0
    | _ => none
def flatF (P : Program) : Nat → List Field → Nat → Option (List CK)
  | _, [], _ => some []
  | 0, _ :: _, _ => none
  | d + 1, f :: fs, acc => if f.name ≠ "_" ∧ f.offset = acc then (match flatK P d f.type with
      | some ks => if (P.info? f.type).map (·.size) = some ks.length then (match flatF P (d + 1) fs (acc + ks.length) with
        | some r => some (ks ++ r)
        | none => none) else none
      | none => none) else none
end

def aggT (P : Program) (t : TypeId) : Bool := match P.underlying t with | some (.struct _) | some (.array _ _) => true | _ => false

/-- A value of a type, by its cells. -/
def RepAs (P : Program) (p : Pl) (t : TypeId) (cs : List AV) (v : Value) : Prop :=
  if aggT P t then ∃ xs, v = .agg xs ∧ Reps p cs xs.toList else ∃ a, cs = [a] ∧ Rep p a v

theorem kindsOk_split : ∀ {ks rs : List CK} {l : List AV}, kindsOk (ks ++ rs) l = true → kindsOk ks (l.take ks.length) = true ∧ kindsOk rs (l.drop ks.length) = true
  | [], _, _, h => by simpa [kindsOk] using h
  | k :: ks, rs, [], h => by simp [kindsOk] at h
  | k :: ks, rs, a :: l, h => by
    simp only [List.cons_append, kindsOk, Bool.and_eq_true] at h
    obtain ⟨h1, h2⟩ := kindsOk_split h.2
    simp only [List.length_cons, List.take_succ_cons, List.drop_succ_cons, kindsOk, Bool.and_eq_true]
    exact ⟨⟨h.1, h1⟩, h2⟩
theorem kindsOk_length : ∀ {ks : List CK} {l : List AV}, kindsOk ks l = true → l.length = ks.length
  | [], [], _ => rfl
  | [], _ :: _, h => by simp [kindsOk] at h
  | _ :: _, [], h => by simp [kindsOk] at h
  | _ :: ks, _ :: l, h => by simp only [kindsOk, Bool.and_eq_true] at h; simp [kindsOk_length h.2]
theorem eqCells_split : ∀ (n : Nat) {l m : List AV} {r : Bool}, eqCells l m = some r →
    ∃ a b, eqCells (l.take n) (m.take n) = some a ∧ eqCells (l.drop n) (m.drop n) = some b ∧ r = (a && b)
  | 0, l, m, r, h => ⟨true, r, by simp [eqCells], by simpa using h, by simp⟩
  | n + 1, [], [], r, h => by simp [eqCells] at h; subst h; exact ⟨true, true, by simp [eqCells], by simp [eqCells], rfl⟩
  | n + 1, [], _ :: _, r, h => by simp [eqCells] at h
  | n + 1, _ :: _, [], r, h => by simp [eqCells] at h
  | n + 1, x :: l, y :: m, r, h => by
    simp only [eqCells] at h
    split at h
    · rename_i e f he hf
      cases h
      obtain ⟨a, b, h1, h2, h3⟩ := eqCells_split n hf
      refine ⟨e && a, b, ?_, by simpa using h2, by rw [h3, Bool.and_assoc]⟩
      simp [eqCells, he, h1]
    · cases h

theorem Reps.take' {p : Pl} {l : List AV} {m : List Value} (h : Reps p l m) (n : Nat) : Reps p (l.take n) (m.take n) := by
  rw [Reps.iff] at h ⊢
  refine ⟨by simp [h.1], fun i a hi => ?_⟩
  rw [nthL_eq, List.getElem?_take] at hi
  split at hi
  · rename_i hlt
    obtain ⟨v, e, r⟩ := h.2 i a (by rw [nthL_eq]; exact hi)
    exact ⟨v, by rw [List.getElem?_take, if_pos hlt]; exact e, r⟩
  · cases hi
theorem Reps.drop' {p : Pl} {l : List AV} {m : List Value} (h : Reps p l m) (n : Nat) : Reps p (l.drop n) (m.drop n) := by
  have := Reps.drop (n := n) h
  rwa [dropL_eq] at this

theorem run_isAgg' {t : TypeId} {d : TypeDesc} (h : P.underlying t = some d) (w : World) : (isAgg t).run P w = .ok (aggT P t) w := by
  unfold isAgg aggT
  rw [Sem.run_bind, run_underlying h, Result.andThen_ok, h]
  cases d <;> rfl

theorem flatK_desc {d : Nat} {t : TypeId} {ks : List CK} (h : flatK P d t = some ks) : ∃ k, P.underlying t = some k := by
  cases d with
  | zero => simp [flatK] at h
  | succ d =>
    cases hu : P.underlying t with
    | none => simp [flatK, hu] at h
    | some k => exact ⟨k, rfl⟩

/-- A part of a value. -/
theorem part_flat {p : Pl} {t : TypeId} {d : Nat} {ks : List CK} (hk : flatK P d t = some ks) (hs : (P.info? t).map (·.size) = some ks.length)
    {cs : List AV} {xs : Array Value} (hr : Reps p cs xs.toList) (o : Nat) (hok : kindsOk ks ((cs.drop o).take ks.length) = true) (w : World) :
    ∃ v, (part t xs o).run P w = .ok v w ∧ RepAs P p t ((cs.drop o).take ks.length) v := by
  obtain ⟨k, hu⟩ := flatK_desc hk
  obtain ⟨i, hi, hsz⟩ := Option.map_eq_some_iff.1 hs
  have hsize : (sizeOf t).run P w = .ok ks.length w := by
    rw [run_sizeOf w hi]
    simp [Program.cellsOf, hi, hsz]
  unfold part RepAs
  rw [Sem.run_bind, run_isAgg' hu, Result.andThen_ok]
  cases ha : aggT P t with
  | true =>
    simp only [if_true]
    rw [Sem.run_bind, hsize, Result.andThen_ok]
    refine ⟨_, rfl, _, rfl, ?_⟩
    rw [Array.toList_extract]
    simp only [List.extract]
    rw [show o + ks.length - o = ks.length from by omega]
    exact (hr.drop' o).take' _
  | false =>
    have hone : ∃ c, ks = [c] := by
      cases d with
      | zero => simp [flatK] at hk
      | succ d =>
        simp only [flatK, hu] at hk
        simp only [aggT, hu] at ha
        cases k <;> simp_all
        all_goals exact ⟨_, hk.symm⟩
    obtain ⟨c, rfl⟩ := hone
    simp only [Bool.false_eq_true, if_false]
    have hl := kindsOk_length hok
    cases hc : cs.drop o with
    | nil => rw [hc] at hl; simp at hl
    | cons a rest =>
      have hd := hr.drop' o
      rw [hc] at hd
      obtain ⟨v, vs, e, r, _⟩ := hd
      have hx : xs[o]? = some v := by
        have : (xs.toList.drop o)[0]? = some v := by rw [e]; rfl
        rw [List.getElem?_drop] at this
        simpa using this
      rw [hx]
      exact ⟨v, rfl, a, by simp, r⟩

def FlatEqAt (P : Program) (D : Nat) (t : TypeId) (ks : List CK) : Prop :=
  ∀ (p : Pl) (w : World) (cx cy : List AV) (x y : Value) (r : Bool), RepAs P p t cx x → RepAs P p t cy y → kindsOk ks cx = true → kindsOk ks cy = true → eqCells cx cy = some r →
    (Op.equalIn D t x y).run P w = .ok r w
def FlatKeyAt (P : Program) (D : Nat) (t : TypeId) (ks : List CK) : Prop :=
  ∀ (p : Pl) (w : World) (cx : List AV) (x : Value) (em : Bool), RepAs P p t cx x → kindsOk ks cx = true → (Instr.checkKey em D t x).run P w = .ok () w

theorem repA_length {α : Type} (l : List α) : ∀ n, (repA l n).length = n * l.length
  | 0 => by simp [repA]
  | n + 1 => by simp [repA, repA_length l n, Nat.succ_mul, Nat.add_comm]

theorem items_eq {d D : Nat} {e : TypeId} {ks : List CK} (hk : flatK P d e = some ks) (hs : (P.info? e).map (·.size) = some ks.length) (IH : FlatEqAt P D e ks)
    {p : Pl} {cx cy : List AV} {xs ys : Array Value} (hx : Reps p cx xs.toList) (hy : Reps p cy ys.toList) (w : World) : ∀ (m i : Nat) (r : Bool),
    kindsOk (repA ks m) (cx.drop (i * ks.length)) = true → kindsOk (repA ks m) (cy.drop (i * ks.length)) = true → eqCells (cx.drop (i * ks.length)) (cy.drop (i * ks.length)) = some r →
    (Op.eqItems D e ks.length xs ys (List.range' i m)).run P w = .ok r w
  | 0, i, r, h1, h2, h3 => by
    have e1 := kindsOk_length h1
    have e2 := kindsOk_length h2
    simp only [repA, List.length_nil, List.length_eq_zero_iff] at e1 e2
    rw [e1, e2] at h3
    simp [eqCells] at h3
    subst h3
    simp [Op.eqItems]
  | m + 1, i, r, h1, h2, h3 => by
    simp only [repA] at h1 h2
    obtain ⟨k1, k2⟩ := kindsOk_split h1
    obtain ⟨l1, l2⟩ := kindsOk_split h2
    obtain ⟨a, b, q1, q2, rfl⟩ := eqCells_split ks.length h3
    obtain ⟨v, pv, rv⟩ := part_flat hk hs hx (i * ks.length) k1 w
    obtain ⟨u, pu, ru⟩ := part_flat hk hs hy (i * ks.length) l1 w
    have hq := IH p w _ _ v u a rv ru k1 l1 q1
    simp only [List.drop_drop] at k2 l2 q2
    rw [show i * ks.length + ks.length = (i + 1) * ks.length from by rw [Nat.succ_mul]] at k2 l2 q2
    have ih := items_eq hk hs IH hx hy w m (i + 1) b k2 l2 q2
    simp only [List.range'_succ, Op.eqItems, Sem.run_bind, pv, pu, hq, Result.andThen_ok]
    cases a
    · simp
    · simpa using ih

theorem fields_eq {D : Nat} {p : Pl} {cx cy : List AV} {xs ys : Array Value} (hx : Reps p cx xs.toList) (hy : Reps p cy ys.toList) (w : World) : ∀ (d : Nat) (fs : List Field) (acc : Nat) (ks : List CK) (r : Bool),
    (∀ d' t ks', d' < d → flatK P d' t = some ks' → FlatEqAt P D t ks') → flatF P d fs acc = some ks →
    kindsOk ks (cx.drop acc) = true → kindsOk ks (cy.drop acc) = true → eqCells (cx.drop acc) (cy.drop acc) = some r →
    (Op.eqFields D xs ys fs).run P w = .ok r w
  | d, [], acc, ks, r, IH, hf, h1, h2, h3 => by
    have : ks = [] := by cases d <;> simp [flatF] at hf <;> exact hf
    subst this
    have e1 := kindsOk_length h1
    have e2 := kindsOk_length h2
    simp only [List.length_nil, List.length_eq_zero_iff] at e1 e2
    rw [e1, e2] at h3
    simp [eqCells] at h3
    subst h3
    simp [Op.eqFields]
  | 0, _ :: _, acc, ks, r, IH, hf, h1, h2, h3 => by simp [flatF] at hf
  | d + 1, f :: fs, acc, ks, r, IH, hf, h1, h2, h3 => by
    simp only [flatF] at hf
    split at hf
    · rename_i hname
      split at hf
      · rename_i k0 hk0
        split at hf
        · rename_i hs
          split at hf
          · rename_i rest hrest
            cases hf
            obtain ⟨k1, k2⟩ := kindsOk_split h1
            obtain ⟨l1, l2⟩ := kindsOk_split h2
            obtain ⟨a, b, q1, q2, rfl⟩ := eqCells_split k0.length h3
            obtain ⟨v, pv, rv⟩ := part_flat hk0 hs hx acc k1 w
            obtain ⟨u, pu, ru⟩ := part_flat hk0 hs hy acc l1 w
            have hq := IH d f.type k0 (Nat.lt_succ_self _) hk0 p w _ _ v u a rv ru k1 l1 q1
            simp only [List.drop_drop] at k2 l2 q2
            have ih := fields_eq hx hy w (d + 1) fs (acc + k0.length) rest b IH hrest k2 l2 q2
            rw [Op.eqFields, if_pos hname.1, hname.2]
            simp only [Sem.run_bind, pv, pu, hq, Result.andThen_ok]
            cases a
            · simp
            · simpa using ih
          · cases hf
        · cases hf
      · cases hf
    · cases hf

theorem fieldsOf_eq {t : TypeId} {fs : Array Field} (h : P.underlying t = some (.struct fs)) : P.fieldsOf t = fs := by simp [Program.fieldsOf, h]

theorem flat_eq : ∀ (D d : Nat) (t : TypeId) (ks : List CK), d ≤ D → flatK P d t = some ks → FlatEqAt P D t ks
  | D, 0, t, ks, _, hk => by simp [flatK] at hk
  | 0, d + 1, t, ks, h, _ => by omega
  | D + 1, d + 1, t, ks, hle, hk => by
    intro p w cx cy x y r rx ry kx ky hr
    simp only [flatK] at hk
    split at hk
    · rename_i k hu
      cases hk
      have ha : aggT P t = false := by simp [aggT, hu]
      simp only [RepAs, ha, Bool.false_eq_true, if_false] at rx ry
      obtain ⟨a, rfl, rx⟩ := rx
      obtain ⟨b, rfl, ry⟩ := ry
      cases a <;> simp [kindsOk, ckOk] at kx
      cases b <;> simp [kindsOk, ckOk] at ky
      rename_i k1 n1 k2 n2
      rw [kindEq_iff] at kx ky
      subst kx; subst ky
      rw [show x = _ from rx, show y = _ from ry]
      simp [eqCells, eqCell, kindEq, beqInt_eq] at hr
      subst hr
      rw [run_equalIn_int w D t _ _ _ _ hu]
    · rename_i hu
      cases hk
      have ha : aggT P t = false := by simp [aggT, hu]
      simp only [RepAs, ha, Bool.false_eq_true, if_false] at rx ry
      obtain ⟨a, rfl, rx⟩ := rx
      obtain ⟨b, rfl, ry⟩ := ry
      cases a <;> simp [kindsOk, ckOk] at kx
      cases b <;> simp [kindsOk, ckOk] at ky
      rw [show x = _ from rx, show y = _ from ry]
      simp [eqCells, eqCell] at hr
      subst hr
      rw [run_equalIn_bool' w D t _ _ hu]
    · rename_i hu
      cases hk
      have ha : aggT P t = false := by simp [aggT, hu]
      simp only [RepAs, ha, Bool.false_eq_true, if_false] at rx ry
      obtain ⟨a, rfl, rx⟩ := rx
      obtain ⟨b, rfl, ry⟩ := ry
      cases a <;> simp [kindsOk, ckOk] at kx
      cases b <;> simp [kindsOk, ckOk] at ky
      obtain ⟨s, rfl, rfl⟩ := rx
      obtain ⟨s', rfl, rfl⟩ := ry
      simp only [eqCells, eqCell, Bool.and_true, Option.some.injEq] at hr
      subst hr
      rw [run_equalIn_string w D t _ _ hu, str_eq]
    · rename_i n e hu
      have ha : aggT P t = true := by simp [aggT, hu]
      simp only [RepAs, ha, if_true] at rx ry
      obtain ⟨xs, rfl, rx⟩ := rx
      obtain ⟨ys, rfl, ry⟩ := ry
      split at hk
      · rename_i k0 hk0
        split at hk
        · rename_i hs
          cases hk
          obtain ⟨i, hi, hsz⟩ := Option.map_eq_some_iff.1 hs
          have hc : P.cellsOf e = k0.length := by simp [Program.cellsOf, hi, hsz]
          rw [run_equalIn_array w D xs ys hu hi, hc, List.range_eq_range']
          exact items_eq hk0 hs (flat_eq D d e k0 (by omega) hk0) rx ry w n 0 r (by simpa using kx) (by simpa using ky) (by simpa using hr)
        · cases hk
      · cases hk
    · rename_i fs hu
      have ha : aggT P t = true := by simp [aggT, hu]
      simp only [RepAs, ha, if_true] at rx ry
      obtain ⟨xs, rfl, rx⟩ := rx
      obtain ⟨ys, rfl, ry⟩ := ry
      split at hk
      · cases hk
      · rename_i hst
        rw [run_equalIn_agg w D t xs ys (by rw [fieldsOf_eq hu]; exact hu) (by simpa using hst), fieldsOf_eq hu]
        exact fields_eq rx ry w d fs.toList 0 ks r (fun d' t' ks' hlt h' => flat_eq D d' t' ks' (by omega) h') hk (by simpa using kx) (by simpa using ky) (by simpa using hr)
    · cases hk

end Go.AE
set_option linter.unusedSectionVars false
namespace Go.AE
variable {P : Program}

theorem flat_key : ∀ (D d : Nat) (t : TypeId) (ks : List CK), d ≤ D → flatK P d t = some ks → FlatKeyAt P D t ks
  | D, 0, t, ks, _, hk => by simp [flatK] at hk
  | 0, d + 1, t, ks, h, _ => by omega
  | D + 1, d + 1, t, ks, hle, hk => by
    intro p w cx x em rx kx
    simp only [flatK] at hk
    split at hk
    · rename_i k hu
      cases hk
      have ha : aggT P t = false := by simp [aggT, hu]
      simp only [RepAs, ha, Bool.false_eq_true, if_false] at rx
      obtain ⟨a, rfl, rx⟩ := rx
      cases a <;> simp [kindsOk, ckOk] at kx
      rw [show x = _ from rx]
      simp [Instr.checkKey, run_underlying hu]
    · rename_i hu
      cases hk
      have ha : aggT P t = false := by simp [aggT, hu]
      simp only [RepAs, ha, Bool.false_eq_true, if_false] at rx
      obtain ⟨a, rfl, rx⟩ := rx
      cases a <;> simp [kindsOk, ckOk] at kx
      rw [show x = _ from rx]
      simp [Instr.checkKey, run_underlying hu]
    · rename_i hu
      cases hk
      have ha : aggT P t = false := by simp [aggT, hu]
      simp only [RepAs, ha, Bool.false_eq_true, if_false] at rx
      obtain ⟨a, rfl, rx⟩ := rx
      cases a <;> simp [kindsOk, ckOk] at kx
      obtain ⟨s, rfl, rfl⟩ := rx
      simp [Instr.checkKey, run_underlying hu]
    · rename_i n e hu
      have ha : aggT P t = true := by simp [aggT, hu]
      simp only [RepAs, ha, if_true] at rx
      obtain ⟨xs, rfl, rx⟩ := rx
      split at hk
      · rename_i k0 hk0
        split at hk
        · rename_i hs
          cases hk
          obtain ⟨i, hi, hsz⟩ := Option.map_eq_some_iff.1 hs
          have hc : P.cellsOf e = k0.length := by simp [Program.cellsOf, hi, hsz]
          have IH := flat_key D d e k0 (by omega) hk0
          rw [Instr.checkKey]
          simp only [Sem.run_bind, run_underlying hu, Result.andThen_ok]
          simp only [Std.Legacy.Range.forIn_eq_forIn_range', Std.Legacy.Range.size, Nat.sub_zero, Nat.add_one_sub_one, Nat.div_one]
          have key : ∀ (m i : Nat), kindsOk (repA k0 m) (cx.drop (i * k0.length)) = true →
              (forIn (List.range' i m) PUnit.unit (fun j (_ : PUnit) => (do
                Instr.checkKey em D e (← part e xs (j * (← sizeOf e)))
                pure (ForInStep.yield PUnit.unit) : Sem (ForInStep PUnit)))).run P w = .ok PUnit.unit w := by
            intro m
            induction m with
            | zero => intro i _; simp
            | succ m ih =>
              intro i h1
              simp only [repA] at h1
              obtain ⟨k1, k2⟩ := kindsOk_split h1
              obtain ⟨v, pv, rv⟩ := part_flat hk0 hs rx (i * k0.length) k1 w
              have hq := IH p w _ v em rv k1
              simp only [List.drop_drop] at k2
              rw [show i * k0.length + k0.length = (i + 1) * k0.length from by rw [Nat.succ_mul]] at k2
              have ih' := ih (i + 1) k2
              simp only [List.range'_succ, List.forIn_cons, Sem.run_bind, run_sizeOf w hi, hc, pv, hq, Result.andThen_ok, Sem.run_pure]
              exact ih'
          exact (congrArg (fun r => Result.andThen r fun _ w' => Sem.run P (pure ()) w') (key n 0 (by simpa using kx))).trans (by simp)
        · cases hk
      · cases hk
    · rename_i fs hu
      have ha : aggT P t = true := by simp [aggT, hu]
      simp only [RepAs, ha, if_true] at rx
      obtain ⟨xs, rfl, rx⟩ := rx
      split at hk
      · cases hk
      · rename_i hst
        rw [Instr.checkKey]
        simp only [Sem.run_bind, run_underlying hu, Result.andThen_ok]
        rw [← Array.forIn_toList]
        have key : ∀ (L : List Field) (d' acc : Nat) (k0 : List CK), d' ≤ d → flatF P d' L acc = some k0 → kindsOk k0 (cx.drop acc) = true →
            (forIn L PUnit.unit (fun f (_ : PUnit) => (do
                if f.name ≠ "_" then Instr.checkKey em D f.type (← part f.type xs f.offset)
                pure (ForInStep.yield PUnit.unit) : Sem (ForInStep PUnit)))).run P w = .ok PUnit.unit w := by
          intro L
          induction L with
          | nil => intro d' acc k0 _ _ _; simp
          | cons f L ih =>
            intro d' acc k0 hd hf h1
            cases d' with
            | zero => simp [flatF] at hf
            | succ d' =>
              simp only [flatF] at hf
              split at hf
              · rename_i hname
                split at hf
                · rename_i kf hkf
                  split at hf
                  · rename_i hs
                    split at hf
                    · rename_i rest hrest
                      cases hf
                      obtain ⟨k1, k2⟩ := kindsOk_split h1
                      obtain ⟨v, pv, rv⟩ := part_flat hkf hs rx acc k1 w
                      have hq := flat_key D d' f.type kf (by omega) hkf p w _ v em rv k1
                      simp only [List.drop_drop] at k2
                      have ih' := ih (d' + 1) (acc + kf.length) rest hd hrest k2
                      simp only [List.forIn_cons, Sem.run_bind, if_pos hname.1, hname.2, pv, hq, Result.andThen_ok, Sem.run_pure]
                      simpa [hname.1, hname.2] using ih'
                    · cases hf
                  · cases hf
                · cases hf
              · cases hf
        exact (congrArg (fun r => Result.andThen r fun _ w' => Sem.run P (pure ()) w') (key fs.toList d 0 ks (Nat.le_refl _) hk (by simpa using kx))).trans (by simp)
    · cases hk
end Go.AE
set_option linter.unusedSectionVars false
namespace Go.AE

def UDOk (P : Program) (t : TypeId) : UD → Prop
  | .int k => P.underlying t = some (.int k)
  | .bool => P.underlying t = some .bool
  | .str => P.underlying t = some .string
  | .ptr e => P.underlying t = some (.pointer e)
  | .slice e => P.underlying t = some (.slice e)
  | .arr n e => P.underlying t = some (.array n e)
  | .struct fs => ∃ (fields : Array Field) (places : List (Nat × Nat)), P.underlying t = some (.struct fields) ∧ fields.toList.map (fun f => (f.offset, f.type)) = fs ∧
      fields.toList.mapM (fun f => (P.info? f.type).map fun i => (f.offset, i.size)) = some places
  | .map k e => P.underlying t = some (.map k e)
  | .func => ∃ a b c, P.underlying t = some (.func a b c)
  | .iface => ∃ ms, P.underlying t = some (.interface ms)
  | .other => (∃ d, P.underlying t = some d ∧ ∀ ms, d ≠ .interface ms) ∧ aggT P t = false

structure TIOk (P : Program) (t : TypeId) (ti : TI) : Prop where
  info : ∃ i, P.info? t = some i ∧ i.size = ti.size ∧ i.bytes = ti.bytes ∧ (ti.cmp = true → i.comparable = true) ∧
    (∀ z, ti.zero = some z → z.length = ti.size ∧ ∃ v, i.zero = some v ∧ if ti.agg = true then ∃ xs : Array Value, v = .agg xs ∧ ofVs xs.toList = some z else ∃ a, z = [a] ∧ ofV1 v = some a)
  und : UDOk P t ti.und
  flat : ∀ ks, ti.kinds = some ks → (∃ d, d ≤ 9000 ∧ flatK P d t = some ks) ∧ P.eqGuardType P.depth t = false
  meths : ∀ name nm f, ti.meths.find? (·.1 == name) = some (nm, f) → ∀ v w, (method (P.types.size + Made.depth) t v name).run P w = .ok (f, v) w

variable [Syms]

structure EnvOk (P : Program) (E : Env) : Prop where
  fn : ∀ f fn, E.fn.get f = some fn → P.funcs[f]? = some fn ∧ fn.name ≠ "runtime.NumGoroutine"
  ty : ∀ t ti, E.ty.get t = some ti → TIOk P t ti
  ext : ∀ f, E.ext.get f = some .indexByteString → ∀ (s : ByteArray) (c : Nat) (w : World), c < 256 → (callFunc f #[.string s, .int .u8 (Int.ofNat c)]).run P w = .ok (.value (.int .i64 (indexByteL c (s.data.toList.map UInt8.toNat) 0))) w
  mixed : P.follows .mixedOrders = true
  symEq : ∀ i j r, E.symEq i j = some r → (Syms.val i == Syms.val j) = r
  symC : ∀ i n r, E.symC i n = some r → (Int.ofNat (Syms.val i) == n) = r

variable {P : Program} {E : Env}

theorem TIOk.desc {t : TypeId} {ti : TI} (h : TIOk P t ti) : ∃ d, P.underlying t = some d := by
  have := h.und
  cases hu : ti.und <;> rw [hu] at this <;> simp only [UDOk] at this
  case struct fs => obtain ⟨f, pl, h1, _⟩ := this; exact ⟨_, h1⟩
  case func => obtain ⟨a, b, c, h1⟩ := this; exact ⟨_, h1⟩
  case iface => obtain ⟨a, h1⟩ := this; exact ⟨_, h1⟩
  case other => obtain ⟨⟨d, h1, _⟩, _⟩ := this; exact ⟨d, h1⟩
  all_goals exact ⟨_, this⟩

theorem TIOk.notIface {t : TypeId} {ti : TI} (h : TIOk P t ti) (hn : ti.und ≠ .iface) : ∃ d, P.underlying t = some d ∧ ∀ ms, d ≠ .interface ms := by
  have := h.und
  cases hu : ti.und <;> rw [hu] at this <;> simp only [UDOk] at this
  case struct fs => obtain ⟨f, pl, h1, _⟩ := this; exact ⟨_, h1, by simp⟩
  case func => obtain ⟨a, b, c, h1⟩ := this; exact ⟨_, h1, by simp⟩
  case iface => exact absurd hu hn
  case other => exact this.1
  all_goals exact ⟨_, this, by simp⟩

theorem TIOk.agg {t : TypeId} {ti : TI} (h : TIOk P t ti) : ti.agg = aggT P t := by
  have := h.und
  unfold TI.agg aggT
  cases hu : ti.und <;> rw [hu] at this <;> simp only [UDOk] at this
  case struct fs => obtain ⟨f, pl, h1, _⟩ := this; rw [h1]
  case func => obtain ⟨a, b, c, h1⟩ := this; rw [h1]
  case iface => obtain ⟨a, h1⟩ := this; rw [h1]
  case other => have := this.2; unfold aggT at this; rw [this]
  all_goals rw [this]

theorem TIOk.runAgg {t : TypeId} {ti : TI} (h : TIOk P t ti) (w : World) : (isAgg t).run P w = .ok ti.agg w := by
  obtain ⟨d, hd⟩ := h.desc
  rw [run_isAgg' hd, h.agg]

theorem TIOk.runSize {t : TypeId} {ti : TI} (h : TIOk P t ti) (w : World) : (sizeOf t).run P w = .ok ti.size w := by
  obtain ⟨i, hi, hs, _⟩ := h.info
  rw [run_sizeOf w hi]
  simp [Program.cellsOf, hi, hs]

theorem TIOk.runInfo {t : TypeId} {ti : TI} (h : TIOk P t ti) (w : World) : ∃ i, P.info? t = some i ∧ (typeInfo t).run P w = .ok i w ∧ i.bytes = ti.bytes := by
  obtain ⟨i, hi, _, hb, _⟩ := h.info
  exact ⟨i, hi, run_typeInfo w hi, hb⟩

theorem ofV1_rep {v : Value} {a : AV} (h : ofV1 v = some a) (p : Pl) : Rep p a v := by
  unfold ofV1 at h
  split at h <;> cases h
  all_goals first
    | rfl
    | exact ⟨_, rfl, rfl⟩

theorem ofVs_rep (p : Pl) : ∀ {l : List Value} {m : List AV}, ofVs l = some m → Reps p m l
  | [], m, h => by simp [ofVs] at h; subst h; rfl
  | v :: l, m, h => by
    simp only [ofVs] at h
    split at h
    · rename_i a m' h1 h2
      cases h
      exact ⟨v, l, rfl, ofV1_rep h1 p, ofVs_rep p h2⟩
    · cases h

theorem TIOk.zeroLen {t : TypeId} {ti : TI} (h : TIOk P t ti) {z : List AV} (hz : ti.zero = some z) : z.length = ti.size := by
  obtain ⟨i, _, _, _, _, hzz⟩ := h.info
  exact (hzz z hz).1

theorem TIOk.runZero {t : TypeId} {ti : TI} (h : TIOk P t ti) {z : List AV} (hz : ti.zero = some z) (p : Pl) (w : World) :
    ∃ v, (zeroValue t).run P w = .ok v w ∧ Reps p z v.cells.toList ∧ (if ti.agg = true then Rep p (.agg z) v else ∃ a, z = [a] ∧ Rep p a v ∧ a.cells = [a]) := by
  obtain ⟨i, hi, _, _, _, hzz⟩ := h.info
  obtain ⟨_, v, hv, hif⟩ := hzz z hz
  refine ⟨v, ?_, ?_⟩
  · unfold zeroValue
    rw [Sem.run_bind, run_typeInfo w hi, Result.andThen_ok, hv]
    rfl
  · split at hif
    · rename_i ha
      obtain ⟨xs, rfl, hx⟩ := hif
      rw [if_pos ha]
      exact ⟨ofVs_rep p hx, xs, rfl, ofVs_rep p hx⟩
    · rename_i ha
      obtain ⟨a, rfl, hx⟩ := hif
      rw [if_neg ha]
      have hr := ofV1_rep hx p
      have hc : v.cells.toList = [v] := by
        unfold ofV1 at hx
        split at hx <;> first | rfl | cases hx
      have hac : a.cells = [a] := by
        unfold ofV1 at hx
        split at hx <;> cases hx <;> rfl
      rw [hc]
      exact ⟨⟨v, [], rfl, hr, rfl⟩, a, rfl, hr, hac⟩

theorem ofV_rep {v : Value} {a : AV} (h : ofV v = some a) (p : Pl) : Rep p a v := by
  cases v with
  | agg cs =>
    simp only [ofV] at h
    cases hl : ofVs cs.toList with
    | none => simp [hl] at h
    | some l => simp only [hl, Option.some.injEq] at h; subst h; exact ⟨cs, rfl, ofVs_rep p hl⟩
  | tuple cs =>
    simp only [ofV] at h
    cases hl : ofVs cs.toList with
    | none => simp [hl] at h
    | some l => simp only [hl, Option.some.injEq] at h; subst h; exact ⟨cs, rfl, ofVs_rep p hl⟩
  | func fn fi ca =>
    cases fn with
    | func f =>
      simp only [ofV] at h
      split at h
      · rename_i h1 h2
        cases h
        exact ⟨_, fi, ca, rfl, rfl, h1, h2⟩
      · cases h
    | _ => simp [ofV, ofV1] at h
  | _ => first | exact ofV1_rep (v := _) (a := a) (by simpa only [ofV] using h) p

/-! ### Operands -/

theorem evX_ok {p : Pl} {nt : Nat} {tm : T AV} {a : Act} (ht : TmRep p nt tm a.tmps) {x : Operand} {v : AV} (h : evX tm x = .ok v) : Rep p v (a.eval x) := by
  cases x with
  | tmp t => cases h; exact ht.rep t
  | const c =>
    simp only [evX] at h
    split at h
    · cases h; rename_i hc; exact ofV_rep hc p
    · cases h
  | global g =>
    simp only [evX] at h
    cases hb : Nat.blt g 1000 with
    | true => rw [hb] at h; cases h; rw [Nat.blt_eq] at hb; exact .inr ⟨hb, rfl⟩
    | false => rw [hb] at h; cases h
  | func f => cases h; exact ⟨_, #[], #[], rfl, rfl, rfl, rfl⟩

theorem evXs_ok {p : Pl} {nt : Nat} {tm : T AV} {a : Act} (ht : TmRep p nt tm a.tmps) : ∀ {l : List Operand} {m : List AV}, evXs tm l = .ok m → Reps p m (l.map a.eval)
  | [], m, h => by cases h; rfl
  | x :: l, m, h => by
    simp only [evXs] at h
    split at h
    · rename_i v hv
      split at h
      · rename_i m' hm
        cases h
        exact ⟨_, _, rfl, evX_ok ht hv, evXs_ok ht hm⟩
      · cases h
    · cases h

theorem evOpt_ok {p : Pl} {nt : Nat} {tm : T AV} {a : Act} (ht : TmRep p nt tm a.tmps) {x : Option Operand} {v : Option AV} (h : evOpt tm x = .ok v) :
    match v with
    | none => x.map a.eval = none
    | some v => ∃ y, x.map a.eval = some y ∧ Rep p v y := by
  cases x with
  | none => cases h; rfl
  | some x =>
    simp only [evOpt] at h
    split at h
    · rename_i v' hv; cases h; exact ⟨_, rfl, evX_ok ht hv⟩
    · cases h

/-! ### Comparisons -/

theorem flatEq_ok {t : TypeId} {ti : TI} (h : TIOk P t ti) {x y : AV} {r : Bool} (hf : flatEq ti x y = some r) {p : Pl} {vx vy : Value} (hx : Rep p x vx) (hy : Rep p y vy) (w : World) {D : Nat} (hD : 9000 ≤ D) :
    (Op.equalIn D t vx vy).run P w = .ok r w ∧ P.eqGuardType P.depth t = false ∧ ∃ ks, kindsOk ks x.cells = true ∧ kindsOk ks y.cells = true ∧ eqCells x.cells y.cells = some r ∧ RepAs P p t x.cells vx ∧ ti.kinds = some ks := by
  unfold flatEq at hf
  split at hf
  · cases hf
  · rename_i ks hks
    obtain ⟨⟨d, hd, hk⟩, hg⟩ := h.flat ks hks
    split at hf
    · rename_i a b
      cases hc : (ti.agg && kindsOk ks a && kindsOk ks b) with
      | false => rw [hc] at hf; cases hf
      | true =>
        rw [hc] at hf
        simp only [Bool.and_eq_true] at hc
        obtain ⟨⟨h1, h2⟩, h3⟩ := hc
        have ha : aggT P t = true := by rw [← h.agg]; exact h1
        have rx : RepAs P p t a vx := by unfold RepAs; rw [if_pos ha]; exact hx
        have ry : RepAs P p t b vy := by unfold RepAs; rw [if_pos ha]; exact hy
        exact ⟨flat_eq D d t ks (by omega) hk p w a b vx vy r rx ry h2 h3 hf, hg, ks, h2, h3, hf, rx, hks⟩
    · rename_i x' y' _
      cases hc : (!ti.agg && kindsOk ks [x] && kindsOk ks [y]) with
      | false => rw [hc] at hf; cases hf
      | true =>
        rw [hc] at hf
        simp only [Bool.and_eq_true, Bool.not_eq_true'] at hc
        obtain ⟨⟨h1, h2⟩, h3⟩ := hc
        have ha : aggT P t = false := by rw [← h.agg]; exact h1
        have rx : RepAs P p t [x] vx := by unfold RepAs; rw [if_neg (by simp [ha])]; exact ⟨x, rfl, hx⟩
        have ry : RepAs P p t [y] vy := by unfold RepAs; rw [if_neg (by simp [ha])]; exact ⟨y, rfl, hy⟩
        have cx : x.cells = [x] := by
          cases x <;> first | rfl | (exfalso; cases ks with
            | nil => simp [kindsOk] at h2
            | cons k ks => cases k <;> simp [kindsOk, ckOk] at h2)
        have cy : y.cells = [y] := by
          cases y <;> first | rfl | (exfalso; cases ks with
            | nil => simp [kindsOk] at h3
            | cons k ks => cases k <;> simp [kindsOk, ckOk] at h3)
        rw [cx, cy]
        exact ⟨flat_eq D d t ks (by omega) hk p w [x] [y] vx vy r rx ry h2 h3 hf, hg, ks, h2, h3, hf, rx, hks⟩

end Go.AE
