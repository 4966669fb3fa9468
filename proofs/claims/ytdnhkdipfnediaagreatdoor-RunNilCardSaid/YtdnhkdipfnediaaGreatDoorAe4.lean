/- The evaluator's operators are the model's. No condition: lemmas. -/
import Derived.Test.YtdnhkdipfnediaaGreatDoorAe3
set_option linter.unusedSectionVars false
namespace Go.AE
variable [Syms]
variable {P : Program} {E : Env}

theorem guard_int (op : BinOp) (t : TypeId) (ox oy : Operand) (k k' : IntKind) (a b : Int) (w : World) : (eqGuard op t ox oy (.int k a) (.int k' b)).run P w = .ok () w := by
  cases op <;> simp [eqGuard]

set_option maxHeartbeats 2000000 in
theorem eqOther_ok (hE : EnvOk P E) {t : TypeId} {ti : TI} (hti : E.ty.get t = some ti) {x y : AV} {r : Bool} (h : eqOther E ti x y = some r) {p : Pl} {vx vy : Value} (hx : Rep p x vx) (hy : Rep p y vy) (ox oy : Operand) (w : World) (op : BinOp) {D : Nat} (hD : 9000 ≤ D) :
    (eqGuard op t ox oy vx vy).run P w = .ok () w ∧ (Op.equalIn (D + 1) t vx vy).run P w = .ok r w ∧ (∀ k n k' n', ¬ (vx = .int k n ∧ vy = .int k' n')) ∧
      (Go.binOp .eql t vx vy = (do pure (.bool (← Op.equal t vx vy)))) ∧ (Go.binOp .neq t vx vy = (do pure (.bool (!(← Op.equal t vx vy))))) := by
  have ht := hE.ty t ti hti
  have hu := ht.und
  unfold eqOther at h
  split at h
  case h_1 a b e1 =>
    rw [e1] at hu; cases h
    rw [show vx = _ from hx, show vy = _ from hy]
    refine ⟨by cases op <;> simp [eqGuard], ?_, by simp, by simp [Go.binOp], by simp [Go.binOp]⟩
    simp [Op.equalIn, run_underlying hu]
  case h_2 e1 =>
    rw [e1] at hu; cases h
    rw [show vx = _ from hx, show vy = _ from hy]
    refine ⟨by cases op <;> simp [eqGuard], ?_, by simp, by simp [Go.binOp], by simp [Go.binOp]⟩
    simp [Op.equalIn, run_underlying hu]
  case h_3 e1 =>
    rw [e1] at hu; cases h
    rw [show vx = _ from hx]
    rcases hy with ⟨b, s, _, rfl⟩ | ⟨_, rfl⟩
    all_goals
      refine ⟨by cases op <;> simp [eqGuard], ?_, by simp, by simp [Go.binOp], by simp [Go.binOp]⟩
      simp [Op.equalIn, run_underlying hu]
  case h_4 e1 =>
    rw [e1] at hu; cases h
    rw [show vy = _ from hy]
    rcases hx with ⟨b, s, _, rfl⟩ | ⟨_, rfl⟩
    all_goals
      refine ⟨by cases op <;> simp [eqGuard], ?_, by simp, by simp [Go.binOp], by simp [Go.binOp]⟩
      simp [Op.equalIn, run_underlying hu]
  case h_5 e1 =>
    rw [e1] at hu; cases h
    rw [show vx = _ from hx, show vy = _ from hy]
    refine ⟨by cases op <;> simp [eqGuard], ?_, by simp, by simp [Go.binOp], by simp [Go.binOp]⟩
    simp [Op.equalIn, run_underlying hu]
  case h_6 n o len c e1 =>
    rw [e1] at hu; cases h
    rw [show vx = _ from hx]
    cases c with
    | exact c =>
      obtain ⟨b, s, _, rfl⟩ := hy
      refine ⟨by cases op <;> simp [eqGuard], ?_, by simp, by simp [Go.binOp], by simp [Go.binOp]⟩
      simp [Op.equalIn, run_underlying hu]
    | more c =>
      obtain ⟨b, s, c', _, rfl, _⟩ := hy
      refine ⟨by cases op <;> simp [eqGuard], ?_, by simp, by simp [Go.binOp], by simp [Go.binOp]⟩
      simp [Op.equalIn, run_underlying hu]
  case h_7 n o len c e1 =>
    rw [e1] at hu; cases h
    rw [show vy = _ from hy]
    cases c with
    | exact c =>
      obtain ⟨b, s, _, rfl⟩ := hx
      refine ⟨by cases op <;> simp [eqGuard], ?_, by simp, by simp [Go.binOp], by simp [Go.binOp]⟩
      simp [Op.equalIn, run_underlying hu]
    | more c =>
      obtain ⟨b, s, c', _, rfl, _⟩ := hx
      refine ⟨by cases op <;> simp [eqGuard], ?_, by simp, by simp [Go.binOp], by simp [Go.binOp]⟩
      simp [Op.equalIn, run_underlying hu]
  case h_8 e1 =>
    rw [e1] at hu; cases h
    rw [show vx = _ from hx]
    obtain ⟨a, c, rfl⟩ := hy
    refine ⟨by cases op <;> simp [eqGuard], ?_, by simp, by simp [Go.binOp], by simp [Go.binOp]⟩
    simp [Op.equalIn, run_underlying hu]
  case h_9 e1 =>
    rw [e1] at hu; cases h
    rw [show vy = _ from hy]
    obtain ⟨a, c, rfl⟩ := hx
    refine ⟨by cases op <;> simp [eqGuard], ?_, by simp, by simp [Go.binOp], by simp [Go.binOp]⟩
    simp [Op.equalIn, run_underlying hu]
  case h_10 e1 =>
    rw [e1] at hu; cases h
    rw [show vx = _ from hx, show vy = _ from hy]
    refine ⟨by cases op <;> simp [eqGuard], ?_, by simp, by simp [Go.binOp], by simp [Go.binOp]⟩
    simp [Op.equalIn, run_underlying hu]
  case h_11 e1 =>
    rw [e1] at hu; cases h
    rw [show vx = _ from hx]
    obtain ⟨b, s, _, rfl⟩ := hy
    refine ⟨by cases op <;> simp [eqGuard], ?_, by simp, by simp [Go.binOp], by simp [Go.binOp]⟩
    simp [Op.equalIn, run_underlying hu]
  case h_12 e1 =>
    rw [e1] at hu; cases h
    rw [show vy = _ from hy]
    obtain ⟨b, s, _, rfl⟩ := hx
    refine ⟨by cases op <;> simp [eqGuard], ?_, by simp, by simp [Go.binOp], by simp [Go.binOp]⟩
    simp [Op.equalIn, run_underlying hu]
  case h_13 e1 =>
    rw [e1] at hu; cases h
    obtain ⟨a, b, c, hu⟩ := hu
    rw [show vx = _ from hx, show vy = _ from hy]
    refine ⟨by cases op <;> simp [eqGuard], ?_, by simp, by simp [Go.binOp], by simp [Go.binOp]⟩
    simp [Op.equalIn, run_underlying hu]
  case h_14 e1 =>
    rw [e1] at hu; cases h
    obtain ⟨a, b, c, hu⟩ := hu
    rw [show vx = _ from hx]
    obtain ⟨f', fi', ca', rfl, _⟩ := hy
    refine ⟨by cases op <;> simp [eqGuard], ?_, by simp, by simp [Go.binOp], by simp [Go.binOp]⟩
    simp [Op.equalIn, run_underlying hu]
  case h_15 e1 =>
    rw [e1] at hu; cases h
    obtain ⟨a, b, c, hu⟩ := hu
    rw [show vy = _ from hy]
    obtain ⟨f', fi', ca', rfl, _⟩ := hx
    refine ⟨by cases op <;> simp [eqGuard], ?_, by simp, by simp [Go.binOp], by simp [Go.binOp]⟩
    simp [Op.equalIn, run_underlying hu]
  case h_16 e1 =>
    rw [e1] at hu; cases h
    obtain ⟨ms, hu⟩ := hu
    rw [show vx = _ from hx]
    obtain ⟨z, rfl, _⟩ := hy
    refine ⟨by cases op <;> simp [eqGuard], ?_, by simp, by simp [Go.binOp], by simp [Go.binOp]⟩
    simp [Op.equalIn, run_underlying hu]
  case h_17 e1 =>
    rw [e1] at hu; cases h
    obtain ⟨ms, hu⟩ := hu
    rw [show vy = _ from hy]
    obtain ⟨z, rfl, _⟩ := hx
    refine ⟨by cases op <;> simp [eqGuard], ?_, by simp, by simp [Go.binOp], by simp [Go.binOp]⟩
    simp [Op.equalIn, run_underlying hu]
  case h_18 t1 v u1 w1 e1 =>
    rw [e1] at hu
    obtain ⟨ms, hu⟩ := hu
    obtain ⟨z, rfl, rz⟩ := hx
    obtain ⟨z', rfl, rz'⟩ := hy
    refine ⟨by cases op <;> simp [eqGuard], ?_, by simp, by simp [Go.binOp], by simp [Go.binOp]⟩
    cases hb : Nat.beq t1 u1 with
    | false =>
      rw [hb] at h; simp only [cond_false] at h; cases h
      have : t1 ≠ u1 := by intro e; subst e; rw [Nat.beq_refl] at hb; cases hb
      simp [Op.equalIn, run_underlying hu, this]
    | true =>
      have hEq := Nat.eq_of_beq_eq_true hb
      subst hEq
      rw [hb] at h; simp only [cond_true] at h
      split at h
      · rename_i ti1 hti1
        cases hcmp : ti1.cmp with
        | false => rw [hcmp] at h; cases h
        | true =>
          rw [hcmp] at h; simp only [cond_true] at h
          have ht1 := hE.ty _ _ hti1
          obtain ⟨i, hi, _, _, hc, _⟩ := ht1.info
          have hq := (flatEq_ok ht1 h rz rz' w (D := D) (by omega)).1
          have hc' := hc hcmp
          rw [Op.equalIn]
          simp only [Sem.run_bind, run_underlying hu, Result.andThen_ok]
          simp [run_typeInfo w hi, hc', hq]
      · cases h
  case h_19 =>
    obtain ⟨hq, hg, _⟩ := flatEq_ok ht h hx hy w (D := D + 1) (by omega)
    obtain ⟨xs, rfl, _⟩ := hx
    obtain ⟨ys, rfl, _⟩ := hy
    exact ⟨run_eqGuard_agg w op t ox oy xs ys hg, hq, by simp, by simp [Go.binOp], by simp [Go.binOp]⟩
  case h_20 => cases h

theorem run_equal (t : TypeId) (x y : Value) (r : Bool) (w : World) (h : ∀ D, 9000 ≤ D → (Op.equalIn (D + 1) t x y).run P w = .ok r w) : (Op.equal t x y).run P w = .ok r w :=
  h 9999 (by omega)

theorem shift_l {k k' : IntKind} {a b : Int} {v : AV} (t : TypeId) (w : World) (h : (bif bltInt b 0 then .bad "shift" else okInt k (wrapA k (a * 2 ^ (min b.toNat k.bits))) : R AV) = .ok v) :
    ∃ x, (Go.binOp .shl t (.int k a) (.int k' b)).run P w = .ok x w ∧ ∀ p, Rep p v x := by
  cases hb : bltInt b 0 with
  | true => rw [hb] at h; cases h
  | false =>
    rw [hb] at h; simp only [cond_false, okInt_eq, wrapA_eq] at h; cases h
    rw [bltInt_eq, decide_eq_false_iff_not] at hb
    exact ⟨_, by simp only [Go.binOp, Op.shift]; rw [if_neg hb]; rfl, fun p => rfl⟩
theorem shift_r {k k' : IntKind} {a b : Int} {v : AV} (t : TypeId) (w : World) (h : (bif bltInt b 0 then .bad "shift" else okInt k (a.fdiv (2 ^ (min b.toNat k.bits))) : R AV) = .ok v) :
    ∃ x, (Go.binOp .shr t (.int k a) (.int k' b)).run P w = .ok x w ∧ ∀ p, Rep p v x := by
  cases hb : bltInt b 0 with
  | true => rw [hb] at h; cases h
  | false =>
    rw [hb] at h; simp only [cond_false, okInt_eq] at h; cases h
    rw [bltInt_eq, decide_eq_false_iff_not] at hb
    exact ⟨_, by simp only [Go.binOp, Op.shift]; rw [if_neg hb]; rfl, fun p => rfl⟩

theorem strings_ok {op : BinOp} {a b : List Nat} {s s' : ByteArray} (ha : s.data.toList.map UInt8.toNat = a) (hb : s'.data.toList.map UInt8.toNat = b) {v : AV} (t : TypeId) (w : World)
    (h : (match op with
    | .add => bif Nat.blt (a.length + b.length) 1000000000 then .ok (.str (a ++ b)) else .bad "long"
    | .eql => .ok (.bool (beqL a b))
    | .neq => .ok (.bool (!beqL a b))
    | .lss => .ok (.bool (lessL a b))
    | .leq => .ok (.bool (lessL a b || beqL a b))
    | .gtr => .ok (.bool (!(lessL a b || beqL a b)))
    | .geq => .ok (.bool (!lessL a b))
    | _ => .bad "binOp str" : R AV) = .ok v) :
    ∃ x, (Go.binOp op t (.string s) (.string s')).run P w = .ok x w ∧ ∀ p, Rep p v x := by
  subst ha; subst hb
  rw [str_eq, str_less] at h
  cases op <;> simp only [] at h <;> try contradiction
  case add =>
    cases hc : Nat.blt ((s.data.toList.map UInt8.toNat).length + (s'.data.toList.map UInt8.toNat).length) 1000000000 with
    | false => rw [hc] at h; cases h
    | true =>
      rw [hc] at h; cases h
      rw [Nat.blt_eq] at hc
      refine ⟨.string (s ++ s'), ?_, fun p => ⟨_, rfl, by simp⟩⟩
      have hsz : s.size + s'.size < 1000000000 := by rw [List.length_map, List.length_map, Array.length_toList, Array.length_toList] at hc; exact hc
      have : ¬ ((s.size + s'.size : Nat) : Int) > IntKind.i64.max := by
        have : IntKind.i64.max = 9223372036854775807 := by decide
        rw [this]; omega
      simp only [Go.binOp, Op.stringOp]
      rw [if_neg this]; rfl
  all_goals
    cases h
    exact ⟨_, by simp only [Go.binOp, Op.stringOp]; rfl, fun p => rfl⟩

theorem symOp_ok {op : BinOp} {k : IntKind} {a b : Int} {o : Option Bool} {v : AV} (t : TypeId) (w : World) (h : symOp op o = .ok v) (ho : ∀ r, o = some r → (a == b) = r) :
    ∃ x, (Go.binOp op t (.int k a) (.int k b)).run P w = .ok x w ∧ ∀ p, Rep p v x := by
  unfold symOp at h
  split at h
  · cases h
  · rename_i r
    have := ho r rfl
    split at h
    · cases h; exact ⟨.bool (a == b), by simp [Go.binOp, Op.intCmp], fun p => by rw [this]; rfl⟩
    · cases h; exact ⟨.bool (a != b), by simp [Go.binOp, Op.intCmp], fun p => by rw [← this]; rfl⟩
    · cases h

theorem sym_val {p : Pl} (g : GlobOk p) {k : IntKind} {i : Nat} {v : Value} (h : Rep p (.sym k i) v) : v = .int k (Int.ofNat (Syms.val i)) := by
  obtain ⟨b, h1, h2, e, rfl⟩ := h
  rw [g.2 i h1 h2] at e
  obtain ⟨_, rfl⟩ := Prod.mk.inj (Option.some.inj e)
  rfl

theorem binOp_ok (hE : EnvOk P E) {op : BinOp} {t : TypeId} {x y v : AV} (h : binOp E op t x y = .ok v) {p : Pl} (g : GlobOk p) {vx vy : Value} (hx : Rep p x vx) (hy : Rep p y vy) (ox oy : Operand) (w : World) :
    ∃ r, (do eqGuard op t ox oy vx vy; Go.binOp op t vx vy : Sem Value).run P w = .ok r w ∧ Rep p v r := by
  unfold binOp at h
  split at h
  · rename_i k i k' j
    rw [sym_val g hx, sym_val g hy, Sem.run_bind, guard_int, Result.andThen_ok]
    cases hk : kindEq k k' with
    | false => rw [hk] at h; cases h
    | true =>
      rw [hk] at h; simp only [cond_true] at h
      rw [kindEq_iff] at hk
      subst hk
      obtain ⟨r, q1, q2⟩ := symOp_ok (P := P) (k := k) (a := Int.ofNat (Syms.val i)) (b := Int.ofNat (Syms.val j)) t w h fun r hr => by rw [← hE.symEq i j r hr, Bool.eq_iff_iff, beq_iff_eq, beq_iff_eq]; exact ⟨fun e => Int.ofNat.inj e, fun e => by rw [e]⟩
      exact ⟨r, q1, q2 p⟩
  · rename_i k i k' n
    rw [sym_val g hx, show vy = _ from hy, Sem.run_bind, guard_int, Result.andThen_ok]
    cases hk : kindEq k k' with
    | false => rw [hk] at h; cases h
    | true =>
      rw [hk] at h; simp only [cond_true] at h
      rw [kindEq_iff] at hk
      subst hk
      obtain ⟨r, q1, q2⟩ := symOp_ok (P := P) (k := k) (a := Int.ofNat (Syms.val i)) (b := n) t w h (hE.symC i n)
      exact ⟨r, q1, q2 p⟩
  · rename_i k n k' i
    rw [sym_val g hy, show vx = _ from hx, Sem.run_bind, guard_int, Result.andThen_ok]
    cases hk : kindEq k k' with
    | false => rw [hk] at h; cases h
    | true =>
      rw [hk] at h; simp only [cond_true] at h
      rw [kindEq_iff] at hk
      subst hk
      obtain ⟨r, q1, q2⟩ := symOp_ok (P := P) (k := k) (a := n) (b := Int.ofNat (Syms.val i)) t w h fun r hr => by rw [← hE.symC i n r hr, Bool.eq_iff_iff, beq_iff_eq, beq_iff_eq]; exact eq_comm
      exact ⟨r, q1, q2 p⟩
  · rename_i k a k' b
    rw [show vx = _ from hx, show vy = _ from hy, Sem.run_bind, guard_int, Result.andThen_ok]
    split at h
    · obtain ⟨r, h1, h2⟩ := shift_l (P := P) (k' := k') t w h
      exact ⟨r, h1, h2 p⟩
    · obtain ⟨r, h1, h2⟩ := shift_r (P := P) (k' := k') t w h
      exact ⟨r, h1, h2 p⟩
    · rename_i h1 h2
      cases hk : kindEq k k' with
      | false => rw [hk] at h; cases h
      | true =>
        rw [hk] at h; simp only [cond_true] at h
        rw [kindEq_iff] at hk
        subst hk
        obtain ⟨r, q1, q2⟩ := arith_ok (P := P) t w h h1 h2
        exact ⟨r, q1, q2 p⟩
  · rename_i a b
    obtain ⟨s, rfl, rfl⟩ := hx
    obtain ⟨s', rfl, rfl⟩ := hy
    have hg : (eqGuard op t ox oy (.string s) (.string s')).run P w = .ok () w := by cases op <;> simp [eqGuard]
    rw [Sem.run_bind, hg, Result.andThen_ok]
    obtain ⟨r, q1, q2⟩ := strings_ok (P := P) rfl rfl t w h
    exact ⟨r, q1, q2 p⟩
  · split at h
    · cases h
    · rename_i ti hti
      split at h
      · rename_i b hb
        cases h
        have hq := fun D (hD : 9000 ≤ D) => eqOther_ok hE hti hb hx hy ox oy w .eql hD
        obtain ⟨g1, _, _, g4, _⟩ := hq 9000 (by omega)
        rw [Sem.run_bind, g1, Result.andThen_ok, g4, Sem.run_bind, run_equal t vx vy b w (fun D hD => (hq D hD).2.1)]
        exact ⟨.bool b, rfl, rfl⟩
      · rename_i b hb
        cases h
        have hq := fun D (hD : 9000 ≤ D) => eqOther_ok hE hti hb hx hy ox oy w .neq hD
        obtain ⟨g1, _, _, _, g4⟩ := hq 9000 (by omega)
        rw [Sem.run_bind, g1, Result.andThen_ok, g4, Sem.run_bind, run_equal t vx vy b w (fun D hD => (hq D hD).2.1)]
        exact ⟨.bool (!b), rfl, rfl⟩
      · cases h

theorem unOp_ok {op : UnOp} {x v : AV} (h : unOp op x = .ok v) {p : Pl} {vx : Value} (hx : Rep p x vx) (w : World) : ∃ r, (Op.unary op vx).run P w = .ok r w ∧ Rep p v r := by
  unfold unOp at h
  split at h
  · cases h
    rw [show vx = _ from hx]
    exact ⟨_, by simp only [Op.unary]; rfl, rfl⟩
  · rw [okInt_eq, wrapA_eq] at h; cases h
    rw [show vx = _ from hx]
    exact ⟨_, by simp only [Op.unary, Op.intArith]; rfl, by simp [Rep]⟩
  · cases h

end Go.AE
