/- Operations of a region whose order is open: what they look at; those that read; those that make. No condition: lemmas. -/
import Derived.Test.YtdnhkdipfnediaaGreatDoorAe7
set_option linter.unusedSectionVars false
namespace Go.AE
variable [Syms]
variable {P : Program} {E : Env}

theorem opds_mem {op : Op} (hs : ∀ cs b, op ≠ .select cs b) {x : Operand} (h : x ∈ op.operands) : x ∈ opds op := by
  cases op with
  | select cs b => exact absurd rfl (hs cs b)
  | call c => simp only [Op.operands, Call.operands] at h; simp only [opds]; rw [Array.mem_append] at h; rw [List.mem_append]; rcases h with h | h
              · left; revert h; cases c.callee <;> simp
              · right; simpa using h
  | go c => simp only [Op.operands, Call.operands] at h; simp only [opds]; rw [Array.mem_append] at h; rw [List.mem_append]; rcases h with h | h
            · left; revert h; cases c.callee <;> simp
            · right; simpa using h
  | defer c => simp only [Op.operands, Call.operands] at h; simp only [opds]; rw [Array.mem_append] at h; rw [List.mem_append]; rcases h with h | h
               · left; revert h; cases c.callee <;> simp
               · right; simpa using h
  | _ => revert h; simp [Op.operands, opds]

theorem evXs_congr {tm tm' : T AV} : ∀ {l : List Operand}, (∀ x ∈ l, evX tm x = evX tm' x) → evXs tm l = evXs tm' l
  | [], _ => rfl
  | x :: l, h => by
    simp only [evXs]
    rw [h x (by simp), evXs_congr (l := l) (fun y hy => h y (by simp [hy]))]

theorem evParts_congr {tm tm' : T AV} : ∀ {l : List (Nat × Operand)}, (∀ x ∈ l.map (·.2), evX tm x = evX tm' x) → evParts tm l = evParts tm' l
  | [], _ => rfl
  | (i, x) :: l, h => by
    simp only [evParts]
    rw [h x (by simp), evParts_congr (l := l) (fun y hy => h y (by simp only [List.map_cons, List.mem_cons]; exact .inr hy))]

theorem evOpt_congr {tm tm' : T AV} {l : Option Operand} (h : ∀ x ∈ l.toList, evX tm x = evX tm' x) : evOpt tm l = evOpt tm' l := by
  cases l with
  | none => rfl
  | some x => simp only [evOpt]; rw [h x (by simp)]

theorem evOp_congr {tm tm' : T AV} {op : Op} (h : ∀ x ∈ opds op, evX tm x = evX tm' x) (hh : H) : evOp E tm op hh = evOp E tm' op hh := by
  cases op with
  | call c =>
    simp only [opds] at h
    simp only [evOp, evCallOp]
    rw [evXs_congr (l := c.args.toList) (fun x hx => h x (List.mem_append_right _ hx))]
    cases hc : c.callee with
    | builtin b => rfl
    | invoke r nm => rw [hc] at h; simp only []; rw [h r (by simp)]
    | value f => rw [hc] at h; simp only []; rw [h f (by simp)]
  | build t ps => simp only [evOp]; rw [evParts_congr (l := ps.toList) h]
  | buildSlice t n ps => simp only [evOp]; rw [evParts_congr (l := ps.toList) h]
  | makeFunc fn fi ca => simp only [evOp]; rw [evXs_congr (l := fi.toList) (fun x hx => h x (List.mem_append_left _ hx)), evXs_congr (l := ca.toList) (fun x hx => h x (List.mem_append_right _ hx))]
  | makeMap t r => simp only [evOp]; rw [evOpt_congr (l := r) h]
  | slice t x lo hi mx =>
    simp only [opds] at h
    simp only [evOp]
    rw [h x (by simp), evOpt_congr (l := lo) (fun y hy => h y (by simp [hy])), evOpt_congr (l := hi) (fun y hy => h y (by simp [hy])), evOpt_congr (l := mx) (fun y hy => h y (by simp [hy]))]
  | pick c x y =>
    simp only [evOp]
    rw [h c (by simp [opds])]
    have : ∀ t : Bool, evX tm (bif t then x else y) = evX tm' (bif t then x else y) := fun t => by cases t <;> exact h _ (by simp [opds])
    simp only [this]
  | mapUpdate t m k v => simp only [evOp]; rw [h m (by simp [opds]), h k (by simp [opds]), h v (by simp [opds])]
  | insert t m k v => simp only [evOp]; rw [h m (by simp [opds]), h k (by simp [opds]), h v (by simp [opds])]
  | entryStore t m k v => simp only [evOp]; rw [h m (by simp [opds]), h k (by simp [opds]), h v (by simp [opds])]
  | store t x y => simp only [evOp]; rw [h x (by simp [opds]), h y (by simp [opds])]
  | binOp o t x y u => simp only [evOp]; rw [h x (by simp [opds]), h y (by simp [opds])]
  | makeSlice t x y => simp only [evOp]; rw [h x (by simp [opds]), h y (by simp [opds])]
  | indexAddr t x y => simp only [evOp]; rw [h x (by simp [opds]), h y (by simp [opds])]
  | index t x y => simp only [evOp]; rw [h x (by simp [opds]), h y (by simp [opds])]
  | lookup t x y ok => simp only [evOp]; rw [h x (by simp [opds]), h y (by simp [opds])]
  | mapEntry t x y => simp only [evOp]; rw [h x (by simp [opds]), h y (by simp [opds])]
  | _ => simp only [evOp] <;> rw [h _ (by simp [opds]; try rfl)]

theorem bif_ok {α : Type} {b : Bool} {x : R α} {w : String} {y : α} (h : (bif b then x else .bad w) = .ok y) : b = true ∧ x = .ok y := by
  cases b with
  | true => exact ⟨rfl, h⟩
  | false => cases h

theorem builtinA_read {b : Builtin} {ts : List TypeId} {args : List AV} {h h' : H} {v : AV} (hc : clsCall (.builtin b) = .read) (he : builtinA E b ts args h = .ok (.val v h')) : h' = h := by
  unfold builtinA at he
  split at he
  · split at he
    · split at he
      · cases he; rfl
      · split at he
        · split at he
          · cases he; rfl
          · cases he
        · cases he
      · have he := (bif_ok he).2
        split at he
        · cases he; rfl
        · cases he
    · cases he
  · split at he
    · split at he
      · cases he; rfl
      · cases he; rfl
      · cases he
    · cases he
  · cases hc
  · cases hc
  · split at he
    · cases he; rfl
    · cases he
  · split at he
    · cases he; rfl
    · cases he
  · cases he

theorem convertA_read {s d : TypeId} {x : AV} {h h' : H} {v : AV} (hc : clsOf E (.convert s d (.const .nilFunc)) = .read) (he : convertA E s d x h = .ok (.val v h')) : h' = h := by
  simp only [clsOf] at hc
  unfold convertA at he
  split at he
  · rename_i si di h1 h2
    rw [h2] at hc
    simp only [] at hc
    split at he
    · split at he
      · cases he; rfl
      · cases he
    · cases he; rfl
    · cases (bif_ok he).2; rfl
    · rename_i hu; rw [hu] at hc; cases hc
    · split at he
      · split at he
        · cases he; rfl
        · cases he
      · cases he
    · split at he
      · split at he
        · cases he; rfl
        · cases he
      · cases he
    · split at he
      · split at he
        · split at he
          · split at he
            · cases he; rfl
            · cases he
          · cases he
        · cases he
      · cases he
    · cases he
  · cases he

/-- An operation that at most reads leaves memory as it is. -/
theorem evOp_read {tm : T AV} {op : Op} {h h' : H} {v : AV} (hc : clsOf E op = .read) (he : evOp E tm op h = .ok (.val v h')) : h' = h := by
  have hv1 : ∀ {r : R AV}, v1 h r = .ok (.val v h') → h' = h := fun hh => by
    obtain ⟨_, _, e⟩ := v1_ok hh; cases e; rfl
  cases op with
  | call c =>
    simp only [clsOf] at hc
    simp only [evOp, evCallOp] at he
    split at he
    · cases he
    · cases hcal : c.callee with
      | builtin b => rw [hcal] at hc he; exact builtinA_read hc he
      | invoke r nm => rw [hcal] at hc; cases hc
      | value f => rw [hcal] at hc; cases hc
  | convert s d x =>
    simp only [evOp] at he
    split at he
    · exact convertA_read hc he
    · cases he
  | build t ps =>
    simp only [evOp] at he
    split at he
    · split at he
      · split at he
        · cases he; rfl
        · cases he
      · split at he
        · split at he
          · cases he; rfl
          · cases he
        · cases he
      · cases he
    · cases he
  | makeFunc fn fi ca =>
    simp only [evOp] at he
    split at he
    · cases (bif_ok he).2; rfl
    · cases he
  | makeInterface t x =>
    simp only [evOp] at he
    split at he
    · split at he
      · cases he
      · cases he; rfl
    · cases he
  | slice t x lo hi mx =>
    simp only [evOp] at he
    split at he
    · exact hv1 (bif_ok he).2
    · cases he
  | fieldAddr s x f =>
    simp only [evOp] at he
    split at he
    · split at he
      · split at he
        · rename_i d size _
          cases hb : Nat.beq size 0 with
          | true => rw [hb] at he; cases he
          | false => rw [hb] at he; cases he; rfl
        · cases he
      · cases he
    · cases he
  | field t x f =>
    simp only [evOp] at he
    split at he
    · split at he
      · split at he
        · exact hv1 he
        · cases he
      · cases he
    · cases he
  | extract t i =>
    simp only [evOp] at he
    split at he
    · split at he
      · cases he; rfl
      · cases he
    · cases he
  | alloc _ => cases hc
  | box _ _ => cases hc
  | buildSlice _ _ _ => cases hc
  | insert _ _ _ _ => cases hc
  | mapUpdate _ _ _ _ => cases hc
  | mapEntry _ _ _ => cases hc
  | entryStore _ _ _ _ => cases hc
  | store _ _ _ => cases hc
  | next _ _ => cases hc
  | range _ _ => cases hc
  | makeMap _ _ => cases hc
  | makeSlice _ _ _ => cases hc
  | _ =>
    simp only [evOp] at he
    first
      | exact hv1 he
      | (cases he; done)
      | (split at he <;> first | exact hv1 he | (cases he; done))
end Go.AE
set_option linter.unusedSectionVars false
namespace Go.AE
variable [Syms]
variable {P : Program} {E : Env}

theorem cells_brep {p : Pl} {cs : List AV} {arr : Array Value} (e : TypeId) (hc : Reps p cs arr.toList) (q : Pl) (hq : p.le q) : BRep q arr.size (.cells cs e) (.cells arr e) := by
  have hlen := Reps.length hc
  refine ⟨arr, 0, 0, rfl, rfl, fun i _ => by omega, by rw [← hlen]; simp, ?_⟩
  rw [← hlen, List.take_length]
  exact Reps.mono hq _ _ hc

theorem newRow_run (e : TypeId) (arr : Array Value) (w : World) : (newRow e arr).run P w = .ok ⟨w.heap.size, 0, none⟩ (w.alloc (.cells arr e)) := by
  simp [newRow, newObj, Sem.run]

def MakesNew (P : Program) (p : Pl) (nx : Nat) (v : AV) (b : Blk) (s : Sem Next) : Prop :=
  ∀ w, ∃ o' sz y, s.run P w = .ok (.value y) (w.alloc o') ∧ (∀ q : Pl, p.le q → BRep q sz b o') ∧ (∀ q : Pl, p.le q → q nx = some (w.heap.size, sz) → Rep q v y)

set_option maxHeartbeats 1000000 in
theorem evOp_alloc (hE : EnvOk P E) {tm : T AV} {o : Oper} {h h' : H} {v : AV} (hc : clsOf E o.op = .alloc) (he : evOp E tm o.op h = .ok (.val v h')) {p : Pl} {nt : Nat} {a : Act} (ht : TmRep p nt tm a.tmps) :
    ∃ b, h'.get h.nx = some b ∧ MakesNew P p h.nx v b (execOp a.eval o) := by
  unfold execOp
  unfold evOp at he
  have hnew : ∀ b, (h.new b).get h.nx = some b := fun b => by rw [H.get_new]; simp
  cases hop : o.op with
  | alloc e =>
    rw [hop] at he
    simp only [] at he ⊢
    split at he
    · rename_i ti hti
      split at he
      · rename_i cs hz
        cases he
        refine ⟨_, hnew _, fun w => ?_⟩
        obtain ⟨zv, q1, q2, _⟩ := (hE.ty _ _ hti).runZero hz p w
        refine ⟨_, _, _, run_v ?_, cells_brep e q2, fun q hq hn => .inl ⟨_, _, hn, rfl⟩⟩
        unfold Instr.alloc
        rw [Sem.run_bind, q1, Result.andThen_ok]
        simp only []
        rw [Sem.run_bind]
        simp only [newVar]
        rw [newRow_run]
        rfl
      · cases he
    · cases he
  | box e x =>
    rw [hop] at he
    simp only [] at he ⊢
    split at he
    · rename_i v' hv
      cases he
      have hcl := cells_rep (evX_ok ht hv)
      refine ⟨_, hnew _, fun w => ?_⟩
      refine ⟨_, _, _, run_v ?_, cells_brep e hcl, fun q hq hn => .inl ⟨_, _, hn, rfl⟩⟩
      unfold Instr.box
      rw [Sem.run_bind]
      simp only [newVar]
      rw [newRow_run]
      rfl
    · cases he
  | makeMap t rs =>
    rw [hop] at he
    simp only [] at he ⊢
    split at he
    · rename_i h1
      cases he
      have hr1 : rs.map a.eval = none := optVal ht h1
      refine ⟨_, hnew _, fun w => ?_⟩
      refine ⟨.map #[] 0, 0, .map (some w.heap.size), run_v ?_, fun q _ => ⟨#[], rfl, rfl⟩, fun q hq hn => ⟨_, _, hn, rfl⟩⟩
      unfold Instr.makeMap
      rw [hr1]
      simp [newObj, Sem.run]
    · rename_i k n h1
      cases hmt : mapTypes E t with
      | bad w0 => rw [hmt] at he; cases he
      | ok kt =>
        rw [hmt] at he; cases he
        obtain ⟨y, hr1, hr2⟩ : ∃ y, rs.map a.eval = some y ∧ Rep p (.int k n) y := optVal ht h1
        have hu := mapTypes_ok hE (kt := kt.1) (et := kt.2) hmt
        refine ⟨_, hnew _, fun w => ?_⟩
        refine ⟨.map #[] 0, 0, .map (some w.heap.size), run_v ?_, fun q _ => ⟨#[], rfl, rfl⟩, fun q hq hn => ⟨_, _, hn, rfl⟩⟩
        unfold Instr.makeMap
        rw [hr1, show y = _ from hr2]
        simp only []
        rw [Sem.run_bind, run_underlying hu, Result.andThen_ok]
        simp [asInt, asIntOf, newObj, Sem.run]
    · cases he
  | makeSlice t l c =>
    rw [hop] at he
    simp only [] at he ⊢
    split at he
    · rename_i ti k1 l' k2 c' hti hl hcc
      split at he
      · rename_i e hu
        split at he
        · rename_i ei hei
          split at he
          · rename_i z hz
            obtain ⟨hb, he⟩ := bif_ok he
            cases he
            simp only [Bool.and_eq_true, Nat.ble_eq, Nat.blt_eq] at hb
            obtain ⟨⟨⟨b1, b2⟩, b3⟩, b4⟩ := hb
            have hund := (hE.ty _ _ hti).und
            rw [hu] at hund
            simp only [UDOk] at hund
            obtain ⟨ie, hie, hs, hby, _, hzz⟩ := (hE.ty _ _ hei).info
            obtain ⟨_, zv, hzv, _⟩ := hzz z hz
            refine ⟨_, hnew _, fun w => ?_⟩
            obtain ⟨zv', z1, z2, _⟩ := (hE.ty _ _ hei).runZero hz p w
            have hzeq : zv' = zv := by
              have : (zeroValue e).run P w = .ok zv w := by
                unfold zeroValue
                rw [Sem.run_bind, run_typeInfo w hie, Result.andThen_ok, hzv]; rfl
              rw [this] at z1; cases z1; rfl
            subst hzeq
            have hzl := (hE.ty _ _ hei).zeroLen hz
            have hx : ((ei.bytes * c' : Nat) : Int) ≤ 281474976710656 := by omega
            rw [Int.natCast_mul] at hx
            have hrun := run_make (P := P) w t e ie zv' hund hie hzv k1 k2 (Int.ofNat l') (Int.ofNat c') (by simp) (by simp; exact b1) (by
              rw [hby]; exact hx) (by rw [Int.ofNat_eq_natCast]; omega)
            have hcells : Reps p (repA z c') (madeCells zv'.cells (c' * ie.size)).toList := by
              unfold madeCells
              rw [hs, ← hzl]
              by_cases h0 : z = []
              · subst h0
                have : repA ([] : List AV) c' = [] := List.length_eq_zero_iff.1 (by rw [repA_length]; simp)
                rw [this]; simp [Reps]
              · exact repeat_rep z2 c' h0
            refine ⟨_, _, .slice (some ⟨w.heap.size, 0, none⟩) l' c', run_v ?_, cells_brep e hcells, fun q hq hn => ⟨_, _, hn, rfl⟩⟩
            rw [show a.eval l = .int k1 (Int.ofNat l') from evX_ok ht hl, show a.eval c = .int k2 (Int.ofNat c') from evX_ok ht hcc, hrun]
            rfl
          · cases he
        · cases he
      · cases he
    · cases he
  | buildSlice t len parts =>
    rw [hop] at he
    simp only [] at he ⊢
    split at he
    · rename_i ti ps hti hps
      obtain ⟨k1, k2⟩ := evParts_ok ht hps
      have hl : (parts.map fun (x : Nat × Operand) => (x.1, a.eval x.2)).toList = parts.toList.map fun x => (x.1, a.eval x.2) := by simp
      split at he
      · rename_i e hu
        split at he
        · rename_i ei hei
          split at he
          · rename_i z hz
            obtain ⟨hb, he⟩ := bif_ok he
            simp only [Bool.and_eq_true, Nat.ble_eq] at hb
            split at he
            · rename_i cs hf
              cases he
              have hund := (hE.ty _ _ hti).und
              rw [hu] at hund hf
              simp only [UDOk] at hund
              obtain ⟨ie, hie, hs, _⟩ := (hE.ty _ _ hei).info
              have hzl := (hE.ty _ _ hei).zeroLen hz
              refine ⟨_, hnew _, fun w => ?_⟩
              obtain ⟨zv, z1, z2, _⟩ := (hE.ty _ _ hei).runZero hz p w
              have hpl : ∀ i x, placeOf E (.slice e) i = some x → (fun i => some (i * ei.size, ei.size)) i = some x := by
                intro i x hx
                simp only [placeOf, hei] at hx
                exact hx
              have hbase : Reps p (repA z len) ((Array.range (len * ei.size)).map (fun i => (if len * ei.size = 0 then (#[] : Array Value) else zv.cells)[i % (if len * ei.size = 0 then (#[] : Array Value) else zv.cells).size]!)).toList := by
                by_cases h0 : len * ei.size = 0
                · rw [h0]
                  have : repA z len = [] := List.length_eq_zero_iff.1 (by rw [repA_length, hzl, h0])
                  rw [this]
                  simp [Reps]
                · rw [if_neg h0, ← hzl]
                  exact repeat_rep z2 len (by intro hcx; rw [hcx] at hzl; simp at hzl; rw [← hzl] at h0; simp at h0)
              obtain ⟨arr, f1, f2⟩ := fill_ok hpl ps (parts.map fun (x : Nat × Operand) => (x.1, a.eval x.2)).toList (repA z len) cs _ (by rw [hl]; exact k1) (by rw [hl]; exact k2) hbase hf
              refine ⟨_, _, .slice (some ⟨w.heap.size, 0, none⟩) len len, run_v ?_, cells_brep e f2, fun q hq hn => ⟨_, _, hn, rfl⟩⟩
              unfold Instr.buildSlice
              rw [Sem.run_bind, run_underlying hund, Result.andThen_ok]
              simp only []
              have h24 : ¬ len * ei.size > 2 ^ 24 := by
                have := hb.1
                have h24 : (2 : Nat) ^ 24 = 16777216 := by decide
                omega
              rw [Sem.run_bind, (hE.ty _ _ hei).runSize, Result.andThen_ok, if_neg h24]
              by_cases h0 : len * ei.size = 0
              · simp only [h0, if_true, pure_bind] at f1 ⊢
                rw [f1]
                simp only []
                rw [Sem.run_bind, newRow_run]
                rfl
              · simp only [h0, if_false] at f1 ⊢
                rw [Sem.run_bind, z1]
                simp only [Result.andThen_ok, pure_bind]
                rw [f1]
                simp only []
                rw [Sem.run_bind, newRow_run]
                rfl
            · cases he
          · cases he
        · cases he
      · cases he
    · cases he
  | convert s d x =>
    rw [hop] at hc
    simp only [clsOf] at hc
    split at hc
    · split at hc <;> cases hc
    · cases hc
  | call c =>
    rw [hop] at hc
    simp only [clsOf] at hc
    unfold clsCall at hc
    split at hc <;> cases hc
  | _ => rw [hop] at hc; cases hc
end Go.AE
set_option linter.unusedSectionVars false
namespace Go.AE
variable [Syms]
variable {P : Program} {E : Env}

theorem bitA_eq (m i : Nat) : bitA m i = Nat.testBit m i := by
  have h1 : Nat.land (Nat.shiftRight m i) 1 = m / 2 ^ i % 2 := by
    show (m >>> i) &&& 1 = _
    rw [Nat.and_one_is_mod, Nat.shiftRight_eq_div_pow]
  rw [Nat.testBit_eq_decide_div_mod_eq]
  unfold bitA
  rw [h1]
  by_cases h : m / 2 ^ i % 2 = 1
  · rw [h]; rfl
  · have : Nat.beq (m / 2 ^ i % 2) 1 = false := by
      cases hb : Nat.beq (m / 2 ^ i % 2) 1 with
      | false => rfl
      | true => exact absurd (Nat.eq_of_beq_eq_true hb) h
    rw [this]; simp [h]

theorem bitA_or (m n i : Nat) : bitA (orA m n) i = (bitA m i || bitA n i) := by
  rw [bitA_eq, bitA_eq, bitA_eq]; exact Nat.testBit_or m n i
theorem bitA_zero (i : Nat) : bitA 0 i = false := by rw [bitA_eq]; simp
theorem bitA_pow (k i : Nat) : bitA (Nat.pow 2 k) i = decide (k = i) := by
  rw [bitA_eq]; exact Nat.testBit_two_pow
theorem bitA_all {n i : Nat} (h : i < n) : bitA (Nat.pow 2 n - 1) i = true := by
  rw [bitA_eq]; show Nat.testBit (2 ^ n - 1) i = true
  rw [Nat.testBit_two_pow_sub_one]; simp [h]
theorem bitA_and {m n i : Nat} (h : Nat.beq (Nat.land m n) n = true) (hn : bitA n i = true) : bitA m i = true := by
  have h := Nat.eq_of_beq_eq_true h
  rw [bitA_eq] at *
  rw [← h] at hn
  have : Nat.testBit (m &&& n) i = true := hn
  rw [Nat.testBit_and] at this
  simp at this
  exact this.1

theorem maskOf_bit {acc : List Nat} {j : Nat} : ∀ {l : List Edge}, bitA (maskOf acc l) j = true → ∃ e ∈ l, bindsA e = true ∧ (j = e.on ∨ bitA ((nthL acc e.on).getD 0) j = true)
  | [], h => by rw [maskOf, bitA_zero] at h; cases h
  | e :: l, h => by
    simp only [maskOf] at h
    cases hb : bindsA e with
    | true =>
      rw [hb] at h; simp only [cond_true] at h
      rw [bitA_or, bitA_or, Bool.or_eq_true, Bool.or_eq_true, bitA_pow] at h
      rcases h with (h | h) | h
      · exact ⟨e, by simp, hb, .inl (by simpa using (of_decide_eq_true h).symm)⟩
      · exact ⟨e, by simp, hb, .inr h⟩
      · obtain ⟨e', h1, h2⟩ := maskOf_bit h
        exact ⟨e', by simp [h1], h2⟩
    | false =>
      rw [hb] at h; simp only [cond_false] at h
      obtain ⟨e', h1, h2⟩ := maskOf_bit h
      exact ⟨e', by simp [h1], h2⟩

theorem masks_spec : ∀ (l : List Oper) (acc : List Nat), (∃ R, masks l acc = acc ++ R ∧ R.length = l.length) ∧
    ∀ k o, l[k]? = some o → (masks l acc)[acc.length + k]? = some (maskOf ((masks l acc).take (acc.length + k)) o.after.toList)
  | [], acc => ⟨⟨[], by simp [masks]⟩, fun k o h => by simp at h⟩
  | o :: l, acc => by
    obtain ⟨⟨R, hR, hlen⟩, hk⟩ := masks_spec l (acc ++ [maskOf acc o.after.toList])
    simp only [masks]
    refine ⟨⟨maskOf acc o.after.toList :: R, by rw [hR]; simp, by simp [hlen]⟩, ?_⟩
    intro k o' h
    cases k with
    | zero =>
      simp only [List.getElem?_cons_zero, Option.some.injEq] at h
      subst h
      rw [hR]
      simp
    | succ k =>
      have := hk k o' (by simpa using h)
      have e : (acc ++ [maskOf acc o.after.toList]).length + k = acc.length + (k + 1) := by simp; omega
      rw [e] at this
      exact this

theorem edgesOk_spec {i : Nat} : ∀ {l : List Edge}, edgesOk i l = true → ∀ e ∈ l, bindsA e = true → e.on < i
  | [], _, e, he, _ => by simp at he
  | x :: l, h, e, he, hb => by
    simp only [edgesOk, Bool.and_eq_true, Bool.or_eq_true, Bool.not_eq_true', Nat.blt_eq] at h
    rcases List.mem_cons.1 he with rfl | he
    · rcases h.1 with h1 | h1
      · rw [h1] at hb; cases hb
      · exact h1
    · exact edgesOk_spec h.2 e he hb

theorem pairsOk_spec {mi : Nat} {li : List Nat} {di : Option Nat} : ∀ {l : List (List Nat × Option Nat)} {j : Nat}, pairsOk mi li di j l = true → ∀ k x, l[k]? = some x →
    differD di x.2 = true ∧ (bitA mi (j + k) = true ∨ (notInD x.2 li = true ∧ notInD di x.1 = true))
  | [], j, _, k, x, hx => by simp at hx
  | (lj, dj) :: l, j, h, k, x, hx => by
    simp only [pairsOk, Bool.and_eq_true, Bool.or_eq_true] at h
    cases k with
    | zero =>
      simp only [List.getElem?_cons_zero, Option.some.injEq] at hx
      subst hx
      exact ⟨h.1.1, h.1.2⟩
    | succ k =>
      have := pairsOk_spec h.2 k x (by simpa using hx)
      rw [show j + 1 + k = j + (k + 1) by omega] at this
      exact this

theorem regOk_spec {all : List Oper} : ∀ {ops : List Oper} {i : Nat} {ms : List Nat} {acc : List (List Nat × Option Nat)}, regOk all i ops ms acc = true →
    ops.length ≤ ms.length ∧ ∀ k o m, ops[k]? = some o → ms[k]? = some m → edgesOk (i + k) o.after.toList = true ∧
      pairsOk m (looksL all o) o.dst 0 (acc ++ (ops.take k).map (fun o => (looksL all o, o.dst))) = true
  | [], i, ms, acc, _ => ⟨by simp, fun k o m h => by simp at h⟩
  | o :: ops, i, [], acc, h => by simp [regOk] at h
  | o :: ops, i, m :: ms, acc, h => by
    simp only [regOk, Bool.and_eq_true] at h
    obtain ⟨h1, h2⟩ := regOk_spec h.2
    refine ⟨by simp; omega, fun k o' m' ho hm => ?_⟩
    cases k with
    | zero =>
      simp only [List.getElem?_cons_zero, Option.some.injEq] at ho hm
      subst ho; subst hm
      exact ⟨h.1.1, by simpa using h.1.2⟩
    | succ k =>
      have := h2 k o' m' (by simpa using ho) (by simpa using hm)
      rw [show i + 1 + k = i + (k + 1) by omega] at this
      simpa using this

def isEff (E : Env) (o : Oper) : Prop := clsOf E o.op = .eff

theorem effsChained_spec {all : List Oper} {msAll : List Nat} : ∀ {ops : List Oper} {ms : List Nat} {i before : Nat}, effsChained E i ops ms before = true → ops.length ≤ ms.length →
    (∀ k o, ops[k]? = some o → all[i + k]? = some o) → (∀ k m, ms[k]? = some m → msAll[i + k]? = some m) → (∀ j o, j < i → all[j]? = some o → isEff E o → bitA before j = true) →
    ∀ k o m j o', ops[k]? = some o → ms[k]? = some m → isEff E o → j < i + k → all[j]? = some o' → isEff E o' → bitA m j = true
  | [], ms, i, before, _, _, _, _, _, k, o, m, j, o', h, _, _, _, _, _ => by simp at h
  | o :: ops, [], i, before, _, hl, _, _, _, _, _, _, _, _, _, _, _, _, _, _ => by simp at hl
  | o :: ops, m :: ms, i, before, h, hl, ha, hm, hb, k, ok, mk, j, oj, h1, h2, h3, h4, h5, h6 => by
    simp only [effsChained] at h
    have hao : all[i]? = some o := by simpa using ha 0 o (by simp)
    have hl' : ops.length ≤ ms.length := by simp at hl; exact hl
    have ha' : ∀ k o, ops[k]? = some o → all[i + 1 + k]? = some o := fun k o' ho => by
      rw [show i + 1 + k = i + (k + 1) by omega]; exact ha (k + 1) o' (by simpa using ho)
    have hm' : ∀ k m, ms[k]? = some m → msAll[i + 1 + k]? = some m := fun k o' ho => by
      rw [show i + 1 + k = i + (k + 1) by omega]; exact hm (k + 1) o' (by simpa using ho)
    cases hc : clsOf E o.op with
    | eff =>
      rw [hc] at h
      simp only [Bool.and_eq_true] at h
      cases k with
      | zero =>
        simp only [List.getElem?_cons_zero, Option.some.injEq] at h1 h2
        subst h1; subst h2
        exact bitA_and h.1 (hb j oj (by simpa using h4) h5 h6)
      | succ k =>
        refine effsChained_spec h.2 hl' ha' hm' ?_ k ok mk j oj (by simpa using h1) (by simpa using h2) h3 (by omega) h5 h6
        intro j' o' hj' ho' he'
        rw [bitA_or, bitA_pow]
        by_cases e : i = j'
        · simp [e]
        · rw [hb j' o' (by omega) ho' he']; simp
    | alloc =>
      rw [hc] at h
      cases k with
      | zero =>
        simp only [List.getElem?_cons_zero, Option.some.injEq] at h1 h2
        subst h1
        rw [isEff, hc] at h3; cases h3
      | succ k =>
        refine effsChained_spec h hl' ha' hm' ?_ k ok mk j oj (by simpa using h1) (by simpa using h2) h3 (by omega) h5 h6
        intro j' o' hj' ho' he'
        by_cases e : j' = i
        · subst e; rw [hao] at ho'; cases ho'; rw [isEff, hc] at he'; cases he'
        · exact hb j' o' (by omega) ho' he'
    | read =>
      rw [hc] at h
      cases k with
      | zero =>
        simp only [List.getElem?_cons_zero, Option.some.injEq] at h1 h2
        subst h1
        rw [isEff, hc] at h3; cases h3
      | succ k =>
        refine effsChained_spec h hl' ha' hm' ?_ k ok mk j oj (by simpa using h1) (by simpa using h2) h3 (by omega) h5 h6
        intro j' o' hj' ho' he'
        by_cases e : j' = i
        · subst e; rw [hao] at ho'; cases ho'; rw [isEff, hc] at he'; cases he'
        · exact hb j' o' (by omega) ho' he'

/-- The one run of a region, and what its checks say. -/
structure Plan (E : Env) (call : Caller) (nt nx0 : Nat) (all : List Oper) (ms : List Nat) (mk : Nat → Nat) (D : Nat → Dr) : Prop where
  step : ∀ i o, all[i]? = some o → drStep E call nt nx0 all ms i o (mk i) (D i) = .ok (D (i + 1))
  len : ms.length = all.length
  mks : ∀ i, i < all.length → ms[i]? = some (mk i)
  mask : ∀ i o j, all[i]? = some o → bitA (mk i) j = true → ∃ e ∈ o.after.toList, bindsA e = true ∧ (j = e.on ∨ (e.on < i ∧ bitA (mk e.on) j = true))
  edge : ∀ i o, all[i]? = some o → ∀ e ∈ o.after.toList, bindsA e = true → e.on < i
  pair : ∀ i oi j oj, all[i]? = some oi → all[j]? = some oj → j < i → differD oi.dst oj.dst = true ∧ (bitA (mk i) j = true ∨ (notInD oj.dst (looksL all oi) = true ∧ notInD oi.dst (looksL all oj) = true))
  chain : ∀ i oi j oj, all[i]? = some oi → all[j]? = some oj → j < i → isEff E oi → isEff E oj → bitA (mk i) j = true
  looks : allLooks E (D all.length).k (D all.length).stages (D all.length).looks = true

theorem evDraw_seq {call : Caller} {nt nx0 : Nat} {all : List Oper} {ms : List Nat} : ∀ {ops : List Oper} {i : Nat} {mrest : List Nat} {d d' : Dr}, evDraw E call nt nx0 all ms i ops mrest d = .ok d' →
    ∃ D : Nat → Dr, D i = d ∧ D (i + ops.length) = d' ∧ ∀ k o m, ops[k]? = some o → mrest[k]? = some m → drStep E call nt nx0 all ms (i + k) o m (D (i + k)) = .ok (D (i + k + 1))
  | [], i, mrest, d, d', h => by cases h; exact ⟨fun _ => d, rfl, rfl, fun k o m h => by simp at h⟩
  | o :: ops, i, [], d, d', h => by cases h
  | o :: ops, i, m :: mrest, d, d', h => by
    simp only [evDraw] at h
    split at h
    · rename_i d1 h1
      obtain ⟨D, e1, e2, e3⟩ := evDraw_seq h
      refine ⟨fun j => if j = i then d else D j, by simp, ?_, ?_⟩
      · rw [← e2]
        show (if i + (ops.length + 1) = i then d else D (i + (ops.length + 1))) = _
        rw [if_neg (by omega)]; congr 1; omega
      · intro k o' m' ho hm
        cases k with
        | zero =>
          simp only [List.getElem?_cons_zero, Option.some.injEq] at ho hm
          subst ho; subst hm
          simp only [Nat.add_zero, if_true]
          rw [if_neg (by omega), e1]; exact h1
        | succ k =>
          have := e3 k o' m' (by simpa using ho) (by simpa using hm)
          show drStep E call nt nx0 all ms (i + (k + 1)) o' m' (if i + (k + 1) = i then d else D (i + (k + 1))) = .ok (if i + (k + 1) + 1 = i then d else D (i + (k + 1) + 1))
          rw [if_neg (by omega), if_neg (by omega)]
          rw [show i + 1 + k = i + (k + 1) by omega] at this
          exact this
    · cases h

theorem plan_of {call : Caller} {nt nx0 : Nat} {all : List Oper} {d0 d' : Dr} (hr : evDraw E call nt nx0 all (masks all []) 0 all (masks all []) d0 = .ok d')
    (hc : effsChained E 0 all (masks all []) 0 = true) (hg : regOk all 0 all (masks all []) [] = true) (hl : allLooks E d'.k d'.stages d'.looks = true) :
    ∃ (mk : Nat → Nat) (D : Nat → Dr), Plan E call nt nx0 all (masks all []) mk D ∧ D 0 = d0 ∧ D all.length = d' := by
  obtain ⟨D, e1, e2, e3⟩ := evDraw_seq hr
  obtain ⟨⟨R, hR, hRl⟩, hms⟩ := masks_spec all []
  have hlen : (masks all []).length = all.length := by rw [hR]; simpa using hRl
  simp only [List.length_nil, Nat.zero_add] at hms e2 e3
  let mk : Nat → Nat := fun i => ((masks all [])[i]?).getD 0
  have hmk : ∀ i, i < all.length → (masks all [])[i]? = some (mk i) := fun i hi => by
    show _ = some (((masks all [])[i]?).getD 0)
    rw [List.getElem?_eq_getElem (by omega)]; rfl
  have hlt : ∀ {i o}, all[i]? = some o → i < all.length := fun h => (List.getElem?_eq_some_iff.1 h).1
  have hsp := (regOk_spec hg).2
  have hedge : ∀ i o, all[i]? = some o → ∀ e ∈ o.after.toList, bindsA e = true → e.on < i := fun i o ho => by
    have := (hsp i o (mk i) ho (hmk i (hlt ho))).1
    rw [Nat.zero_add] at this
    exact edgesOk_spec this
  refine ⟨mk, D, ⟨?_, hlen, hmk, ?_, hedge, ?_, ?_, by rw [e2]; exact hl⟩, e1, e2⟩
  · intro i o ho
    exact e3 i o (mk i) ho (hmk i (hlt ho))
  · intro i o j ho hb
    have h1 := hms i o ho
    rw [hmk i (hlt ho)] at h1
    rw [Option.some.inj h1] at hb
    obtain ⟨e, he, hbe, hor⟩ := maskOf_bit hb
    refine ⟨e, he, hbe, ?_⟩
    rcases hor with rfl | hor
    · exact .inl rfl
    · right
      have hei := hedge i o ho e he hbe
      refine ⟨hei, ?_⟩
      rw [nthL_eq, List.getElem?_take, if_pos hei] at hor
      exact hor
  · intro i oi j oj hi hj hji
    have := (hsp i oi (mk i) hi (hmk i (hlt hi))).2
    have h2 := pairsOk_spec this j (looksL all oj, oj.dst) (by
      rw [List.nil_append, List.getElem?_map, List.getElem?_take, if_pos hji, hj]; rfl)
    rw [Nat.zero_add] at h2
    exact h2
  · intro i oi j oj hi hj hji h1 h2
    exact effsChained_spec (all := all) (msAll := masks all []) hc (by omega) (fun k o ho => by rw [Nat.zero_add]; exact ho) (fun k m hm => by rw [Nat.zero_add]; exact hm)
      (fun j o h => by omega) i oi (mk i) j oj hi (hmk i (hlt hi)) h1 (by omega) hj h2
end Go.AE
