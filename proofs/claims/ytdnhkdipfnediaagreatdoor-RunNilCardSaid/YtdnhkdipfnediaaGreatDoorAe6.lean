/- Operations: assertions, conversions, lengths. No condition: lemmas. -/
import Derived.Test.YtdnhkdipfnediaaGreatDoorAe5
set_option linter.unusedSectionVars false
namespace Go.AE
variable [Syms]
variable {P : Program} {E : Env}

theorem typeAssertA_ok (hE : EnvOk P E) {x v : AV} {xt t : TypeId} {ok : Bool} (h : typeAssertA E x xt t ok = .ok v) {p : Pl} {vx : Value} (hx : Rep p x vx) (w : World) :
    ∃ y, (Instr.typeAssert vx xt t ok).run P w = .ok y w ∧ Rep p v y := by
  unfold typeAssertA at h
  split at h
  · cases h
  · rename_i ti hti
    have ht := hE.ty t ti hti
    split at h
    · cases h
    · rename_i hne
      obtain ⟨d, hd, hdi⟩ := ht.notIface (fun e => hne e)
      cases ok with
      | false => cases h
      | true =>
        simp only [cond_true] at h
        split at h
        · rename_i z hz
          cases h
          obtain ⟨zv, z1, z2⟩ := zeroA_ok hE hz p w
          rw [show vx = _ from hx]
          refine ⟨.tuple #[zv, .bool false], ?_, _, rfl, zv, _, rfl, z2, _, [], rfl, rfl, rfl⟩
          unfold Instr.typeAssert
          rw [Sem.run_bind, run_underlying hd, Result.andThen_ok]
          cases d <;> first | exact absurd rfl (hdi _) | simp [z1]
        · cases h
    · rename_i u y hne
      obtain ⟨d, hd, hdi⟩ := ht.notIface (fun e => hne e)
      obtain ⟨z, rfl, rz⟩ := hx
      cases hb : Nat.beq u t with
      | true =>
        have := Nat.eq_of_beq_eq_true hb
        subst this
        rw [hb] at h; simp only [cond_true] at h
        refine ⟨if ok then .tuple #[z, .bool true] else z, ?_, ?_⟩
        · unfold Instr.typeAssert
          rw [Sem.run_bind, run_underlying hd, Result.andThen_ok]
          cases d <;> first | exact absurd rfl (hdi _) | simp
        · cases ok
          · cases h; exact rz
          · cases h; exact ⟨_, rfl, z, _, rfl, rz, _, [], rfl, rfl, rfl⟩
      | false =>
        have hut : u ≠ t := by intro e; subst e; rw [Nat.beq_refl] at hb; cases hb
        rw [hb] at h; simp only [cond_false] at h
        cases ok with
        | false => cases h
        | true =>
          simp only [cond_true] at h
          split at h
          · rename_i z' hz
            cases h
            obtain ⟨zv, z1, z2⟩ := zeroA_ok hE hz p w
            refine ⟨.tuple #[zv, .bool false], ?_, _, rfl, zv, _, rfl, z2, _, [], rfl, rfl, rfl⟩
            unfold Instr.typeAssert
            rw [Sem.run_bind, run_underlying hd, Result.andThen_ok]
            cases d <;> first | exact absurd rfl (hdi _) | simp [z1, hut]
          · cases h
    · cases h

theorem byteCells_ok {p : Pl} : ∀ {cs : List AV} {l : List Nat} {vs : List Value}, byteCells cs = some l → Reps p cs vs →
    (∀ b ∈ l, b < 256) ∧ vs = l.map (fun n => Value.int .u8 (Int.ofNat n))
  | [], l, vs, h, hr => by simp [byteCells] at h; subst h; rw [show vs = [] from hr]; simp
  | c :: cs, l, vs, h, ⟨v, rest, e, r, rs⟩ => by
    subst e
    unfold byteCells at h
    split at h
    · rename_i e1; cases e1
    · rename_i n cs' e1
      cases e1
      cases hb : Nat.blt n 256 with
      | false => rw [hb] at h; cases h
      | true =>
        rw [hb] at h; simp only [cond_true] at h
        rw [Nat.blt_eq] at hb
        split at h
        · rename_i m hm
          cases h
          obtain ⟨q1, q2⟩ := byteCells_ok hm rs
          refine ⟨fun b hb' => ?_, ?_⟩
          · rcases List.mem_cons.1 hb' with rfl | hb'
            · exact hb
            · exact q1 b hb'
          · rw [q2, show v = _ from r]; simp
        · cases h
    · cases h

/-- the text of bytes -/
def strOf (l : List Nat) : ByteArray := ⟨(l.map UInt8.ofNat).toArray⟩
theorem strOf_rep {l : List Nat} (h : ∀ b ∈ l, b < 256) : (strOf l).data.toList.map UInt8.toNat = l := by
  simp only [strOf]
  rw [List.map_map]
  conv => rhs; rw [← List.map_id l]
  apply List.map_congr_left
  intro b hb
  simp [Nat.mod_eq_of_lt (h b hb)]

theorem toBytes_rep {p : Pl} : ∀ (l : List UInt8), Reps p (toBytes (l.map UInt8.toNat)) (l.map fun b => Value.int .u8 b.toNat)
  | [] => rfl
  | _ :: l => ⟨_, _, rfl, rfl, toBytes_rep l⟩

theorem forIn_bytes {w : World} (g : Value → ByteArray → Sem (ForInStep ByteArray)) (hg : ∀ (x : Nat) (s : ByteArray), (g (.int .u8 (Int.ofNat x)) s).run P w = .ok (.yield (s.push (UInt8.ofNat x))) w) :
    ∀ (m : List Nat) (s : ByteArray), (forIn (m.map (fun n => Value.int .u8 (Int.ofNat n))) s g).run P w = .ok (m.foldl (fun s n => s.push (UInt8.ofNat n)) s) w
  | [], s => by simp
  | x :: m, s => by
    have ih := forIn_bytes g hg m (s.push (UInt8.ofNat x))
    simp only [List.map_cons, List.forIn_cons, List.foldl_cons, Sem.run_bind, hg, Result.andThen_ok]
    exact ih

theorem bytesToString_run {w : World} {a : Addr} {n : Nat} {l : List Nat} {vs : Array Value} (h : (loadCells a n).run P w = .ok vs w) (hv : vs.toList = l.map (fun n => Value.int .u8 (Int.ofNat n))) (c : Nat) :
    (Conv.bytesToString (.slice (some a) n c)).run P w = .ok (.string (strOf l)) w := by
  unfold Conv.bytesToString
  simp only []
  rw [Sem.run_bind, h, Result.andThen_ok]
  rw [← Array.forIn_toList, hv]
  have hf : ∀ (m : List Nat) (s : ByteArray), (m.foldl (fun (s : ByteArray) n => s.push (UInt8.ofNat n)) s).data.toList = s.data.toList ++ m.map UInt8.ofNat := by
    intro m
    induction m with
    | nil => intro s; simp
    | cons x m ih =>
      intro s
      simp only [List.foldl_cons, ih, List.map_cons]
      have : (s.push (UInt8.ofNat x)).data.toList = s.data.toList ++ [UInt8.ofNat x] := by
        cases s; simp [ByteArray.push]
      rw [this]; simp
  have hfin : l.foldl (fun (s : ByteArray) n => s.push (UInt8.ofNat n)) ByteArray.empty = strOf l := by
    have := hf l ByteArray.empty
    have e0 : (ByteArray.empty).data.toList = [] := rfl
    rw [e0, List.nil_append] at this
    cases hx : l.foldl (fun (s : ByteArray) n => s.push (UInt8.ofNat n)) ByteArray.empty with
    | mk d =>
      rw [hx] at this
      simp only [strOf]
      congr 1
      apply Array.ext'
      rw [this]
  rw [Sem.run_bind, forIn_bytes _ (fun x s => by simp) l ByteArray.empty, hfin]
  rfl

end Go.AE
set_option linter.unusedSectionVars false
namespace Go.AE
variable [Syms]
variable {P : Program} {E : Env}

theorem Rel.heap {p : Pl} {h : H} {w w' : World} (r : Rel p h w) (e : w'.heap = w.heap) : Rel p h w' :=
  ⟨fun n b hn => by rw [e]; exact r.blk n b hn, r.inj, r.fresh, r.base, r.glob⟩
theorem Fr.heap {p : Pl} {h : H} {w w' : World} (e : w'.heap = w.heap) (e1 : w'.os = w.os) (e2 : w'.output = w.output) (e3 : w'.tape = w.tape) : Fr p h w p h w' :=
  ⟨Pl.le_refl p, Nat.le_refl _, fun _ _ => rfl, by rw [e]; exact Nat.le_refl _, fun _ _ _ => by rw [e], fun n _ s h1 h2 => .inl ⟨n, s, h1, h2⟩, e1, e2, e3⟩

theorem seqLen_ok {x : AV} {n : Nat} (h : seqLen x = .ok n) {p : Pl} {vx : Value} (hx : Rep p x vx) (w : World) : (Builtin.lenOf vx).run P w = .ok n w := by
  unfold seqLen at h
  split at h
  · cases h
    obtain ⟨s, rfl, rfl⟩ := hx
    rw [lenA_eq, List.length_map, Array.length_toList]
    rfl
  · cases h; rw [show vx = _ from hx]; rfl
  · cases h; obtain ⟨a, c, rfl⟩ := hx; rfl
  · rename_i b o m c
    cases h
    cases c with
    | exact c => obtain ⟨b', s, _, rfl⟩ := hx; rfl
    | more c => obtain ⟨b', s, c', _, rfl, _⟩ := hx; rfl
  · cases h

theorem toBytes_length : ∀ (l : List Nat), (toBytes l).length = l.length
  | [] => rfl
  | _ :: l => by simp [toBytes, toBytes_length l]

theorem firstA_ok {h : H} {size n : Nat} {x : AV} {l : List AV} (hf : firstA h size n x = .ok l) (hn : ∃ m, seqLen x = .ok m ∧ n ≤ m) {p : Pl} {w : World} (r : Rel p h w) {vx : Value} (hx : Rep p x vx) :
    ∃ vs, (∀ w' : World, w'.heap = w.heap → (Builtin.firstCells size n vx).run P w' = .ok vs w') ∧ Reps p l vs.toList ∧ l.length = n * size := by
  obtain ⟨m, hm, hle⟩ := hn
  unfold firstA at hf
  split at hf
  · cases hf
    simp only [seqLen] at hm; cases hm
    have : n = 0 := by omega
    subst this
    rw [show vx = _ from hx]; exact ⟨#[], fun _ _ => rfl, rfl, by simp⟩
  · cases hf
    simp only [seqLen] at hm; cases hm
    have : n = 0 := by omega
    subst this
    obtain ⟨a, c, rfl⟩ := hx
    exact ⟨#[], fun w' _ => by simp [Builtin.firstCells, loadCells, loadCellsFrom], rfl, by simp⟩
  · rename_i b o len c
    obtain ⟨b', sz, vs, e1, e2, e3, e4⟩ := readCells_ok (P := P) r hf
    refine ⟨vs, ?_, e3, e4⟩
    cases c with
    | exact c => obtain ⟨b2, s, q1, rfl⟩ := hx; rw [e1] at q1; obtain ⟨rfl, rfl⟩ := Prod.mk.inj (Option.some.inj q1); exact e2
    | more c => obtain ⟨b2, s, c', q1, rfl, _⟩ := hx; rw [e1] at q1; obtain ⟨rfl, rfl⟩ := Prod.mk.inj (Option.some.inj q1); exact e2
  · cases h1 : Nat.beq size 1 with
    | false => rw [h1] at hf; cases hf
    | true =>
     rw [h1] at hf; simp only [cond_true] at hf
     have h1 := Nat.eq_of_beq_eq_true h1
     subst h1
     split at hf
     · rename_i m' hm'
       cases hf
       obtain ⟨s, rfl, rfl⟩ := hx
       obtain ⟨rfl, hle'⟩ := takeL_eq _ _ _ hm'
       refine ⟨_, fun _ _ => rfl, ?_, ?_⟩
       · rw [Array.toList_map, Lib.extract_data, List.drop_zero, Nat.sub_zero, ← List.map_take]
         exact toBytes_rep _
       · rw [toBytes_length]; simp at hle' ⊢; omega
     · cases hf
  · cases hf

theorem nextcap_le {need cap : Nat} (h : cap < need) : Builtin.nextslicecap need cap ≤ 4 * need + 1000 := by
  unfold Builtin.nextslicecap
  split
  · omega
  · split
    · omega
    · have : ∀ (k c : Nat), Builtin.growBy need k c ≤ max c (2 * need + 500) := by
        intro k
        induction k with
        | zero => intro c; simp [Builtin.growBy]; omega
        | succ k ih =>
          intro c
          simp only [Builtin.growBy]
          split
          · omega
          · have := ih (c + (c + 768) / 4); omega
      have := this 4 cap
      omega

/-- what the tables say of a slice's elements -/
structure SlOk (P : Program) (t e : TypeId) (ei : TI) : Prop where
  hu : P.underlying t = some (.slice e)
  he : TIOk P e ei

theorem run_zeros {b : Bool} (f : Bool → Sem Value) (w : World) (hb : b = false) : (do let zeros ← (pure b : Sem Bool); f zeros : Sem Value).run P w = (f false).run P w := by
  subst hb; rfl

theorem run_append_room {t0 t1 e : TypeId} {ei : TI} (hs : SlOk P t0 e ei) {d1 : TypeDesc} (hd1 : P.underlying t1 = some d1) (hni : ∀ k, d1 ≠ .int k) {ts : Array TypeId} (ht0 : ts[0]? = some t0) (ht1 : ts[1]? = some t1) (ty : TypeId)
    {base : Option Addr} {len cap n : Nat} {x : Value} {w w' : World} (hlen : (Builtin.lenOf x).run P w = .ok n w) {new : Array Value} (hf : (Builtin.firstCells ei.size n x).run P w = .ok new w) (hroom : len + n ≤ cap)
    (hst : ∀ a, base = some a → (storeCells (a.add (len * ei.size)) new.toList).run P w = .ok () w') (hno : base = none → w' = w) :
    (Builtin.append_ ts ty #[.slice base len cap, x]).run P w = .ok (.slice base (len + n) cap) w' := by
  unfold Builtin.append_
  simp only [ht0, ht1, List.getElem?_toArray, List.getElem?_cons_zero, List.getElem?_cons_succ]
  rw [Sem.run_bind, run_underlying hs.hu, Result.andThen_ok]
  simp only []
  rw [Sem.run_bind, hs.he.runSize, Result.andThen_ok, Sem.run_bind, run_underlying hd1, Result.andThen_ok, run_zeros _ _ (by cases d1 <;> first | exact absurd rfl (hni _) | rfl)]
  simp only [Bool.false_eq_true, if_false, Bool.not_false, if_true]
  rw [Sem.run_bind, hlen, Result.andThen_ok, if_pos hroom, Sem.run_bind, hf, Result.andThen_ok]
  cases base with
  | none =>
    have := hno rfl
    subst this
    rfl
  | some a =>
    simp only []
    rw [Sem.run_bind, hst a rfl]
    rfl

theorem askRoom_run (n : Nat) (w : World) : (askRoom n).run P w = .ok () w := by
  unfold askRoom
  split
  · simp [mark, Sem.run]
  · rfl

theorem run_append_fresh {t0 t1 e : TypeId} {ei : TI} (hs : SlOk P t0 e ei) {z : List AV} (hz : ei.zero = some z) {d1 : TypeDesc} (hd1 : P.underlying t1 = some d1) (hni : ∀ k, d1 ≠ .int k) {ts : Array TypeId} (ht0 : ts[0]? = some t0) (ht1 : ts[1]? = some t1) (ty : TypeId)
    {base : Option Addr} {len cap n : Nat} {x : Value} {w : World} (hlen : (Builtin.lenOf x).run P w = .ok n w) {new old : Array Value} (hf : ∀ w' : World, w'.heap = w.heap → (Builtin.firstCells ei.size n x).run P w' = .ok new w')
    (ho : ∀ w' : World, w'.heap = w.heap → (Builtin.firstCells ei.size len (.slice base len cap)).run P w' = .ok old w')
    (hno : cap < len + n) (hbig : (4 * (len + n) + 1000) * (ei.bytes + 1) ≤ 281474976710656) :
    ∃ (c : Nat) (rest : Array Value) (w1 : World), len + n ≤ c ∧ w1.heap = w.heap ∧ w1.os = w.os ∧ w1.output = w.output ∧ w1.tape = w.tape ∧ rest.size = (c - (len + n)) * ei.size ∧
      (Builtin.append_ ts ty #[.slice base len cap, x]).run P w = .ok (.slice (some ⟨w.heap.size, 0, none⟩) (len + n) c) (w1.alloc (.cells (old ++ new ++ rest) e)) := by
  obtain ⟨i, hi, hri, hib⟩ := hs.he.runInfo w
  have hneed : len + n ≤ 281474976710656 := by
    have : 1 * (4 * (len + n) + 1000) ≤ (4 * (len + n) + 1000) * (ei.bytes + 1) := by rw [Nat.one_mul]; exact Nat.le_mul_of_pos_right _ (by omega)
    omega
  have hmax : ¬ (((len + n : Nat) : Int) > IntKind.i64.max) := by
    have : IntKind.i64.max = 9223372036854775807 := by decide
    rw [this]; omega
  have hcap : ¬ (Builtin.nextslicecap (len + n) cap * i.bytes > 2 ^ 48) := by
    have h1 := nextcap_le hno
    have h2 : Builtin.nextslicecap (len + n) cap * i.bytes ≤ (4 * (len + n) + 1000) * (ei.bytes + 1) := by
      rw [hib]; exact Nat.mul_le_mul h1 (by omega)
    have h3 : (2 : Nat) ^ 48 = 281474976710656 := by decide
    rw [h3]; omega
  let q : Question := .appendCap (len + n) cap e
  let c : Nat := q.cut (w.tape w.drawn q)
  let w1 : World := { w with drawn := w.drawn + 1 }
  have hc : len + n ≤ c := by show len + n ≤ (len + n) + _; omega
  have hch : (choose q).run P w = .ok c w1 := by
    simp only [choose, Sem.run, q, Question.forced, Bool.false_eq_true, if_false]
    rfl
  obtain ⟨zv, z1, z2, _⟩ := hs.he.runZero hz (fun _ => none) w1
  have hzl : zv.cells.size = ei.size := by
    have := Reps.length z2
    rw [Array.length_toList] at this
    rw [this, hs.he.zeroLen hz]
  refine ⟨c, Builtin.zeroCells zv.cells (c - (len + n)), w1, hc, rfl, rfl, rfl, rfl, by simp [Builtin.zeroCells, hzl], ?_⟩
  have hri1 : (typeInfo e).run P w1 = .ok i w1 := run_typeInfo w1 hi
  unfold Builtin.append_
  simp only [ht0, ht1, List.getElem?_toArray, List.getElem?_cons_zero, List.getElem?_cons_succ]
  rw [Sem.run_bind, run_underlying hs.hu, Result.andThen_ok]
  simp only []
  rw [Sem.run_bind, hs.he.runSize, Result.andThen_ok, Sem.run_bind, run_underlying hd1, Result.andThen_ok, run_zeros _ _ (by cases d1 <;> first | exact absurd rfl (hni _) | rfl)]
  simp only [Bool.false_eq_true, if_false, Bool.not_false, if_true, false_or]
  rw [Sem.run_bind, hlen, Result.andThen_ok, if_neg (by omega), Sem.run_bind, hri, Result.andThen_ok, if_neg (fun h => hmax h.1)]
  rw [Sem.run_bind, hri, Result.andThen_ok, if_neg hcap]
  rw [Sem.run_bind, hch, Result.andThen_ok, Sem.run_bind, hri1, Result.andThen_ok, Sem.run_bind, askRoom_run, Result.andThen_ok]
  rw [Sem.run_bind, ho w1 rfl, Result.andThen_ok, Sem.run_bind, hf w1 rfl, Result.andThen_ok, Sem.run_bind, z1, Result.andThen_ok]
  simp [newRow, newObj, Sem.run]
  rfl

end Go.AE
set_option linter.unusedSectionVars false
namespace Go.AE
variable [Syms]
variable {P : Program} {E : Env}

/-- A row that was made with more behind it. -/
theorem newRow_more {p : Pl} {h : H} {w w1 : World} (r : Rel p h w) (e1 : w1.heap = w.heap) (e2 : w1.os = w.os) (e3 : w1.output = w.output) (e4 : w1.tape = w.tape) {cs : List AV} {arr rest : Array Value} (e : TypeId) (hc : Reps p cs arr.toList) :
    Rel (p.ext h.nx w.heap.size (arr ++ rest).size) (h.new (.cells cs e)) (w1.alloc (.cells (arr ++ rest) e)) ∧
      Fr p h w (p.ext h.nx w.heap.size (arr ++ rest).size) (h.new (.cells cs e)) (w1.alloc (.cells (arr ++ rest) e)) := by
  have r1 : Rel p h w1 := r.heap e1
  have f1 : Fr p h w p h w1 := Fr.heap e1 e2 e3 e4
  have hlen := Reps.length hc
  rw [Array.length_toList] at hlen
  have := rel_new r1 (.cells cs e) (.cells (arr ++ rest) e) (arr ++ rest).size ⟨arr ++ rest, 0, 0, rfl, rfl, fun i _ => by omega, by rw [← hlen]; simp, ?_⟩
  · rw [e1] at this
    exact ⟨this.1, f1.trans this.2⟩
  · have : ((arr ++ rest).toList.take cs.length) = arr.toList := by
      rw [Array.toList_append, ← hlen, ← Array.length_toList, List.take_left]
    rw [this]
    exact Reps.mono (Pl.le_ext (r1.fresh _ (Nat.le_refl _))) _ _ hc

theorem ovA_take (c : Array Value) (k : Nat) (vs : List Value) (h : k + vs.length ≤ c.size) : (ovA c k vs).toList.take (k + vs.length) = c.toList.take k ++ vs := by
  apply List.ext_getElem?
  intro j
  rw [List.getElem?_take, Array.getElem?_toList, ovA_get vs c k j h, List.getElem?_append]
  by_cases h1 : j < k + vs.length
  · rw [if_pos h1]
    by_cases h2 : k ≤ j
    · rw [if_pos ⟨h2, h1⟩, if_neg (by simp; omega)]
      congr 1
      simp; omega
    · rw [if_neg (by omega), if_pos (by simp; omega), List.getElem?_take, if_pos (by omega)]
      simp
  · rw [if_neg h1, if_neg (by simp; omega)]
    symm
    rw [List.getElem?_eq_none_iff]
    simp; omega

/-- A block goes on under a new name. -/
theorem rel_move {p : Pl} {h : H} {w : World} (r : Rel p h w) {b b' s : Nat} {cs0 : List AV} {e0 e : TypeId} (hg : h.get b = some (.cells cs0 e0)) (hp : p b = some (b', s)) (cs : List AV) (o : Obj)
    (hb : BRep (p.ext h.nx b' s) s (.cells cs e) o) :
    Rel (p.ext h.nx b' s) ((h.kill b).new (.cells cs e)) (w.putObj b' o) ∧ Fr p h w (p.ext h.nx b' s) ((h.kill b).new (.cells cs e)) (w.putObj b' o) := by
  have hle : p.le (p.ext h.nx b' s) := Pl.le_ext (r.fresh _ (Nat.le_refl _))
  have hb0 : h.get b ≠ none := by rw [hg]; simp
  have hlt := r.blockLt hb0 hp
  have hget : ∀ n, ((h.kill b).new (.cells cs e)).get n = if n = h.nx then some (.cells cs e) else if n = b then none else h.get n := by
    intro n
    rw [H.get_new, H.get_kill]
    rfl
  have hcase : ∀ n, ((h.kill b).new (.cells cs e)).get n ≠ none → n = h.nx ∨ (n ≠ b ∧ n ≠ h.nx ∧ h.get n ≠ none) := by
    intro n hn
    rw [hget] at hn
    by_cases e1 : n = h.nx
    · exact .inl e1
    · rw [if_neg e1] at hn
      by_cases e2 : n = b
      · rw [if_pos e2] at hn; exact absurd rfl hn
      · rw [if_neg e2] at hn; exact .inr ⟨e2, e1, hn⟩
  have hother : ∀ n c z, n ≠ b → h.get n ≠ none → p n = some (c, z) → c ≠ b' := by
    intro n c z hn hh e1 e2
    subst e2
    exact hn (r.inj n b c z s hh hb0 e1 hp)
  refine ⟨⟨?_, ?_, ?_, by simp; have := r.base; omega, ?_⟩, ⟨hle, by simp, ?_, by rw [putObj_heap]; simp, ?_, ?_, rfl, rfl, rfl⟩⟩
  · intro n blk hn
    rw [hget] at hn
    by_cases e1 : n = h.nx
    · subst e1
      rw [if_pos rfl] at hn; cases hn
      exact ⟨b', s, o, Pl.ext_self _ _ _ _, by rw [putObj_heap]; simp [hlt], hb⟩
    · rw [if_neg e1] at hn
      by_cases e2 : n = b
      · rw [if_pos e2] at hn; cases hn
      · rw [if_neg e2] at hn
        obtain ⟨c, sz, o', q1, q2, q3⟩ := r.blk n blk hn
        refine ⟨c, sz, o', hle _ _ q1, ?_, q3.mono hle⟩
        rw [putObj_heap, Array.getElem?_setIfInBounds_ne (hother n c sz e2 (by rw [hn]; simp) q1).symm]
        exact q2
  · intro n m c s1 s2 hn hm e1 e2
    rcases hcase n hn with rfl | ⟨n1, n2, n3⟩ <;> rcases hcase m hm with rfl | ⟨m1, m2, m3⟩
    · rfl
    · exfalso
      rw [Pl.ext_self] at e1
      obtain ⟨rfl, rfl⟩ := Prod.mk.inj (Option.some.inj e1)
      have : p m = some (b', s2) := by simpa [Pl.ext, m2] using e2
      exact hother m b' s2 m1 m3 this rfl
    · exfalso
      rw [Pl.ext_self] at e2
      obtain ⟨rfl, rfl⟩ := Prod.mk.inj (Option.some.inj e2)
      have : p n = some (b', s1) := by simpa [Pl.ext, n2] using e1
      exact hother n b' s1 n1 n3 this rfl
    · have h1 : p n = some (c, s1) := by simpa [Pl.ext, n2] using e1
      have h2 : p m = some (c, s2) := by simpa [Pl.ext, m2] using e2
      exact r.inj n m c s1 s2 n3 m3 h1 h2
  · intro n hn
    simp only [H.nx_new, H.nx_kill] at hn
    unfold Pl.ext
    rw [if_neg (by omega)]
    exact r.fresh n (by omega)
  · exact r.glob.ext r.base
  · intro n hn
    unfold Pl.ext
    rw [if_neg (by omega)]
  · intro c hc hne
    rw [putObj_heap, Array.getElem?_setIfInBounds_ne]
    intro e1
    subst e1
    exact hne b s hb0 hp
  · intro n c s1 hn e1
    rcases hcase n hn with rfl | ⟨n1, n2, n3⟩
    · rw [Pl.ext_self] at e1
      obtain ⟨rfl, rfl⟩ := Prod.mk.inj (Option.some.inj e1)
      exact .inl ⟨b, s, hb0, hp⟩
    · have h1 : p n = some (c, s1) := by simpa [Pl.ext, n2] using e1
      exact .inl ⟨n, s1, n3, h1⟩

theorem appendOf_ok {t0 t1 e : TypeId} {ei : TI} (hs : SlOk P t0 e ei) {z : List AV} (hz : ei.zero = some z) {d1 : TypeDesc} (hd1 : P.underlying t1 = some d1) (hni : ∀ k, d1 ≠ .int k) {ts : Array TypeId} (ht0 : ts[0]? = some t0) (ht1 : ts[1]? = some t1) (ty : TypeId)
    {n : Nat} {new : List AV} {s x a : AV} {h h' : H} (hn : seqLen x = .ok n) (hfa : firstA h ei.size n x = .ok new) (hap : appendOf ei e n new s h = .ok (.val a h'))
    {p : Pl} {w : World} (r : Rel p h w) {vs vx : Value} (hsv : Rep p s vs) (hxv : Rep p x vx) :
    ∃ y p' w', (Builtin.append_ ts ty #[vs, vx]).run P w = .ok y w' ∧ Rep p' a y ∧ Rel p' h' w' ∧ Fr p h w p' h' w' := by
  have hlen := seqLen_ok (P := P) hn hxv w
  obtain ⟨nv, hf, hnr, hnl⟩ := firstA_ok (P := P) hfa ⟨n, hn, Nat.le_refl _⟩ r hxv
  have hnvl : nv.size = n * ei.size := by have := Reps.length hnr; rw [Array.length_toList] at this; rw [this, hnl]
  have hf0 := hf w rfl
  -- new memory, behind whatever stood there
  have fresh : ∀ (base : Option Addr) (len cap : Nat) (old : List AV) (ov : Array Value) (hk : H), cap < len + n → (4 * (len + n) + 1000) * (ei.bytes + 1) ≤ 281474976710656 →
      (∀ w' : World, w'.heap = w.heap → (Builtin.firstCells ei.size len (.slice base len cap)).run P w' = .ok ov w') → Reps p old ov.toList → ov.size = len * ei.size → Rel p hk w → Fr p h w p hk w →
      vs = .slice base len cap →
      ∃ y p' w', (Builtin.append_ ts ty #[vs, vx]).run P w = .ok y w' ∧ Rep p' (.slice hk.nx 0 (len + n) (.more ei.size)) y ∧ Rel p' (hk.new (.cells (old ++ new) e)) w' ∧ Fr p h w p' (hk.new (.cells (old ++ new) e)) w' := by
    intro base len cap old ov hk hno hbig ho hor hol rk fk hvs
    subst hvs
    obtain ⟨c, rest, w1, k1, k2, k3, k4, k5, k6, k7⟩ := run_append_fresh hs hz hd1 hni ht0 ht1 ty hlen hf ho hno hbig
    have hcells : Reps p (old ++ new) (ov ++ nv).toList := by rw [Array.toList_append]; exact hor.append hnr
    obtain ⟨m1, m2⟩ := newRow_more rk k2 k3 k4 k5 (rest := rest) e hcells
    refine ⟨_, _, _, k7, ?_, m1, fk.trans m2⟩
    refine ⟨w.heap.size, (ov ++ nv ++ rest).size, c, Pl.ext_self _ _ _ _, rfl, k1, ?_⟩
    have : (ov ++ nv ++ rest).size = c * ei.size := by
      simp only [Array.size_append, hol, hnvl, k6]
      rw [← Nat.add_mul, ← Nat.add_mul]
      congr 1
      omega
    rw [this]; omega
  unfold appendOf at hap
  split at hap
  · rw [show vs = _ from hsv]
    cases hn0 : Nat.beq n 0 with
    | true =>
      rw [hn0] at hap; cases hap
      have := Nat.eq_of_beq_eq_true hn0
      subst this
      refine ⟨.slice none 0 0, p, w, ?_, rfl, r, Fr.refl p h w⟩
      exact run_append_room hs hd1 hni ht0 ht1 ty hlen hf0 (Nat.le_refl _) (by simp) (fun _ => rfl)
    | false =>
      rw [hn0] at hap; simp only [cond_false] at hap
      have hne : n ≠ 0 := by intro e; subst e; simp at hn0
      cases hb : Nat.ble ((4 * n + 1000) * (ei.bytes + 1)) 281474976710656 with
      | false => rw [hb] at hap; cases hap
      | true =>
        rw [hb] at hap; cases hap
        rw [Nat.ble_eq] at hb
        have := fresh none 0 0 [] #[] h (by omega) (by simpa using hb) (fun _ _ => rfl) rfl (by simp) r (Fr.refl p h w) hsv
        simpa [show vs = _ from hsv] using this
  · rename_i b o len c
    obtain ⟨b', sz, e1, rfl⟩ := hsv
    cases hroom : Nat.ble (len + n) c with
    | true =>
      rw [hroom] at hap; simp only [cond_true] at hap
      rw [Nat.ble_eq] at hroom
      split at hap
      · rename_i h1 hw
        cases hap
        obtain ⟨b2, s2, q1, w', q2, q3, q4⟩ := writeCells_ok (P := P) r hnr hw
        rw [e1] at q1
        obtain ⟨rfl, rfl⟩ := Prod.mk.inj (Option.some.inj q1)
        refine ⟨_, p, w', run_append_room hs hd1 hni ht0 ht1 ty hlen hf0 hroom (fun a ha => ?_) (by simp), ⟨b', sz, e1, rfl⟩, q3, q4⟩
        cases ha
        rw [add_none]
        exact q2
      · cases hap
    | false =>
      rw [hroom] at hap; simp only [cond_false] at hap
      have hno : c < len + n := by
        apply Classical.byContradiction
        intro hge
        rw [show Nat.ble (len + n) c = true from by rw [Nat.ble_eq]; omega] at hroom
        cases hroom
      cases hb : Nat.ble ((4 * (len + n) + 1000) * (ei.bytes + 1)) 281474976710656 with
      | false => rw [hb] at hap; cases hap
      | true =>
        rw [hb] at hap; simp only [cond_true] at hap
        rw [Nat.ble_eq] at hb
        split at hap
        · rename_i old hold
          cases hap
          obtain ⟨b2, s2, ov, q1, q2, q3, q4⟩ := readCells_ok (P := P) r hold
          rw [e1] at q1
          obtain ⟨rfl, rfl⟩ := Prod.mk.inj (Option.some.inj q1)
          have hol : ov.size = len * ei.size := by have := Reps.length q3; rw [Array.length_toList] at this; rw [this, q4]
          exact fresh (some ⟨b', o, none⟩) len c old ov h hno hb q2 q3 hol r (Fr.refl p h w) rfl
        · cases hap
  · rename_i b o len sz
    cases hn0 : Nat.beq n 0 with
    | true =>
      rw [hn0] at hap; cases hap
      have := Nat.eq_of_beq_eq_true hn0
      subst this
      have hnvnil : nv.toList = [] := List.length_eq_zero_iff.1 (by rw [Array.length_toList, hnvl]; simp)
      obtain ⟨b', s', c', e1, rfl, e2, e3⟩ := hsv
      refine ⟨_, p, w, run_append_room hs hd1 hni ht0 ht1 ty hlen hf0 (by omega) (fun a _ => by rw [hnvnil]; simp [storeCells]) (by simp), ⟨b', s', c', e1, rfl, e2, e3⟩, r, Fr.refl p h w⟩
    | false =>
      rw [hn0] at hap; simp only [cond_false] at hap
      cases hb : (Nat.beq o 0 && Nat.blt 0 sz && Nat.beq sz ei.size && allOne new && Nat.ble ((4 * (len + n) + 1000) * (ei.bytes + 1)) 281474976710656) with
      | false => rw [hb] at hap; cases hap
      | true =>
        rw [hb] at hap; simp only [cond_true] at hap
        simp only [Bool.and_eq_true, Nat.ble_eq, Nat.blt_eq] at hb
        obtain ⟨⟨⟨⟨g1, g0⟩, g2⟩, g3⟩, g4⟩ := hb
        have g1 := Nat.eq_of_beq_eq_true g1
        have g2 := Nat.eq_of_beq_eq_true g2
        subst g1; subst g2
        obtain ⟨b', s', c', e1, rfl, e2, e3⟩ := hsv
        split at hap
        · rename_i cs0 e' old hg hold
          cases hee : Nat.beq e e' with
          | false => rw [hee] at hap; cases hap
          | true =>
            have := Nat.eq_of_beq_eq_true hee
            subst this
            rw [hee] at hap; cases hap
            obtain ⟨b2, s2, ov, q1, q2, q3, q4⟩ := readCells_ok (P := P) r hold
            rw [e1] at q1
            obtain ⟨rfl, rfl⟩ := Prod.mk.inj (Option.some.inj q1)
            have hol : ov.size = len * ei.size := by have := Reps.length q3; rw [Array.length_toList] at this; rw [this, q4]
            obtain ⟨rk, fk⟩ := rel_kill r b
            by_cases hroom : len + n ≤ c'
            · -- it lies behind the old ones: the block bears a new name
              obtain ⟨b3, s3, c, lo, hi, t1', t2', t3', t4', t5', t6'⟩ := cellsAt r hg
              rw [e1] at t1'
              obtain ⟨rfl, rfl⟩ := Prod.mk.inj (Option.some.inj t1')
              have hfit : 0 + len * ei.size + nv.toList.length ≤ c.size := by
                rw [Array.length_toList, hnvl, t3', Nat.zero_add, ← Nat.add_mul]
                have : (len + n) * ei.size ≤ c' * ei.size := Nat.mul_le_mul_right _ hroom
                omega
              have hst := run_storeCells_over (P := P) (b := b') (o := 0 + len * ei.size) (e := e) (lo := lo) (hi := hi) nv.toList 0 c w t2' (by simpa using hfit) (by rw [t3']; exact t4') (ones_of_reps hnr g3)
              have hne : nv.toList ≠ [] := by
                intro hc
                have hl0 := congrArg List.length hc
                rw [Array.length_toList, hnvl] at hl0
                have hn1 : n ≠ 0 := by intro e; subst e; simp at hn0
                simp only [List.length_nil, Nat.mul_eq_zero] at hl0
                omega
              rw [if_neg hne] at hst
              simp only [Nat.add_zero] at hst
              refine ⟨_, _, _, run_append_room (base := some ⟨b', 0, none⟩) (w' := w.putObj b' (.cells (ovA c (0 + len * ei.size) nv.toList) e (lo, hi))) hs hd1 hni ht0 ht1 ty hlen hf0 hroom (fun a ha => ?_) (fun hc => by cases hc), ?_, rel_move r hg e1 (old ++ new) (.cells (ovA c (0 + len * ei.size) nv.toList) e (lo, hi)) ⟨_, lo, hi, rfl, by rw [ovA_size, t3'], t4', ?_, ?_⟩⟩
              · cases ha
                rw [add_none]
                exact hst
              · exact ⟨b', s', c', Pl.ext_self _ _ _ _, rfl, hroom, e3⟩
              · rw [List.length_append, q4, hnl, ← Nat.add_mul]
                have : (len + n) * ei.size ≤ c' * ei.size := Nat.mul_le_mul_right _ hroom
                omega
              · have hle := Pl.le_ext (c := b') (s := s') (r.fresh _ (Nat.le_refl _))
                have hlen2 : (old ++ new).length = 0 + len * ei.size + nv.toList.length := by rw [List.length_append, q4, hnl, Array.length_toList, hnvl]; omega
                rw [hlen2, ovA_take _ _ _ (by simpa using hfit)]
                refine (Reps.mono hle _ _ ?_).append (Reps.mono hle _ _ hnr)
                -- the old cells
                have hrd := hold
                unfold readCells at hrd
                rw [hg] at hrd
                simp only [] at hrd
                split at hrd
                · rename_i l0 hl0
                  cases hrd
                  obtain ⟨z1, z2, z3⟩ := Reps.take (Reps.drop (n := 0) t6') hl0
                  simp only [List.drop_zero] at z1 z3
                  rw [List.take_take, Nat.min_eq_left (by simp at z3; omega)] at z1
                  rw [Nat.zero_add]
                  exact z1
                · cases hrd
            · exact fresh (some ⟨b', 0, none⟩) len c' old ov (h.kill b) (by omega) g4 q2 q3 hol rk fk rfl
        · cases hap
  · cases hap

end Go.AE
set_option linter.unusedSectionVars false
namespace Go.AE
variable [Syms]
variable {P : Program} {E : Env}

theorem copyA_ok (hE : EnvOk P E) {t0 : TypeId} {d x a : AV} {h h' : H} (hc : copyA E t0 d x h = .ok (.val a h')) {ts : Array TypeId} (ht0 : ts[0]? = some t0) (ty : TypeId) {p : Pl} {w : World} (r : Rel p h w) {vd vx : Value} (hd : Rep p d vd) (hx : Rep p x vx) :
    ∃ y w', (Builtin.copy_ ts ty #[vd, vx]).run P w = .ok y w' ∧ Rep p a y ∧ Rel p h' w' ∧ Fr p h w p h' w' := by
  unfold copyA at hc
  split at hc
  · rename_i ti hti
    have hu := (hE.ty _ _ hti).und
    split at hc
    · rename_i e e1
      rw [e1] at hu
      simp only [UDOk] at hu
      split at hc
      · rename_i ei dl xl hei hdl hxl
        simp only [] at hc
        have hlen := seqLen_ok (P := P) hxl hx w
        have hmin : (bif Nat.ble xl dl then xl else dl) = Nat.min xl dl := by
          cases hb : Nat.ble xl dl with
          | true => rw [Nat.ble_eq] at hb; exact (Nat.min_eq_left hb).symm
          | false =>
            have : ¬ xl ≤ dl := by intro hle; rw [show Nat.ble xl dl = true from by rw [Nat.ble_eq]; exact hle] at hb; cases hb
            show dl = Nat.min xl dl
            exact (Nat.min_eq_right (by omega)).symm
        rw [hmin] at hc
        split at hc
        · cases hc
        · rename_i new hnew
          obtain ⟨nv, hf, hnr, hnl⟩ := firstA_ok (P := P) hnew ⟨xl, hxl, Nat.min_le_left _ _⟩ r hx
          have run : ∀ (base : Option Addr) (cap : Nat) (w' : World), vd = .slice base dl cap → (∀ ad, base = some ad → (storeCells ad nv.toList).run P w = .ok () w') → (base = none → w' = w) →
              (Builtin.copy_ ts ty #[vd, vx]).run P w = .ok (.int .i64 (Int.ofNat (Nat.min xl dl))) w' := by
            intro base cap w' hv hs hn
            subst hv
            unfold Builtin.copy_
            simp only [ht0, List.getElem?_toArray, List.getElem?_cons_zero, List.getElem?_cons_succ]
            rw [Sem.run_bind, run_underlying hu, Result.andThen_ok]
            simp only []
            rw [Sem.run_bind, hlen, Result.andThen_ok, Sem.run_bind, (hE.ty _ _ hei).runSize, Result.andThen_ok, Sem.run_bind, hf w rfl, Result.andThen_ok]
            cases base with
            | none => rw [hn rfl]; rfl
            | some ad =>
              simp only []
              rw [Sem.run_bind, hs ad rfl]
              rfl
          split at hc
          · cases hc
            have hv := hd
            simp only [seqLen] at hdl; cases hdl
            exact ⟨_, w, run none 0 w hv (by simp) (fun _ => rfl), rfl, r, Fr.refl p h w⟩
          · cases hc
            simp only [seqLen] at hdl; cases hdl
            obtain ⟨ad, c, rfl⟩ := hd
            have hnil : nv.toList = [] := List.length_eq_zero_iff.1 (by rw [Reps.length hnr, hnl]; simp)
            exact ⟨_, w, run (some ad) c w rfl (fun a' _ => by rw [hnil]; simp [storeCells]) (by simp), rfl, r, Fr.refl p h w⟩
          · rename_i b o dl' c
            simp only [seqLen] at hdl; cases hdl
            split at hc
            · rename_i h1 hw
              cases hc
              obtain ⟨b2, s2, q1, w', q2, q3, q4⟩ := writeCells_ok (P := P) r hnr hw
              have hv : ∃ cap, vd = .slice (some ⟨b2, o, none⟩) dl cap := by
                cases c with
                | exact c => obtain ⟨b', s, e2, rfl⟩ := hd; rw [q1] at e2; obtain ⟨rfl, rfl⟩ := Prod.mk.inj (Option.some.inj e2); exact ⟨_, rfl⟩
                | more c => obtain ⟨b', s, c', e2, rfl, _⟩ := hd; rw [q1] at e2; obtain ⟨rfl, rfl⟩ := Prod.mk.inj (Option.some.inj e2); exact ⟨_, rfl⟩
              obtain ⟨cap, hv⟩ := hv
              exact ⟨_, w', run _ cap w' hv (fun a' ha => by cases ha; exact q2) (by simp), rfl, q3, q4⟩
            · cases hc
          · cases hc
      · cases hc
    · cases hc
  · cases hc

theorem minmax_ok {mx : Bool} : ∀ {l : List AV} {v a : AV}, minmax mx v l = .ok a → ∀ {p : Pl} {x : Value} {xs : List Value}, Rep p v x → Reps p l xs → ∀ (w : World),
    ∃ y, (xs.foldlM (if mx then Builtin.max2 else Builtin.min2) x).run P w = .ok y w ∧ Rep p a y
  | [], v, a, h, p, x, xs, hx, hl, w => by
    simp [minmax] at h; subst h
    rw [show xs = [] from hl]
    exact ⟨x, by simp, hx⟩
  | b :: l, v, a, h, p, x, xs, hx, ⟨y, ys, e, ry, rs⟩, w => by
    subst e
    cases v <;> cases b <;> simp only [minmax] at h <;> try contradiction
    rename_i k m k' n
    rw [show x = _ from hx, show y = _ from ry]
    have step : ((if mx then Builtin.max2 else Builtin.min2) (.int k m) (.int k' n)).run P w = .ok (.int k (bif (bif mx then bltInt m n else bltInt n m) then n else m)) w := by
      cases mx
      · simp only [Bool.false_eq_true, if_false, Builtin.min2, cond_false, bltInt_eq]
        by_cases hc : n < m <;> simp [hc]
      · simp only [if_true, Builtin.max2, cond_true, bltInt_eq]
        by_cases hc : m < n <;> simp [hc]
    obtain ⟨z, q1, q2⟩ := minmax_ok h (p := p) (x := .int k (bif (bif mx then bltInt m n else bltInt n m) then n else m)) rfl rs w
    refine ⟨z, ?_, q2⟩
    rw [List.foldlM_cons, Sem.run_bind, step]
    exact q1

theorem lenOfA_ok {h : H} {x : AV} {n : Nat} (hl : lenOfA h x = .ok n) {u : UD} (hfit : lenFits u x = true) {t : TypeId} (hu : UDOk P t u) {ts : Array TypeId} (ht : ts[0]? = some t) (ty : TypeId) {p : Pl} {w : World} (r : Rel p h w) {vx : Value} (hx : Rep p x vx) (rest : List Value) :
    (Builtin.len_ ts ty (vx :: rest).toArray).run P w = .ok (.int .i64 (Int.ofNat n)) w := by
  unfold lenFits at hfit
  unfold Builtin.len_
  simp only [ht, List.getElem?_toArray, List.getElem?_cons_zero]
  split at hfit
  · simp only [UDOk] at hu
    cases hl
    obtain ⟨s, rfl, rfl⟩ := hx
    rw [Sem.run_bind, run_underlying hu, Result.andThen_ok, lenA_eq, List.length_map, Array.length_toList]
    rfl
  · simp only [UDOk] at hu
    cases hl
    rw [show vx = _ from hx, Sem.run_bind, run_underlying hu, Result.andThen_ok]
    rfl
  · simp only [UDOk] at hu
    cases hl
    obtain ⟨a, c, rfl⟩ := hx
    rw [Sem.run_bind, run_underlying hu, Result.andThen_ok]
    rfl
  · rename_i b o m c
    simp only [UDOk] at hu
    cases hl
    rw [Sem.run_bind, run_underlying hu, Result.andThen_ok]
    cases c with
    | exact c => obtain ⟨b', s, _, rfl⟩ := hx; rfl
    | more c => obtain ⟨b', s, c', _, rfl, _⟩ := hx; rfl
  · simp only [UDOk] at hu
    cases hl
    rw [show vx = _ from hx, Sem.run_bind, run_underlying hu, Result.andThen_ok]
    rfl
  · rename_i m
    simp only [UDOk] at hu
    simp only [lenOfA] at hl
    split at hl
    · rename_i es clock hg
      cases hl
      obtain ⟨b, s, es', rfl, e1, e2, e3⟩ := mapAt r hg hx
      have hsz : es'.size = es.length := by have := (EntsRep.iff.1 e3).1; rw [Array.length_toList] at this; exact this
      rw [Sem.run_bind, run_underlying hu, Result.andThen_ok]
      simp only []
      rw [Sem.run_bind, run_getObj' e2 (by simp), Result.andThen_ok]
      simp [goInt, hsz, lenA_eq]
    · cases hl
  · cases hfit

theorem freeze_new (w : World) (arr : Array Value) (e : TypeId) (c : Nat) : (w.alloc (.cells arr e)).freeze ⟨w.heap.size, c, none⟩ 1 = w.alloc (.cells arr e (c, c + 1)) := by
  have hh : (w.heap.push (.cells arr e)).modify w.heap.size (fun
      | .cells c' elem (lo, hi) => .cells c' elem (if lo == hi then (c, c + 1) else (min lo c, max hi (c + 1)))
      | o => o) = w.heap.push (.cells arr e (c, c + 1)) := by
    apply Array.ext_getElem?
    intro j
    rw [Array.getElem?_modify, Array.getElem?_push, Array.getElem?_push]
    by_cases hj : j = w.heap.size
    · subst hj
      simp
    · rw [if_neg (fun hx => hj hx.symm), if_neg hj, if_neg hj]
  unfold World.freeze
  rw [if_neg (by omega)]
  unfold World.alloc
  simp only []
  congr 1

theorem stringToBytes_ok {p : Pl} {h : H} {w : World} (r : Rel p h w) (e : TypeId) (s : ByteArray) :
    ∃ y p' w', (Conv.stringToBytes e s).run P w = .ok y w' ∧ Rep p' (.slice h.nx 0 s.size (.more 1)) y ∧ Rel p' (h.new (.cells (toBytes (s.data.toList.map UInt8.toNat)) e)) w' ∧
      Fr p h w p' (h.new (.cells (toBytes (s.data.toList.map UInt8.toNat)) e)) w' := by
  let q : Question := .appendCap s.size 0 e
  let c : Nat := q.cut (w.tape w.drawn q)
  let w1 : World := { w with drawn := w.drawn + 1 }
  have hc : s.size ≤ c := by show s.size ≤ s.size + _; omega
  have hch : (choose q).run P w = .ok c w1 := by
    simp only [choose, Sem.run, q, Question.forced, Bool.false_eq_true, if_false]
    rfl
  let elems : Array Value := s.data.map fun b => .int .u8 b.toNat
  let arr : Array Value := elems ++ Array.replicate (c - s.size) (.int .u8 0)
  have hel : elems.size = s.size := by show (s.data.map _).size = s.data.size; simp
  have harr : arr.size = c := by show (elems ++ Array.replicate _ _).size = c; rw [Array.size_append, hel, Array.size_replicate]; omega
  have r1 : Rel p h w1 := r.heap rfl
  have f1 : Fr p h w p h w1 := Fr.heap rfl rfl rfl rfl
  have hrep : Reps p (toBytes (s.data.toList.map UInt8.toNat)) elems.toList := by
    show Reps p _ (s.data.map _).toList
    rw [Array.toList_map]; exact toBytes_rep _
  have hblk := rel_new r1 (.cells (toBytes (s.data.toList.map UInt8.toNat)) e) (.cells arr e (c, c + 1)) c
    ⟨arr, c, c + 1, rfl, harr, fun i hi => by omega, by rw [toBytes_length]; simp; exact hc, by
      have hlen : (toBytes (s.data.toList.map UInt8.toNat)).length = elems.toList.length := (Reps.length hrep).symm
      rw [hlen]
      show Reps _ _ ((elems ++ Array.replicate _ _).toList.take _)
      rw [Array.toList_append, List.take_left]
      exact Reps.mono (Pl.le_ext (r1.fresh _ (Nat.le_refl _))) _ _ hrep⟩
  refine ⟨.slice (some ⟨w.heap.size, 0, none⟩) s.size c, _, _, ?_, ⟨w.heap.size, c, c, Pl.ext_self _ _ _ _, rfl, hc, by omega⟩, hblk.1, f1.trans hblk.2⟩
  have hnew : (newRow e arr).run P w1 = .ok ⟨w.heap.size, 0, none⟩ (w1.alloc (.cells arr e)) := by simp [newRow, newObj, Sem.run, w1]; rfl
  have hmk : (markStringish ⟨w.heap.size, 0, none⟩).run P (w1.alloc (.cells arr e)) = .ok () (w1.alloc (.cells arr e (c, c + 1))) := by
    have hshape : (w1.alloc (.cells arr e)).shape? w.heap.size = some (e, c) := by
      simp only [World.shape?]
      have : (w1.alloc (.cells arr e)).heap[w.heap.size]? = some (.cells arr e) := by rw [alloc_heap]; exact Array.getElem?_push_size
      rw [this, ← harr]
    have hsh : (shape w.heap.size).run P (w1.alloc (.cells arr e)) = .ok (some (e, c)) (w1.alloc (.cells arr e)) := by
      simp only [shape, Sem.run, hshape]
    unfold markStringish
    rw [Sem.run_bind, hsh, Result.andThen_ok]
    simp only [freeze, Sem.run]
    rw [← freeze_new w1 arr e c]
  unfold Conv.stringToBytes
  rw [Sem.run_bind, hch, Result.andThen_ok]
  simp only []
  rw [Sem.run_bind, hnew, Result.andThen_ok, Sem.run_bind, hmk, Result.andThen_ok]
  rfl

end Go.AE
set_option linter.unusedSectionVars false
namespace Go.AE
variable [Syms]
variable {P : Program} {E : Env}

theorem convertA_ok (hE : EnvOk P E) {s d : TypeId} {x a : AV} {h h' : H} (hc : convertA E s d x h = .ok (.val a h')) {p : Pl} {w : World} (r : Rel p h w) {vx : Value} (hx : Rep p x vx) :
    ∃ y p' w', (Go.convert s d vx).run P w = .ok y w' ∧ Rep p' a y ∧ Rel p' h' w' ∧ Fr p h w p' h' w' := by
  unfold convertA at hc
  split at hc
  · rename_i si di hsi hdi
    have hs := hE.ty _ _ hsi
    have hd := hE.ty _ _ hdi
    obtain ⟨ds, hds⟩ := hs.desc
    have hud := hd.und
    have hus := hs.und
    split at hc
    · rename_i k kk n e1
      rw [okInt_eq, wrapA_eq] at hc
      cases hc
      rw [e1] at hud; simp only [UDOk] at hud
      rw [show vx = _ from hx]
      refine ⟨.int k (k.wrap n), p, w, ?_, rfl, r, Fr.refl p h w⟩
      unfold Go.convert
      rw [Sem.run_bind, run_underlying hds, Result.andThen_ok, Sem.run_bind, run_underlying hud, Result.andThen_ok]
      rfl
    · rename_i l e1
      cases hc
      rw [e1] at hud; simp only [UDOk] at hud
      obtain ⟨t, rfl, rfl⟩ := hx
      refine ⟨.string t, p, w, ?_, ⟨t, rfl, rfl⟩, r, Fr.refl p h w⟩
      unfold Go.convert
      rw [Sem.run_bind, run_underlying hds, Result.andThen_ok, Sem.run_bind, run_underlying hud, Result.andThen_ok]
      rfl
    · rename_i k0 k n e0 e1
      rw [e1] at hud; simp only [UDOk] at hud
      cases hb : Nat.blt n 128 with
      | false => rw [hb] at hc; cases hc
      | true =>
        rw [hb] at hc; cases hc
        rw [Nat.blt_eq] at hb
        rw [show vx = _ from hx]
        refine ⟨.string (Utf8.encode (Int.ofNat n)), p, w, ?_, ⟨_, rfl, ?_⟩, r, Fr.refl p h w⟩
        · unfold Go.convert
          rw [Sem.run_bind, run_underlying hds, Result.andThen_ok, Sem.run_bind, run_underlying hud, Result.andThen_ok]
          rfl
        · have hv : Utf8.valid (Int.ofNat n) = true := by
            simp only [Utf8.valid, Int.ofNat_eq_natCast, Bool.or_eq_true, Bool.and_eq_true, decide_eq_true_iff]
            left; constructor <;> omega
          unfold Utf8.encode
          simp only [hv, if_true]
          have : (Int.ofNat n).toNat = n := by simp
          rw [this, if_pos (by omega)]
          simp; omega
    · rename_i e l e1
      rw [e1] at hud; simp only [UDOk] at hud
      split at hc
      · rename_i ei hei
        have hue := (hE.ty _ _ hei).und
        split at hc
        · rename_i e2
          cases hc
          rw [e2] at hue; simp only [UDOk] at hue
          obtain ⟨t, rfl, rfl⟩ := hx
          obtain ⟨y, p', w', q1, q2, q3, q4⟩ := stringToBytes_ok (P := P) r e t
          refine ⟨y, p', w', ?_, ?_, q3, q4⟩
          · unfold Go.convert
            rw [Sem.run_bind, run_underlying hds, Result.andThen_ok, Sem.run_bind, run_underlying hud, Result.andThen_ok]
            simp only []
            rw [Sem.run_bind, run_underlying hue, Result.andThen_ok]
            exact q1
          · have : lenA (t.data.toList.map UInt8.toNat) = t.size := by rw [lenA_eq, List.length_map, Array.length_toList]; rfl
            rw [this]; exact q2
        · cases hc
      · cases hc
    · rename_i e e0 e1
      rw [e1] at hud; simp only [UDOk] at hud
      rw [e0] at hus; simp only [UDOk] at hus
      split at hc
      · rename_i ei hei
        have hue := (hE.ty _ _ hei).und
        split at hc
        · rename_i e2
          cases hc
          rw [e2] at hue; simp only [UDOk] at hue
          rw [show vx = _ from hx]
          refine ⟨.string .empty, p, w, ?_, ⟨_, rfl, rfl⟩, r, Fr.refl p h w⟩
          unfold Go.convert
          rw [Sem.run_bind, run_underlying hus, Result.andThen_ok, Sem.run_bind, run_underlying hud, Result.andThen_ok]
          simp only []
          rw [Sem.run_bind, run_underlying hue, Result.andThen_ok]
          rfl
        · cases hc
      · cases hc
    · rename_i e e0 e1
      rw [e1] at hud; simp only [UDOk] at hud
      rw [e0] at hus; simp only [UDOk] at hus
      split at hc
      · rename_i ei hei
        have hue := (hE.ty _ _ hei).und
        split at hc
        · rename_i e2
          cases hc
          rw [e2] at hue; simp only [UDOk] at hue
          obtain ⟨ad, c, rfl⟩ := hx
          have hl : (loadCells ad 0).run P w = .ok #[] w := by simp [loadCells, loadCellsFrom]
          have := bytesToString_run (P := P) (l := []) hl rfl c
          refine ⟨.string (strOf []), p, w, ?_, ⟨_, rfl, rfl⟩, r, Fr.refl p h w⟩
          unfold Go.convert
          rw [Sem.run_bind, run_underlying hus, Result.andThen_ok, Sem.run_bind, run_underlying hud, Result.andThen_ok]
          simp only []
          rw [Sem.run_bind, run_underlying hue, Result.andThen_ok]
          exact this
        · cases hc
      · cases hc
    · rename_i e n o len c e0 e1
      rw [e1] at hud; simp only [UDOk] at hud
      rw [e0] at hus; simp only [UDOk] at hus
      split at hc
      · rename_i ei hei
        have hue := (hE.ty _ _ hei).und
        split at hc
        · rename_i e2
          rw [e2] at hue; simp only [UDOk] at hue
          split at hc
          · rename_i cs hcs
            split at hc
            · rename_i l hl
              cases hc
              obtain ⟨b, sz, vs, q1, q2, q3, _⟩ := readCells_ok (P := P) r hcs
              obtain ⟨b1, b2⟩ := byteCells_ok hl q3
              have key : ∀ cap, vx = .slice (some ⟨b, o, none⟩) len cap → ∃ y p' w', (Go.convert s d vx).run P w = .ok y w' ∧ Rep p' (.str l) y ∧ Rel p' h w' ∧ Fr p h w p' h w' := by
                intro cap hv
                subst hv
                refine ⟨.string (strOf l), p, w, ?_, ⟨_, rfl, strOf_rep b1⟩, r, Fr.refl p h w⟩
                unfold Go.convert
                rw [Sem.run_bind, run_underlying hus, Result.andThen_ok, Sem.run_bind, run_underlying hud, Result.andThen_ok]
                simp only []
                rw [Sem.run_bind, run_underlying hue, Result.andThen_ok]
                exact bytesToString_run (q2 w rfl) b2 cap
              cases c with
              | exact c => obtain ⟨b', s', e3, e4⟩ := hx; rw [q1] at e3; obtain ⟨rfl, rfl⟩ := Prod.mk.inj (Option.some.inj e3); exact key _ e4
              | more c => obtain ⟨b', s', c', e3, e4, _⟩ := hx; rw [q1] at e3; obtain ⟨rfl, rfl⟩ := Prod.mk.inj (Option.some.inj e3); exact key _ e4
            · cases hc
          · cases hc
        · cases hc
      · cases hc
    · cases hc
  · cases hc

theorem arr_nth {α : Type} {a : Array α} {x : α} {l : List α} (h : a.toList = x :: l) : a[0]? = some x ∧ ∀ y l', l = y :: l' → a[1]? = some y := by
  have h0 : ∀ i, a[i]? = (x :: l)[i]? := fun i => by rw [← h, Array.getElem?_toList]
  refine ⟨by rw [h0]; rfl, fun y l' e => ?_⟩
  rw [h0, e]; rfl

theorem Val.num {p : Pl} {h : H} {w : World} (r : Rel p h w) (n : Nat) {res : Result Next} (hr : res = .ok (.value (.int .i64 (Int.ofNat n))) w) : Val p h w (.int .i64 (.ofNat n)) h res :=
  Val.still r (v := .int .i64 (.ofNat n)) rfl hr

theorem builtinA_ok (hE : EnvOk P E) {b : Builtin} {ts : Array TypeId} {args : List AV} {out : Out} {h : H} (hb : builtinA E b ts.toList args h = .ok out) (ty : TypeId) (cs : Array Bool)
    {p : Pl} {w : World} (r : Rel p h w) {vs : List Value} (hv : Reps p args vs) :
    ∃ a h', out = .val a h' ∧ Val p h w a h' ((Go.builtin b ts ty cs vs.toArray).run P w) := by
  unfold builtinA at hb
  split at hb
  · rename_i t trest x hts
    obtain ⟨ht0, _⟩ := arr_nth hts
    obtain ⟨vx, vrest, rfl, rx, rrest⟩ := hv
    split at hb
    · rename_i ti hti
      have hu := (hE.ty _ _ hti).und
      split at hb
      · rename_i n e e1
        cases hb
        rw [e1] at hu; simp only [UDOk] at hu
        refine ⟨_, _, rfl, Val.num r n (run_v ?_)⟩
        unfold Builtin.len_
        simp only [ht0, List.getElem?_toArray, List.getElem?_cons_zero]
        rw [Sem.run_bind, run_underlying hu, Result.andThen_ok]
        cases vx <;> rfl
      · rename_i e e1
        rw [e1] at hu; simp only [UDOk] at hu
        split at hb
        · rename_i ei hei
          have hue := (hE.ty _ _ hei).und
          split at hb
          · rename_i n e' e2
            cases hb
            rw [e2] at hue; simp only [UDOk] at hue
            refine ⟨_, _, rfl, Val.num r n (run_v ?_)⟩
            unfold Builtin.len_
            simp only [ht0, List.getElem?_toArray, List.getElem?_cons_zero]
            rw [Sem.run_bind, run_underlying hu, Result.andThen_ok]
            cases vx <;> simp [run_underlying hue, goInt]
          · cases hb
        · cases hb
      · cases hf : lenFits ti.und x with
        | false => rw [hf] at hb; cases hb
        | true =>
          rw [hf] at hb; simp only [cond_true] at hb
          split at hb
          · rename_i n hn
            cases hb
            exact ⟨_, _, rfl, Val.num r n (run_v (lenOfA_ok hn hf hu ht0 ty r rx vrest))⟩
          · cases hb
    · cases hb
  · rename_i t trest x hts
    obtain ⟨ht0, _⟩ := arr_nth hts
    obtain ⟨vx, vrest, rfl, rx, rrest⟩ := hv
    split at hb
    · rename_i ti hti
      have hu := (hE.ty _ _ hti).und
      split at hb
      · rename_i e n o len c e1
        cases hb
        rw [e1] at hu; simp only [UDOk] at hu
        obtain ⟨b', s, _, rfl⟩ := rx
        refine ⟨_, _, rfl, Val.num r c (run_v ?_)⟩
        unfold Builtin.cap_
        simp only [ht0, List.getElem?_toArray, List.getElem?_cons_zero]
        rw [Sem.run_bind, run_underlying hu, Result.andThen_ok]
        rfl
      · rename_i e e1
        cases hb
        rw [e1] at hu; simp only [UDOk] at hu
        rw [show vx = _ from rx]
        refine ⟨_, _, rfl, Val.num r 0 (run_v ?_)⟩
        unfold Builtin.cap_
        simp only [ht0, List.getElem?_toArray, List.getElem?_cons_zero]
        rw [Sem.run_bind, run_underlying hu, Result.andThen_ok]
        rfl
      · cases hb
    · cases hb
  · rename_i t0 t1 trest s x hts
    obtain ⟨ht0, ht1'⟩ := arr_nth hts
    have ht1 := ht1' _ _ rfl
    obtain ⟨vs', v1, rfl, rs, vx, v2, rfl, rx, rrest⟩ := hv
    rw [show v2 = [] from rrest]
    unfold appendA at hb
    split at hb
    · rename_i ti xi hti hxi
      have hu := (hE.ty _ _ hti).und
      have hux := (hE.ty _ _ hxi)
      obtain ⟨d1, hd1⟩ := hux.desc
      split at hb
      · cases hb
      · cases hb
      · rename_i e e1 hni hno
        rw [e1] at hu; simp only [UDOk] at hu
        split at hb
        · rename_i ei hei
          split at hb
          · rename_i z n hz hn
            split at hb
            · cases hb
            · rename_i new hnew
              have hnotint : ∀ k, d1 ≠ .int k := by
                intro k hk
                subst hk
                have hund := hux.und
                cases hc : xi.und with
                | int k' => exact hni k' hc
                | other => exact hno hc
                | struct fs => rw [hc] at hund; obtain ⟨f, pl, q, _⟩ := hund; rw [q] at hd1; cases hd1
                | func => rw [hc] at hund; obtain ⟨q1, q2, q3, q⟩ := hund; rw [q] at hd1; cases hd1
                | iface => rw [hc] at hund; obtain ⟨q1, q⟩ := hund; rw [q] at hd1; cases hd1
                | _ => rw [hc] at hund; simp only [UDOk] at hund; rw [hund] at hd1; cases hd1
              have hout : ∃ a h', out = .val a h' := by
                unfold appendOf at hb
                split at hb
                · cases h1 : Nat.beq n 0 with
                  | true => rw [h1] at hb; cases hb; exact ⟨_, _, rfl⟩
                  | false =>
                    rw [h1] at hb; simp only [cond_false] at hb
                    cases h2 : Nat.ble ((4 * n + 1000) * (ei.bytes + 1)) 281474976710656 with
                    | true => rw [h2] at hb; cases hb; exact ⟨_, _, rfl⟩
                    | false => rw [h2] at hb; cases hb
                · rename_i b o len c
                  cases h1 : Nat.ble (len + n) c with
                  | true =>
                    rw [h1] at hb; simp only [cond_true] at hb
                    split at hb
                    · cases hb; exact ⟨_, _, rfl⟩
                    · cases hb
                  | false =>
                    rw [h1] at hb; simp only [cond_false] at hb
                    cases h2 : Nat.ble ((4 * (len + n) + 1000) * (ei.bytes + 1)) 281474976710656 with
                    | true =>
                      rw [h2] at hb; simp only [cond_true] at hb
                      split at hb
                      · cases hb; exact ⟨_, _, rfl⟩
                      · cases hb
                    | false => rw [h2] at hb; cases hb
                · rename_i b o len sz
                  cases h1 : Nat.beq n 0 with
                  | true => rw [h1] at hb; cases hb; exact ⟨_, _, rfl⟩
                  | false =>
                    rw [h1] at hb; simp only [cond_false] at hb
                    cases h2 : (Nat.beq o 0 && Nat.blt 0 sz && Nat.beq sz ei.size && allOne new && Nat.ble ((4 * (len + n) + 1000) * (ei.bytes + 1)) 281474976710656) with
                    | false => rw [h2] at hb; cases hb
                    | true =>
                      rw [h2] at hb; simp only [cond_true] at hb
                      split at hb
                      · rename_i cs0 e' old hg hold
                        cases h3 : Nat.beq e e' with
                        | true => rw [h3] at hb; cases hb; exact ⟨_, _, rfl⟩
                        | false => rw [h3] at hb; cases hb
                      · cases hb
                · cases hb
              obtain ⟨a, h', rfl⟩ := hout
              obtain ⟨y, p', w', q1, q2, q3, q4⟩ := appendOf_ok ⟨hu, hE.ty _ _ hei⟩ hz hd1 hnotint ht0 ht1 ty hn hnew hb r rs rx
              exact ⟨a, h', rfl, y, p', w', .inl (run_v q1), q2, q3, q4⟩
          · cases hb
        · cases hb
      · cases hb
    · cases hb
  · rename_i t0 trest d x hts
    obtain ⟨ht0, _⟩ := arr_nth hts
    obtain ⟨vd, v1, rfl, rd, vx, v2, rfl, rx, rrest⟩ := hv
    rw [show v2 = [] from rrest]
    have hout : ∃ a h', out = .val a h' := by
      unfold copyA at hb
      split at hb
      · split at hb
        · split at hb
          · simp only [] at hb
            split at hb
            · cases hb
            · split at hb
              · cases hb; exact ⟨_, _, rfl⟩
              · cases hb; exact ⟨_, _, rfl⟩
              · split at hb
                · cases hb; exact ⟨_, _, rfl⟩
                · cases hb
              · cases hb
          · cases hb
        · cases hb
      · cases hb
    obtain ⟨a, h', rfl⟩ := hout
    obtain ⟨y, w', q1, q2, q3, q4⟩ := copyA_ok hE hb ht0 ty r rd rx
    exact ⟨a, h', rfl, y, p, w', .inl (run_v q1), q2, q3, q4⟩
  · rename_i v l hts
    split at hb
    · rename_i a ha
      cases hb
      obtain ⟨vx, vrest, rfl, rx, rrest⟩ := hv
      obtain ⟨y, q1, q2⟩ := minmax_ok (P := P) ha rx rrest w
      refine ⟨_, _, rfl, Val.still r q2 (run_v ?_)⟩
      simpa [Builtin.max_] using q1
    · cases hb
  · rename_i v l hts
    split at hb
    · rename_i a ha
      cases hb
      obtain ⟨vx, vrest, rfl, rx, rrest⟩ := hv
      obtain ⟨y, q1, q2⟩ := minmax_ok (P := P) ha rx rrest w
      refine ⟨_, _, rfl, Val.still r q2 (run_v ?_)⟩
      simpa [Builtin.min_] using q1
    · cases hb
  · cases hb

end Go.AE
set_option linter.unusedSectionVars false
namespace Go.AE
variable [Syms]
variable {P : Program} {E : Env}

def Callable (P : Program) (f : FuncId) : Prop := ∃ fn, P.funcs[f]? = some fn ∧ fn.body.isNone = false ∧ fn.name ≠ "runtime.NumGoroutine"

theorem run_callFunc {f : FuncId} (h : Callable P f) (args : Array Value) (w : World) : (callFunc f args).run P w = .ok (.enter f args) w := by
  obtain ⟨fn, h1, h2, h3⟩ := h
  unfold callFunc
  simp only [program, bind, Sem.bind, Sem.run, h1]
  have : (fn.name == "runtime.NumGoroutine") = false := by rw [beq_eq_false_iff_ne]; exact h3
  simp [this, h2, pure]

def OutOk (P : Program) (p : Pl) (h : H) (w : World) (out : Out) (r : Result Next) : Prop :=
  match out with
  | .val v h' => Val p h w v h' r
  | .call f args h' => h' = h ∧ ∃ args' : Array Value, Reps p args args'.toList ∧ (Callable P f → r = .ok (.enter f args') w)
  | .round l args h' => h' = h ∧ ∃ b sz, ∃ args' : Array Value, p l = some (b, sz) ∧ Reps p args args'.toList ∧ r = (Instr.yield b args').run P w

theorem callA_ok (hE : EnvOk P E) {f : FuncId} {args : List AV} {h : H} {out : Out} (hc : callA E f args h = .ok out) {p : Pl} {w : World} (r : Rel p h w) {args' : Array Value} (ha : Reps p args args'.toList) :
    OutOk P p h w out ((callFunc f args').run P w) := by
  unfold callA at hc
  split at hc
  · cases hc
    exact ⟨rfl, args', ha, fun hf => run_callFunc hf args' w⟩
  · rename_i hx
    split at hc
    · rename_i s c
      have hlt : c < 256 := by
        cases hb : Nat.blt c 256 with
        | true => rwa [Nat.blt_eq] at hb
        | false => rw [hb] at hc; cases hc
      rw [show Nat.blt c 256 = true from by rw [Nat.blt_eq]; exact hlt] at hc
      simp only [cond_true] at hc
      rw [okInt_eq] at hc
      cases hc
      obtain ⟨v0, r0, e0, h0, v1, r1, e1, h1, e2⟩ := ha
      obtain ⟨t, rfl, rfl⟩ := h0
      have : args' = #[.string t, .int .u8 (Int.ofNat c)] := by
        apply Array.ext'
        rw [e0, e1, show v1 = _ from h1, show r1 = [] from e2]
      rw [this]
      exact Val.still r (v := .int .i64 _) rfl (hE.ext f hx t c w hlt)
    · cases hc

theorem evCallOp_ok (hE : EnvOk P E) {tm : T AV} {c : Call} {h : H} {out : Out} (hc : evCallOp E tm c h = .ok out) {p : Pl} {nt : Nat} {a : Act} (ht : TmRep p nt tm a.tmps) {w : World} (r : Rel p h w) (ty : TypeId) :
    OutOk P p h w out ((do let d ← resolve a.eval c ty; invoke d.target d.args : Sem Next).run P w) := by
  unfold evCallOp at hc
  split at hc
  · cases hc
  · rename_i args hargs
    have hr : Reps p args (c.args.map a.eval).toList := by rw [Array.toList_map]; exact evXs_ok ht hargs
    unfold resolve
    split at hc
    · rename_i b hcal
      rw [hcal]
      obtain ⟨v, h', rfl, hv⟩ := builtinA_ok hE hc ty (c.args.map fun | .const _ => true | _ => false) r hr
      exact hv
    · rename_i rv name hcal
      rw [hcal]
      split at hc
      · rename_i v hv
        have hrv := evX_ok ht hv
        unfold invokeA at hc
        split at hc
        · rename_i t x
          split at hc
          · rename_i ti hti
            split at hc
            · rename_i nm f hm
              obtain ⟨y, hy, ry⟩ := hrv
              have hmeth := (hE.ty _ _ hti).meths name nm f hm y w
              simp only [pure_bind]
              unfold invoke
              have hex : (#[a.eval rv] ++ c.args.map a.eval).extract 1 (#[a.eval rv] ++ c.args.map a.eval).size = c.args.map a.eval := by
                apply Array.ext'
                simp
                exact List.take_of_length_le (by simp)
              have h0 : (#[a.eval rv] ++ c.args.map a.eval)[0]? = some (.iface t y) := by
                rw [Array.getElem?_append_left (by simp), hy]; simp
              simp only [h0, hex]
              unfold callMethod
              simp only []
              have := callA_ok hE hc r (args' := #[y] ++ c.args.map a.eval) (by rw [Array.toList_append]; exact ⟨y, _, rfl, ry, hr⟩)
              have hrun : Sem.run P (do
                  let __do_lift ← program
                  let __x ← method (__do_lift.types.size + Made.depth) t y name
                  match __x with
                    | (f, receiver) => callFunc f (#[receiver] ++ Array.map a.eval c.args)) w = Sem.run P (callFunc f (#[y] ++ c.args.map a.eval)) w := by
                rw [Sem.run_bind]
                have hp : program.run P w = .ok P w := rfl
                rw [hp, Result.andThen_ok, Sem.run_bind, hmeth]
                rfl
              rw [hrun]
              exact this
            · cases hc
          · cases hc
        · cases hc
      · cases hc
    · rename_i fo hcal
      rw [hcal]
      split at hc
      · rename_i v hv
        have hrv := evX_ok ht hv
        unfold callValue at hc
        split at hc
        · rename_i g first captured
          obtain ⟨f', fi', ca', e1, e2, e3, e4⟩ := hrv
          have : f' = .func g := e2
          subst this
          simp only []
          rw [e1]
          simp only [Deferred.ofValue, pure_bind]
          unfold invoke
          simp only []
          exact callA_ok hE hc r (args' := fi' ++ c.args.map a.eval ++ ca') (by rw [Array.toList_append, Array.toList_append]; exact (e3.append hr).append e4)
        · rename_i l
          obtain ⟨f', fi', ca', e1, ⟨b, sz, e2, e2'⟩, e3, e4⟩ := hrv
          subst e2'
          cases hc
          have e3' : fi' = #[] := Array.toList_eq_nil_iff.1 e3
          have e4' : ca' = #[] := Array.toList_eq_nil_iff.1 e4
          subst e3'; subst e4'
          simp only []
          rw [e1]
          simp only [Deferred.ofValue, pure_bind]
          unfold invoke
          simp only []
          refine ⟨rfl, b, sz, c.args.map a.eval, e2, hr, ?_⟩
          rw [Array.empty_append]
        · cases hc
      · cases hc

theorem v1_ok {h : H} {r : R AV} {out : Out} (hv : v1 h r = .ok out) : ∃ v, r = .ok v ∧ out = .val v h := by
  unfold v1 at hv
  split at hv
  · cases hv; exact ⟨_, rfl, rfl⟩
  · cases hv

theorem optVal {p : Pl} {nt : Nat} {tm : T AV} {a : Act} (ht : TmRep p nt tm a.tmps) {x : Option Operand} {v : Option AV} (h : evOpt tm x = .ok v) : OptVal p v (x.map a.eval) := by
  have := evOpt_ok ht h
  cases v with
  | none => exact this
  | some v => exact this

theorem new_ok {e : TypeId} {h : H} {cs : List AV} {p : Pl} {w : World} (r : Rel p h w) {arr : Array Value} (hc : Reps p cs arr.toList) {s : Sem Addr} (hs : s.run P w = (newRow e arr).run P w) :
    Val p h w (.ptr h.nx 0) (h.new (.cells cs e)) ((do pure (Next.value (.pointer (some (← s)))) : Sem Next).run P w) := by
  obtain ⟨q1, q2, q3⟩ := newRow_ok (P := P) r e hc
  refine ⟨_, _, _, .inl ?_, Rep.new (s := arr.size), q2, q3⟩
  rw [Sem.run_bind, hs, q1]
  rfl

theorem load_ok (hE : EnvOk P E) {t : TypeId} {h : H} {n o : Nat} {v : AV} (hl : loadVar E t h n o = .ok v) {p : Pl} {w : World} (r : Rel p h w) {x : Value} (hx : Rep p (.ptr n o) x) :
    ∃ y, (Instr.loadAt t x).run P w = .ok y w ∧ Rep p v y := by
  obtain ⟨b, sz, y, e1, e2, e3⟩ := loadVar_ok (P := P) hE hl r
  rw [r.ptr e1 hx]
  exact ⟨y, by simpa [Instr.loadAt, Instr.sureAddr] using e2, e3⟩

theorem store_ok (hE : EnvOk P E) {t : TypeId} {ti : TI} (hti : E.ty.get t = some ti) {h h' : H} {n o : Nat} {v : AV} (hlen : Nat.beq (lenA v.cells) ti.size = true) (hw : writeCells h n o v.cells = .ok h') {p : Pl} {w : World} (r : Rel p h w)
    {x y : Value} (hx : Rep p (.ptr n o) x) (hy : Rep p v y) : ∃ w', (Instr.storeAt t x y).run P w = .ok () w' ∧ Rel p h' w' ∧ Fr p h w p h' w' := by
  have hc := cells_rep hy
  obtain ⟨b, sz, e1, w', e2, e3, e4⟩ := writeCells_ok (P := P) r hc hw
  rw [r.ptr e1 hx]
  refine ⟨w', ?_, e3, e4⟩
  have hsz : y.cells.size = ti.size := by
    have h1 := Reps.length hc
    rw [Array.length_toList] at h1
    have h2 := Nat.eq_of_beq_eq_true hlen
    rw [lenA_eq] at h2
    rw [h1, h2]
  simp only [Instr.storeAt, Instr.sureAddr, pure_bind, storeVar]
  rw [Sem.run_bind, (hE.ty _ _ hti).runSize, Result.andThen_ok, if_neg (by rw [hsz]; simp)]
  exact e2

theorem nilCheck_run {p : Pl} {v v' : AV} {vx : Value} (hr : Rep p v vx) (hv' : nilA v = .ok v') (w : World) : v' = v ∧ (match vx with
    | .pointer none | .nilIface | .nilFunc => (runtimePanic .nilDeref : Sem Next)
    | .func (.method name) first captured =>
      match (first[0]? : Option Value) with
      | some .nilIface => runtimePanic .nilDeref
      | some (.iface t w) => do
        if (← nilAhead ((← program).types.size + Made.depth) t w name) != some false then
          unsupported (.noEntry "op/nilCheck.the method's receiver behind this interface value is a nil pointer, or cannot be seen to be none, and the arguments act or may panic (ledger 612)")
        pure (.value (.func (.method name) first captured))
      | _ => pure (.value (.func (.method name) first captured))
    | x => pure (.value x)).run P w = .ok (.value vx) w := by
  cases v with
  | nilPtr => simp [nilA] at hv'
  | nilIface => simp [nilA] at hv'
  | nilFunc => simp [nilA] at hv'
  | bool b => cases hv'; rw [show vx = _ from hr]; exact ⟨rfl, rfl⟩
  | int k n => cases hv'; rw [show vx = _ from hr]; exact ⟨rfl, rfl⟩
  | str l => cases hv'; obtain ⟨s, rfl, _⟩ := hr; exact ⟨rfl, rfl⟩
  | sym k i => cases hv'; obtain ⟨b, _, _, _, rfl⟩ := hr; exact ⟨rfl, rfl⟩
  | ptr n o => cases hv'; rcases hr with ⟨b, s, _, rfl⟩ | ⟨_, rfl⟩ <;> exact ⟨rfl, rfl⟩
  | nilSlice => cases hv'; rw [show vx = _ from hr]; exact ⟨rfl, rfl⟩
  | slice n o len c => cases hv'; cases c with
    | exact c => obtain ⟨b, s, _, rfl⟩ := hr; exact ⟨rfl, rfl⟩
    | more c => obtain ⟨b, s, c', _, rfl, _⟩ := hr; exact ⟨rfl, rfl⟩
  | emptySlice => cases hv'; obtain ⟨ad, c, rfl⟩ := hr; exact ⟨rfl, rfl⟩
  | nilMap => cases hv'; rw [show vx = _ from hr]; exact ⟨rfl, rfl⟩
  | map n => cases hv'; obtain ⟨b, s, _, rfl⟩ := hr; exact ⟨rfl, rfl⟩
  | func f fi ca =>
    obtain ⟨f', fi', ca', rfl, e2, _⟩ := hr
    cases f with
    | method nm => simp [nilA] at hv'
    | yield l => cases hv'; obtain ⟨b, s, _, rfl⟩ := e2; exact ⟨rfl, rfl⟩
    | func g => cases hv'; rw [show f' = _ from e2]; exact ⟨rfl, rfl⟩
    | methodOf t nm => cases hv'; rw [show f' = _ from e2]; exact ⟨rfl, rfl⟩
    | via t pa g po => cases hv'; rw [show f' = _ from e2]; exact ⟨rfl, rfl⟩
  | iface t y => cases hv'; obtain ⟨z, rfl, _⟩ := hr; exact ⟨rfl, rfl⟩
  | agg cs => cases hv'; obtain ⟨z, rfl, _⟩ := hr; exact ⟨rfl, rfl⟩
  | tup cs => cases hv'; obtain ⟨z, rfl, _⟩ := hr; exact ⟨rfl, rfl⟩

set_option maxHeartbeats 4000000 in
theorem evOp_ok (hE : EnvOk P E) {tm : T AV} {o : Oper} {h : H} {out : Out} (he : evOp E tm o.op h = .ok out) {p : Pl} {nt : Nat} {a : Act} (ht : TmRep p nt tm a.tmps) {w : World} (r : Rel p h w) :
    OutOk P p h w out ((execOp a.eval o).run P w) := by
  unfold execOp
  unfold evOp at he
  split at he
  · rename_i x hop -- move
    rw [hop]
    obtain ⟨v, hv, rfl⟩ := v1_ok he
    exact Val.still r (evX_ok ht hv) rfl
  · rename_i x hop -- assign
    rw [hop]
    obtain ⟨v, hv, rfl⟩ := v1_ok he
    exact Val.still r (evX_ok ht hv) rfl
  · rename_i c x y hop -- pick
    rw [hop]
    split at he
    · rename_i t hc
      obtain ⟨v, hv, rfl⟩ := v1_ok he
      have hcv : a.eval c = .bool t := evX_ok ht hc
      cases t
      · exact Val.still r (evX_ok ht hv) (by simp [hcv, asBool])
      · exact Val.still r (evX_ok ht hv) (by simp [hcv, asBool])
    · cases he
  · rename_i e hop -- alloc
    rw [hop]
    split at he
    · rename_i ti hti
      split at he
      · rename_i cs hz
        cases he
        obtain ⟨v, q1, q2, _⟩ := (hE.ty _ _ hti).runZero hz p w
        obtain ⟨n1, n2, n3⟩ := newRow_ok (P := P) r e q2
        refine ⟨_, _, _, .inl (run_v ?_), Rep.new (s := v.cells.size), n2, n3⟩
        unfold Instr.alloc
        rw [Sem.run_bind, q1, Result.andThen_ok]
        simp only []
        rw [Sem.run_bind]
        simp only [newVar]
        rw [n1]
        rfl
      · cases he
    · cases he
  · rename_i e x hop -- box
    rw [hop]
    split at he
    · rename_i v hv
      cases he
      have hc := cells_rep (evX_ok ht hv)
      obtain ⟨n1, n2, n3⟩ := newRow_ok (P := P) r e hc
      refine ⟨_, _, _, .inl (run_v ?_), Rep.new (s := (a.eval x).cells.size), n2, n3⟩
      unfold Instr.box
      rw [Sem.run_bind]
      simp only [newVar]
      rw [n1]
      rfl
    · cases he
  · rename_i t parts hop -- build
    rw [hop]
    split at he
    · rename_i ti ps hti hps
      obtain ⟨k1, k2⟩ := evParts_ok ht hps
      have hl : (parts.map fun (x : Nat × Operand) => (x.1, a.eval x.2)).toList = parts.toList.map fun x => (x.1, a.eval x.2) := by simp
      split at he
      · rename_i fs z hu hz
        split at he
        · rename_i cs hf
          cases he
          obtain ⟨x, q1, q2⟩ := build_ok (P := P) (parts := parts.map fun (x : Nat × Operand) => (x.1, a.eval x.2)) hE hti hz (.inl ⟨fs, hu⟩) hf (by rw [hl]; exact k1) (by rw [hl]; exact k2) w
          exact Val.still r q2 (run_v q1)
        · cases he
      · rename_i n e z hu hz
        split at he
        · rename_i ei hei
          split at he
          · rename_i cs hf
            cases he
            obtain ⟨x, q1, q2⟩ := build_ok (P := P) (parts := parts.map fun (x : Nat × Operand) => (x.1, a.eval x.2)) hE hti hz (.inr ⟨n, e, ei, hu, hei⟩) hf (by rw [hl]; exact k1) (by rw [hl]; exact k2) w
            exact Val.still r q2 (run_v q1)
          · cases he
        · cases he
      · cases he
    · cases he
  · rename_i t len parts hop -- buildSlice
    rw [hop]
    split at he
    · rename_i ti ps hti hps
      obtain ⟨k1, k2⟩ := evParts_ok ht hps
      have hl : (parts.map fun (x : Nat × Operand) => (x.1, a.eval x.2)).toList = parts.toList.map fun x => (x.1, a.eval x.2) := by simp
      split at he
      · rename_i e hu
        split at he
        · rename_i ei hei
          split at he
          · rename_i z hz
            cases hb : (Nat.ble (len * ei.size) 16777216 && Nat.beq (lenA z) ei.size) with
            | false => rw [hb] at he; cases he
            | true =>
              rw [hb] at he; simp only [cond_true] at he
              simp only [Bool.and_eq_true, Nat.ble_eq] at hb
              split at he
              · rename_i cs hf
                cases he
                have hund := (hE.ty _ _ hti).und
                rw [hu] at hund hf
                simp only [UDOk] at hund
                obtain ⟨ie, hie, hs, _⟩ := (hE.ty _ _ hei).info
                obtain ⟨zv, z1, z2, _⟩ := (hE.ty _ _ hei).runZero hz p w
                have hzl := (hE.ty _ _ hei).zeroLen hz
                have hpl : ∀ i x, placeOf E (.slice e) i = some x → (fun i => some (i * ei.size, ei.size)) i = some x := by
                  intro i x hx
                  simp only [placeOf, hei] at hx
                  exact hx
                have hbase : Reps p (repA z len) ((Array.range (len * ei.size)).map (fun i => (if len * ei.size = 0 then (#[] : Array Value) else zv.cells)[i % (if len * ei.size = 0 then (#[] : Array Value) else zv.cells).size]!)).toList := by
                  by_cases h0 : len * ei.size = 0
                  · rw [h0]
                    have : repA z len = [] := List.length_eq_zero_iff.1 (by rw [repA_length, hzl, h0])
                    rw [this]
                    simp [Reps]
                  · rw [if_neg h0, ← hzl]
                    exact repeat_rep z2 len (by intro hc; rw [hc] at hzl; simp at hzl; rw [← hzl] at h0; simp at h0)
                obtain ⟨arr, f1, f2⟩ := fill_ok hpl ps (parts.map fun (x : Nat × Operand) => (x.1, a.eval x.2)).toList (repA z len) cs _ (by rw [hl]; exact k1) (by rw [hl]; exact k2) hbase hf
                obtain ⟨n1, n2, n3⟩ := newRow_ok (P := P) r e f2
                refine ⟨_, _, _, .inl (run_v ?_), ⟨w.heap.size, arr.size, Pl.ext_self _ _ _ _, rfl⟩, n2, n3⟩
                unfold Instr.buildSlice
                rw [Sem.run_bind, run_underlying hund, Result.andThen_ok]
                simp only []
                have h24 : ¬ len * ei.size > 2 ^ 24 := by
                  have := hb.1
                  have h24 : (2 : Nat) ^ 24 = 16777216 := by decide
                  omega
                rw [Sem.run_bind, (hE.ty _ _ hei).runSize, Result.andThen_ok, if_neg h24]
                by_cases h0 : len * ei.size = 0
                · simp only [h0, if_true, pure_bind] at f1 ⊢
                  rw [f1]
                  simp only []
                  rw [Sem.run_bind, n1]
                  rfl
                · simp only [h0, if_false] at f1 ⊢
                  rw [Sem.run_bind, z1]
                  simp only [Result.andThen_ok, pure_bind]
                  rw [f1]
                  simp only []
                  rw [Sem.run_bind, n1]
                  rfl
              · cases he
          · cases he
        · cases he
      · cases he
    · cases he
  · rename_i t m k v hop -- insert
    rw [hop]
    split at he
    · rename_i m' k' v' h1 h2 h3
      have hout : ∃ b h', out = .val b h' := by
        unfold mapUpdateA at he
        split at he
        · split at he
          · rename_i es clock hg
            cases hok : okKey E _ k' with
            | false => rw [hok] at he; cases he
            | true =>
              rw [hok] at he; simp only [cond_true] at he
              split at he
              · cases he; exact ⟨_, _, rfl⟩
              · cases he; exact ⟨_, _, rfl⟩
              · cases he
          · cases he
        · cases he
      obtain ⟨b, h', rfl⟩ := hout
      obtain ⟨rfl, w', q1, q2, q3⟩ := mapUpdateA_ok (P := P) hE he r (evX_ok ht h1) (evX_ok ht h2) (evX_ok ht h3)
      exact ⟨undef, p, w', .inr ⟨run_u q1, rfl⟩, ⟨_, rfl, rfl⟩, q2, q3⟩
    · cases he
  · rename_i t m k v hop -- mapUpdate
    rw [hop]
    split at he
    · rename_i m' k' v' h1 h2 h3
      have hout : ∃ b h', out = .val b h' := by
        unfold mapUpdateA at he
        split at he
        · split at he
          · rename_i es clock hg
            cases hok : okKey E _ k' with
            | false => rw [hok] at he; cases he
            | true =>
              rw [hok] at he; simp only [cond_true] at he
              split at he
              · cases he; exact ⟨_, _, rfl⟩
              · cases he; exact ⟨_, _, rfl⟩
              · cases he
          · cases he
        · cases he
      obtain ⟨b, h', rfl⟩ := hout
      obtain ⟨rfl, w', q1, q2, q3⟩ := mapUpdateA_ok (P := P) hE he r (evX_ok ht h1) (evX_ok ht h2) (evX_ok ht h3)
      exact ⟨undef, p, w', .inr ⟨run_u q1, rfl⟩, ⟨_, rfl, rfl⟩, q2, q3⟩
    · cases he
  · rename_i t x hop -- load
    rw [hop]
    split at he
    · rename_i n o' hx
      obtain ⟨v, hv, rfl⟩ := v1_ok he
      obtain ⟨y, q1, q2⟩ := load_ok (P := P) hE hv r (evX_ok ht hx)
      exact Val.still r q2 (run_v q1)
    · cases he
  · rename_i t x v hop -- store
    rw [hop]
    split at he
    · rename_i ti n o' v' hti h1 h2
      cases hb : Nat.beq (lenA v'.cells) ti.size with
      | false => rw [hb] at he; cases he
      | true =>
        rw [hb] at he; simp only [cond_true] at he
        split at he
        · rename_i h' hw
          cases he
          obtain ⟨w', q1, q2, q3⟩ := store_ok (P := P) hE hti hb hw r (evX_ok ht h1) (evX_ok ht h2)
          exact ⟨undef, p, w', .inr ⟨run_u q1, rfl⟩, ⟨_, rfl, rfl⟩, q2, q3⟩
        · cases he
    · cases he
  · rename_i x hop -- nilCheck
    rw [hop]
    split at he
    · rename_i v hv
      obtain ⟨v', hv', rfl⟩ := v1_ok he
      have hr := evX_ok ht hv
      obtain ⟨rfl, hk⟩ := nilCheck_run (P := P) hr hv' w
      exact Val.still r hr hk
    · cases he
  · rename_i op t x y yt hop -- binOp
    rw [hop]
    split at he
    · rename_i x' y' hx hy
      obtain ⟨v, hv, rfl⟩ := v1_ok he
      obtain ⟨z, q1, q2⟩ := binOp_ok (P := P) hE hv r.glob (evX_ok ht hx) (evX_ok ht hy) x y w
      exact Val.still r q2 (run_v q1)
    · cases he
  · rename_i op t x hop -- unOp
    rw [hop]
    split at he
    · rename_i x' hx
      obtain ⟨v, hv, rfl⟩ := v1_ok he
      obtain ⟨z, q1, q2⟩ := unOp_ok (P := P) hv (evX_ok ht hx) w
      exact Val.still r q2 (run_v q1)
    · cases he
  · rename_i s d x hop -- convert
    rw [hop]
    split at he
    · rename_i x' hx
      have hout : ∃ b h', out = .val b h' := by
        unfold convertA at he
        split at he
        · split at he
          · rw [okInt_eq] at he; cases he; exact ⟨_, _, rfl⟩
          · cases he; exact ⟨_, _, rfl⟩
          · rename_i n _ _
            cases hb : Nat.blt n 128 with
            | true => rw [hb] at he; cases he; exact ⟨_, _, rfl⟩
            | false => rw [hb] at he; cases he
          · split at he
            · split at he
              · cases he; exact ⟨_, _, rfl⟩
              · cases he
            · cases he
          · split at he
            · split at he
              · cases he; exact ⟨_, _, rfl⟩
              · cases he
            · cases he
          · split at he
            · split at he
              · cases he; exact ⟨_, _, rfl⟩
              · cases he
            · cases he
          · split at he
            · split at he
              · split at he
                · split at he
                  · cases he; exact ⟨_, _, rfl⟩
                  · cases he
                · cases he
              · cases he
            · cases he
          · cases he
        · cases he
      obtain ⟨b, h', rfl⟩ := hout
      obtain ⟨y, p', w', q1, q2, q3, q4⟩ := convertA_ok (P := P) hE he r (evX_ok ht hx)
      exact ⟨y, p', w', .inl (run_v q1), q2, q3, q4⟩
    · cases he
  · rename_i t x hop -- makeInterface
    rw [hop]
    split at he
    · rename_i ti v hti hx
      have hni : ti.und ≠ .iface := by intro hc; rw [hc] at he; cases he
      have hout : out = .val (.iface t v) h := by
        split at he
        · cases he
        · cases he; rfl
      subst hout
      obtain ⟨d, hd, hdi⟩ := (hE.ty _ _ hti).notIface hni
      refine Val.still r (v := .iface t v) ⟨a.eval x, rfl, evX_ok ht hx⟩ (run_v ?_)
      unfold Instr.makeInterface
      rw [Sem.run_bind, run_underlying hd, Result.andThen_ok]
      cases d <;> first | exact absurd rfl (hdi _) | rfl
    · cases he
  · rename_i fn fi ca hop -- makeFunc
    rw [hop]
    split at he
    · rename_i fi' ca' h1 h2
      cases hm : funcOk fn with
      | false => rw [hm] at he; cases he
      | true =>
        rw [hm] at he; cases he
        refine Val.still r (v := .func fn fi' ca') ⟨fn, fi.map a.eval, ca.map a.eval, rfl, ?_, by rw [Array.toList_map]; exact evXs_ok ht h1, by rw [Array.toList_map]; exact evXs_ok ht h2⟩ rfl
        cases fn with
        | yield l => cases hm
        | _ => rfl
    · cases he
  · rename_i t rs hop -- makeMap
    rw [hop]
    split at he
    · rename_i h1
      cases he
      have hr1 : rs.map a.eval = none := optVal ht h1
      obtain ⟨q1, q2, q3⟩ := newObj_ok (P := P) r (.map [] 0) (.map #[] 0) (fun q _ => ⟨#[], rfl, rfl⟩)
      refine ⟨_, _, _, .inl (run_v ?_), ⟨_, _, Pl.ext_self _ _ _ _, rfl⟩, q2, q3⟩
      unfold Instr.makeMap
      rw [hr1]
      simp only [pure_bind]
      rw [Sem.run_bind, q1]
      rfl
    · rename_i k n h1
      cases hmt : mapTypes E t with
      | bad w0 => rw [hmt] at he; cases he
      | ok kt =>
        rw [hmt] at he; cases he
        obtain ⟨y, hr1, hr2⟩ : ∃ y, rs.map a.eval = some y ∧ Rep p (.int k n) y := optVal ht h1
        have hu := mapTypes_ok hE (kt := kt.1) (et := kt.2) hmt
        obtain ⟨q1, q2, q3⟩ := newObj_ok (P := P) r (.map [] 0) (.map #[] 0) (fun q _ => ⟨#[], rfl, rfl⟩)
        refine ⟨_, _, _, .inl (run_v ?_), ⟨_, _, Pl.ext_self _ _ _ _, rfl⟩, q2, q3⟩
        unfold Instr.makeMap
        rw [hr1, show y = _ from hr2]
        simp only []
        rw [Sem.run_bind, run_underlying hu, Result.andThen_ok]
        simp [asInt, asIntOf, newObj, Sem.run]
    · cases he
  · rename_i t l c hop -- makeSlice
    rw [hop]
    split at he
    · rename_i ti k1 l' k2 c' hti hl hc
      split at he
      · rename_i e hu
        split at he
        · rename_i ei hei
          split at he
          · rename_i z hz
            cases hb : (Nat.ble l' c' && Nat.blt c' 1000000 && Nat.ble (ei.bytes * c') 281474976710656 && Nat.beq (lenA z) ei.size) with
            | false => rw [hb] at he; cases he
            | true =>
              rw [hb] at he; cases he
              simp only [Bool.and_eq_true, Nat.ble_eq, Nat.blt_eq] at hb
              obtain ⟨⟨⟨b1, b2⟩, b3⟩, b4⟩ := hb
              have hund := (hE.ty _ _ hti).und
              rw [hu] at hund
              simp only [UDOk] at hund
              obtain ⟨ie, hie, hs, hby, _, hzz⟩ := (hE.ty _ _ hei).info
              obtain ⟨_, zv, hzv, _⟩ := hzz z hz
              obtain ⟨zv', z1, z2, _⟩ := (hE.ty _ _ hei).runZero hz p w
              have hzeq : zv' = zv := by
                have : (zeroValue e).run P w = .ok zv w := by
                  unfold zeroValue
                  rw [Sem.run_bind, run_typeInfo w hie, Result.andThen_ok, hzv]; rfl
                rw [this] at z1; cases z1; rfl
              subst hzeq
              have hzl := (hE.ty _ _ hei).zeroLen hz
              have hx : ((ei.bytes * c' : Nat) : Int) ≤ 281474976710656 := by omega
              rw [Int.natCast_mul] at hx
              have hrun := run_make (P := P) w t e ie zv' hund hie hzv k1 k2 (Int.ofNat l') (Int.ofNat c') (by simp) (by simp; exact b1) (by
                rw [hby]; exact hx) (by rw [Int.ofNat_eq_natCast]; omega)
              have hcells : Reps p (repA z c') (madeCells zv'.cells (c' * ie.size)).toList := by
                unfold madeCells
                rw [hs, ← hzl]
                by_cases h0 : z = []
                · subst h0
                  have : repA ([] : List AV) c' = [] := List.length_eq_zero_iff.1 (by rw [repA_length]; simp)
                  rw [this]; simp [Reps]
                · exact repeat_rep z2 c' h0
              obtain ⟨n1, n2, n3⟩ := newRow_ok (P := P) r e hcells
              refine ⟨_, _, _, .inl (run_v ?_), ⟨w.heap.size, _, Pl.ext_self _ _ _ _, rfl⟩, n2, n3⟩
              rw [show a.eval l = .int k1 (Int.ofNat l') from evX_ok ht hl, show a.eval c = .int k2 (Int.ofNat c') from evX_ok ht hc, hrun]
              rfl
          · cases he
        · cases he
      · cases he
    · cases he
  · rename_i t x lo hi mx hop -- slice
    rw [hop]
    split at he
    · rename_i x' lo' hi' mx' h1 h2 h3 h4
      cases hk : ptrKnown h x' with
      | false => rw [hk] at he; cases he
      | true =>
        rw [hk] at he; simp only [cond_true] at he
        obtain ⟨v, hv, rfl⟩ := v1_ok he
        have hx := evX_ok ht h1
        obtain ⟨y, q1, q2⟩ := sliceA_ok (P := P) hE hv hx (optVal ht h2) (optVal ht h3) (optVal ht h4) (fun n o' hxx => by
          subst hxx
          simp only [ptrKnown] at hk
          obtain ⟨blk, hb⟩ := Option.isSome_iff_exists.1 hk
          obtain ⟨c, sz, ob, e1, _⟩ := r.blk n blk hb
          exact ⟨c, sz, e1, r.ptr e1 hx⟩) w
        exact Val.still r q2 (run_v q1)
    · cases he
  · rename_i s x f hop -- fieldAddr
    rw [hop]
    split at he
    · rename_i ti n o' hti hx
      split at he
      · rename_i fs hu
        split at he
        · rename_i d size hpl
          cases hb : Nat.beq size 0 with
          | true => rw [hb] at he; cases he
          | false =>
            rw [hb] at he
            have hund := (hE.ty _ _ hti).und
            rw [hu] at hund
            obtain ⟨fields, places, u1, u2, u3⟩ := hund
            simp only [placeOf] at hpl
            split at hpl
            · rename_i o2 ft hn
              split at hpl
              · rename_i fti hfti
                cases hpl
                cases he
                obtain ⟨fd, f1, f2, f3⟩ := field_nth u2 hn
                have hsz : fti.size ≠ 0 := by intro hc; rw [hc] at hb; simp at hb
                have hfp : ∀ b, (fieldPlace ⟨b, o', none⟩ fd).run P w = .ok ⟨b, o' + d, none⟩ w := by
                  intro b
                  unfold fieldPlace
                  rw [Sem.run_bind, f3, (hE.ty _ _ hfti).runSize, Result.andThen_ok, if_neg hsz, f2, add_none]
                  rfl
                have hrunf : ∀ b, (Instr.fieldAt s (.pointer (some ⟨b, o', none⟩)) f).run P w = .ok (.pointer (some ⟨b, o' + d, none⟩)) w := by
                  intro b
                  unfold Instr.fieldAt
                  rw [Sem.run_bind, run_underlying u1, Result.andThen_ok]
                  simp only [f1, Instr.sureAddr, pure_bind]
                  rw [Sem.run_bind, hfp]
                  rfl
                have hr := evX_ok ht hx
                rcases hr with ⟨b, s', e1, e2⟩ | ⟨e1, e2⟩
                · exact Val.still r (v := .ptr n (o' + d)) (.inl ⟨b, s', e1, rfl⟩) (run_v (by rw [e2]; exact hrunf b))
                · exact Val.still r (v := .ptr n (o' + d)) (.inr ⟨e1, rfl⟩) (run_v (by rw [e2]; exact hrunf n))
              · cases hpl
            · cases hpl
        · cases he
      · cases he
    · cases he
  · rename_i t x f hop -- field
    rw [hop]
    split at he
    · rename_i ti cs hti hx
      obtain ⟨xs, hxs, rxs⟩ := evX_ok ht hx
      split at he
      · rename_i fs hu
        split at he
        · rename_i d ft hn
          obtain ⟨v, hv, rfl⟩ := v1_ok he
          have hund := (hE.ty _ _ hti).und
          rw [hu] at hund
          obtain ⟨fields, places, u1, u2, u3⟩ := hund
          obtain ⟨fd, f1, f2, f3⟩ := field_nth u2 hn
          obtain ⟨y, q1, q2⟩ := partA_ok (P := P) hE hv rxs w
          refine Val.still r q2 (run_v ?_)
          unfold Instr.field
          rw [Sem.run_bind, run_underlying u1, Result.andThen_ok]
          simp only [f1, hxs, asAgg]
          rw [f3, f2]
          exact q1
        · cases he
      · cases he
    · cases he
  · rename_i t x i hop -- indexAddr
    rw [hop]
    split at he
    · rename_i x' i' h1 h2
      obtain ⟨v, hv, rfl⟩ := v1_ok he
      obtain ⟨y, q1, q2⟩ := indexAddrA_ok (P := P) hE hv (evX_ok ht h1) (evX_ok ht h2) w
      exact Val.still r q2 (run_v q1)
    · cases he
  · rename_i t x i hop -- index
    rw [hop]
    split at he
    · rename_i x' i' h1 h2
      obtain ⟨v, hv, rfl⟩ := v1_ok he
      obtain ⟨y, q1, q2⟩ := indexA_ok (P := P) hE hv (evX_ok ht h1) (evX_ok ht h2) w
      exact Val.still r q2 (run_v q1)
    · cases he
  · rename_i t x k ok hop -- lookup
    rw [hop]
    split at he
    · rename_i x' k' h1 h2
      obtain ⟨v, hv, rfl⟩ := v1_ok he
      obtain ⟨y, q1, q2⟩ := lookupA_ok (P := P) hE hv r (evX_ok ht h1) (evX_ok ht h2)
      exact Val.still r q2 (run_v q1)
    · cases he
  · rename_i t m k hop -- mapEntry
    rw [hop]
    split at he
    · rename_i m' k' h1 h2
      have hout : ∃ b h', out = .val b h' := by
        unfold mapEntryA at he
        split at he
        · split at he
          · cases hok : okKey E _ k' with
            | false => rw [hok] at he; cases he
            | true =>
              rw [hok] at he; simp only [cond_true] at he
              split at he
              · split at he
                · cases he; exact ⟨_, _, rfl⟩
                · cases he
              · split at he
                · cases he; exact ⟨_, _, rfl⟩
                · cases he
              · cases he
          · cases he
        · cases he
      obtain ⟨b, h', rfl⟩ := hout
      obtain ⟨y, w', q1, q2, q3, q4⟩ := mapEntryA_ok (P := P) hE he r (evX_ok ht h1) (evX_ok ht h2)
      exact ⟨y, p, w', .inl (run_v q1), q2, q3, q4⟩
    · cases he
  · rename_i t m s v hop -- entryStore
    rw [hop]
    split at he
    · rename_i m' s' v' h1 h2 h3
      have hout : ∃ b h', out = .val b h' := by
        unfold entryStoreA at he
        split at he
        · split at he
          · split at he
            · cases he; exact ⟨_, _, rfl⟩
            · cases he
          · cases he
        · cases he
      obtain ⟨b, h', rfl⟩ := hout
      obtain ⟨rfl, w', q1, q2, q3⟩ := entryStoreA_ok (P := P) he r (evX_ok ht h1) (evX_ok ht h2) (evX_ok ht h3) t
      exact ⟨undef, p, w', .inr ⟨run_u q1, rfl⟩, ⟨_, rfl, rfl⟩, q2, q3⟩
    · cases he
  · rename_i t x hop -- range
    rw [hop]
    split at he
    · rename_i x' h1
      have hout : ∃ b h', out = .val b h' := by
        unfold rangeA at he
        split at he
        · cases he
        · split at he
          · cases he; exact ⟨_, _, rfl⟩
          · cases he; exact ⟨_, _, rfl⟩
          · split at he
            · cases he; exact ⟨_, _, rfl⟩
            · cases he
          · cases he
      obtain ⟨b, h', rfl⟩ := hout
      obtain ⟨y, p', w', q1, q2, q3, q4⟩ := rangeA_ok (P := P) hE he r (evX_ok ht h1)
      exact ⟨y, p', w', .inl (run_v q1), q2, q3, q4⟩
    · cases he
  · rename_i it s hop -- next
    rw [hop]
    split at he
    · rename_i x' h1
      have hout : ∃ b h', out = .val b h' := by
        unfold nextA at he
        split at he
        · split at he
          · split at he
            · cases he; exact ⟨_, _, rfl⟩
            · rename_i b0 rest hd
              cases hb : Nat.blt b0 128 with
              | true => rw [hb] at he; cases he; exact ⟨_, _, rfl⟩
              | false => rw [hb] at he; cases he
          · cases he; exact ⟨_, _, rfl⟩
          · split at he
            · rename_i since sn last hg _ es clock hgm
              cases hf : fineNext last sn es with
              | false => rw [hf] at he; cases he
              | true =>
                rw [hf] at he; simp only [cond_true] at he
                split at he
                · cases he; exact ⟨_, _, rfl⟩
                · rename_i k0 v0 b0 hl
                  cases hb : Nat.blt b0 since with
                  | true => rw [hb] at he; cases he; exact ⟨_, _, rfl⟩
                  | false => rw [hb] at he; cases he
                · cases he
            · cases he
          · cases he
        · cases he
      obtain ⟨b, h', rfl⟩ := hout
      obtain ⟨y, w', q1, q2, q3, q4⟩ := nextA_ok (P := P) he r (evX_ok ht h1) o.type
      exact ⟨y, p, w', .inl (run_v q1), q2, q3, q4⟩
    · cases he
  · rename_i x xt t ok hop -- typeAssert
    rw [hop]
    split at he
    · rename_i x' h1
      obtain ⟨v, hv, rfl⟩ := v1_ok he
      obtain ⟨y, q1, q2⟩ := typeAssertA_ok (P := P) hE hv (evX_ok ht h1) w
      exact Val.still r q2 (run_v q1)
    · cases he
  · rename_i t i hop -- extract
    rw [hop]
    split at he
    · rename_i vs h1
      split at he
      · rename_i v hv
        cases he
        obtain ⟨xs, e1, rs⟩ := evX_ok ht h1
        obtain ⟨y, q1, q2⟩ := Reps.nth rs hv
        refine Val.still r q2 (run_v ?_)
        have hy : xs[i]? = some y := by simpa using q1
        simp [Instr.extract, e1, hy]
      · cases he
    · cases he
  · rename_i c hop -- call
    rw [hop]
    exact evCallOp_ok hE he ht r o.type
  · cases he

end Go.AE
