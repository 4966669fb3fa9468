/- Operations on memory: loads, stores, literals, new memory. No condition: lemmas. -/
import Derived.Test.YtdnhkdipfnediaaGreatDoorAe4
import Derived.Laws.Tables
import Derived.Laws.MakeOwn
import Derived.Great.BuildSlice
import Derived.Laws.Slices
import Derived.Lib.Strings
set_option linter.unusedSectionVars false
namespace Go.AE
variable [Syms]
variable {P : Program} {E : Env}

theorem cells_rep {p : Pl} {a : AV} {v : Value} (h : Rep p a v) : Reps p a.cells v.cells.toList := by
  cases a with
  | agg cs => obtain ⟨vs, rfl, r⟩ := h; exact r
  | slice n o len c => cases c with
    | exact c => obtain ⟨b, sz, e, rfl⟩ := h; exact ⟨_, [], rfl, ⟨b, sz, e, rfl⟩, rfl⟩
    | more s => obtain ⟨b, sz, c, e, rfl, q⟩ := h; exact ⟨_, [], rfl, ⟨b, sz, c, e, rfl, q⟩, rfl⟩
  | bool b => rw [show v = _ from h]; exact ⟨_, [], rfl, rfl, rfl⟩
  | int k n => rw [show v = _ from h]; exact ⟨_, [], rfl, rfl, rfl⟩
  | str l => obtain ⟨s, rfl, q⟩ := h; exact ⟨_, [], rfl, ⟨s, rfl, q⟩, rfl⟩
  | nilPtr => rw [show v = _ from h]; exact ⟨_, [], rfl, rfl, rfl⟩
  | ptr n o => rcases h with ⟨b, sz, e, rfl⟩ | ⟨e, rfl⟩
               · exact ⟨_, [], rfl, .inl ⟨b, sz, e, rfl⟩, rfl⟩
               · exact ⟨_, [], rfl, .inr ⟨e, rfl⟩, rfl⟩
  | nilSlice => rw [show v = _ from h]; exact ⟨_, [], rfl, rfl, rfl⟩
  | emptySlice => obtain ⟨x, c, rfl⟩ := h; exact ⟨_, [], rfl, ⟨x, c, rfl⟩, rfl⟩
  | nilMap => rw [show v = _ from h]; exact ⟨_, [], rfl, rfl, rfl⟩
  | map n => obtain ⟨b, sz, e, rfl⟩ := h; exact ⟨_, [], rfl, ⟨b, sz, e, rfl⟩, rfl⟩
  | func f fi ca => obtain ⟨f', fi', ca', rfl, q⟩ := h; exact ⟨_, [], rfl, ⟨f', fi', ca', rfl, q⟩, rfl⟩
  | nilFunc => rw [show v = _ from h]; exact ⟨_, [], rfl, rfl, rfl⟩
  | iface t x => obtain ⟨y, rfl, q⟩ := h; exact ⟨_, [], rfl, ⟨y, rfl, q⟩, rfl⟩
  | nilIface => rw [show v = _ from h]; exact ⟨_, [], rfl, rfl, rfl⟩
  | tup cs => obtain ⟨vs, rfl, q⟩ := h; exact ⟨_, [], rfl, ⟨vs, rfl, q⟩, rfl⟩
  | sym k i => obtain ⟨b, q1, q2, q3, rfl⟩ := h; exact ⟨_, [], rfl, ⟨b, q1, q2, q3, rfl⟩, rfl⟩

theorem loadVar_ok (hE : EnvOk P E) {t : TypeId} {h : H} {n o : Nat} {v : AV} (hl : loadVar E t h n o = .ok v) {p : Pl} {w : World} (r : Rel p h w) :
    ∃ b sz x, p n = some (b, sz) ∧ (Go.loadVar t ⟨b, o, none⟩).run P w = .ok x w ∧ Rep p v x := by
  unfold loadVar at hl
  split at hl
  · rename_i ti hti
    have ht := hE.ty t ti hti
    unfold Go.loadVar
    cases ha : ti.agg with
    | true =>
      rw [ha] at hl; simp only [cond_true] at hl
      split at hl
      · rename_i l hr
        cases hl
        obtain ⟨b, sz, vs, e1, e2', e3, _⟩ := readCells_ok (P := P) r hr
        have e2 := e2' w rfl
        refine ⟨b, sz, .agg vs, e1, ?_, vs, rfl, e3⟩
        rw [Sem.run_bind, ht.runAgg, Result.andThen_ok, ha, if_pos rfl, Sem.run_bind, ht.runSize, Result.andThen_ok, Sem.run_bind, e2]
        rfl
      · cases hl
    | false =>
      rw [ha] at hl; simp only [cond_false] at hl
      obtain ⟨b, sz, x, e1, e2, e3⟩ := readCell_ok r hl
      refine ⟨b, sz, x, e1, ?_, e3⟩
      rw [Sem.run_bind, ht.runAgg, Result.andThen_ok, ha]
      simp [run_load, e2]
  · cases hl

theorem partA_ok (hE : EnvOk P E) {t : TypeId} {cs : List AV} {o : Nat} {v : AV} (h : partA E t cs o = .ok v) {p : Pl} {xs : Array Value} (hx : Reps p cs xs.toList) (w : World) :
    ∃ x, (part t xs o).run P w = .ok x w ∧ Rep p v x := by
  unfold partA at h
  split at h
  · rename_i ti hti
    have ht := hE.ty t ti hti
    unfold part
    cases ha : ti.agg with
    | true =>
      rw [ha] at h; simp only [cond_true] at h
      split at h
      · rename_i l hl
        cases h
        have hd := Reps.drop (n := o) hx
        obtain ⟨h1, _, _⟩ := Reps.take hd hl
        refine ⟨.agg (xs.extract o (o + ti.size)), ?_, _, rfl, ?_⟩
        · rw [Sem.run_bind, ht.runAgg, Result.andThen_ok, ha, if_pos rfl, Sem.run_bind, ht.runSize]; rfl
        · rw [Array.toList_extract]; simp only [List.extract]; rw [show o + ti.size - o = ti.size from by omega]; exact h1
      · cases h
    | false =>
      rw [ha] at h; simp only [cond_false] at h
      split at h
      · rename_i v' hv
        cases h
        obtain ⟨x, e, rr⟩ := Reps.nth hx hv
        refine ⟨x, ?_, rr⟩
        rw [Sem.run_bind, ht.runAgg, Result.andThen_ok, ha]
        have : xs[o]? = some x := by simpa using e
        simp [this]
      · cases h
  · cases h

/-- what is put at an operation's slot -/
def Val (p : Pl) (h : H) (w : World) (v : AV) (h' : H) (r : Result Next) : Prop :=
  ∃ x p' w', (r = .ok (.value x) w' ∨ (r = .ok .skip w' ∧ x = undef)) ∧ Rep p' v x ∧ Rel p' h' w' ∧ Fr p h w p' h' w'

theorem Val.still {p : Pl} {h : H} {w : World} (r : Rel p h w) {v : AV} {x : Value} (hv : Rep p v x) {res : Result Next} (hr : res = .ok (.value x) w) : Val p h w v h res :=
  ⟨x, p, w, .inl hr, hv, r, Fr.refl p h w⟩

theorem newRow_ok {p : Pl} {h : H} {w : World} (r : Rel p h w) {cs : List AV} {arr : Array Value} (e : TypeId) (hc : Reps p cs arr.toList) :
    (newRow e arr).run P w = .ok ⟨w.heap.size, 0, none⟩ (w.alloc (.cells arr e)) ∧
      Rel (p.ext h.nx w.heap.size arr.size) (h.new (.cells cs e)) (w.alloc (.cells arr e)) ∧ Fr p h w (p.ext h.nx w.heap.size arr.size) (h.new (.cells cs e)) (w.alloc (.cells arr e)) := by
  refine ⟨by simp [newRow, newObj, Sem.run], rel_new r _ _ _ ?_⟩
  have hlen := Reps.length hc
  refine ⟨arr, 0, 0, rfl, rfl, fun i _ => by omega, by rw [← hlen]; simp, ?_⟩
  rw [← hlen, List.take_length]
  exact Reps.mono (Pl.le_ext (r.fresh _ (Nat.le_refl _))) _ _ hc

theorem Rep.new {p : Pl} {n b s : Nat} : Rep (p.ext n b s) (.ptr n 0) (.pointer (some ⟨b, 0, none⟩)) := .inl ⟨b, s, Pl.ext_self _ _ _ _, rfl⟩

theorem foldl_ovA (o : Nat) : ∀ (vs : List Value) (j : Nat) (c : Array Value), (vs.zipIdx j).foldl (fun cs (x : Value × Nat) => cs.setIfInBounds (o + x.2) x.1) c = ovA c (o + j) vs
  | [], _, _ => rfl
  | v :: vs, j, c => by
    simp only [List.zipIdx_cons, List.foldl_cons, ovA]
    rw [foldl_ovA o vs (j + 1)]
    rfl

theorem over_rep {p : Pl} {cs vs l : List AV} {o : Nat} {c : Array Value} {vs' : List Value} (hl : overL cs o vs = some l) (hc : Reps p cs c.toList) (hv : Reps p vs vs') : Reps p l (ovA c o vs').toList := by
  obtain ⟨s1, s2, s3⟩ := overL_spec _ _ _ _ hl
  have hlen := Reps.length hv
  have hcl := Reps.length hc
  by_cases hnil : vs' = []
  · subst hnil
    have hvs : vs = [] := List.length_eq_zero_iff.1 (by simpa using hlen.symm)
    subst hvs
    have hlc : l = cs := by cases cs <;> simp [overL] at hl <;> first | exact hl.symm | exact hl
    subst hlc
    exact hc
  · have hvs : vs ≠ [] := by intro hcc; subst hcc; exact hnil (List.length_eq_zero_iff.1 (by simpa using hlen))
    have hfit := s2 hvs
    rw [Reps.iff]
    refine ⟨by simp [ovA_size, s1]; simpa using hcl, fun i a hi' => ?_⟩
    rw [s3 i] at hi'
    have hget := ovA_get vs' c o i (by rw [hlen]; simp at hcl; omega)
    rw [Array.getElem?_toList, hget, hlen]
    by_cases cnd : o ≤ i ∧ i < o + vs.length
    · rw [if_pos cnd] at hi'
      rw [if_pos cnd]
      exact Reps.nth hv hi'
    · rw [if_neg cnd] at hi'
      rw [if_neg cnd]
      obtain ⟨v, e, rr⟩ := Reps.nth hc hi'
      exact ⟨v, by simpa using e, rr⟩

theorem fill_ok {p : Pl} {pa pl : Nat → Option (Nat × Nat)} (hp : ∀ i x, pa i = some x → pl i = some x) : ∀ (parts : List (Nat × AV)) (parts' : List (Nat × Value)) (cs out : List AV) (c : Array Value),
    parts.map (·.1) = parts'.map (·.1) → Reps p (parts.map (·.2)) (parts'.map (·.2)) → Reps p cs c.toList → fillA pa cs parts = some out →
    ∃ c', Instr.fill pl c parts' = some c' ∧ Reps p out c'.toList
  | [], parts', cs, out, c, h1, _, hc, hf => by
    cases parts' with
    | nil => simp [fillA] at hf; subst hf; exact ⟨c, rfl, hc⟩
    | cons _ _ => simp at h1
  | (i, v) :: parts, parts', cs, out, c, h1, h2, hc, hf => by
    cases parts' with
    | nil => simp at h1
    | cons q parts' =>
      obtain ⟨i', v'⟩ := q
      simp only [List.map_cons, List.cons.injEq] at h1
      obtain ⟨rfl, h1⟩ := h1
      obtain ⟨v0, vs0, e0, rv, rs⟩ := h2
      simp only [List.map_cons, List.cons.injEq] at e0
      obtain ⟨rfl, rfl⟩ := e0
      simp only [fillA] at hf
      split at hf
      · cases hf
      · rename_i o s hpl
        cases hb : (Nat.beq (lenA v.cells) s && Nat.blt 0 s) with
        | false => rw [hb] at hf; cases hf
        | true =>
          rw [hb] at hf; simp only [cond_true] at hf
          simp only [Bool.and_eq_true, Nat.blt_eq] at hb
          split at hf
          · rename_i cs' hov
            have hs : s = v.cells.length := by have := Nat.eq_of_beq_eq_true hb.1; rw [lenA_eq] at this; exact this.symm
            have hcell := cells_rep rv
            have hlen := Reps.length hcell
            have hsz : v'.cells.size = s := by rw [hs, ← hlen]; simp
            obtain ⟨s1, s2, _⟩ := overL_spec _ _ _ _ hov
            have hov' := over_rep hov hc hcell
            have hcl := Reps.length hc
            have hfit : ¬ (o + v'.cells.size > c.size) := by
              have := s2 (by intro hz; rw [hz] at hs; simp at hs; omega)
              simp at hcl
              rw [hsz, hs]; omega
            obtain ⟨c', e, rr⟩ := fill_ok hp parts parts' cs' out (ovA c o v'.cells.toList) h1 rs hov' hf
            refine ⟨c', ?_, rr⟩
            have hfold : v'.cells.zipIdx.foldl (fun (cs : Array Value) (x : Value × Nat) => cs.setIfInBounds (o + x.2) x.1) c = ovA c o v'.cells.toList := by
              rw [← Array.foldl_toList, Array.toList_zipIdx, foldl_ovA]; rfl
            simp only [Instr.fill, hp i _ hpl]
            rw [if_neg (by rw [hsz] at hfit ⊢; simpa using hfit)]
            rw [hfold]
            exact e
          · cases hf

end Go.AE
set_option linter.unusedSectionVars false
namespace Go.AE
variable [Syms]
variable {P : Program} {E : Env}

theorem run_v {s : Sem Value} {w w' : World} {x : Value} (h : s.run P w = .ok x w') : (do pure (Next.value (← s)) : Sem Next).run P w = .ok (.value x) w' := by
  rw [Sem.run_bind, h]; rfl
theorem run_u {s : Sem Unit} {w w' : World} (h : s.run P w = .ok () w') : (do s; pure Next.skip : Sem Next).run P w = .ok .skip w' := by
  rw [Sem.run_bind, h]; rfl

theorem evParts_ok {p : Pl} {nt : Nat} {tm : T AV} {a : Act} (ht : TmRep p nt tm a.tmps) : ∀ {l : List (Nat × Operand)} {m : List (Nat × AV)}, evParts tm l = .ok m →
    m.map (·.1) = (l.map fun x => (x.1, a.eval x.2)).map (·.1) ∧ Reps p (m.map (·.2)) ((l.map fun x => (x.1, a.eval x.2)).map (·.2))
  | [], m, h => by cases h; exact ⟨rfl, rfl⟩
  | (i, x) :: l, m, h => by
    simp only [evParts] at h
    split at h
    · rename_i v hv
      split at h
      · rename_i m' hm
        cases h
        obtain ⟨h1, h2⟩ := evParts_ok ht hm
        exact ⟨by simp [h1], _, _, rfl, evX_ok ht hv, h2⟩
      · cases h
    · cases h

theorem places_nth {fields : List Field} {places : List (Nat × Nat)} (h : fields.mapM (fun f => (P.info? f.type).map fun i => (f.offset, i.size)) = some places) :
    ∀ (i : Nat) (f : Field), fields[i]? = some f → ∃ inf, P.info? f.type = some inf ∧ places[i]? = some (f.offset, inf.size) := by
  induction fields generalizing places with
  | nil => intro i f hf; simp at hf
  | cons g fs ih =>
    intro i f hf
    simp only [List.mapM_cons, Option.bind_eq_bind, Option.pure_def] at h
    cases hi : P.info? g.type with
    | none => simp [hi] at h
    | some inf =>
      cases hr : fs.mapM (fun f => (P.info? f.type).map fun i => (f.offset, i.size)) with
      | none => simp [hi, hr] at h
      | some rest =>
        simp [hi, hr] at h
        subst h
        cases i with
        | zero => simp at hf; subst hf; exact ⟨inf, hi, by simp⟩
        | succ i =>
          obtain ⟨inf', q1, q2⟩ := ih hr i f (by simpa using hf)
          exact ⟨inf', q1, by simpa using q2⟩

theorem field_nth {fields : Array Field} {fs : List (Nat × TypeId)} (h : fields.toList.map (fun f => (f.offset, f.type)) = fs) {i o : Nat} {t : TypeId} (hn : nthL fs i = some (o, t)) :
    ∃ f, fields[i]? = some f ∧ f.offset = o ∧ f.type = t := by
  subst h
  rw [nthL_eq, List.getElem?_map, Option.map_eq_some_iff] at hn
  obtain ⟨f, h1, h2⟩ := hn
  cases h2
  exact ⟨f, by simpa using h1, rfl, rfl⟩

theorem TIOk.size_of {t : TypeId} {ti : TI} (h : TIOk P t ti) {i : TypeInfo} (hi : P.info? t = some i) : i.size = ti.size := by
  obtain ⟨j, hj, hs, _⟩ := h.info
  rw [hi] at hj; cases hj; exact hs

theorem build_ok (hE : EnvOk P E) {t : TypeId} {ti : TI} (hti : E.ty.get t = some ti) {ps : List (Nat × AV)} {z cs : List AV} (hz : ti.zero = some z)
    (hu : (∃ fs, ti.und = .struct fs) ∨ (∃ n e ei, ti.und = .arr n e ∧ E.ty.get e = some ei)) (hf : fillA (placeOf E ti.und) z ps = some cs)
    {p : Pl} {parts : Array (Nat × Value)} (h1 : ps.map (·.1) = parts.toList.map (·.1)) (h2 : Reps p (ps.map (·.2)) (parts.toList.map (·.2))) (w : World) :
    ∃ x, (Instr.build t parts).run P w = .ok x w ∧ Rep p (.agg cs) x := by
  have ht := hE.ty t ti hti
  have hagg : ti.agg = true := by unfold TI.agg; rcases hu with ⟨fs, e⟩ | ⟨n, e', ei, e, _⟩ <;> rw [e]
  obtain ⟨i, hi, _, _, _, hzz⟩ := ht.info
  obtain ⟨_, zv, hzv, hif⟩ := hzz z hz
  rw [if_pos hagg] at hif
  obtain ⟨xs, rfl, hxs⟩ := hif
  have hzr := ofVs_rep p hxs
  have hund := ht.und
  rcases hu with ⟨fs, e⟩ | ⟨n, e', ei, e, hee⟩
  · rw [e] at hund hf
    obtain ⟨fields, places, q1, q2, q3⟩ := hund
    have hpl : ∀ i x, placeOf E (.struct fs) i = some x → (places.toArray[·]?) i = some x := by
      intro i x hx
      simp only [placeOf] at hx
      split at hx
      · rename_i o ft hn
        split at hx
        · rename_i fti hfti
          cases hx
          obtain ⟨f, f1, f2, f3⟩ := field_nth q2 hn
          obtain ⟨inf, g1, g2⟩ := places_nth q3 i f (by simpa using f1)
          rw [f3] at g1
          have := (hE.ty _ _ hfti).size_of g1
          simp [g2, f2, this]
        · cases hx
      · cases hx
    obtain ⟨c', k1, k2⟩ := fill_ok hpl ps parts.toList z cs xs h1 h2 hzr hf
    refine ⟨.agg c', run_build w t parts c' ?_, c', rfl, k2⟩
    simp only [Program.built, hi, q1, hzv, q3]
    exact k1
  · rw [e] at hund hf
    simp only [UDOk] at hund
    obtain ⟨ie, hie, hs, _⟩ := (hE.ty _ _ hee).info
    have hpl : ∀ i x, placeOf E (.arr n e') i = some x → (fun i => some (i * ie.size, ie.size)) i = some x := by
      intro i x hx
      simp only [placeOf, hee] at hx
      rw [hs]; exact hx
    obtain ⟨c', k1, k2⟩ := fill_ok hpl ps parts.toList z cs xs h1 h2 hzr hf
    refine ⟨.agg c', run_build w t parts c' ?_, c', rfl, k2⟩
    simp only [Program.built, hi, hund, hzv, hie]
    exact k1

theorem repA_nth : ∀ (n : Nat) (l : List AV) (i : Nat), i < n * l.length → nthL (repA l n) i = nthL l (i % l.length)
  | 0, l, i, h => by simp at h
  | n + 1, l, i, h => by
    simp only [repA]
    rw [nthL_eq, nthL_eq, List.getElem?_append]
    by_cases hlt : i < l.length
    · rw [if_pos hlt, Nat.mod_eq_of_lt hlt]
    · rw [if_neg hlt]
      have ih := repA_nth n l (i - l.length) (by rw [Nat.succ_mul] at h; omega)
      rw [nthL_eq, nthL_eq] at ih
      rw [ih, ← Nat.mod_eq_sub_mod (by omega)]

theorem repeat_rep {p : Pl} {z : List AV} {zc : Array Value} (hz : Reps p z zc.toList) (n : Nat) (hz0 : z ≠ []) : Reps p (repA z n) ((Array.range (n * z.length)).map (fun i => zc[i % zc.size]!)).toList := by
  have hlen := Reps.length hz
  rw [Array.length_toList] at hlen
  have hpos : 0 < z.length := List.length_pos_iff.2 hz0
  rw [Reps.iff]
  refine ⟨by simp [repA_length], fun i a hi => ?_⟩
  have hil : i < n * z.length := by
    rw [nthL_eq] at hi
    have := (List.getElem?_eq_some_iff.1 hi).1
    rwa [repA_length] at this
  rw [repA_nth n z i hil] at hi
  obtain ⟨v, e, rr⟩ := Reps.nth hz hi
  refine ⟨v, ?_, rr⟩
  have hm : i % z.length < zc.size := by rw [hlen]; exact Nat.mod_lt _ hpos
  have hv : zc[i % z.length] = v := by
    rw [Array.getElem?_toList, Array.getElem?_eq_getElem hm] at e
    exact Option.some.inj e
  rw [Array.getElem?_toList, Array.getElem?_map]
  simp [hil, hlen]
  exact (getElem!_pos zc _ hm).trans hv

end Go.AE
set_option linter.unusedSectionVars false
namespace Go.AE
variable [Syms]
variable {P : Program} {E : Env}

theorem toNatA_ok {a : AV} {n : Nat} (h : toNatA a = .ok n) {p : Pl} {v : Value} (hv : Rep p a v) : ∃ k, v = .int k (Int.ofNat n) := by
  unfold toNatA at h
  split at h
  · cases h; exact ⟨_, hv⟩
  · cases h

def OptVal (p : Pl) (a : Option AV) (v : Option Value) : Prop :=
  match a with
  | none => v = none
  | some a => ∃ y, v = some y ∧ Rep p a y

theorem boundA_ok {d n : Nat} {a : Option AV} (h : boundA d a = .ok n) {p : Pl} {v : Option Value} (hv : OptVal p a v) : (a = none ∧ v = none ∧ n = d) ∨ ∃ k x, a = some x ∧ v = some (.int k (Int.ofNat n)) := by
  cases a with
  | none => cases h; exact .inl ⟨rfl, hv, rfl⟩
  | some a =>
    obtain ⟨y, rfl, ry⟩ := hv
    obtain ⟨k, rfl⟩ := toNatA_ok (a := a) h ry
    exact .inr ⟨k, a, rfl, rfl⟩

def orM (cap m : Nat) : Option AV → Nat
  | none => cap
  | some _ => m

theorem bounds3_ok {len cap cap' : Nat} {lo hi mx : Option AV} {l h m : Nat} (hb : bounds3 len cap lo hi mx = .ok (l, h, m)) (hc : cap ≤ cap') {p : Pl} {lo' hi' mx' : Option Value}
    (h1 : OptVal p lo lo') (h2 : OptVal p hi hi') (h3 : OptVal p mx mx') (s : Bool) (w : World) :
    (Instr.sliceBounds s len cap' lo' hi' mx').run P w = .ok (l, h, orM cap' m mx) w ∧ l ≤ h ∧ h ≤ m ∧ m ≤ cap ∧ (mx = none → m = cap) := by
  unfold bounds3 at hb
  split at hb
  · cases hb
  · rename_i m' e1
    split at hb
    · cases hb
    · rename_i h' e2
      split at hb
      · cases hb
      · rename_i l' e3
        cases hcc : (maxOk mx hi && Nat.ble m' cap && Nat.ble h' m' && Nat.ble l' h') with
        | false => rw [hcc] at hb; cases hb
        | true =>
          rw [hcc] at hb; cases hb
          simp only [Bool.and_eq_true, Nat.ble_eq] at hcc
          obtain ⟨⟨⟨q0, q1⟩, q2⟩, q3⟩ := hcc
          refine ⟨?_, q3, q2, q1, ?_⟩
          · rcases boundA_ok e1 h3 with ⟨rfl, rfl, rfl⟩ | ⟨k1, x1, rfl, rfl⟩
            · rcases boundA_ok e2 h2 with ⟨rfl, rfl, rfl⟩ | ⟨k2, x2, rfl, rfl⟩
              · rcases boundA_ok e3 h1 with ⟨rfl, rfl, rfl⟩ | ⟨k3, x3, rfl, rfl⟩
                · simp [Instr.sliceBounds, orM]
                · have := run_sliceBound (P := P) (w := w) k3 (Int.ofNat l) h .sliceB (by simp) (by simp; omega)
                  simp [Instr.sliceBounds, orM] at this ⊢
                  simp [this]
              · have r2 := run_sliceBound (P := P) (w := w) k2 (Int.ofNat h) cap' (if s then .sliceAcap else .sliceAlen) (by simp) (by simp; omega)
                rcases boundA_ok e3 h1 with ⟨rfl, rfl, rfl⟩ | ⟨k3, x3, rfl, rfl⟩
                · simp [Instr.sliceBounds, orM] at r2 ⊢
                  simp [r2]
                · have r3 := run_sliceBound (P := P) (w := w) k3 (Int.ofNat l) h .sliceB (by simp) (by simp; omega)
                  simp [Instr.sliceBounds, orM] at r2 r3 ⊢
                  simp [r2, r3]
            · rcases boundA_ok e2 h2 with ⟨rfl, rfl, rfl⟩ | ⟨k2, x2, rfl, rfl⟩
              · cases q0
              · have r1 := run_sliceBound (P := P) (w := w) k1 (Int.ofNat m) cap' (if s then .slice3Acap else .slice3Alen) (by simp) (by simp; omega)
                have r2 := run_sliceBound (P := P) (w := w) k2 (Int.ofNat h) m .slice3B (by simp) (by simp; omega)
                rcases boundA_ok e3 h1 with ⟨rfl, rfl, rfl⟩ | ⟨k3, x3, rfl, rfl⟩
                · simp [Instr.sliceBounds, orM] at r1 r2 ⊢
                  simp [r1, r2]
                · have r3 := run_sliceBound (P := P) (w := w) k3 (Int.ofNat l) h .slice3C (by simp) (by simp; omega)
                  simp [Instr.sliceBounds, orM] at r1 r2 r3 ⊢
                  simp [r1, r2, r3]
          · intro hm
            subst hm
            rcases boundA_ok e1 h3 with ⟨_, _, e⟩ | ⟨k1, x1, e, _⟩
            · exact e
            · cases e

theorem addr_at (b o l s : Nat) (m : Nat) : (if m = l then (some ⟨b, o, none⟩ : Option Addr) else (some ⟨b, o, none⟩ : Option Addr).map (·.add (l * s))) = some ⟨b, bif Nat.beq m l then o else o + l * s, none⟩ := by
  by_cases e : m = l
  · subst e; simp
  · have : Nat.beq m l = false := by rw [Bool.eq_false_iff]; intro hb; exact e (Nat.eq_of_beq_eq_true hb)
    rw [if_neg e, this]
    simp [add_none]
theorem addr_at' (b o l s : Nat) (m : Nat) : (if m = l then (⟨b, o, none⟩ : Addr) else (⟨b, o, none⟩ : Addr).add (l * s)) = ⟨b, bif Nat.beq m l then o else o + l * s, none⟩ := by
  by_cases e : m = l
  · subst e; simp
  · have : Nat.beq m l = false := by rw [Bool.eq_false_iff]; intro hb; exact e (Nat.eq_of_beq_eq_true hb)
    rw [if_neg e, this]
    simp [add_none]

theorem run_slice_at {t e : TypeId} (hu : P.underlying t = some (.slice e)) {size : Nat} {w : World} (hs : (sizeOf e).run P w = .ok size w) {a : Option Addr} {len cap l h m : Nat} {lo hi mx : Option Value}
    (hb : (Instr.sliceBounds true len cap lo hi mx).run P w = .ok (l, h, m) w) :
    (Instr.sliceAt t (.slice a len cap) lo hi mx).run P w = .ok (.slice (if m = l then a else a.map (·.add (l * size))) (h - l) (m - l)) w := by
  simp only [Instr.sliceAt, Instr.slice]
  rw [Sem.run_bind, run_underlying hu, Result.andThen_ok]
  simp only []
  rw [Sem.run_bind, run_underlying hu, Result.andThen_ok]
  simp only []
  rw [Sem.run_bind, hb, Result.andThen_ok]
  simp only []
  rw [Sem.run_bind, hs]
  rfl

theorem sliceOf_ok {t e : TypeId} (hu : P.underlying t = some (.slice e)) {size : Nat} {w : World} (hs : (sizeOf e).run P w = .ok size w) {x r : AV} {lo hi mx : Option AV}
    (h : sliceOf size x lo hi mx = .ok r) {p : Pl} {vx : Value} {lo' hi' mx' : Option Value} (hx : Rep p x vx) (h1 : OptVal p lo lo') (h2 : OptVal p hi hi') (h3 : OptVal p mx mx') :
    ∃ v, (Instr.sliceAt t vx lo' hi' mx').run P w = .ok v w ∧ Rep p r v := by
  unfold sliceOf at h
  split at h
  · split at h
    · rename_i q hb
      obtain ⟨l, hh, m⟩ := q
      cases h
      rw [show vx = _ from hx]
      obtain ⟨q1, q2, q3, q4, q5⟩ := bounds3_ok (P := P) hb (Nat.le_refl _) h1 h2 h3 true w
      have hl : l = 0 := by omega
      have hh0 : hh = 0 := by omega
      have hm : m = 0 := by omega
      subst hl; subst hh0; subst hm
      refine ⟨_, run_slice_at hu hs q1, ?_⟩
      have hm : orM 0 0 mx = 0 := by cases mx <;> rfl
      rw [hm]; simp [Rep]
    · cases h
  · split at h
    · rename_i q hb
      obtain ⟨l, hh, m⟩ := q
      cases h
      obtain ⟨a, c, rfl⟩ := hx
      obtain ⟨q1, q2, q3, q4, q5⟩ := bounds3_ok (P := P) hb (Nat.zero_le c) h1 h2 h3 true w
      have hl : l = 0 := by omega
      have hh0 : hh = 0 := by omega
      subst hl; subst hh0
      refine ⟨_, run_slice_at hu hs q1, ?_⟩
      have hoff : ∀ M : Nat, (if M = 0 then (some a : Option Addr) else (some a : Option Addr).map (·.add (0 * size))) = some a := by
        intro M; split <;> simp [Addr.add]
      rw [hoff]
      exact ⟨a, _, rfl⟩
    · cases h
  · rename_i n o len cap
    split at h
    · rename_i l hh m hb
      cases h
      obtain ⟨b, sz, e1, rfl⟩ := hx
      obtain ⟨q1, q2, q3, q4, q5⟩ := bounds3_ok (P := P) hb (Nat.le_refl _) h1 h2 h3 true w
      refine ⟨_, run_slice_at hu hs q1, ?_⟩
      have hm : orM cap m mx = m := by cases mx with
        | none => exact (q5 rfl).symm
        | some _ => rfl
      rw [hm, addr_at]
      exact ⟨b, sz, e1, rfl⟩
    · cases h
  · rename_i n o len s
    split at h
    · rename_i l hh m hb
      obtain ⟨b, sz, c, e1, rfl, e2, e3⟩ := hx
      obtain ⟨q1, q2, q3, q4, q5⟩ := bounds3_ok (P := P) hb e2 h1 h2 h3 true w
      split at h
      · cases h
        refine ⟨_, run_slice_at hu hs q1, ?_⟩
        rw [show ∀ v : AV, orM c m (some v) = m from fun _ => rfl, addr_at]
        exact ⟨b, sz, e1, rfl⟩
      · have hm : m = len := q5 rfl
        cases hbs : Nat.beq s size with
        | false => rw [hbs] at h; cases h
        | true =>
          have hss := Nat.eq_of_beq_eq_true hbs
          subst hss
          rw [hbs] at h; simp only [cond_true] at h
          refine ⟨_, run_slice_at hu hs q1, ?_⟩
          rw [show orM c m none = c from rfl]
          cases hc : (Nat.beq l 0 || Nat.blt l len) with
          | true =>
            rw [hc] at h; cases h
            simp only [Bool.or_eq_true, Nat.blt_eq] at hc
            have hoff : (if c = l then (some ⟨b, o, none⟩ : Option Addr) else (some ⟨b, o, none⟩ : Option Addr).map (·.add (l * s))) = some ⟨b, o + l * s, none⟩ := by
              by_cases hcl : c = l
              · rw [if_pos hcl]
                have : l = 0 := by
                  rcases hc with hc | hc
                  · exact Nat.eq_of_beq_eq_true hc
                  · omega
                subst this; simp
              · rw [if_neg hcl]; simp [add_none]
            rw [hoff]
            refine ⟨b, sz, c - l, e1, rfl, by omega, ?_⟩
            have : l * s + (c - l) * s = c * s := by rw [← Nat.add_mul]; congr 1; omega
            omega
          | false =>
            rw [hc] at h; cases h
            simp only [Bool.or_eq_false_iff] at hc
            have hlen : ¬ l < len := by intro hlt; rw [show Nat.blt l len = true from by rw [Nat.blt_eq]; exact hlt] at hc; cases hc.2
            have h0 : hh - l = 0 := by omega
            rw [h0]
            have hoff : (if c = l then (some ⟨b, o, none⟩ : Option Addr) else (some ⟨b, o, none⟩ : Option Addr).map (·.add (l * s))) = some (if c = l then ⟨b, o, none⟩ else (⟨b, o, none⟩ : Addr).add (l * s)) := by
              split <;> simp
            rw [hoff]
            exact ⟨_, _, rfl⟩
    · cases h
  · cases h

theorem sliceA_ok (hE : EnvOk P E) {t : TypeId} {x r : AV} {lo hi mx : Option AV} (h : sliceA E t x lo hi mx = .ok r) {p : Pl} {vx : Value} {lo' hi' mx' : Option Value} (hx : Rep p x vx)
    (h1 : OptVal p lo lo') (h2 : OptVal p hi hi') (h3 : OptVal p mx mx') (hp : ∀ n o, x = .ptr n o → ∃ b s, p n = some (b, s) ∧ vx = .pointer (some ⟨b, o, none⟩)) (w : World) :
    ∃ v, (Instr.sliceAt t vx lo' hi' mx').run P w = .ok v w ∧ Rep p r v := by
  unfold sliceA at h
  split at h
  · cases h
  · rename_i ti hti
    have hu := (hE.ty t ti hti).und
    split at h
    · rename_i s e
      rw [e] at hu
      simp only [UDOk] at hu
      split at h
      · cases h
      · have hmx : mx' = none := h3
        subst hmx
        split at h
        · rename_i l hh m hb
          split at h
          · rename_i k hk
            cases h
            obtain ⟨str, rfl, rfl⟩ := hx
            have hlen : lenA (str.data.toList.map UInt8.toNat) = str.size := by rw [lenA_eq, List.length_map, Array.length_toList]; rfl
            rw [hlen] at hb
            obtain ⟨q1, _⟩ := bounds3_ok (P := P) hb (Nat.le_refl _) h1 h2 (show OptVal p none none from rfl) false w
            refine ⟨.string (str.extract l hh), ?_, _, rfl, ?_⟩
            · simp only [Instr.sliceAt, Instr.slice]
              rw [Sem.run_bind, run_underlying hu, Result.andThen_ok]
              simp only []
              rw [Sem.run_bind, run_underlying hu, Result.andThen_ok]
              simp [q1]
            · obtain ⟨rfl, _⟩ := takeL_eq _ _ _ hk
              rw [Lib.extract_data, dropL_eq, List.map_take, List.map_drop]
          · cases h
        · cases h
    · rename_i e' _ e
      rw [e] at hu
      simp only [UDOk] at hu
      split at h
      · cases h
      · rename_i ei hei
        exact sliceOf_ok hu ((hE.ty _ _ hei).runSize w) h hx h1 h2 h3
    · rename_i k e' n o e
      rw [e] at hu
      simp only [UDOk] at hu
      split at h
      · cases h
      · rename_i ei hei
        split at h
        · rename_i l hh m hb
          cases h
          obtain ⟨b, s, e1, rfl⟩ := hp n o rfl
          obtain ⟨q1, q2, q3, q4, q5⟩ := bounds3_ok (P := P) hb (Nat.le_refl _) h1 h2 h3 false w
          have hm : orM k m mx = m := by cases mx with
            | none => exact (q5 rfl).symm
            | some _ => rfl
          rw [hm] at q1
          refine ⟨.slice (some ⟨b, bif Nat.beq m l then o else o + l * ei.size, none⟩) (hh - l) (m - l), ?_, b, s, e1, rfl⟩
          simp only [Instr.sliceAt]
          rw [Sem.run_bind, run_underlying hu, Result.andThen_ok]
          simp only [Instr.sureAddr, pure_bind]
          rw [Sem.run_bind, q1, Result.andThen_ok]
          simp only []
          rw [Sem.run_bind, (hE.ty _ _ hei).runSize w, Result.andThen_ok]
          simp only [addr_at']
          rfl
        · cases h
    · cases h

theorem indexAddrA_ok (hE : EnvOk P E) {t : TypeId} {x i r : AV} (h : indexAddrA E t x i = .ok r) {p : Pl} {vx vi : Value} (hx : Rep p x vx) (hi : Rep p i vi) (w : World) :
    ∃ v, (Instr.indexAt t vx vi).run P w = .ok v w ∧ Rep p r v := by
  unfold indexAddrA at h
  split at h
  · rename_i ti k hti hk
    obtain ⟨kk, rfl⟩ := toNatA_ok hk hi
    have hu := (hE.ty t ti hti).und
    split at h
    · rename_i n e b o e0
      rw [e0] at hu
      simp only [UDOk] at hu
      split at h
      · rename_i ei hei
        cases hlt : Nat.blt k n with
        | false => rw [hlt] at h; cases h
        | true =>
          rw [hlt] at h; cases h
          rw [Nat.blt_eq] at hlt
          rcases hx with ⟨b', s, e1, rfl⟩ | ⟨e1, rfl⟩
          · refine ⟨.pointer (some ⟨b', o + k * ei.size, none⟩), ?_, .inl ⟨b', s, e1, rfl⟩⟩
            have hb : 0 ≤ (Int.ofNat k) ∧ Int.ofNat k < (n : Int) := by simp; exact hlt
            simp [Instr.indexAt, asIntOf, run_underlying hu, Instr.sureAddr, (hE.ty _ _ hei).runSize w, add_none, hlt]
          · refine ⟨.pointer (some ⟨b, o + k * ei.size, none⟩), ?_, .inr ⟨e1, rfl⟩⟩
            simp [Instr.indexAt, asIntOf, run_underlying hu, Instr.sureAddr, (hE.ty _ _ hei).runSize w, add_none, hlt]
      · cases h
    · rename_i e b o len c e0
      rw [e0] at hu
      simp only [UDOk] at hu
      split at h
      · rename_i ei hei
        cases hlt : Nat.blt k len with
        | false => rw [hlt] at h; cases h
        | true =>
          rw [hlt] at h; cases h
          rw [Nat.blt_eq] at hlt
          have key : ∀ b' s c', p b = some (b', s) → vx = .slice (some ⟨b', o, none⟩) len c' → ∃ v, (Instr.indexAt t vx (.int kk (Int.ofNat k))).run P w = .ok v w ∧ Rep p (.ptr b (o + k * ei.size)) v := by
            intro b' s c' e1 e2
            subst e2
            refine ⟨.pointer (some ⟨b', o + k * ei.size, none⟩), ?_, .inl ⟨b', s, e1, rfl⟩⟩
            simp [Instr.indexAt, asIntOf, run_underlying hu, (hE.ty _ _ hei).runSize w, add_none, hlt]
          cases c with
          | exact c => obtain ⟨b', s, e1, e2⟩ := hx; exact key b' s c e1 e2
          | more c => obtain ⟨b', s, c', e1, e2, _⟩ := hx; exact key b' s c' e1 e2
      · cases h
    · cases h
  · cases h

theorem indexA_ok (hE : EnvOk P E) {t : TypeId} {x i r : AV} (h : indexA E t x i = .ok r) {p : Pl} {vx vi : Value} (hx : Rep p x vx) (hi : Rep p i vi) (w : World) :
    ∃ v, (Instr.index t vx vi).run P w = .ok v w ∧ Rep p r v := by
  unfold indexA at h
  split at h
  · rename_i ti k hti hk
    obtain ⟨kk, rfl⟩ := toNatA_ok hk hi
    have hu := (hE.ty t ti hti).und
    split at h
    · rename_i n e cs e0
      rw [e0] at hu
      simp only [UDOk] at hu
      split at h
      · rename_i ei hei
        cases hlt : Nat.blt k n with
        | false => rw [hlt] at h; cases h
        | true =>
          rw [hlt] at h; simp only [cond_true] at h
          rw [Nat.blt_eq] at hlt
          obtain ⟨vs, rfl, rs⟩ := hx
          obtain ⟨v, q1, q2⟩ := partA_ok (P := P) hE h rs w
          refine ⟨v, ?_, q2⟩
          simp [Instr.index, asIntOf, run_underlying hu, (hE.ty _ _ hei).runSize w, hlt, q1]
      · cases h
    · rename_i s e0
      rw [e0] at hu
      simp only [UDOk] at hu
      split at h
      · rename_i b hb
        rw [okNat_eq] at h; cases h
        obtain ⟨str, rfl, rfl⟩ := hx
        rw [nthL_eq, List.getElem?_map, Option.map_eq_some_iff] at hb
        obtain ⟨c, hc, rfl⟩ := hb
        have hc' : str[k]? = some c := by
          rw [Array.getElem?_toList] at hc
          exact hc
        refine ⟨.int .u8 (Int.ofNat c.toNat), ?_, rfl⟩
        simp [Instr.index, asIntOf, run_underlying hu, hc']
      · cases h
    · cases h
  · cases h

end Go.AE
set_option linter.unusedSectionVars false
namespace Go.AE
variable [Syms]
variable {P : Program} {E : Env}

theorem EntsRep.iff {p : Pl} : ∀ {l : List (AV × AV × Nat)} {m : List MapEntry}, EntsRep p l m ↔ m.length = l.length ∧ ∀ (i : Nat) (e : AV × AV × Nat), l[i]? = some e → ∃ e', m[i]? = some e' ∧ EntRep p e e'
  | [], m => by
    constructor
    · intro h; rw [show m = [] from h]; exact ⟨rfl, fun i e h => by simp at h⟩
    · intro ⟨h, _⟩; exact List.length_eq_zero_iff.1 (by simpa using h)
  | a :: l, m => by
    constructor
    · intro ⟨e, es, h1, h2, h3⟩
      subst h1
      obtain ⟨q1, q2⟩ := EntsRep.iff.1 h3
      refine ⟨by simp [q1], fun i x hx => ?_⟩
      cases i with
      | zero => simp at hx; subst hx; exact ⟨e, by simp, h2⟩
      | succ i => obtain ⟨e', r1, r2⟩ := q2 i x (by simpa using hx); exact ⟨e', by simpa using r1, r2⟩
    · intro ⟨h1, h2⟩
      cases m with
      | nil => simp at h1
      | cons v m =>
        refine ⟨v, m, rfl, ?_, EntsRep.iff.2 ⟨by simpa using h1, fun i x hx => ?_⟩⟩
        · obtain ⟨v', e, r⟩ := h2 0 a (by simp)
          simp at e; subst e; exact r
        · obtain ⟨v', e, r⟩ := h2 (i + 1) x (by simpa using hx)
          exact ⟨v', by simpa using e, r⟩

theorem EntsRep.append {p : Pl} : ∀ {l l' : List (AV × AV × Nat)} {m m' : List MapEntry}, EntsRep p l m → EntsRep p l' m' → EntsRep p (l ++ l') (m ++ m')
  | [], _, _, _, h, h' => by rw [show _ = [] from h]; exact h'
  | _ :: _, _, _, _, ⟨e, es, h1, h2, h3⟩, h' => by subst h1; exact ⟨e, es ++ _, rfl, h2, EntsRep.append h3 h'⟩

theorem bytes_eq {s t : ByteArray} (h : s.data.toList.map UInt8.toNat = t.data.toList.map UInt8.toNat) : s = t := by
  have := (List.map_inj_right (fun a b hab => UInt8.toNat_inj.1 hab)).1 h
  obtain ⟨⟨x⟩⟩ := s
  obtain ⟨⟨y⟩⟩ := t
  simp at this
  rw [this]

theorem eqCell_true {a b : AV} (h : eqCell a b = some true) {p q : Pl} {x y : Value} (hx : Rep p a x) (hy : Rep q b y) : x = y ∧ Instr.sameBits 10000 x x = true ∧ Instr.sameBits 9999 x x = true := by
  unfold eqCell at h
  split at h
  · simp at h; subst h
    rw [show x = _ from hx, show y = _ from hy]; simp [Instr.sameBits]
  · rename_i k n k' n'
    cases hk : kindEq k k' with
    | false => rw [hk] at h; cases h
    | true =>
      rw [hk] at h; simp only [cond_true, Option.some.injEq, beqInt_eq, beq_iff_eq] at h
      rw [kindEq_iff] at hk
      subst h; subst hk
      rw [show x = _ from hx, show y = _ from hy]; simp [Instr.sameBits]
  · rename_i l m
    simp only [Option.some.injEq, beqL_eq, beq_iff_eq] at h
    subst h
    obtain ⟨s, rfl, rfl⟩ := hx
    obtain ⟨s', rfl, q⟩ := hy
    have := bytes_eq q
    subst this
    have hb : (s' == s') = true := by rw [beq_toListBytes]; simp
    simp [Instr.sameBits, hb]
  · cases h

theorem eqCells_true {p q : Pl} : ∀ {l m : List AV} {xs ys : List Value}, eqCells l m = some true → Reps p l xs → Reps q m ys → xs = ys ∧ ∀ x ∈ xs, Instr.sameBits 9999 x x = true
  | [], [], _, _, _, h1, h2 => by rw [show _ = [] from h1, show _ = [] from h2]; simp
  | [], _ :: _, _, _, h, _, _ => by simp [eqCells] at h
  | _ :: _, [], _, _, h, _, _ => by simp [eqCells] at h
  | a :: l, b :: m, _, _, h, ⟨x, xs, e1, r1, s1⟩, ⟨y, ys, e2, r2, s2⟩ => by
    subst e1; subst e2
    simp only [eqCells] at h
    split at h
    · rename_i u v hu hv
      simp only [Option.some.injEq, Bool.and_eq_true] at h
      obtain ⟨rfl, rfl⟩ := h
      obtain ⟨q1, _, q3⟩ := eqCell_true hu r1 r2
      obtain ⟨q4, q5⟩ := eqCells_true hv s1 s2
      subst q1; subst q4
      exact ⟨rfl, fun z hz => by
        rcases List.mem_cons.1 hz with rfl | hz
        · exact q3
        · exact q5 z hz⟩
    · cases h

theorem zip_self {α : Type} : ∀ (L : List α) (a b : α), (a, b) ∈ L.zip L → a = b
  | [], _, _, h => by simp at h
  | x :: L, a, b, h => by
    simp only [List.zip_cons_cons, List.mem_cons, Prod.mk.injEq] at h
    rcases h with ⟨rfl, rfl⟩ | h
    · rfl
    · exact zip_self L a b h

/-- Two keys that are one. -/
theorem keyEq_true {E : Env} {kt : TypeId} {a b : AV} (h : keyEq E kt a b = some true) {p q : Pl} {x y : Value} (hx : Rep p a x) (hy : Rep q b y) : x = y ∧ Instr.sameBits 10000 x x = true := by
  unfold keyEq at h
  split at h
  · rename_i cs ds
    split at h
    · rename_i ti hti
      unfold flatEq at h
      split at h
      · cases h
      · rename_i ks hks
        simp only [] at h
        cases hc : (ti.agg && kindsOk ks cs && kindsOk ks ds) with
        | false => rw [hc] at h; cases h
        | true =>
          rw [hc] at h; simp only [cond_true] at h
          obtain ⟨xs, rfl, r1⟩ := hx
          obtain ⟨ys, rfl, r2⟩ := hy
          obtain ⟨e, hs⟩ := eqCells_true h r1 r2
          have : xs = ys := Array.ext' e
          subst this
          refine ⟨rfl, ?_⟩
          simp only [Instr.sameBits, beq_self_eq_true, Bool.true_and, List.all_eq_true]
          intro z hz
          obtain ⟨z1, z2⟩ := z
          have hzz : z1 = z2 ∧ z1 ∈ xs.toList := ⟨zip_self _ _ _ hz, (List.of_mem_zip hz).1⟩
          rw [← hzz.1]
          exact hs z1 hzz.2
    · cases h
  · exact ⟨(eqCell_true h hx hy).1, (eqCell_true h hx hy).2.1⟩

theorem keyEq_equal (hE : EnvOk P E) {kt : TypeId} {cs : List AV} {b : AV} {r : Bool} (h : keyEq E kt (.agg cs) b = some r) {p : Pl} {x y : Value} (hx : Rep p (.agg cs) x) (hy : Rep p b y) (w : World) :
    (Op.equal kt x y).run P w = .ok r w := by
  cases b with
  | agg ds =>
    simp only [keyEq] at h
    split at h
    · rename_i ti hti
      exact run_equal kt x y r w (fun D hD => (flatEq_ok (hE.ty _ _ hti) h hx hy w (D := D + 1) (by omega)).1)
    · cases h
  | _ => simp [keyEq, eqCell] at h

/-- What is found under a key. -/
def Found (p : Pl) (es : List (AV × AV × Nat)) (es' : List MapEntry) (i : Nat) (vk : Value) (r : Option (Nat × AV)) (r' : Option (Nat × Value)) : Prop :=
  match r with
  | none => r' = none
  | some (j, v) => ∃ v' k' b e', r' = some (j, v') ∧ Rep p v v' ∧ i ≤ j ∧ es[j - i]? = some (k', v, b) ∧ es'[j - i]? = some e' ∧ e'.key = vk ∧ Instr.sameBits 10000 vk vk = true ∧ Rep p k' vk ∧ e'.born = b

theorem findAsking_ok (hE : EnvOk P E) {kt : TypeId} {cs : List AV} {p : Pl} {vk : Value} (hk : Rep p (.agg cs) vk) (w : World) : ∀ (es : List (AV × AV × Nat)) (es' : List MapEntry) (i : Nat) (r : Option (Nat × AV)),
    EntsRep p es es' → findA E kt (.agg cs) es i = .ok r → ∃ r', (Instr.findAsking kt vk es' i).run P w = .ok r' w ∧ Found p es es' i vk r r'
  | [], es', i, r, he, hf => by
    rw [show es' = [] from he]
    cases hf
    exact ⟨none, by simp [Instr.findAsking], rfl⟩
  | (k, v, b) :: es, es', i, r, ⟨e, rest, h1, h2, h3⟩, hf => by
    subst h1
    simp only [findA] at hf
    split at hf
    · rename_i hq
      cases hf
      have he := keyEq_equal hE hq hk h2.1 w
      obtain ⟨q1, q2⟩ := keyEq_true hq hk h2.1
      refine ⟨some (i, e.val), by rw [Instr.findAsking, Sem.run_bind, he]; simp, ?_⟩
      refine ⟨e.val, k, b, e, rfl, h2.2.1, Nat.le_refl _, by simp, by simp, q1.symm, q2, by rw [q1]; exact h2.1, h2.2.2⟩
    · rename_i hq
      have he := keyEq_equal hE hq hk h2.1 w
      obtain ⟨r', s1, s2⟩ := findAsking_ok hE hk w es rest (i + 1) r h3 hf
      refine ⟨r', by rw [Instr.findAsking, Sem.run_bind, he]; simpa using s1, ?_⟩
      cases r with
      | none => exact s2
      | some jv =>
        obtain ⟨j, v1⟩ := jv
        obtain ⟨v', k', b', e', a1, a2, a3, a4, a5, a6⟩ := s2
        refine ⟨v', k', b', e', a1, a2, by omega, ?_, ?_, a6⟩
        · rw [show j - i = (j - (i + 1)) + 1 from by omega]; simpa using a4
        · rw [show j - i = (j - (i + 1)) + 1 from by omega]; simpa using a5
    · cases hf

theorem keyEq_now {E : Env} {kt : TypeId} {k k' : AV} {d : TypeDesc} {r : Bool} (hd : (∃ q n kk, d = .int q ∧ k = .int kk n) ∨ (∃ s, d = .string ∧ k = .str s) ∨ (∃ b, d = .bool ∧ k = .bool b))
    (h : keyEq E kt k k' = some r) {p : Pl} {x y : Value} (hx : Rep p k x) (hy : Rep p k' y) : Instr.sameNow d x y = some r := by
  rcases hd with ⟨q, n, kk, rfl, rfl⟩ | ⟨s, rfl, rfl⟩ | ⟨b, rfl, rfl⟩
  · simp only [keyEq] at h
    cases k' <;> simp [eqCell] at h
    rename_i k2 n2
    cases hkk : kindEq kk k2 with
    | false => rw [hkk] at h; cases h
    | true =>
      rw [hkk] at h; simp only [cond_true, Option.some.injEq, beqInt_eq] at h
      rw [kindEq_iff] at hkk
      subst hkk; subst h
      rw [show x = _ from hx, show y = _ from hy]
      simp [Instr.sameNow]
  · simp only [keyEq] at h
    cases k' <;> simp [eqCell] at h
    obtain ⟨t, rfl, rfl⟩ := hx
    obtain ⟨t', rfl, rfl⟩ := hy
    rw [str_eq] at h
    simp only [Instr.sameNow]
    rw [beq_toListBytes, h]
  · simp only [keyEq] at h
    cases k' <;> simp [eqCell] at h
    rw [show x = _ from hx, show y = _ from hy]
    simp [Instr.sameNow, h]

theorem findNow_ok {E : Env} {kt : TypeId} {k : AV} {d : TypeDesc} (hd : (∃ q n kk, d = .int q ∧ k = .int kk n) ∨ (∃ s, d = .string ∧ k = .str s) ∨ (∃ b, d = .bool ∧ k = .bool b))
    {p : Pl} {vk : Value} (hk : Rep p k vk) : ∀ (es : List (AV × AV × Nat)) (es' : List MapEntry) (i : Nat) (r : Option (Nat × AV)),
    EntsRep p es es' → findA E kt k es i = .ok r → ∃ r', Instr.findNow d vk es' i = some r' ∧ Found p es es' i vk r r'
  | [], es', i, r, he, hf => by
    rw [show es' = [] from he]
    cases hf
    exact ⟨none, rfl, rfl⟩
  | (k1, v, b) :: es, es', i, r, ⟨e, rest, h1, h2, h3⟩, hf => by
    subst h1
    simp only [findA] at hf
    split at hf
    · rename_i hq
      cases hf
      have he := keyEq_now hd hq hk h2.1
      obtain ⟨q1, q2⟩ := keyEq_true hq hk h2.1
      refine ⟨some (i, e.val), by simp [Instr.findNow, he], ?_⟩
      refine ⟨e.val, k1, b, e, rfl, h2.2.1, Nat.le_refl _, by simp, by simp, q1.symm, q2, by rw [q1]; exact h2.1, h2.2.2⟩
    · rename_i hq
      have he := keyEq_now hd hq hk h2.1
      obtain ⟨r', s1, s2⟩ := findNow_ok hd hk es rest (i + 1) r h3 hf
      refine ⟨r', by simp [Instr.findNow, he, s1], ?_⟩
      cases r with
      | none => exact s2
      | some jv =>
        obtain ⟨j, v1⟩ := jv
        obtain ⟨v', k', b', e', a1, a2, a3, a4, a5, a6⟩ := s2
        refine ⟨v', k', b', e', a1, a2, by omega, ?_, ?_, a6⟩
        · rw [show j - i = (j - (i + 1)) + 1 from by omega]; simpa using a4
        · rw [show j - i = (j - (i + 1)) + 1 from by omega]; simpa using a5
    · cases hf

/-- A key that may be asked for: it is fine, and is found as the evaluator finds it. -/
theorem key_ok (hE : EnvOk P E) {kt : TypeId} {k : AV} (hok : okKey E kt k = true) {p : Pl} {vk : Value} (hk : Rep p k vk) (w : World) :
    (∀ em, (Instr.checkKey em 10000 kt vk).run P w = .ok () w) ∧
    ∀ (es : List (AV × AV × Nat)) (es' : List MapEntry) (r : Option (Nat × AV)), EntsRep p es es' → findA E kt k es 0 = .ok r → ∃ r', (Instr.findKey kt vk es').run P w = .ok r' w ∧ Found p es es' 0 vk r r' := by
  unfold okKey at hok
  split at hok
  · cases hok
  · rename_i ti hti
    have ht := hE.ty _ _ hti
    have hu := ht.und
    have now : ∀ d, P.underlying kt = some d → ((∃ q n kk, d = .int q ∧ k = .int kk n) ∨ (∃ s, d = .string ∧ k = .str s) ∨ (∃ b, d = .bool ∧ k = .bool b)) →
        (∀ em, (Instr.checkKey em 10000 kt vk).run P w = .ok () w) ∧
        ∀ (es : List (AV × AV × Nat)) (es' : List MapEntry) (r : Option (Nat × AV)), EntsRep p es es' → findA E kt k es 0 = .ok r → ∃ r', (Instr.findKey kt vk es').run P w = .ok r' w ∧ Found p es es' 0 vk r r' := by
      intro d hud hd
      constructor
      · intro em
        rw [show (10000 : Nat) = 9999 + 1 from rfl, Instr.checkKey, Sem.run_bind, run_underlying hud, Result.andThen_ok]
        rcases hd with ⟨q, n, kk, rfl, rfl⟩ | ⟨s, rfl, rfl⟩ | ⟨b, rfl, rfl⟩ <;> rfl
      · intro es es' r he hf
        obtain ⟨r', h1, h2⟩ := findNow_ok hd hk es es' 0 r he hf
        refine ⟨r', ?_, h2⟩
        rw [Instr.findKey, Sem.run_bind, run_underlying hud, Result.andThen_ok, h1]
        rfl
    split at hok
    · rename_i e1; rw [e1] at hu; exact now _ hu (.inl ⟨_, _, _, rfl, rfl⟩)
    · rename_i e1; rw [e1] at hu; exact now _ hu (.inr (.inl ⟨_, rfl, rfl⟩))
    · rename_i e1; rw [e1] at hu; exact now _ hu (.inr (.inr ⟨_, rfl, rfl⟩))
    · rename_i cs _ _ _
      split at hok
      · rename_i b hb
        obtain ⟨_, _, ks, k1, _, _, k4, k5⟩ := flatEq_ok ht hb hk hk w (D := 9000) (by omega)
        obtain ⟨⟨d, hd, hfk⟩, _⟩ := ht.flat ks k5
        constructor
        · intro em
          exact flat_key 10000 d kt ks (by omega) hfk p w _ vk em k4 k1
        · intro es es' r he hf
          obtain ⟨dd, hdd⟩ := ht.desc
          cases es with
          | nil =>
            cases hf
            rw [show es' = [] from he]
            refine ⟨none, ?_, rfl⟩
            rw [Instr.findKey, Sem.run_bind, run_underlying hdd, Result.andThen_ok]
            rfl
          | cons e0 es =>
            obtain ⟨r', h1, h2⟩ := findAsking_ok hE hk w (e0 :: es) es' 0 r he hf
            refine ⟨r', ?_, h2⟩
            obtain ⟨vs, rfl, _⟩ := hk
            obtain ⟨x, xs, hx, _⟩ := he
            subst hx
            rw [Instr.findKey, Sem.run_bind, run_underlying hdd, Result.andThen_ok]
            have : Instr.findNow dd (.agg vs) (x :: xs) 0 = none := by
              cases dd <;> simp [Instr.findNow, Instr.sameNow]
            rw [this]
            exact h1
      · cases hok
    · cases hok

end Go.AE
set_option linter.unusedSectionVars false
namespace Go.AE
variable [Syms]
variable {P : Program} {E : Env}

theorem run_getObj' {w : World} {b : Nat} {o : Obj} (h : w.heap[b]? = some o) (hc : ∀ c e z, o ≠ .cells c e z) : (getObj b).run P w = .ok o w := by
  cases o with
  | cells c e z => exact absurd rfl (hc c e z)
  | _ => simp [getObj, Sem.run, h]
theorem run_setObj' {w : World} {b : Nat} {o : Obj} (h : w.heap[b]? = some o) (hc : ∀ c e z, o ≠ .cells c e z) (o' : Obj) : (setObj b o').run P w = .ok () (w.putObj b o') := by
  cases o with
  | cells c e z => exact absurd rfl (hc c e z)
  | _ => simp [setObj, Sem.run, h, World.putObj]

theorem mapAt {p : Pl} {h : H} {w : World} (r : Rel p h w) {n : Nat} {es : List (AV × AV × Nat)} {clock : Nat} (hg : h.get n = some (.map es clock)) {v : Value} (hv : Rep p (.map n) v) :
    ∃ b s es', v = .map (some b) ∧ p n = some (b, s) ∧ w.heap[b]? = some (.map es' clock) ∧ EntsRep p es es'.toList := by
  obtain ⟨b, s, e1, rfl⟩ := hv
  obtain ⟨c, sz, o, q1, q2, es', rfl, q3⟩ := r.blk n _ hg
  rw [e1] at q1
  obtain ⟨rfl, rfl⟩ := Prod.mk.inj (Option.some.inj q1)
  exact ⟨b, s, es', rfl, e1, q2, q3⟩

theorem mapTypes_ok (hE : EnvOk P E) {t kt et : TypeId} (h : mapTypes E t = .ok (kt, et)) : P.underlying t = some (.map kt et) := by
  unfold mapTypes at h
  split at h
  · rename_i ti hti
    have hu := (hE.ty t ti hti).und
    split at h
    · rename_i k e e1
      cases h
      rw [e1] at hu
      exact hu
    · cases h
  · cases h

theorem zeroA_ok (hE : EnvOk P E) {t : TypeId} {z : AV} (h : zeroA E t = .ok z) (p : Pl) (w : World) : ∃ v, (zeroValue t).run P w = .ok v w ∧ Rep p z v := by
  unfold zeroA at h
  split at h
  · rename_i ti hti
    have ht := hE.ty t ti hti
    split at h
    · rename_i cs hz
      obtain ⟨v, h1, _, h3⟩ := ht.runZero hz p w
      cases ha : ti.agg with
      | true =>
        rw [ha] at h; cases h
        rw [if_pos ha] at h3
        exact ⟨v, h1, h3⟩
      | false =>
        rw [ha] at h; simp only [cond_false] at h
        rw [if_neg (by simp [ha])] at h3
        obtain ⟨a, rfl, h4, _⟩ := h3
        cases h
        exact ⟨v, h1, h4⟩
    · cases h
  · cases h

/-- The entries that a map's value has. -/
def EntsAt (w : World) (v : Value) (es : Array MapEntry) : Prop :=
  (v = .map none ∧ es = #[]) ∨ ∃ b clock, v = .map (some b) ∧ w.heap[b]? = some (.map es clock)

theorem run_lookup {t kt et : TypeId} (hu : P.underlying t = some (.map kt et)) {w : World} {v k : Value} {es : Array MapEntry} (he : EntsAt w v es) (hc : ∀ em, (Instr.checkKey em 10000 kt k).run P w = .ok () w)
    {r : Option (Nat × Value)} (hf : (Instr.findKey kt k es.toList).run P w = .ok r w) (ok : Bool) {z : Value} (hz : r = none → (zeroValue et).run P w = .ok z w) :
    (Instr.lookup t v k ok).run P w = .ok (match r with
      | some (_, x) => if ok then .tuple #[x, .bool true] else x
      | none => if ok then .tuple #[z, .bool false] else z) w := by
  unfold Instr.lookup
  rw [Sem.run_bind, run_underlying hu, Result.andThen_ok]
  rcases he with ⟨rfl, rfl⟩ | ⟨b, clock, rfl, hb⟩
  · cases r with
    | none => simp [hc, hf, hz rfl]
    | some jx => obtain ⟨j, x⟩ := jx; simp [hc, hf]
  · cases r with
    | none => simp [run_getObj' hb, hc, hf, hz rfl]
    | some jx => obtain ⟨j, x⟩ := jx; simp [run_getObj' hb, hc, hf]

theorem entsA_ok {h : H} {x : AV} {es : List (AV × AV × Nat)} (he : entsA h x = .ok es) {p : Pl} {w : World} (r : Rel p h w) {vx : Value} (hx : Rep p x vx) :
    ∃ es' : Array MapEntry, EntsRep p es es'.toList ∧ EntsAt w vx es' := by
  unfold entsA at he
  split at he
  · cases he
    rw [show vx = _ from hx]
    exact ⟨#[], rfl, .inl ⟨rfl, rfl⟩⟩
  · split at he
    · rename_i es0 clock hg
      cases he
      obtain ⟨b, s, es', rfl, e1, e2, e3⟩ := mapAt r hg hx
      exact ⟨es', e3, .inr ⟨b, clock, rfl, e2⟩⟩
    · cases he
  · cases he

theorem lookupA_ok (hE : EnvOk P E) {t : TypeId} {x k v : AV} {ok : Bool} {h : H} (hl : lookupA E t x k ok h = .ok v) {p : Pl} {w : World} (r : Rel p h w) {vx vk : Value} (hx : Rep p x vx) (hk : Rep p k vk) :
    ∃ y, (Instr.lookup t vx vk ok).run P w = .ok y w ∧ Rep p v y := by
  unfold lookupA at hl
  split at hl
  · cases hl
  · rename_i kt et hmt
    have hu := mapTypes_ok hE hmt
    cases hok : okKey E kt k with
    | false => rw [hok] at hl; cases hl
    | true =>
      rw [hok] at hl; simp only [cond_true] at hl
      obtain ⟨c1, c2⟩ := key_ok hE hok hk w
      split at hl
      · cases hl
      · rename_i es hes
        obtain ⟨es', he, hrun⟩ := entsA_ok hes r hx
        split at hl
        · cases hl
        · rename_i j v0 hf
          cases hl
          obtain ⟨r', f1, f2⟩ := c2 es es'.toList _ he hf
          obtain ⟨v', k', b', e', rfl, f3, _⟩ := f2
          refine ⟨if ok then .tuple #[v', .bool true] else v', ?_, ?_⟩
          · exact run_lookup hu hrun c1 f1 ok (z := undef) (by simp)
          · cases ok
            · exact f3
            · exact ⟨_, rfl, v', _, rfl, f3, _, [], rfl, rfl, rfl⟩
        · rename_i hf
          split at hl
          · rename_i z hz
            cases hl
            obtain ⟨zv, z1, z2⟩ := zeroA_ok hE hz p w
            obtain ⟨r', f1, f2⟩ := c2 es es'.toList _ he hf
            have : r' = none := f2
            subst this
            refine ⟨if ok then .tuple #[zv, .bool false] else zv, ?_, ?_⟩
            · exact run_lookup hu hrun c1 f1 ok (fun _ => z1)
            · cases ok
              · exact z2
              · exact ⟨_, rfl, zv, _, rfl, z2, _, [], rfl, rfl, rfl⟩
          · cases hl

theorem setVal_get {v : AV} : ∀ (es : List (AV × AV × Nat)) (i j : Nat), (setVal v es i)[j]? = if j = i then (es[j]?).map (fun e => (e.1, v, e.2.2)) else es[j]?
  | [], i, j => by simp [setVal]
  | (k, x, c) :: es, 0, j => by
    cases j with
    | zero => simp [setVal]
    | succ j => simp [setVal]
  | e :: es, i + 1, j => by
    cases j with
    | zero => simp [setVal]
    | succ j => simp [setVal, setVal_get es i j]
theorem setVal_length {v : AV} : ∀ (es : List (AV × AV × Nat)) (i : Nat), (setVal v es i).length = es.length
  | [], _ => rfl
  | (_, _, _) :: _, 0 => rfl
  | _ :: es, i + 1 => by simp [setVal, setVal_length es i]

theorem setVal_rep {p : Pl} {es : List (AV × AV × Nat)} {es' : Array MapEntry} (he : EntsRep p es es'.toList) {v : AV} {x : Value} (hv : Rep p v x) (i : Nat) (f : MapEntry → MapEntry)
    (hf : ∀ e, es'[i]? = some e → (f e).key = e.key ∧ (f e).val = x ∧ (f e).born = e.born) : EntsRep p (setVal v es i) (es'.modify i f).toList := by
  rw [EntsRep.iff] at he ⊢
  refine ⟨by simp [setVal_length]; simpa using he.1, fun j e hj => ?_⟩
  rw [setVal_get] at hj
  rw [Array.getElem?_toList, Array.getElem?_modify]
  by_cases c : j = i
  · subst c
    rw [if_pos rfl, Option.map_eq_some_iff] at hj
    obtain ⟨e0, h1, h2⟩ := hj
    obtain ⟨e', q1, q2⟩ := he.2 j e0 h1
    rw [Array.getElem?_toList] at q1
    rw [if_pos rfl, q1]
    refine ⟨f e', rfl, ?_⟩
    obtain ⟨g1, g2, g3⟩ := hf e' q1
    subst h2
    exact ⟨by rw [g1]; exact q2.1, by rw [g2]; exact hv, by rw [g3]; exact q2.2.2⟩
  · rw [if_neg c] at hj
    obtain ⟨e', q1, q2⟩ := he.2 j e hj
    rw [if_neg (fun h => c h.symm)]
    exact ⟨e', by simpa using q1, q2⟩

theorem keep_ok {old new : Value} (h : old = new) (hs : Instr.sameBits 10000 new new = true) (w : World) : (Instr.keyThatStays old new).run P w = .ok new w := by
  subst h
  simp [Instr.keyThatStays, hs]

theorem mapUpdateA_ok (hE : EnvOk P E) {t : TypeId} {m k v a : AV} {h h' : H} (hu : mapUpdateA E t m k v h = .ok (.val a h')) {p : Pl} {w : World} (r : Rel p h w) {vm vk vv : Value} (hm : Rep p m vm) (hk : Rep p k vk) (hv : Rep p v vv) :
    a = .undef ∧ ∃ w', (Instr.mapUpdate t vm vk vv).run P w = .ok () w' ∧ Rel p h' w' ∧ Fr p h w p h' w' := by
  unfold mapUpdateA at hu
  split at hu
  · rename_i kt et n hmt
    have hund := mapTypes_ok hE hmt
    split at hu
    · rename_i es clock hg
      obtain ⟨b, s, es', rfl, e1, e2, e3⟩ := mapAt r hg hm
      cases hok : okKey E kt k with
      | false => rw [hok] at hu; cases hu
      | true =>
        rw [hok] at hu; simp only [cond_true] at hu
        obtain ⟨c1, c2⟩ := key_ok hE hok hk w
        split at hu
        · rename_i j v0 hf
          cases hu
          obtain ⟨r', f1, f2⟩ := c2 es es'.toList _ e3 hf
          obtain ⟨v', k', b', e', rfl, f3, f4, f5, f6, f7, f8, f9, f10⟩ := f2
          simp only [Nat.sub_zero] at f5 f6
          rw [Array.getElem?_toList] at f6
          refine ⟨rfl, _, ?_, rel_put r hg e1 _ (.map (es'.modify j fun e => { e with key := vk, val := vv }) clock) ⟨_, rfl, setVal_rep e3 hv j _ (fun e he => ?_)⟩⟩
          · unfold Instr.mapUpdate
            rw [Sem.run_bind, run_underlying hund, Result.andThen_ok]
            simp only []
            rw [Sem.run_bind, run_getObj' e2 (by simp), Result.andThen_ok]
            simp only []
            rw [Sem.run_bind, c1, Result.andThen_ok, Sem.run_bind, f1, Result.andThen_ok]
            simp only [f6, Option.map_some, Option.getD_some]
            rw [Sem.run_bind, keep_ok f7 f8, Result.andThen_ok]
            exact run_setObj' e2 (by simp) _
          · rw [f6] at he; cases he; exact ⟨f7.symm, rfl, rfl⟩
        · rename_i hf
          cases hu
          obtain ⟨r', f1, f2⟩ := c2 es es'.toList _ e3 hf
          have : r' = none := f2
          subst this
          refine ⟨rfl, _, ?_, rel_put r hg e1 _ (.map (es'.push { key := vk, val := vv, born := clock }) (clock + 1)) ⟨_, rfl, ?_⟩⟩
          · unfold Instr.mapUpdate
            rw [Sem.run_bind, run_underlying hund, Result.andThen_ok]
            simp only []
            rw [Sem.run_bind, run_getObj' e2 (by simp), Result.andThen_ok]
            simp only []
            rw [Sem.run_bind, c1, Result.andThen_ok, Sem.run_bind, f1, Result.andThen_ok]
            exact run_setObj' e2 (by simp) _
          · rw [Array.toList_push]
            exact e3.append ⟨_, [], rfl, ⟨hk, hv, rfl⟩, rfl⟩
        · cases hu
    · cases hu
  · cases hu

theorem mapEntryA_ok (hE : EnvOk P E) {t : TypeId} {m k a : AV} {h h' : H} (hu : mapEntryA E t m k h = .ok (.val a h')) {p : Pl} {w : World} (r : Rel p h w) {vm vk : Value} (hm : Rep p m vm) (hk : Rep p k vk) :
    ∃ x w', (Instr.mapEntry t vm vk).run P w = .ok x w' ∧ Rep p a x ∧ Rel p h' w' ∧ Fr p h w p h' w' := by
  unfold mapEntryA at hu
  split at hu
  · rename_i kt et n hmt
    have hund := mapTypes_ok hE hmt
    split at hu
    · rename_i es clock hg
      obtain ⟨b, s, es', rfl, e1, e2, e3⟩ := mapAt r hg hm
      cases hok : okKey E kt k with
      | false => rw [hok] at hu; cases hu
      | true =>
        rw [hok] at hu; simp only [cond_true] at hu
        obtain ⟨c1, c2⟩ := key_ok hE hok hk w
        split at hu
        · rename_i j v0 hf
          split at hu
          · rename_i k1 v1 b1 hn
            cases hu
            obtain ⟨r', f1, f2⟩ := c2 es es'.toList _ e3 hf
            obtain ⟨v', k', b', e', rfl, f3, f4, f5, f6, f7, f8, f9, f10⟩ := f2
            simp only [Nat.sub_zero] at f5 f6
            rw [Array.getElem?_toList] at f6
            rw [nthL_eq, f5] at hn
            cases hn
            have hself : es'.modify j (fun e => { e with key := vk }) = es' := by
              apply Array.ext_getElem?
              intro i
              rw [Array.getElem?_modify]
              by_cases c : j = i
              · subst c
                rw [if_pos rfl, f6]
                simp only [Option.map_some]
                rw [← f7]
              · rw [if_neg c]
            refine ⟨.tuple #[v', goInt e'.born], _, ?_, ⟨_, rfl, v', _, rfl, f3, _, [], rfl, by rw [f10]; rfl, rfl⟩, rel_put r hg e1 (.map es clock) (.map es' clock) ⟨_, rfl, e3⟩⟩
            unfold Instr.mapEntry
            rw [Sem.run_bind, run_underlying hund, Result.andThen_ok]
            simp only []
            rw [Sem.run_bind, run_getObj' e2 (by simp), Result.andThen_ok]
            simp only []
            rw [Sem.run_bind, c1, Result.andThen_ok, Sem.run_bind, f1, Result.andThen_ok]
            simp only [f6, Option.map_some, Option.getD_some]
            rw [Sem.run_bind, keep_ok f7 f8, Result.andThen_ok, hself, Sem.run_bind, run_setObj' e2 (by simp)]
            rfl
          · cases hu
        · rename_i hf
          split at hu
          · rename_i z hz
            cases hu
            obtain ⟨zv, z1, z2⟩ := zeroA_ok hE hz p w
            obtain ⟨r', f1, f2⟩ := c2 es es'.toList _ e3 hf
            have : r' = none := f2
            subst this
            refine ⟨.tuple #[zv, goInt clock], _, ?_, ⟨_, rfl, zv, _, rfl, z2, _, [], rfl, rfl, rfl⟩, rel_put r hg e1 _ (.map (es'.push { key := vk, val := zv, born := clock }) (clock + 1)) ⟨_, rfl, ?_⟩⟩
            · unfold Instr.mapEntry
              rw [Sem.run_bind, run_underlying hund, Result.andThen_ok]
              simp only []
              rw [Sem.run_bind, run_getObj' e2 (by simp), Result.andThen_ok]
              simp only []
              rw [Sem.run_bind, c1, Result.andThen_ok, Sem.run_bind, f1, Result.andThen_ok]
              simp only []
              rw [Sem.run_bind, z1, Result.andThen_ok, Sem.run_bind, run_setObj' e2 (by simp)]
              rfl
            · rw [Array.toList_push]
              exact e3.append ⟨_, [], rfl, ⟨hk, z2, rfl⟩, rfl⟩
          · cases hu
        · cases hu
    · cases hu
  · cases hu

end Go.AE
set_option linter.unusedSectionVars false
namespace Go.AE
variable [Syms]
variable {P : Program} {E : Env}

theorem bornAt_ok {p : Pl} : ∀ {es : List (AV × AV × Nat)} {es' : List MapEntry} {b i j : Nat}, EntsRep p es es' → bornAt es b i = some j →
    i ≤ j ∧ es'.findIdx? (fun e => e.born == b) = some (j - i) ∧ ∃ e e', es[j - i]? = some e ∧ es'[j - i]? = some e' ∧ EntRep p e e'
  | [], _, _, _, _, _, h => by simp [bornAt] at h
  | (k, v, c) :: es, es', b, i, j, ⟨e, rest, h1, h2, h3⟩, h => by
    subst h1
    simp only [bornAt] at h
    cases hb : Nat.beq c b with
    | true =>
      rw [hb] at h; simp only [cond_true, Option.some.injEq] at h
      subst h
      have hc := Nat.eq_of_beq_eq_true hb
      refine ⟨Nat.le_refl _, ?_, (k, v, c), e, by simp, by simp, h2⟩
      have : (e.born == b) = true := by rw [beq_iff_eq]; exact h2.2.2.trans hc
      simp [List.findIdx?_cons, this]
    | false =>
      rw [hb] at h; simp only [cond_false] at h
      obtain ⟨q1, q2, x, x', q3, q4, q5⟩ := bornAt_ok h3 h
      have hne : c ≠ b := by intro hcb; subst hcb; rw [Nat.beq_refl] at hb; cases hb
      have : (e.born == b) = false := by rw [beq_eq_false_iff_ne]; intro hh; exact hne (h2.2.2.symm.trans hh)
      refine ⟨by omega, ?_, x, x', ?_, ?_, q5⟩
      · simp [List.findIdx?_cons, this, q2]
        omega
      · rw [show j - i = (j - (i + 1)) + 1 from by omega]; simpa using q3
      · rw [show j - i = (j - (i + 1)) + 1 from by omega]; simpa using q4

theorem entryStoreA_ok {m s v a : AV} {h h' : H} (hu : entryStoreA m s v h = .ok (.val a h')) {p : Pl} {w : World} (r : Rel p h w) {vm vs vv : Value} (hm : Rep p m vm) (hs : Rep p s vs) (hv : Rep p v vv) (t : TypeId) :
    a = .undef ∧ ∃ w', (Instr.entryStore t vm vs vv).run P w = .ok () w' ∧ Rel p h' w' ∧ Fr p h w p h' w' := by
  unfold entryStoreA at hu
  split at hu
  · rename_i n born hb
    obtain ⟨kk, rfl⟩ := toNatA_ok hb hs
    split at hu
    · rename_i es clock hg
      obtain ⟨b, sz, es', rfl, e1, e2, e3⟩ := mapAt r hg hm
      split at hu
      · rename_i i hi
        cases hu
        obtain ⟨q1, q2, x, x', q3, q4, q5⟩ := bornAt_ok e3 hi
        simp only [Nat.sub_zero] at q2 q3 q4
        refine ⟨rfl, _, ?_, rel_put r hg e1 _ (.map (es'.modify i fun e => { e with val := vv }) clock) ⟨_, rfl, setVal_rep e3 hv i _ (fun e _ => ⟨rfl, rfl, rfl⟩)⟩⟩
        have hidx : es'.findIdx? (fun e => (e.born : Int) == Int.ofNat born) = some i := by
          have hf : (fun e : MapEntry => (e.born : Int) == Int.ofNat born) = (fun e => e.born == born) := by
            funext e
            rw [Bool.eq_iff_iff, beq_iff_eq, beq_iff_eq]
            exact ⟨fun h => Int.ofNat.inj h, fun h => by rw [h]; rfl⟩
          rw [hf, ← q2]
          obtain ⟨L⟩ := es'
          simp
        unfold Instr.entryStore
        simp only []
        rw [Sem.run_bind, run_getObj' e2 (by simp), Result.andThen_ok]
        simp only []
        simp only [asInt, asIntOf, pure_bind]
        rw [hidx]
        exact run_setObj' e2 (by simp) _
      · cases hu
    · cases hu
  · cases hu

theorem newObj_ok {p : Pl} {h : H} {w : World} (r : Rel p h w) (b : Blk) (o : Obj) (hb : ∀ q : Pl, p.le q → BRep q 0 b o) :
    (newObj o).run P w = .ok w.heap.size (w.alloc o) ∧ Rel (p.ext h.nx w.heap.size 0) (h.new b) (w.alloc o) ∧ Fr p h w (p.ext h.nx w.heap.size 0) (h.new b) (w.alloc o) :=
  ⟨by simp [newObj, Sem.run], rel_new r _ _ _ (hb _ (Pl.le_ext (r.fresh _ (Nat.le_refl _))))⟩

theorem rangeA_ok (hE : EnvOk P E) {t : TypeId} {x a : AV} {h h' : H} (hu : rangeA E t x h = .ok (.val a h')) {p : Pl} {w : World} (r : Rel p h w) {vx : Value} (hx : Rep p x vx) :
    ∃ y p' w', (Instr.range t vx).run P w = .ok y w' ∧ Rep p' a y ∧ Rel p' h' w' ∧ Fr p h w p' h' w' := by
  unfold rangeA at hu
  split at hu
  · cases hu
  · rename_i ti hti
    have hund := (hE.ty t ti hti).und
    split at hu
    · rename_i s e1
      rw [e1] at hund
      cases hu
      obtain ⟨str, rfl, rfl⟩ := hx
      obtain ⟨_, q2, q3⟩ := newObj_ok (P := P) r (.strIter (str.data.toList.map UInt8.toNat) 0) (.stringIter str 0) (fun q _ => ⟨str, rfl, rfl⟩)
      refine ⟨_, _, _, ?_, Rep.new, q2, q3⟩
      unfold Instr.range
      rw [Sem.run_bind, run_underlying hund, Result.andThen_ok]
      simp [newObj, Sem.run]
    · rename_i k e e1
      rw [e1] at hund
      cases hu
      rw [show vx = _ from hx]
      obtain ⟨_, q2, q3⟩ := newObj_ok (P := P) r (.mapIter none 0 [] 0) (.mapIter none 0 #[] 0) (fun q _ => ⟨none, #[], rfl, rfl, rfl⟩)
      refine ⟨_, _, _, ?_, Rep.new, q2, q3⟩
      unfold Instr.range
      rw [Sem.run_bind, run_underlying hund, Result.andThen_ok]
      simp [newObj, Sem.run]
    · rename_i k e n e1
      rw [e1] at hund
      split at hu
      · rename_i es clock hg
        cases hu
        obtain ⟨b, sz, es', rfl, f1, f2, f3⟩ := mapAt r hg hx
        obtain ⟨_, q2, q3⟩ := newObj_ok (P := P) r (.mapIter (some n) clock [] clock) (.mapIter (some b) clock #[] clock) (fun q hq => ⟨some b, #[], rfl, ⟨b, sz, hq _ _ f1, rfl⟩, rfl⟩)
        refine ⟨_, _, _, ?_, Rep.new, q2, q3⟩
        unfold Instr.range
        rw [Sem.run_bind, run_underlying hund, Result.andThen_ok]
        simp [newObj, Sem.run, run_getObj' f2]
      · cases hu
    · cases hu

theorem objAt {p : Pl} {h : H} {w : World} (r : Rel p h w) {n : Nat} {b : Blk} (hg : h.get n = some b) {v : Value} (hv : Rep p (.ptr n 0) v) :
    ∃ c s o, v = .pointer (some ⟨c, 0, none⟩) ∧ p n = some (c, s) ∧ w.heap[c]? = some o ∧ BRep p s b o := by
  obtain ⟨c, s, o, q1, q2, q3⟩ := r.blk n _ hg
  exact ⟨c, s, o, r.ptr q1 hv, q1, q2, q3⟩

theorem leftOf_ok {p : Pl} (seen : List Nat) (seen' : Array Nat) (hs : seen'.toList = seen) : ∀ {es : List (AV × AV × Nat)} {es' : List MapEntry}, EntsRep p es es' →
    EntsRep p (leftOf seen es) (es'.filter fun e => !seen'.contains e.born)
  | [], _, h => by rw [show _ = [] from h]; rfl
  | (k, v, c) :: es, _, ⟨e, rest, h1, h2, h3⟩ => by
    subst h1
    have hmem : ∀ l : List Nat, memA c l = l.contains c := by
      intro l
      induction l with
      | nil => rfl
      | cons a l ih =>
        simp only [memA, ih, List.contains_cons]
        congr 1
        rw [Bool.eq_iff_iff, Nat.beq_eq, beq_iff_eq]
        exact ⟨fun h => h.symm, fun h => h.symm⟩
    have ih := leftOf_ok seen seen' hs h3
    have hc : seen'.contains e.born = memA c seen := by
      rw [hmem, ← hs, h2.2.2]; simp
    simp only [leftOf, List.filter_cons, hc]
    cases memA c seen
    · exact ⟨e, _, rfl, h2, ih⟩
    · exact ih

theorem someOlder_ok {p : Pl} (last : Nat) : ∀ {es : List (AV × AV × Nat)} {es' : List MapEntry}, EntsRep p es es' → someOlder last es = true → es'.all (fun e => decide (e.born ≥ last)) = false
  | [], _, _, h => by simp [someOlder] at h
  | (k, v, c) :: es, _, ⟨e, rest, h1, h2, h3⟩, h => by
    subst h1
    simp only [someOlder, Bool.or_eq_true, Nat.blt_eq] at h
    simp only [List.all_cons, Bool.and_eq_false_iff, decide_eq_false_iff_not]
    rcases h with h | h
    · exact .inl (by rw [h2.2.2]; simp only [ge_iff_le]; omega)
    · exact .inr (someOlder_ok last h3 h)

theorem nextA_ok {it a : AV} {b : Bool} {h h' : H} (hu : nextA it b h = .ok (.val a h')) {p : Pl} {w : World} (r : Rel p h w) {vi : Value} (hi : Rep p it vi) (t : TypeId) :
    ∃ y w', (Instr.next vi b t).run P w = .ok y w' ∧ Rep p a y ∧ Rel p h' w' ∧ Fr p h w p h' w' := by
  unfold nextA at hu
  split at hu
  · rename_i rr
    split at hu
    · rename_i s pos hg
      obtain ⟨c, sz, o, rfl, e1, e2, str, rfl, e4⟩ := objAt r hg hi
      subst e4
      split at hu
      · rename_i hd
        cases hu
        have hpos : ¬ pos < str.size := by
          intro hlt
          rw [dropL_eq, List.drop_eq_nil_iff] at hd
          simp at hd
          exact absurd hlt (by show ¬ pos < str.data.size; omega)
        refine ⟨.tuple #[.bool false], w, ?_, ⟨_, rfl, _, [], rfl, rfl, rfl⟩, r, Fr.refl p h w⟩
        simp [Instr.next, run_getObj' e2, hpos]
      · rename_i b0 rest hd
        cases hb : Nat.blt b0 128 with
        | false => rw [hb] at hu; cases hu
        | true =>
          rw [hb] at hu; cases hu
          rw [Nat.blt_eq] at hb
          rw [dropL_eq] at hd
          have hlt : pos < str.size := by
            apply Classical.byContradiction
            intro hge
            rw [List.drop_of_length_le (by simp; show str.data.size ≤ pos; exact Nat.le_of_not_lt hge)] at hd
            cases hd
          have h0 : (str.data.toList.map UInt8.toNat)[pos]? = some b0 := by
            have := congrArg (fun l => l[0]?) hd
            simpa [List.getElem?_drop] using this
          have hget : (str.get! pos).toNat = b0 := by
            rw [List.getElem?_map, Array.getElem?_toList] at h0
            obtain ⟨u, h1, h2⟩ := Option.map_eq_some_iff.1 h0
            have : str.get! pos = u := by
              show str.data[pos]! = u
              have hlt' : pos < str.data.size := hlt
              rw [getElem!_pos str.data pos hlt']
              rw [Array.getElem?_eq_getElem hlt'] at h1
              exact Option.some.inj h1
            rw [this]; exact h2
          have hdec : Utf8.decode str pos = (b0, 1) := by
            unfold Utf8.decode
            simp [hget, hb]
          refine ⟨.tuple #[.bool true, goInt pos, .int .i32 b0], _, ?_, ⟨_, rfl, _, _, rfl, rfl, _, _, rfl, rfl, _, [], rfl, rfl, rfl⟩, rel_put r hg e1 _ (.stringIter str (pos + 1)) ⟨str, rfl, rfl⟩⟩
          simp [Instr.next, run_getObj' e2, hlt, hdec, run_setObj' e2]
    · rename_i since seen last hg
      cases hu
      obtain ⟨c, sz, o, rfl, e1, e2, m', seen', rfl, e4, e5⟩ := objAt r hg hi
      have : m' = none := e4
      subst this
      refine ⟨.tuple #[.bool false], w, ?_, ⟨_, rfl, _, [], rfl, rfl, rfl⟩, r, Fr.refl p h w⟩
      simp [Instr.next, run_getObj' e2]
    · rename_i m since sn last hg
      obtain ⟨c, sz, o, rfl, e1, e2, m', seen', rfl, ⟨mb, ms, e4, rfl⟩, e5⟩ := objAt r hg hi
      split at hu
      · rename_i es clock hgm
        obtain ⟨mb', ms', es', hmv, f1, f2, f3⟩ := mapAt r hgm (v := .map (some mb)) ⟨mb, ms, e4, rfl⟩
        cases hmv
        cases hfine : fineNext last sn es with
        | false => rw [hfine] at hu; cases hu
        | true =>
          rw [hfine] at hu; simp only [cond_true] at hu
          have hleft := leftOf_ok sn seen' e5 f3
          have htest : (!seen'.isEmpty && !es'.isEmpty && es'.all fun e => decide (e.born ≥ last)) = false := by
            cases hs : sn with
            | nil =>
              have : seen' = #[] := by rw [hs] at e5; exact Array.toList_eq_nil_iff.1 e5
              simp [this]
            | cons s0 ss =>
              cases hes : es with
              | nil =>
                rw [hes] at f3
                have : es' = #[] := Array.toList_eq_nil_iff.1 f3
                simp [this]
              | cons e0 ee =>
                rw [hs, hes] at hfine
                have := someOlder_ok last (by rw [hes] at f3; exact f3) hfine
                rw [← Array.all_toList, this]; simp
          cases hl : leftOf sn es with
          | nil =>
            rw [hl] at hu hleft; cases hu
            have hfil : (es'.filter fun e => !seen'.contains e.born) = #[] := by
              apply Array.toList_eq_nil_iff.1
              rw [Array.toList_filter]; exact hleft
            refine ⟨.tuple #[.bool false], w, ?_, ⟨_, rfl, _, [], rfl, rfl, rfl⟩, r, Fr.refl p h w⟩
            unfold Instr.next
            simp only []
            rw [Sem.run_bind, run_getObj' e2 (by simp), Result.andThen_ok]
            simp only []
            rw [Sem.run_bind, run_getObj' f2 (by simp), Result.andThen_ok]
            simp only [htest, hfil]
            simp [choose, Sem.run, Question.forced]
          | cons e0 rest =>
            rw [hl] at hu hleft
            obtain ⟨k0, v0, b0⟩ := e0
            cases rest with
            | cons _ _ => cases hu
            | nil =>
              simp only [] at hu
              cases hb : Nat.blt b0 since with
              | false => rw [hb] at hu; cases hu
              | true =>
                rw [hb] at hu; cases hu
                rw [Nat.blt_eq] at hb
                obtain ⟨x, xs, g1, g2, g3⟩ := hleft
                have : xs = [] := g3
                subst this
                have hfil : (es'.filter fun e => !seen'.contains e.born) = #[x] := by
                  apply Array.ext'
                  rw [Array.toList_filter]; exact g1
                have hborn : x.born = b0 := g2.2.2
                have hlt : x.born < since := by rw [hborn]; exact hb
                refine ⟨.tuple #[.bool true, x.key, x.val], _, ?_, ⟨_, rfl, _, _, rfl, rfl, _, _, rfl, g2.1, _, [], rfl, g2.2.1, rfl⟩,
                  rel_put r hg e1 _ (.mapIter (some mb) since (seen'.push x.born) clock) ⟨some mb, _, rfl, ⟨mb, ms, e4, rfl⟩, by rw [Array.toList_push, e5, hborn]⟩⟩
                unfold Instr.next
                simp only []
                rw [Sem.run_bind, run_getObj' e2 (by simp), Result.andThen_ok]
                simp only []
                rw [Sem.run_bind, run_getObj' f2 (by simp), Result.andThen_ok]
                simp only [htest, hfil]
                have h1 : (#[x].filter fun e => decide (e.born < since)) = #[x] := by simp [hlt]
                have h2 : (#[x].filter fun e => decide (e.born ≥ since)) = #[] := by simp [hlt]
                simp only [h1, h2]
                simp [choose, Sem.run, Question.forced, run_setObj' e2]
      · cases hu
    · cases hu
  · cases hu

end Go.AE
