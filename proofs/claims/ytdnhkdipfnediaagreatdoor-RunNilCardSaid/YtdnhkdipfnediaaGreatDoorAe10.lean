/- Control. No condition: lemmas. -/
import Derived.Test.YtdnhkdipfnediaaGreatDoorAe9
set_option linter.unusedSectionVars false
namespace Go.AE
variable [Syms]
variable {P : Program} {E : Env}

/-! ### A scope -/
section
variable {b : Frame} {a : Act} {k : List Item} {cs : List Frame} {w : World}
theorem stepR_scope {c : Code} : step P (lone (b.atR a (.code (.scope c) :: k)) cs w) = .next (lone (b.atR a (.code c :: .inScope c :: k)) cs w) :=
  step_lone_go (by simp [stepG, stepG.exec, Frame.atR])
theorem stepR_inScope {c : Code} : step P (lone (b.atR a (.inScope c :: k)) cs w) = .next (lone (b.atR a k) cs w) :=
  step_lone_go (by simp [stepG, stepG.exec, Frame.atR])
end

def ScopePost (body : Code) (again : Code → Act → World → Prop) (Q : Exit → Act → World → Prop) : Exit → Act → World → Prop
  | .goto l, a, w => match findLabel body l with
    | some rest => again rest a w
    | none => Q (.goto l) a w
  | e, a, w => Q e a w

def scopeIn (F : Fence) (n : Nat) (P : Program) (body : Code) (Q : Exit → Act → World → Prop) : Nat → Code → Act → World → Prop
  | 0, _, _, _ => False
  | m + 1, c, a, w => c.wpIn F n P (ScopePost body (scopeIn F n P body Q m) Q) a w

theorem wpIn_scope {F : Fence} {n : Nat} {body : Code} {Q : Exit → Act → World → Prop} {a : Act} {w : World} (m : Nat) (h : scopeIn F n P body Q m body a w) : (Code.scope body).wpIn F n P Q a w := by
  intro b k cs hro hb hr
  have key : ∀ m c a w, scopeIn F n P body Q m c a w → ∃ e a' w', Q e a' w' ∧ ArrivesIn (Machine.fenced P F) P (lone (b.atR a (.code c :: .inScope body :: k)) cs w) b k cs e a' w' := by
    intro m
    induction m with
    | zero => intro c a w h; exact h.elim
    | succ m ih =>
      intro c a w h
      obtain ⟨e, a₁, w₁, hq, harr⟩ := h b (.inScope body :: k) cs hro hb hr
      cases e with
      | normal => exact ⟨.normal, a₁, w₁, hq, StepsIn.trans harr (.one (fenced_calm hb hr rfl) stepR_inScope)⟩
      | exit id =>
        have hx : exitTo id (.inScope body :: k) = exitTo id k := by simp [exitTo]
        exact ⟨.exit id, a₁, w₁, hq, fun k' hk => harr.1 k' (by rw [hx]; exact hk), fun hr' hk => harr.2 hr' (by rw [hx]; exact hk)⟩
      | goto l =>
        simp only [ScopePost] at hq
        cases hf : findLabel body l with
        | some rest =>
          rw [hf] at hq
          obtain ⟨e₂, a₂, w₂, hq₂, harr₂⟩ := ih rest a₁ w₁ hq
          exact ⟨e₂, a₂, w₂, hq₂, .of_steps (harr.1 (.code rest :: .inScope body :: k) (by simp [gotoIn, hf])) harr₂⟩
        | none =>
          rw [hf] at hq
          have hx : gotoIn l (.inScope body :: k) = gotoIn l k := by simp [gotoIn, hf]
          exact ⟨.goto l, a₁, w₁, hq, fun k' hk => harr.1 k' (by rw [hx]; exact hk), fun hr' hk => harr.2 hr' (by rw [hx]; exact hk)⟩
      | ret => exact ⟨_, a₁, w₁, hq, harr⟩
      | panic ch => exact ⟨_, a₁, w₁, hq, harr⟩
      | outgrown => exact ⟨_, a₁, w₁, hq, harr⟩
  obtain ⟨e, a', w', hq, harr⟩ := key m body a w h
  exact ⟨e, a', w', hq, .of_steps (.one (fenced_calm hb hr rfl) stepR_scope) harr⟩

/-! ### What holds behind a piece of code -/

def DfRep (p : Pl) : List Nat → List Deferred → Prop
  | [], ds => ds = []
  | n :: l, ds => ∃ b sz ds', ds = { target := .collected b, args := #[] } :: ds' ∧ p n = some (b, sz) ∧ DfRep p l ds'

theorem DfRep.mono {p q : Pl} (h : p.le q) : ∀ {l : List Nat} {ds : List Deferred}, DfRep p l ds → DfRep q l ds
  | [], _, r => r
  | _ :: _, _, ⟨b, sz, ds', e, hp, r⟩ => ⟨b, sz, ds', e, h _ _ hp, DfRep.mono h r⟩

def exOf : Ex → Exit
  | .norm => .normal
  | .exit id => .exit id
  | .goto l => .goto l
  | .ret => .ret

def CPost (p : Pl) (h : H) (w : World) (nt : Nat) (e : Ex) (s : S) (e' : Exit) (a' : Act) (w' : World) : Prop :=
  e' = exOf e ∧ ∃ p', TmRep p' nt s.tm a'.tmps ∧ Rel p' s.h w' ∧ Fr p h w p' s.h w' ∧ DfRep p' s.df a'.defers

theorem CPost.from {p p1 : Pl} {h h1 : H} {w w1 : World} {nt : Nat} {e : Ex} {s : S} {e' : Exit} {a' : Act} {w' : World} (f : Fr p h w p1 h1 w1) (c : CPost p1 h1 w1 nt e s e' a' w') : CPost p h w nt e s e' a' w' := by
  obtain ⟨h1, p', q1, q2, q3, q4⟩ := c
  exact ⟨h1, p', q1, q2, f.trans q3, q4⟩

def RoundAt (p : Pl) : Option Nat → Option Nat → Prop
  | none, ro => ro = none
  | some l, ro => ∃ b z, p l = some (b, z) ∧ ro = some b

theorem RoundAt.mono {p q : Pl} (h : p.le q) {l ro : Option Nat} (r : RoundAt p l ro) : RoundAt q l ro := by
  cases l with
  | none => exact r
  | some l => obtain ⟨b, z, e, r⟩ := r; exact ⟨b, z, h _ _ e, r⟩

/-- What a piece of code does, as the evaluator says. -/
def CodeOk (P : Program) (nt : Nat) (around : Option Nat) (c : Code) (s : S) (e : Ex) (s' : S) : Prop :=
  ∀ p a w, TmRep p nt s.tm a.tmps → Rel p s.h w → DfRep p s.df a.defers → ∀ ro, RoundAt p around ro → ∀ n, c.wpIn (FW ro) n P (CPost p s.h w nt e s') a w

def LoopOk (P : Program) (nt : Nat) (around : Option Nat) (m : Nat) (c : Code) (s : S) (e : Ex) (s' : S) : Prop :=
  ∀ p a w, TmRep p nt s.tm a.tmps → Rel p s.h w → DfRep p s.df a.defers → ∀ ro, RoundAt p around ro → ∀ n, Code.roundsIn (FW ro) n P c (CPost p s.h w nt e s') m a w

theorem roundsIn_mono {F : Fence} {n : Nat} {c : Code} {Q Q' : Exit → Act → World → Prop} (h : ∀ e a w, Q e a w → Q' e a w) : ∀ (m : Nat) (a : Act) (w : World), Code.roundsIn F n P c Q m a w → Code.roundsIn F n P c Q' m a w
  | 0, _, _, hh => hh.elim
  | m + 1, a, w, hh => by
    rw [roundsIn_succ] at *
    refine wpIn_mono hh fun e a' w' hq => ?_
    cases e with
    | normal => exact roundsIn_mono h m _ _ hq
    | _ => exact h _ _ _ hq

theorem scopeIn_mono {F : Fence} {n : Nat} {body : Code} {Q Q' : Exit → Act → World → Prop} (h : ∀ e a w, Q e a w → Q' e a w) : ∀ (m : Nat) (c : Code) (a : Act) (w : World), scopeIn F n P body Q m c a w → scopeIn F n P body Q' m c a w
  | 0, _, _, _, hh => hh.elim
  | m + 1, c, a, w, hh => by
    refine wpIn_mono hh fun e a' w' hq => ?_
    cases e with
    | goto l =>
      simp only [ScopePost] at hq ⊢
      cases hf : findLabel body l with
      | some rest => rw [hf] at hq; exact scopeIn_mono h m _ _ _ hq
      | none => rw [hf] at hq; exact h _ _ _ hq
    | _ => exact h _ _ _ hq

theorem getLoop_run {l : Nat} {L : Loop} {w : World} (h : w.heap[l]? = some (.loop L)) : (Instr.getLoop l).run P w = .ok L w := by
  unfold Instr.getLoop
  rw [Sem.run_bind]
  have : (getObj l).run P w = .ok (.loop L) w := by simp [getObj, Sem.run, h]
  rw [this]; rfl

theorem setObj_run {l : Nat} {o : Obj} {L : Loop} {w : World} (h : w.heap[l]? = some (.loop L)) : (setObj l o).run P w = .ok () (w.putObj l o) := by
  simp [setObj, Sem.run, h]
  rfl

theorem callValue_call {gv : AV} {args : List AV} {h h' : H} {f : FuncId} {as : List AV} (hc : callValue E gv args h = .ok (.call f as h')) : ∃ first captured, gv = .func (.func f) first captured ∧ as = first ++ args ++ captured := by
  unfold callValue at hc
  split at hc
  · rename_i g first captured
    unfold callA at hc
    split at hc
    · cases hc; exact ⟨first, captured, rfl, rfl⟩
    · split at hc
      · rename_i c hcc
        cases hb : Nat.blt c 256 with
        | true => rw [hb] at hc; simp only [cond_true] at hc; split at hc <;> cases hc
        | false => rw [hb] at hc; cases hc
      · cases hc
  · cases hc
  · cases hc

theorem rangeFunc_ok {call : Caller} (hC : CallOk P call) {nt : Nat} {around : Option Nat} {f : Nat} {g : Operand} {ps : Array Tmp} {assign body : Code} {s : S} {e : Ex} {s' : S}
    (he : evC E call nt around (f + 1) (.rangeFunc g ps assign body) s = .ok (e, s')) : CodeOk P nt around (.rangeFunc g ps assign body) s e s' := by
  intro p a w ht r hd ro hro n
  simp only [evC] at he
  split at he
  · cases he
  · rename_i gv hgv
    have hg := evX_ok ht hgv
    -- the blocks
    have hblk : ∀ fn d h1 df, enterA around s = .ok (d, h1, df) →
        ∃ l mark p2 w2, (Instr.enterLoop fn a.tmps ps assign body ro).run P w = .ok (l, mark) w2 ∧ p2 h1.nx = some (l, 0) ∧
          Rel p2 (h1.new (.loop .ready none nt s.tm ps.toList assign body d)) w2 ∧ Fr p s.h w p2 (h1.new (.loop .ready none nt s.tm ps.toList assign body d)) w2 ∧ DfRep p2 df (mark ++ a.defers) := by
      intro fn d h1 df hm
      unfold enterA at hm
      cases around with
      | none =>
        cases hm
        rw [show ro = none from hro]
        obtain ⟨q1, q2, q3⟩ := newObj_ok (P := P) r .dfr (.deferred (some [])) (fun q _ => rfl)
        have hd1 : (p.ext s.h.nx w.heap.size 0) s.h.nx = some (w.heap.size, 0) := Pl.ext_self _ _ _ _
        obtain ⟨m1, m2, m3⟩ := newObj_ok (P := P) q2 (.loop .ready none nt s.tm ps.toList assign body s.h.nx)
          (.loop { state := .ready, pending := none, fn, tmps := a.tmps, params := ps, assign, body, defers := w.heap.size })
          (fun q hq => ⟨_, rfl, rfl, rfl, (ht.mono q3.le).mono hq, rfl, rfl, rfl, _, _, hq _ _ hd1, rfl⟩)
        refine ⟨_, [{ target := .collected w.heap.size, args := #[] }], _, _, ?_, Pl.ext_self _ _ _ _, m2, q3.trans m3, ⟨w.heap.size, 0, a.defers, rfl, m3.le _ _ hd1, (hd.mono q3.le).mono m3.le⟩⟩
        unfold Instr.enterLoop
        simp only [pure_bind]
        rw [Sem.run_bind, q1]
        simp only [Result.andThen_ok]
        rw [Sem.run_bind, m1]
        rfl
      | some l0 =>
        obtain ⟨b0, z0, hp0, rfl⟩ := hro
        simp only [] at hm
        split at hm
        · rename_i st pe nt0 tm0 ps0 as0 bo0 d0 hl0
          cases hm
          obtain ⟨c, sz, o, e1, e2, e3⟩ := r.blk _ _ hl0
          rw [hp0] at e1
          obtain ⟨rfl, rfl⟩ := Prod.mk.inj (Option.some.inj e1)
          obtain ⟨L, rfl, _, _, _, _, _, _, bd, zd, hpd, hLd⟩ := e3
          obtain ⟨m1, m2, m3⟩ := newObj_ok (P := P) r (.loop .ready none nt s.tm ps.toList assign body d)
            (.loop { state := .ready, pending := none, fn, tmps := a.tmps, params := ps, assign, body, defers := L.defers })
            (fun q hq => ⟨_, rfl, rfl, rfl, ht.mono hq, rfl, rfl, rfl, _, _, hq _ _ hpd, hLd⟩)
          refine ⟨_, [], _, _, ?_, Pl.ext_self _ _ _ _, m2, m3, hd.mono m3.le⟩
          unfold Instr.enterLoop
          simp only []
          simp only [pure_bind]
          rw [Sem.run_bind, getLoop_run e2]
          simp only [Result.andThen_ok]
          rw [Sem.run_bind, m1]
          rfl
        · cases hm
    cases hres : enterA around s with
    | bad w0 => rw [hres] at he; cases he
    | ok x =>
      obtain ⟨d, h1, df⟩ := x
      rw [hres] at he
      simp only [] at he
      have hblk := fun fn => hblk fn d h1 df hres
      split at he
      · cases he
      · cases he
      · cases he
      · rename_i gf gargs hh hcv
        obtain ⟨first, captured, rfl, rfl⟩ := callValue_call hcv
        obtain ⟨f', fi', ca', ev, hf', rfi, rca⟩ := hg
        have : f' = .func gf := hf'
        subst this
        split at he
        · cases he
        · rename_i v3 h3 hcall
          obtain ⟨hcal, hcs⟩ := hC.fn _ _ _ _ _ hcall
          refine wpIn_rangeFunc fun fn _ => ?_
          obtain ⟨l, mark, p2, w2, hen, hpl, r2, f2, hd2⟩ := hblk fn
          have hargs : Reps p2 (first ++ [AV.func (.yield h1.nx) [] []] ++ captured) (fi' ++ #[Value.func (.yield l) #[] #[]] ++ ca').toList := by
            have hy : Reps p2 [AV.func (.yield h1.nx) [] []] [Value.func (.yield l) #[] #[]] := ⟨_, [], rfl, ⟨_, #[], #[], rfl, ⟨l, 0, hpl, rfl⟩, rfl, rfl⟩, rfl⟩
            rw [Array.toList_append, Array.toList_append]
            exact ((Reps.mono f2.le _ _ rfi).append hy).append (Reps.mono f2.le _ _ rca)
          refine ⟨l, mark, w2, { target := .fn (.func gf) ca', args := fi' ++ #[Value.func (.yield l) #[] #[]] }, w2, gf, fi' ++ #[Value.func (.yield l) #[] #[]] ++ ca', w2, hen, ?_, fun _ _ => trivial, ?_, fun hh => by simp [FW, Fence.wide] at hh, ?_⟩
          · unfold resolve
            have hm : (#[Operand.const (Value.func (.yield l) #[] #[])] : Array Operand).map a.eval = #[Value.func (.yield l) #[] #[]] := by simp [Act.eval]
            simp only [ev, hm]
            rfl
          · unfold invoke
            simp only []
            exact run_callFunc hcal _ _
          · refine CallsIn.mono (F := FW ro) (hcs p2 w2 _ r2 hargs (n - 1)) fun e0 w3 he0 => ?_
            cases e0 with
            | returned x =>
              obtain ⟨p3, k1, k2, k3⟩ := he0
              have hpl3 := k3.le _ _ hpl
              split at he
              · cases he
              · rename_i st pend nt' tm' ps' as' bo' d' hst hl3
                obtain ⟨c, sz, o, e1, e2, e3⟩ := k2.blk _ _ hl3
                rw [hpl3] at e1
                obtain ⟨rfl, rfl⟩ := Prod.mk.inj (Option.some.inj e1)
                obtain ⟨L, rfl, g1, g2, g3, g4, g5, g6, g7⟩ := e3
                have hput := rel_put k2 hl3 hpl3 (.loop .exhausted pend nt' tm' ps' as' bo' d') (.loop { L with state := .exhausted }) ⟨_, rfl, rfl, g2, g3, g4, g5, g6, g7⟩
                have hnb : (L.state == LoopState.busy) = false := by
                  rw [g1]
                  cases st with
                  | busy => exact (hst rfl).elim
                  | _ => rfl
                have hend : (Instr.endLoop l).run P w3 = .ok pend (w3.putObj l (.loop { L with state := .exhausted })) := by
                  unfold Instr.endLoop
                  rw [Sem.run_bind, getLoop_run e2, Result.andThen_ok]
                  simp only [hnb, Bool.false_eq_true, if_false]
                  rw [Sem.run_bind, setObj_run e2, Result.andThen_ok, g2]
                  rfl
                refine ⟨pend, _, hend, ?_⟩
                have hfin : ∀ e1 : Ex, exOf e1 = exOf e1 → CPost p s.h w nt e1 { tm := s.tm, h := h3.put h1.nx (.loop .exhausted pend nt' tm' ps' as' bo' d'), df := df } (exOf e1) { a with defers := mark ++ a.defers } (w3.putObj l (.loop { L with state := .exhausted })) :=
                  fun e1 _ => ⟨rfl, p3, (ht.mono f2.le).mono k3.le, hput.1, (f2.trans k3).trans hput.2, hd2.mono k3.le⟩
                split at he
                · cases he; exact hfin .norm rfl
                · cases he; exact wpIn_ret (hfin .ret rfl)
                · cases he; exact wpIn_exit (hfin (.exit _) rfl)
                · cases he; exact wpIn_goto (hfin (.goto _) rfl)
                · cases he
              · cases he
            | panicked c => exact he0.elim
            | outgrown => exact he0.elim

theorem evC_ok (hE : EnvOk P E) {call : Caller} (hC : CallOk P call) {nt : Nat} {around : Option Nat} : ∀ f,
    (∀ c s e s', evC E call nt around f c s = .ok (e, s') → CodeOk P nt around c s e s') ∧
    (∀ c s e s', evC E call nt around f (.loop c) s = .ok (e, s') → LoopOk P nt around f c s e s') := by
  intro f
  induction f with
  | zero => exact ⟨fun c s e s' h => (by cases h), fun c s e s' h => (by cases h)⟩
  | succ f ih =>
    obtain ⟨ihc, ihl⟩ := ih
    have hloop : ∀ c s e s', evC E call nt around (f + 1) (.loop c) s = .ok (e, s') → LoopOk P nt around (f + 1) c s e s' := by
      intro c s e s' h p a w ht r hd ro hro n
      simp only [evC] at h
      rw [roundsIn_succ]
      split at h
      · rename_i s1 h1
        refine wpIn_mono (ihc _ _ _ _ h1 p a w ht r hd ro hro n) fun e' a' w' hq => ?_
        obtain ⟨rfl, p', q1, q2, q3, q4⟩ := hq
        exact roundsIn_mono (fun _ _ _ hh => CPost.from q3 hh) _ _ _ (ihl _ _ _ _ h p' a' w' q1 q2 q4 ro (hro.mono q3.le) n)
      · rename_i h1
        cases hr : evC E call nt around f c s with
        | bad w0 => rw [hr] at h; cases h
        | ok es =>
          obtain ⟨e1, s1⟩ := es
          rw [hr] at h
          cases h
          refine wpIn_mono (ihc _ _ _ _ hr p a w ht r hd ro hro n) fun e' a' w' hq => ?_
          have hn : e ≠ .norm := fun hh => by subst hh; exact h1 _ hr
          obtain ⟨rfl, _⟩ := id hq
          cases e with
          | norm => exact absurd rfl hn
          | exit id => exact hq
          | goto l => exact hq
          | ret => exact hq
    refine ⟨fun c s e s' h => ?_, hloop⟩
    cases c with
    | skip =>
      intro p a w ht r hd ro hro n
      cases h
      exact wpIn_skip ⟨rfl, p, ht, r, Fr.refl _ _ _, hd⟩
    | label l =>
      intro p a w ht r hd ro hro n
      cases h
      exact wpIn_label ⟨rfl, p, ht, r, Fr.refl _ _ _, hd⟩
    | region id ops draw =>
      intro p a w ht r hd ro hro n
      simp only [evC] at h
      split at h
      · rename_i tm h1 hreg
        cases h
        refine evRegion_ok hE hC hreg ht r ro n fun a' w' hq => ?_
        obtain ⟨p', q1, q2, q3, q4⟩ := hq
        exact ⟨rfl, p', q1, q2, q3, by rw [q4]; exact hd.mono q3.le⟩
      · cases h
    | seq x y =>
      intro p a w ht r hd ro hro n
      simp only [evC] at h
      refine wpIn_seq ?_
      split at h
      · rename_i s1 h1
        refine wpIn_mono (ihc _ _ _ _ h1 p a w ht r hd ro hro n) fun e' a' w' hq => ?_
        obtain ⟨rfl, p', q1, q2, q3, q4⟩ := hq
        exact wpIn_mono (ihc _ _ _ _ h p' a' w' q1 q2 q4 ro (hro.mono q3.le) n) fun _ _ _ hh => CPost.from q3 hh
      · rename_i h1
        cases hr : evC E call nt around f x s with
        | bad w0 => rw [hr] at h; cases h
        | ok es =>
          obtain ⟨e1, s1⟩ := es
          rw [hr] at h
          cases h
          refine wpIn_mono (ihc _ _ _ _ hr p a w ht r hd ro hro n) fun e' a' w' hq => ?_
          have hn : e ≠ .norm := fun hh => by subst hh; exact h1 _ hr
          obtain ⟨rfl, _⟩ := id hq
          cases e with
          | norm => exact absurd rfl hn
          | exit id => exact hq
          | goto l => exact hq
          | ret => exact hq
    | cond c x y =>
      intro p a w ht r hd ro hro n
      simp only [evC] at h
      split at h
      · rename_i hc
        exact wpIn_cond_true (evX_ok ht hc) (ihc _ _ _ _ h p a w ht r hd ro hro n)
      · rename_i hc
        exact wpIn_cond_false (evX_ok ht hc) (ihc _ _ _ _ h p a w ht r hd ro hro n)
      · cases h
    | block id x =>
      intro p a w ht r hd ro hro n
      simp only [evC] at h
      refine wpIn_block ?_
      split at h
      · rename_i j s1 h1
        cases h
        refine wpIn_mono (ihc _ _ _ _ h1 p a w ht r hd ro hro n) fun e' a' w' hq => ?_
        obtain ⟨rfl, rest⟩ := hq
        simp only [exOf, Exit.inBlock]
        by_cases e : j = id
        · subst e; rw [if_pos rfl]; exact ⟨by simp [exOf], rest⟩
        · have hb : Nat.beq j id = false := by
            cases hb : Nat.beq j id with
            | false => rfl
            | true => exact absurd (Nat.eq_of_beq_eq_true hb) e
          rw [if_neg e]; exact ⟨by rw [hb]; rfl, rest⟩
      · rename_i h1
        refine wpIn_mono (ihc _ _ _ _ h p a w ht r hd ro hro n) fun e' a' w' hq => ?_
        have hq' := hq
        obtain ⟨rfl, _⟩ := hq'
        cases e with
        | norm => exact hq
        | exit id' => exact absurd h (h1 _ _)
        | goto l => exact hq
        | ret => exact hq
    | loop x =>
      intro p a w ht r hd ro hro n
      exact wpIn_loop_rounds (f + 1) (hloop x s e s' h p a w ht r hd ro hro n)
    | exit id =>
      intro p a w ht r hd ro hro n
      cases h
      exact wpIn_exit ⟨rfl, p, ht, r, Fr.refl _ _ _, hd⟩
    | goto l =>
      intro p a w ht r hd ro hro n
      cases h
      exact wpIn_goto ⟨rfl, p, ht, r, Fr.refl _ _ _, hd⟩
    | ret =>
      intro p a w ht r hd ro hro n
      cases h
      exact wpIn_ret ⟨rfl, p, ht, r, Fr.refl _ _ _, hd⟩
    | scope x =>
      intro p a w ht r hd ro hro n
      simp only [evC] at h
      refine wpIn_scope f ?_
      have key : ∀ (m : Nat) (c : Code) (s : S), scopeA (fun c s => evC E call nt around f c s) x m c s = .ok (e, s') →
          ∀ p a w, TmRep p nt s.tm a.tmps → Rel p s.h w → DfRep p s.df a.defers → RoundAt p around ro → scopeIn (FW ro) n P x (CPost p s.h w nt e s') m c a w := by
        intro m
        induction m with
        | zero => intro c s h; cases h
        | succ m ihm =>
          intro c s h p a w ht r hd hro
          simp only [scopeA] at h
          split at h
          · rename_i l s1 h1
            refine wpIn_mono (ihc _ _ _ _ h1 p a w ht r hd ro hro n) fun e' a' w' hq => ?_
            obtain ⟨rfl, p', q1, q2, q3, q4⟩ := hq
            simp only [exOf, ScopePost]
            split at h
            · rename_i rest hf
              rw [hf]
              exact scopeIn_mono (fun _ _ _ hh => CPost.from q3 hh) _ _ _ _ (ihm rest s1 h p' a' w' q1 q2 q4 (hro.mono q3.le))
            · rename_i hf
              rw [hf]
              cases h
              exact ⟨rfl, p', q1, q2, q3, q4⟩
          · rename_i h1
            refine wpIn_mono (ihc _ _ _ _ h p a w ht r hd ro hro n) fun e' a' w' hq => ?_
            obtain ⟨rfl, _⟩ := id hq
            cases e with
            | norm => exact hq
            | exit id' => exact hq
            | goto l => exact absurd h (h1 _ _)
            | ret => exact hq
      exact key f x s h p a w ht r hd hro
    | rangeFunc g ps assign body => exact rangeFunc_ok hC h
    | refuse w => cases h
end Go.AE
set_option linter.unusedSectionVars false
namespace Go.AE
variable [Syms]
variable {P : Program} {E : Env}

def MemoOk (P : Program) (M : Memo) : Prop :=
  ∀ f args h v h', M f args h = some (v, h') → Callable P f ∧ ∀ p w (args' : Array Value), Rel p h w → Reps p args args'.toList → ∀ n, CallsIn Fence.wide n P f args' w (EndOk p h w v h')

theorem argsT_get : ∀ (args : List AV) (i : Nat) (tm : T AV) (t : Nat), tmGet (argsT args i tm) t = if h : i ≤ t ∧ t < i + args.length then args[t - i]'(by omega) else tmGet tm t
  | [], i, tm, t => by rw [dif_neg (fun hh => by simp at hh; omega)]; rfl
  | a :: l, i, tm, t => by
    simp only [argsT]
    rw [argsT_get l (i + 1), tmGet_put]
    by_cases h1 : t = i
    · subst h1
      rw [dif_neg (by omega), if_pos rfl, dif_pos (by simp)]
      simp
    · by_cases h2 : i + 1 ≤ t ∧ t < i + 1 + l.length
      · rw [dif_pos h2, dif_pos (by simp; omega)]
        have : t - i = (t - (i + 1)) + 1 := by omega
        simp only [this, List.getElem_cons_succ]
      · rw [dif_neg h2, if_neg h1, dif_neg (by simp; omega)]

theorem argsT_rep {p : Pl} {args : List AV} {args' : Array Value} (h : Reps p args args'.toList) {nt : Nat} (hl : args.length ≤ nt) : TmRep p nt (argsT args 0 .leaf) (args' ++ Array.replicate (nt - args'.size) undef) := by
  have hlen := Reps.length h
  simp at hlen
  refine ⟨by simp; omega, fun t => ?_⟩
  rw [argsT_get, Array.getD_eq_getD_getElem?]
  by_cases ht : 0 ≤ t ∧ t < 0 + args.length
  · rw [dif_pos ht]
    obtain ⟨v, e, r⟩ := Reps.nth h (i := t) (a := args[t - 0]'(by omega)) (by rw [nthL_eq]; simp)
    rw [Array.getElem?_append_left (by omega)]
    rw [Array.getElem?_toList] at e
    rw [e]; exact r
  · rw [dif_neg ht]
    have h0 : tmGet (T.leaf : T AV) t = .undef := by unfold tmGet; rw [T.get_leaf]
    rw [h0, Array.getElem?_append_right (by omega), Array.getElem?_replicate]
    split <;> exact undef_rep p

theorem evResults_ok (hE : EnvOk P E) {p : Pl} {nt : Nat} {tm : T AV} {tmps : Array Value} {h : H} {w : World} (ht : TmRep p nt tm tmps) (r : Rel p h w) {g : ResultVar → Sem Value}
    (hg1 : ∀ t, g (.tmp t) = pure (tmps.getD t undef)) (hg2 : ∀ a t, g (.cell a t) = (do Go.loadVar t (← asAddr (tmps.getD a undef)))) : ∀ {rs : List ResultVar} {vs : List AV}, evResults E tm h rs = .ok vs →
    ∃ xs : List Value, (rs.mapM g).run P w = .ok xs w ∧ Reps p vs xs
  | [], vs, he => by cases he; exact ⟨[], by rw [List.mapM_nil]; rfl, rfl⟩
  | x :: rs, vs, he => by
    simp only [evResults] at he
    split at he
    · rename_i v hv
      split at he
      · rename_i m hm
        cases he
        obtain ⟨xs, e1, e2⟩ := evResults_ok hE ht r hg1 hg2 hm
        have hx : ∃ y, (g x).run P w = .ok y w ∧ Rep p v y := by
          cases x with
          | tmp t => cases hv; rw [hg1]; exact ⟨_, rfl, ht.rep t⟩
          | cell a t =>
            simp only [evResult] at hv
            split at hv
            · rename_i n o htm
              have hr := ht.rep a
              rw [htm] at hr
              obtain ⟨b, sz, y, q1, q2, q3⟩ := loadVar_ok (P := P) hE hv r
              rw [hg2, r.ptr q1 hr]
              refine ⟨y, ?_, q3⟩
              simp only [asAddr, pure_bind]
              exact q2
            · cases hv
        obtain ⟨y, hy, ry⟩ := hx
        refine ⟨y :: xs, ?_, ⟨y, xs, rfl, ry, e2⟩⟩
        rw [List.mapM_cons, Sem.run_bind, hy, Result.andThen_ok, Sem.run_bind, e1, Result.andThen_ok]
        rfl
      · cases he
    · cases he

theorem results_ok (hE : EnvOk P E) {p : Pl} {nt : Nat} {tm : T AV} {tmps : Array Value} {h : H} {w : World} (ht : TmRep p nt tm tmps) (r : Rel p h w) {fn : Func} {vs : List AV} (he : evResults E tm h fn.results.toList = .ok vs) :
    ∃ x, (results fn tmps).run P w = .ok x w ∧ Rep p (tupA vs) x := by
  have hrun : ∃ xs : List Value, (results fn tmps).run P w = .ok (if h : xs.toArray.size = 1 then xs.toArray[0] else .tuple xs.toArray) w ∧ Reps p vs xs := by
    unfold results
    rw [Array.mapM_eq_mapM_toList, map_eq_pure_bind]
    simp only [bind_assoc, pure_bind]
    obtain ⟨xs, e1, e2⟩ := evResults_ok (P := P) hE ht r (g := fun
      | .tmp t => pure (tmps.getD t undef)
      | .cell a t => do Go.loadVar t (← asAddr (tmps.getD a undef))) (fun _ => rfl) (fun _ _ => rfl) he
    refine ⟨xs, ?_, e2⟩
    rw [Sem.run_bind]
    refine (congrArg (fun q => Result.andThen q _) e1).trans ?_
    rfl
  obtain ⟨xs, hrun, e2⟩ := hrun
  refine ⟨_, hrun, ?_⟩
  have hlen := Reps.length e2
  by_cases h1 : xs.length = 1
  · obtain ⟨y, rfl⟩ := List.length_eq_one_iff.1 h1
    rw [dif_pos (by simp)]
    cases vs with
    | nil => simp at hlen
    | cons v vs =>
      cases vs with
      | nil => obtain ⟨_, _, e, r1, _⟩ := e2; cases e; exact r1
      | cons _ _ => simp at hlen
  · rw [dif_neg (by simpa using h1)]
    have : tupA vs = .tup vs := by
      cases vs with
      | nil => rfl
      | cons v vs => cases vs with
        | nil => simp at hlen; omega
        | cons _ _ => rfl
    rw [this]
    exact ⟨_, rfl, by simpa using e2⟩

/-- A block is given up, and something else put there. -/
theorem rel_killPut {p : Pl} {h : H} {w : World} (r : Rel p h w) {d b sz : Nat} (hd : h.get d ≠ none) (hp : p d = some (b, sz)) (o : Obj) :
    Rel p (h.kill d) (w.putObj b o) ∧ Fr p h w p (h.kill d) (w.putObj b o) := by
  obtain ⟨r1, f1⟩ := rel_kill r d
  have hlt := r.blockLt hd hp
  have hsz : (w.putObj b o).heap.size = w.heap.size := by simp [World.putObj]
  have hoth : ∀ c, c ≠ b → (w.putObj b o).heap[c]? = w.heap[c]? := fun c hc => by
    simp only [World.putObj]
    rw [Array.getElem?_setIfInBounds_ne (Ne.symm hc)]
  have hne : ∀ n c s, (h.kill d).get n ≠ none → p n = some (c, s) → c ≠ b := fun n c s hn e hc => by
    subst hc
    rw [H.get_kill] at hn
    by_cases e1 : n = d
    · rw [if_pos e1] at hn; exact hn rfl
    · rw [if_neg e1] at hn; exact e1 (r.inj n d c s sz hn hd e hp)
  refine ⟨⟨fun n bk hn => ?_, r1.inj, r1.fresh, r1.base, r1.glob⟩, ⟨f1.le, f1.nx, f1.old, by rw [hsz]; exact Nat.le_refl _, fun c hc hno => ?_, f1.own, rfl, rfl, rfl⟩⟩
  · obtain ⟨c, s, o', e1, e2, e3⟩ := r1.blk n bk hn
    exact ⟨c, s, o', e1, by rw [hoth c (hne n c s (by rw [hn]; simp) e1)]; exact e2, e3⟩
  · exact hoth c fun hcb => by subst hcb; exact hno d sz hd hp

theorem leaves_ok (hE : EnvOk P E) {fn : Func} {nt : Nat} {tm : T AV} {tmps : Array Value} {p0 : Pl} {h0 : H} {w0 : World} {vs : List AV} {n : Nat} : ∀ (df : List Nat) (ds : List Deferred) (p : Pl) (h h1 : H) (w : World), takeDf df h = .ok h1 → DfRep p df ds → TmRep p nt tm tmps → Rel p h w → Fr p0 h0 w0 p h w →
    evResults E tm h1 fn.results.toList = .ok vs → LeavesInM Fence.wide n P fn tmps (EndOk p0 h0 w0 (tupA vs) h1) ds .returning w
  | [], ds, p, h, h1, w, hdf, hr, ht, r, f, he => by
    cases hdf
    rw [show ds = [] from hr]
    obtain ⟨x, e1, e2⟩ := results_ok (P := P) hE ht r he
    exact ⟨x, e1, p, e2, r, f⟩
  | d :: df, ds, p, h, h1, w, hdf, hr, ht, r, f, he => by
    obtain ⟨b, sz, ds', rfl, hp, hrest⟩ := hr
    simp only [takeDf] at hdf
    split at hdf
    · rename_i hg
      obtain ⟨c, sz', o, e1, e2, e3⟩ := r.blk _ _ hg
      rw [hp] at e1
      obtain ⟨rfl, rfl⟩ := Prod.mk.inj (Option.some.inj e1)
      have ho : o = .deferred (some []) := e3
      subst ho
      have htake : (Instr.takeDeferred b).run P w = .ok [] (w.putObj b (.deferred none)) := by
        unfold Instr.takeDeferred
        have hget : (getObj b).run P w = .ok (.deferred (some [])) w := by simp [getObj, Sem.run, e2]
        rw [Sem.run_bind, hget, Result.andThen_ok]
        simp only []
        have hset : (setObj b (.deferred none)).run P w = .ok () (w.putObj b (.deferred none)) := by
          simp [setObj, Sem.run, e2]
          rfl
        rw [Sem.run_bind, hset]
        rfl
      have hk : Rel p (h.kill d) (w.putObj b (.deferred none)) ∧ Fr p h w p (h.kill d) (w.putObj b (.deferred none)) := rel_killPut r (by rw [hg]; simp) hp _
      refine ⟨by simp, .inl ⟨b, _, rfl, htake, ?_⟩⟩
      exact leaves_ok hE df ds' p (h.kill d) h1 _ hdf hrest ht hk.1 (f.trans hk.2) he
    · cases hdf

theorem putParams_ok {p : Pl} {nt : Nat} : ∀ {ps : List Tmp} {as : List AV} {tm tm' : T AV} {vs : List Value} {tmps : Array Value}, putParams nt ps as tm = .ok tm' → Reps p as vs → TmRep p nt tm tmps →
    ps.length = as.length ∧ TmRep p nt tm' ((ps.zip vs).foldl (fun tmps (x : Tmp × Value) => tmps.setIfInBounds x.1 x.2) tmps)
  | [], [], tm, tm', vs, tmps, h, hr, ht => by cases h; rw [show vs = [] from hr]; exact ⟨rfl, ht⟩
  | q :: ps, a :: as, tm, tm', vs, tmps, h, ⟨v, vs', e, r, rs⟩, ht => by
    subst e
    simp only [putParams] at h
    split at h
    · rename_i tm1 h1
      have := putT_ok (a := { tmps := tmps, defers := [] }) (x := v) h1 ht (Pl.le_refl p) r
      obtain ⟨k1, k2⟩ := putParams_ok h rs this
      exact ⟨by simp [k1], k2⟩
    · cases h
  | [], _ :: _, _, _, _, _, h, _, _ => by cases h
  | _ :: _, [], _, _, _, _, h, _, _ => by cases h

theorem evCall_ok (hE : EnvOk P E) {M : Memo} (hM : MemoOk P M) (big : Nat) : ∀ d, CallOk P (evCall E M big d) := by
  intro d
  induction d with
  | zero => exact ⟨fun f args h v h' hc => (by cases hc), fun l args h v h' hc => (by cases hc)⟩
  | succ d ih =>
    refine ⟨fun f args h v h' hc => ?_, fun l args h v h' hc => ?_⟩
    · simp only [evCall] at hc
      split at hc
      · rename_i v0 h0 hm
        cases hc
        exact hM _ _ _ _ _ hm
      · split at hc
        · cases hc
        · rename_i fn hfn
          obtain ⟨hf, hname⟩ := hE.fn _ _ hfn
          split at hc
          · cases hc
          · rename_i c hb
            obtain ⟨hlen, hc⟩ := bif_ok hc
            rw [Nat.ble_eq, lenA_eq] at hlen
            refine ⟨⟨fn, hf, by rw [hb]; rfl, hname⟩, fun p w args' r ra n => ?_⟩
            have ht := argsT_rep ra hlen
            refine callsIn_of_wp_marks hf hb trivial ?_
            have key : ∀ e s, (e = .norm ∨ e = .ret) → evC E (evCall E M big d) fn.ntmps none big c { tm := argsT args 0 .leaf, h := h, df := [] } = .ok (e, s) →
                (match takeDf s.df s.h with
                  | .ok h1 => (match evResults E s.tm h1 fn.results.toList with
                    | .ok vs => R.ok (tupA vs, h1)
                    | .bad w => .bad (fn.name ++ " / " ++ w))
                  | .bad w => .bad (fn.name ++ " / " ++ w)) = .ok (v, h') →
                c.wpIn Fence.wide n P (bodyPostM Fence.wide n P fn (EndOk p h w v h')) { tmps := args' ++ Array.replicate (fn.ntmps - args'.size) undef, defers := [] } w := by
              intro e s he hev hres
              have hok := ((evC_ok hE ih (around := none) big).1 _ _ _ _ hev) p { tmps := args' ++ Array.replicate (fn.ntmps - args'.size) undef, defers := [] } w ht r rfl none rfl n
              refine wpIn_mono (F := Fence.wide) hok fun e' a' w' hq => ?_
              obtain ⟨rfl, p', q1, q2, q3, q4⟩ := hq
              split at hres
              · rename_i h1 hdf
                split at hres
                · rename_i vs hvs
                  cases hres
                  have hl := leaves_ok (n := n) hE _ _ _ _ _ _ hdf q4 q1 q2 q3 hvs
                  rcases he with rfl | rfl
                  · exact hl
                  · exact hl
                · cases hres
              · cases hres
            split at hc
            · rename_i s hev; exact key _ s (.inl rfl) hev hc
            · rename_i s hev; exact key _ s (.inr rfl) hev hc
            · cases hc
            · cases hc
    · simp only [evCall] at hc
      split at hc
      · rename_i st0 pe0 nt tm ps as bo d0 hl0
        intro p w b sz args' r hp ra
        obtain ⟨c, sz', o, e1, e2, e3⟩ := r.blk _ _ hl0
        rw [hp] at e1
        obtain ⟨rfl, rfl⟩ := Prod.mk.inj (Option.some.inj e1)
        obtain ⟨L, rfl, g1, g2, g3, g4, g5, g6, g7⟩ := e3
        split at hc
        · cases hc
        · rename_i tm1 hpp
          obtain ⟨k1, k2⟩ := putParams_ok hpp ra g3
          have hsz : args'.size = L.params.size := by
            have h1 := Reps.length ra
            rw [Array.length_toList] at h1
            have h2 : L.params.size = ps.length := by rw [← g4]; simp
            omega
          let T1 : Array Value := (L.params.zip args').foldl (fun tmps (x : Tmp × Value) => tmps.setIfInBounds x.1 x.2) L.tmps
          have hT1 : TmRep p nt tm1 T1 := by
            show TmRep p nt tm1 ((L.params.zip args').foldl (fun tmps (x : Tmp × Value) => tmps.setIfInBounds x.1 x.2) L.tmps)
            rw [← Array.foldl_toList, Array.toList_zip, g4]
            exact k2
          refine ⟨L.fn, T1, L.assign, L.body, ?_, fun n => ?_⟩
          · unfold Instr.yield
            rw [Sem.run_bind, getLoop_run e2, Result.andThen_ok]
            simp only [hsz, ne_eq, not_true_eq_false, if_false]
            rfl
          · refine roundIn_of_wpIn trivial ?_
            rw [g5]
            split at hc
            · rename_i s1 hev1
              have hok1 := ((evC_ok hE ih (around := some l) big).1 _ _ _ _ hev1) p { tmps := T1, defers := [] } w hT1 r rfl (some b) ⟨b, sz, hp, rfl⟩ n
              refine wpIn_mono (F := FW (some b)) hok1 fun e' a1 w1 hq => ?_
              obtain ⟨rfl, p1, q1, q2, q3, q4⟩ := hq
              split at hc
              · rename_i pe1 nt1 tmx ps1 as1 bo1 d1 hl1 hdf1
                have hp1 := q3.le _ _ hp
                obtain ⟨c1, sz1, o1, f1, f2, f3⟩ := q2.blk _ _ hl1
                rw [hp1] at f1
                obtain ⟨rfl, rfl⟩ := Prod.mk.inj (Option.some.inj f1)
                obtain ⟨L1, rfl, m1, m2, m3, m4, m5, m6, m7⟩ := f3
                have hput := rel_put q2 hl1 hp1 (.loop .busy pe1 nt1 tmx ps1 as1 bo1 d1) (.loop { L1 with state := .busy }) ⟨_, rfl, rfl, m2, m3, m4, m5, m6, m7⟩
                have hbr : (Instr.beginRound b).run P w1 = .ok () (w1.putObj b (.loop { L1 with state := .busy })) := by
                  unfold Instr.beginRound
                  rw [Sem.run_bind, getLoop_run f2, Result.andThen_ok, Sem.run_bind, setObj_run f2, Result.andThen_ok, m1]
                  rfl
                refine ⟨_, hbr, ?_⟩
                rw [g6]
                split at hc
                · rename_i e s2 hev2
                  have hok2 := ((evC_ok hE ih (around := some l) big).1 _ _ _ _ hev2) p1 a1 _ q1 hput.1 q4 (some b) ⟨b, sz, hp1, rfl⟩ n
                  refine wpIn_mono (F := FW (some b)) hok2 fun e' a2 w2 hq => ?_
                  obtain ⟨rfl, p2, t1, t2, t3, t4⟩ := hq
                  split at hc
                  · rename_i st2 pe2 nt2 tm2 ps2 as2 bo2 d2 hl2 hdf2
                    cases hc
                    have hp2 := t3.le _ _ hp1
                    obtain ⟨c2, sz2, o2, u1, u2, u3⟩ := t2.blk _ _ hl2
                    rw [hp2] at u1
                    obtain ⟨rfl, rfl⟩ := Prod.mk.inj (Option.some.inj u1)
                    obtain ⟨L2, rfl, v1, v2, v3, v4, v5, v6, v7⟩ := u3
                    have hend : ∀ j : Option Code, (Instr.endRound b j).run P w2 = .ok (.bool j.isNone) (w2.putObj b (.loop { L2 with state := if j.isNone then .ready else .done, pending := j })) := fun j => by
                      unfold Instr.endRound
                      rw [Sem.run_bind, getLoop_run u2, Result.andThen_ok, Sem.run_bind, setObj_run u2]
                      rfl
                    have hfin : EndOk p h w (.bool (jumpOf e).isNone) (s2.h.put l (.loop (match jumpOf e with | none => .ready | some _ => .done) (jumpOf e) nt2 tm2 ps2 as2 bo2 d2)) (.returned (.bool (jumpOf e).isNone))
                        (w2.putObj b (.loop { L2 with state := if (jumpOf e).isNone then .ready else .done, pending := jumpOf e })) := by
                      have hput2 := rel_put t2 hl2 hp2 (.loop (match jumpOf e with | none => .ready | some _ => .done) (jumpOf e) nt2 tm2 ps2 as2 bo2 d2)
                        (.loop { L2 with state := if (jumpOf e).isNone then .ready else .done, pending := jumpOf e }) ⟨_, rfl, by cases e <;> rfl, rfl, v3, v4, v5, v6, v7⟩
                      exact ⟨p2, rfl, hput2.1, (q3.trans hput.2).trans (t3.trans hput2.2)⟩
                    cases e with
                    | norm => exact ⟨_, _, hend none, hfin⟩
                    | ret => exact ⟨_, _, hend (some .ret), hfin⟩
                    | exit id => exact ⟨_, _, hend (some (.exit id)), hfin⟩
                    | goto t => exact ⟨_, _, hend (some (.goto t)), hfin⟩
                  · cases hc
                · cases hc
              · cases hc
            · cases hc
            · cases hc
      · cases hc
end Go.AE
