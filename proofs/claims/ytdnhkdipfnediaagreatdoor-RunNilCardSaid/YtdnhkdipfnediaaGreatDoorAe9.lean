/- A region whose order is open: the steps of its one run. No condition: lemmas. -/
import Derived.Test.YtdnhkdipfnediaaGreatDoorAe8
set_option linter.unusedSectionVars false
namespace Go.AE
theorem beqInt_ok {a b : Int} (h : beqInt a b = true) : a = b := by
  cases a <;> cases b <;> simp only [beqInt] at h <;> first | (rw [Nat.eq_of_beq_eq_true h]) | cases h

theorem beqL_ok : ∀ {a b : List Nat}, beqL a b = true → a = b
  | [], [], _ => rfl
  | [], _ :: _, h => by cases h
  | _ :: _, [], h => by cases h
  | a :: l, b :: m, h => by
    simp only [beqL, Bool.and_eq_true] at h
    rw [Nat.eq_of_beq_eq_true h.1, beqL_ok h.2]

theorem beqCap_ok {a b : Cap} (h : beqCap a b = true) : a = b := by
  cases a <;> cases b <;> simp only [beqCap] at h <;> first | (rw [Nat.eq_of_beq_eq_true h]) | cases h

mutual
theorem beqV_ok : ∀ (a b : AV), beqV a b = true → a = b
  | .bool a, b, h => by cases b <;> simp only [beqV] at h <;> first | (cases h; done) | (rw [eq_of_beq h])
  | .int k a, b, h => by
    cases b <;> simp only [beqV] at h <;> first | (cases h; done) | skip
    simp only [Bool.and_eq_true, kindEq, decide_eq_true_eq] at h
    rw [h.1, beqInt_ok h.2]
  | .str a, b, h => by cases b <;> simp only [beqV] at h <;> first | (cases h; done) | (rw [beqL_ok h])
  | .nilPtr, b, h => by cases b <;> simp only [beqV] at h <;> first | (cases h; done) | rfl
  | .ptr a c, b, h => by
    cases b <;> simp only [beqV] at h <;> first | (cases h; done) | skip
    simp only [Bool.and_eq_true] at h
    rw [Nat.eq_of_beq_eq_true h.1, Nat.eq_of_beq_eq_true h.2]
  | .nilSlice, b, h => by cases b <;> simp only [beqV] at h <;> first | (cases h; done) | rfl
  | .emptySlice, b, h => by cases b <;> simp only [beqV] at h <;> first | (cases h; done) | rfl
  | .slice n o l c, b, h => by
    cases b <;> simp only [beqV] at h <;> first | (cases h; done) | skip
    simp only [Bool.and_eq_true] at h
    rw [Nat.eq_of_beq_eq_true h.1.1.1, Nat.eq_of_beq_eq_true h.1.1.2, Nat.eq_of_beq_eq_true h.1.2, beqCap_ok h.2]
  | .nilMap, b, h => by cases b <;> simp only [beqV] at h <;> first | (cases h; done) | rfl
  | .map n, b, h => by cases b <;> simp only [beqV] at h <;> first | (cases h; done) | (rw [Nat.eq_of_beq_eq_true h])
  | .func f x y, b, h => by
    cases b <;> simp only [beqV] at h <;> first | (cases h; done) | skip
    simp only [Bool.and_eq_true, beqFn, decide_eq_true_eq] at h
    rw [h.1.1, beqVs_ok _ _ h.1.2, beqVs_ok _ _ h.2]
  | .nilFunc, b, h => by cases b <;> simp only [beqV] at h <;> first | (cases h; done) | rfl
  | .iface t x, b, h => by
    cases b <;> simp only [beqV] at h <;> first | (cases h; done) | skip
    simp only [Bool.and_eq_true] at h
    rw [Nat.eq_of_beq_eq_true h.1, beqV_ok _ _ h.2]
  | .nilIface, b, h => by cases b <;> simp only [beqV] at h <;> first | (cases h; done) | rfl
  | .agg x, b, h => by cases b <;> simp only [beqV] at h <;> first | (cases h; done) | (rw [beqVs_ok _ _ h])
  | .tup x, b, h => by cases b <;> simp only [beqV] at h <;> first | (cases h; done) | (rw [beqVs_ok _ _ h])
  | .sym k i, b, h => by
    cases b <;> simp only [beqV] at h <;> first | (cases h; done) | skip
    simp only [Bool.and_eq_true, kindEq, decide_eq_true_eq] at h
    rw [h.1, Nat.eq_of_beq_eq_true h.2]
theorem beqVs_ok : ∀ (a b : List AV), beqVs a b = true → a = b
  | [], [], _ => rfl
  | [], _ :: _, h => by simp only [beqVs] at h; cases h
  | _ :: _, [], h => by simp only [beqVs] at h; cases h
  | a :: l, b :: m, h => by
    simp only [beqVs, Bool.and_eq_true] at h
    rw [beqV_ok _ _ h.1, beqVs_ok _ _ h.2]
end


variable [Syms]
variable {P : Program} {E : Env}

inductive DrCase (E : Env) (call : Caller) (nt nx0 : Nat) (all : List Oper) (ms : List Nat) (i : Nat) (o : Oper) (m : Nat) (d d' : Dr) : Prop
  | unwanted (hw : wantedA all d.tm o.guard = false) (hp : putT nt d.tm o.dst .undef = .ok d'.tm) (hh : d'.h = d.h) (hpend : d'.pend = d.pend) (hl : d'.looks = d.looks)
      (he : isEff E o → d'.stages = d.h :: d.stages ∧ d'.k = d.k + 1) (hn : ¬ isEff E o → d'.stages = d.stages ∧ d'.k = d.k)
  | read (hw : wantedA all d.tm o.guard = true) (hc : clsOf E o.op = .read) (v : AV) (h1 : H) (he : evOp E d.tm o.op (withPend nx0 m d.pend d.h) = .ok (.val v h1)) (hp : putT nt d.tm o.dst v = .ok d'.tm)
      (hh : d'.h = d.h) (hpend : d'.pend = d.pend) (hs : d'.stages = d.stages) (hk : d'.k = d.k)
      (hl : d'.looks = bif Nat.beq (loOf E m 0 all 0 0) (hiOf E i all ms 0) then d.looks else ⟨o.op, d.tm, v, loOf E m 0 all 0 0, hiOf E i all ms 0⟩ :: d.looks)
  | alloc (hw : wantedA all d.tm o.guard = true) (hc : clsOf E o.op = .alloc) (v : AV) (h1 : H) (b : Blk) (he : evOp E d.tm o.op { d.h with nx := nx0 + i } = .ok (.val v h1)) (hb : h1.get (nx0 + i) = some b)
      (hp : putT nt d.tm o.dst v = .ok d'.tm) (hh : d'.h = d.h) (hpend : d'.pend = (i, b) :: d.pend) (hs : d'.stages = d.stages) (hk : d'.k = d.k) (hl : d'.looks = d.looks)
  | eff (hw : wantedA all d.tm o.guard = true) (hc : clsOf E o.op = .eff) (v : AV) (he : fin call (evOp E d.tm o.op (withPend nx0 m d.pend d.h)) = .ok (v, d'.h)) (hp : putT nt d.tm o.dst v = .ok d'.tm)
      (hpend : d'.pend = pendLeft m d.pend) (hs : d'.stages = d'.h :: d.stages) (hk : d'.k = d.k + 1) (hl : d'.looks = d.looks)

theorem drStep_cases {call : Caller} {nt nx0 : Nat} {all : List Oper} {ms : List Nat} {i : Nat} {o : Oper} {m : Nat} {d d' : Dr} (h : drStep E call nt nx0 all ms i o m d = .ok d') :
    DrCase E call nt nx0 all ms i o m d d' := by
  unfold drStep at h
  cases hw : wantedA all d.tm o.guard with
  | true =>
    rw [hw] at h; simp only [cond_true] at h
    cases hc : clsOf E o.op with
    | read =>
      rw [hc] at h; simp only [] at h
      split at h
      · split at h
        · cases h
          exact .read hw hc _ _ (by assumption) (by assumption) rfl rfl rfl rfl rfl
        · cases h
      · cases h
      · cases h
    | alloc =>
      rw [hc] at h; simp only [] at h
      split at h
      · split at h
        · cases h
          exact .alloc hw hc _ _ _ (by assumption) (by assumption) (by assumption) rfl rfl rfl rfl rfl
        · cases h
      · cases h
      · cases h
    | eff =>
      rw [hc] at h; simp only [] at h
      split at h
      · split at h
        · cases h
          exact .eff hw hc _ (by assumption) (by assumption) rfl rfl rfl rfl
        · cases h
      · cases h
  | false =>
    rw [hw] at h; simp only [cond_false] at h
    split at h
    · cases hc : clsOf E o.op with
      | eff => rw [hc] at h; cases h; exact .unwanted hw (by assumption) rfl rfl rfl (fun _ => ⟨rfl, rfl⟩) (fun hn => absurd hc hn)
      | alloc => rw [hc] at h; cases h; exact .unwanted hw (by assumption) rfl rfl rfl (fun he => by rw [isEff, hc] at he; cases he) (fun _ => ⟨rfl, rfl⟩)
      | read => rw [hc] at h; cases h; exact .unwanted hw (by assumption) rfl rfl rfl (fun he => by rw [isEff, hc] at he; cases he) (fun _ => ⟨rfl, rfl⟩)
    · cases h

def Absorbed (E : Env) (all : List Oper) (mk : Nat → Nat) (D : Nat → Dr) (j i : Nat) : Prop :=
  ∃ e o, e < j ∧ all[e]? = some o ∧ isEff E o ∧ wantedA all (D e).tm o.guard = true ∧ bitA (mk e) i = true

section
variable {call : Caller} {nt nx0 : Nat} {all : List Oper} {ms : List Nat} {mk : Nat → Nat} {D : Nat → Dr}

theorem Plan.case (pl : Plan E call nt nx0 all ms mk D) {i : Nat} {o : Oper} (h : all[i]? = some o) : DrCase E call nt nx0 all ms i o (mk i) (D i) (D (i + 1)) := drStep_cases (pl.step i o h)

theorem Plan.put (pl : Plan E call nt nx0 all ms mk D) {i : Nat} {o : Oper} (h : all[i]? = some o) : ∃ v, putT nt (D i).tm o.dst v = .ok (D (i + 1)).tm := by
  rcases pl.case h with ⟨_, hp, _⟩ | ⟨_, _, v, _, _, hp, _⟩ | ⟨_, _, v, _, _, _, _, hp, _⟩ | ⟨_, _, v, _, hp, _⟩
  · exact ⟨_, hp⟩
  · exact ⟨_, hp⟩
  · exact ⟨_, hp⟩
  · exact ⟨_, hp⟩

theorem Plan.kEff (pl : Plan E call nt nx0 all ms mk D) {i : Nat} {o : Oper} (h : all[i]? = some o) (he : isEff E o) : (D (i + 1)).k = (D i).k + 1 ∧ (D (i + 1)).stages = (D (i + 1)).h :: (D i).stages := by
  rcases pl.case h with ⟨_, _, hh, _, _, h1, _⟩ | ⟨_, hc, _⟩ | ⟨_, hc, _⟩ | ⟨_, _, v, _, _, _, hs, hk, _⟩
  · exact ⟨(h1 he).2, by rw [(h1 he).1, hh]⟩
  · rw [isEff, hc] at he; cases he
  · rw [isEff, hc] at he; cases he
  · exact ⟨hk, hs⟩

theorem Plan.kNot (pl : Plan E call nt nx0 all ms mk D) {i : Nat} {o : Oper} (h : all[i]? = some o) (he : ¬ isEff E o) : (D (i + 1)).k = (D i).k ∧ (D (i + 1)).stages = (D i).stages ∧ (D (i + 1)).h = (D i).h := by
  rcases pl.case h with ⟨_, _, hh, _, _, _, h1⟩ | ⟨_, hc, v, _, _, _, hh, _, hs, hk, _⟩ | ⟨_, hc, v, _, _, _, _, _, hh, _, hs, hk, _⟩ | ⟨_, hc, _⟩
  · exact ⟨(h1 he).2, (h1 he).1, hh⟩
  · exact ⟨hk, hs, hh⟩
  · exact ⟨hk, hs, hh⟩
  · exact absurd hc he

theorem get_lt {α : Type} {l : List α} {i : Nat} (h : i < l.length) : ∃ o, l[i]? = some o := ⟨l[i], List.getElem?_eq_getElem h⟩

/-- A walk from j up to j'. -/
theorem walk_up (Q : Nat → Prop) {j : Nat} (h0 : Q j) {n : Nat} (hs : ∀ i, j ≤ i → i < n → Q i → Q (i + 1)) : ∀ j', j ≤ j' → j' ≤ n → Q j' := by
  intro j'
  induction j' with
  | zero => intro h1 _; have : j = 0 := by omega
            subst this; exact h0
  | succ k ih =>
    intro h1 h2
    by_cases e : j = k + 1
    · subst e; exact h0
    · exact hs k (by omega) (by omega) (ih (by omega) (by omega))

theorem Plan.kUp (pl : Plan E call nt nx0 all ms mk D) {j j' : Nat} (h : j ≤ j') (h' : j' ≤ all.length) : (D j).k ≤ (D j').k := by
  refine walk_up (fun i => (D j).k ≤ (D i).k) (Nat.le_refl _) (fun i _ h2 ih => ?_) j' h h'
  obtain ⟨o, ho⟩ := get_lt h2
  by_cases he : isEff E o
  · have := (pl.kEff ho he).1; omega
  · have := (pl.kNot ho he).1; omega

theorem Plan.kSame (pl : Plan E call nt nx0 all ms mk D) {j j' : Nat} (h : j ≤ j') (h' : j' ≤ all.length) (hk : (D j).k = (D j').k) : ∀ e o, j ≤ e → e < j' → all[e]? = some o → ¬ isEff E o := by
  intro e o h1 h2 h3 h4
  have a1 := pl.kUp h1 (by omega : e ≤ all.length)
  have a2 := pl.kUp (by omega : e + 1 ≤ j') h'
  have := (pl.kEff h3 h4).1
  omega

theorem Plan.hSame (pl : Plan E call nt nx0 all ms mk D) {j j' : Nat} (h : j ≤ j') (h' : j' ≤ all.length) (hn : ∀ e o, j ≤ e → e < j' → all[e]? = some o → ¬ isEff E o) : (D j').h = (D j).h := by
  have := walk_up (fun i => i ≤ j' → (D i).h = (D j).h) (j := j) (fun _ => rfl) (n := j') (fun i h1 h2 ih _ => by
    obtain ⟨o, ho⟩ := get_lt (show i < all.length by omega)
    rw [(pl.kNot ho (hn i o h1 h2 ho)).2.2]; exact ih (by omega)) j' h (Nat.le_refl _)
  exact this (Nat.le_refl _)

theorem Plan.stage (pl : Plan E call nt nx0 all ms mk D) (h0 : nthL (D 0).stages 0 = some (D 0).h) {j j' : Nat} (h : j ≤ j') (h' : j' ≤ all.length) :
    nthL (D j').stages ((D j').k - (D j).k) = some (D j).h := by
  have head : ∀ i, i ≤ all.length → nthL (D i).stages 0 = some (D i).h := fun i hi =>
    walk_up (fun i => nthL (D i).stages 0 = some (D i).h) h0 (fun i _ h2 ih => by
      obtain ⟨o, ho⟩ := get_lt h2
      by_cases he : isEff E o
      · rw [(pl.kEff ho he).2]; rfl
      · rw [(pl.kNot ho he).2.1, (pl.kNot ho he).2.2]; exact ih) i (Nat.zero_le _) hi
  refine walk_up (fun i => nthL (D i).stages ((D i).k - (D j).k) = some (D j).h) (by rw [Nat.sub_self]; exact head j (by omega)) (fun i h1 h2 ih => ?_) j' h h'
  obtain ⟨o, ho⟩ := get_lt h2
  by_cases he : isEff E o
  · have hk := pl.kUp h1 (by omega : i ≤ all.length)
    rw [(pl.kEff ho he).1, (pl.kEff ho he).2, show (D i).k + 1 - (D j).k = ((D i).k - (D j).k) + 1 by omega]
    exact ih
  · rw [(pl.kNot ho he).1, (pl.kNot ho he).2.1]; exact ih

theorem Plan.looksUp (pl : Plan E call nt nx0 all ms mk D) {j j' : Nat} (h : j ≤ j') (h' : j' ≤ all.length) {l : Look} (hl : l ∈ (D j).looks) : l ∈ (D j').looks := by
  refine walk_up (fun i => l ∈ (D i).looks) hl (fun i h1 h2 ih => ?_) j' h h'
  obtain ⟨o, ho⟩ := get_lt h2
  rcases pl.case ho with ⟨_, _, _, _, hl', _, _⟩ | ⟨_, _, v, _, _, _, _, _, _, _, hl'⟩ | ⟨_, _, v, _, _, _, _, _, _, _, _, _, hl'⟩ | ⟨_, _, v, _, _, _, _, _, hl'⟩
  · rw [hl']; exact ih
  · rw [hl']
    cases Nat.beq (loOf E (mk i) 0 all 0 0) (hiOf E i all ms 0) with
    | true => exact ih
    | false => exact List.mem_cons_of_mem _ ih
  · rw [hl']; exact ih
  · rw [hl']; exact ih

theorem tmGet_putT {nt : Nat} {tm tm' : T AV} {dst : Option Tmp} {v : AV} (h : putT nt tm dst v = .ok tm') (t : Nat) : tmGet tm' t = if dst = some t then v else tmGet tm t := by
  cases dst with
  | none => cases h; simp
  | some d =>
    simp only [putT] at h
    have := (bif_ok h).2
    cases this
    rw [tmGet_put]
    by_cases e : t = d
    · simp [e]
    · rw [if_neg e, if_neg (by intro hc; cases hc; exact e rfl)]

theorem Plan.tmSame (pl : Plan E call nt nx0 all ms mk D) {j j' : Nat} (h : j ≤ j') (h' : j' ≤ all.length) {t : Nat} (hn : ∀ e o, j ≤ e → e < j' → all[e]? = some o → o.dst ≠ some t) : tmGet (D j').tm t = tmGet (D j).tm t := by
  have := walk_up (fun i => i ≤ j' → tmGet (D i).tm t = tmGet (D j).tm t) (j := j) (fun _ => rfl) (n := j') (fun i h1 h2 ih _ => by
    obtain ⟨o, ho⟩ := get_lt (show i < all.length by omega)
    obtain ⟨v, hv⟩ := pl.put ho
    rw [tmGet_putT hv, if_neg (hn i o h1 h2 ho)]; exact ih (by omega)) j' h (Nat.le_refl _)
  exact this (Nat.le_refl _)

theorem pendLeft_mem {m : Nat} : ∀ {l : List (Nat × Blk)} {x : Nat × Blk}, x ∈ pendLeft m l ↔ x ∈ l ∧ bitA m x.1 = false
  | [], x => by simp [pendLeft]
  | (i, b) :: l, x => by
    simp only [pendLeft]
    cases hb : bitA m i with
    | true =>
      simp only [cond_true]
      rw [pendLeft_mem]
      constructor
      · rintro ⟨h1, h2⟩; exact ⟨List.mem_cons_of_mem _ h1, h2⟩
      · rintro ⟨h1, h2⟩
        rcases List.mem_cons.1 h1 with rfl | h1
        · rw [hb] at h2; cases h2
        · exact ⟨h1, h2⟩
    | false =>
      simp only [cond_false, List.mem_cons]
      rw [pendLeft_mem]
      constructor
      · rintro (rfl | ⟨h1, h2⟩)
        · exact ⟨.inl rfl, hb⟩
        · exact ⟨.inr h1, h2⟩
      · rintro ⟨rfl | h1, h2⟩
        · exact .inl rfl
        · exact .inr ⟨h1, h2⟩

theorem Plan.maskLt (pl : Plan E call nt nx0 all ms mk D) : ∀ i o j, all[i]? = some o → bitA (mk i) j = true → j < i := by
  intro i
  induction i using Nat.strongRecOn with
  | _ i ih =>
    intro o j ho hb
    obtain ⟨e, he, hbe, hor⟩ := pl.mask i o j ho hb
    rcases hor with rfl | ⟨h1, h2⟩
    · exact pl.edge i o ho e he hbe
    · have hlt : i < all.length := (List.getElem?_eq_some_iff.1 ho).1
      obtain ⟨o', ho'⟩ := get_lt (show e.on < all.length by omega)
      have := ih e.on h1 o' j ho' h2
      omega

theorem Plan.pendAt (pl : Plan E call nt nx0 all ms mk D) (h0 : (D 0).pend = []) : ∀ j, j ≤ all.length → ∀ i b, (i, b) ∈ (D j).pend →
    i < j ∧ (i, b) ∈ (D (i + 1)).pend ∧ (∃ o, all[i]? = some o ∧ clsOf E o.op = .alloc) ∧ ¬ Absorbed E all mk D j i := by
  intro j
  induction j with
  | zero => intro _ i b h; rw [h0] at h; cases h
  | succ j ih =>
    intro hj i b h
    obtain ⟨o, ho⟩ := get_lt (show j < all.length by omega)
    have ih := ih (by omega) i b
    have ext : ∀ (_ : ¬ Absorbed E all mk D j i), (¬ (isEff E o ∧ wantedA all (D j).tm o.guard = true ∧ bitA (mk j) i = true)) → ¬ Absorbed E all mk D (j + 1) i := by
      intro h1 h2 ⟨e, o', g1, g2, g3, g4, g5⟩
      by_cases e1 : e = j
      · subst e1; rw [ho] at g2; cases g2; exact h2 ⟨g3, g4, g5⟩
      · exact h1 ⟨e, o', by omega, g2, g3, g4, g5⟩
    rcases pl.case ho with ⟨hw, _, _, hp, _, _, _⟩ | ⟨_, hc, v, _, _, _, _, hp, _⟩ | ⟨_, hc, v, _, b0, _, _, _, _, hp, _⟩ | ⟨_, hc, v, _, _, hp, _⟩
    · rw [hp] at h
      obtain ⟨a1, a2, a3, a4⟩ := ih h
      exact ⟨by omega, a2, a3, ext a4 fun ⟨_, h2, _⟩ => by rw [hw] at h2; cases h2⟩
    · rw [hp] at h
      obtain ⟨a1, a2, a3, a4⟩ := ih h
      exact ⟨by omega, a2, a3, ext a4 fun ⟨h1, _, _⟩ => by rw [isEff, hc] at h1; cases h1⟩
    · rw [hp] at h
      rcases List.mem_cons.1 h with h | h
      · cases h
        refine ⟨by omega, by rw [hp]; simp, ⟨o, ho, hc⟩, ?_⟩
        intro ⟨e, o', g1, g2, g3, g4, g5⟩
        have := pl.maskLt e o' _ g2 g5
        omega
      · obtain ⟨a1, a2, a3, a4⟩ := ih h
        exact ⟨by omega, a2, a3, ext a4 fun ⟨h1, _, _⟩ => by rw [isEff, hc] at h1; cases h1⟩
    · rw [hp] at h
      obtain ⟨h, hb⟩ := pendLeft_mem.1 h
      obtain ⟨a1, a2, a3, a4⟩ := ih h
      exact ⟨by omega, a2, a3, ext a4 fun ⟨_, _, h3⟩ => by rw [hb] at h3; cases h3⟩

theorem Plan.lo (pl : Plan E call nt nx0 all ms mk D) {m : Nat} : ∀ (ops : List Oper) (i lo : Nat), (∀ k o, ops[k]? = some o → all[i + k]? = some o) → i + ops.length ≤ all.length →
    (lo = 0 ∨ ∃ e o, e < i ∧ all[e]? = some o ∧ isEff E o ∧ bitA m e = true ∧ lo = (D (e + 1)).k) →
    (loOf E m i ops (D i).k lo = 0 ∨ ∃ e o, all[e]? = some o ∧ isEff E o ∧ bitA m e = true ∧ loOf E m i ops (D i).k lo = (D (e + 1)).k)
  | [], i, lo, _, _, h => by
    simp only [loOf]
    rcases h with h | ⟨e, o, _, h1, h2, h3, h4⟩
    · exact .inl h
    · exact .inr ⟨e, o, h1, h2, h3, h4⟩
  | o :: ops, i, lo, ha, hl, h => by
    have ho : all[i]? = some o := by simpa using ha 0 o (by simp)
    have ha' : ∀ k o, ops[k]? = some o → all[i + 1 + k]? = some o := fun k o' ho => by
      rw [show i + 1 + k = i + (k + 1) by omega]; exact ha (k + 1) o' (by simpa using ho)
    have hl' : i + 1 + ops.length ≤ all.length := by simp at hl; omega
    have h' : lo = 0 ∨ ∃ e o, e < i + 1 ∧ all[e]? = some o ∧ isEff E o ∧ bitA m e = true ∧ lo = (D (e + 1)).k := by
      rcases h with h | ⟨e, o, h0, h1⟩
      · exact .inl h
      · exact .inr ⟨e, o, by omega, h1⟩
    simp only [loOf]
    cases hc : clsOf E o.op with
    | eff =>
      simp only []
      rw [← (pl.kEff ho hc).1]
      refine pl.lo ops (i + 1) _ ha' hl' ?_
      cases hb : bitA m i with
      | true => exact .inr ⟨i, o, by omega, ho, hc, hb, rfl⟩
      | false => exact h'
    | alloc =>
      simp only []
      rw [← (pl.kNot ho (by rw [isEff, hc]; simp)).1]
      exact pl.lo ops (i + 1) _ ha' hl' h'
    | read =>
      simp only []
      rw [← (pl.kNot ho (by rw [isEff, hc]; simp)).1]
      exact pl.lo ops (i + 1) _ ha' hl' h'

theorem Plan.hi (pl : Plan E call nt nx0 all ms mk D) {x : Nat} : ∀ (ops : List Oper) (mr : List Nat) (i : Nat), (∀ k o, ops[k]? = some o → all[i + k]? = some o) → (∀ k m, mr[k]? = some m → ms[i + k]? = some m) →
    i + ops.length = all.length → ops.length ≤ mr.length →
    (hiOf E x ops mr (D i).k = (D all.length).k ∨ ∃ e o, all[e]? = some o ∧ isEff E o ∧ bitA (mk e) x = true ∧ hiOf E x ops mr (D i).k = (D e).k)
  | [], mr, i, _, _, hl, _ => by
    simp only [hiOf]
    left; rw [← hl]; rfl
  | o :: ops, [], i, _, _, _, hm => by simp at hm
  | o :: ops, m :: mr, i, ha, hm, hl, hlm => by
    have ho : all[i]? = some o := by simpa using ha 0 o (by simp)
    have hi : i < all.length := (List.getElem?_eq_some_iff.1 ho).1
    have hmi : m = mk i := by
      have h1 := hm 0 m (by simp)
      rw [Nat.add_zero, pl.mks i hi] at h1
      exact (Option.some.inj h1).symm
    have ha' : ∀ k o, ops[k]? = some o → all[i + 1 + k]? = some o := fun k o' ho => by
      rw [show i + 1 + k = i + (k + 1) by omega]; exact ha (k + 1) o' (by simpa using ho)
    have hm' : ∀ k o, mr[k]? = some o → ms[i + 1 + k]? = some o := fun k o' ho => by
      rw [show i + 1 + k = i + (k + 1) by omega]; exact hm (k + 1) o' (by simpa using ho)
    have hl' : i + 1 + ops.length = all.length := by simp at hl; omega
    have hlm' : ops.length ≤ mr.length := by simp at hlm; exact hlm
    simp only [hiOf]
    cases hc : clsOf E o.op with
    | eff =>
      simp only []
      cases hb : bitA m x with
      | true => exact .inr ⟨i, o, ho, hc, by rw [← hmi]; exact hb, rfl⟩
      | false =>
        simp only [cond_false]
        rw [← (pl.kEff ho hc).1]
        exact pl.hi ops mr (i + 1) ha' hm' hl' hlm'
    | alloc =>
      simp only []
      rw [← (pl.kNot ho (by rw [isEff, hc]; simp)).1]
      exact pl.hi ops mr (i + 1) ha' hm' hl' hlm'
    | read =>
      simp only []
      rw [← (pl.kNot ho (by rw [isEff, hc]; simp)).1]
      exact pl.hi ops mr (i + 1) ha' hm' hl' hlm'

end

theorem checkStages_spec {k : Nat} {stages : List H} {lk : Look} {lo : Nat} : ∀ {n : Nat}, checkStages E k stages lk lo n = true → ∀ m, lo ≤ m → m < lo + n →
    ∃ h v h1, nthL stages (k - m) = some h ∧ evOp E lk.tm lk.op h = .ok (.val v h1) ∧ beqV v lk.v = true
  | 0, _, m, h1, h2 => by omega
  | n + 1, h, m, h1, h2 => by
    simp only [checkStages, Bool.and_eq_true] at h
    by_cases e : m = lo + n
    · subst e
      obtain ⟨h, _⟩ := h
      split at h
      · rename_i hh hs
        split at h
        · rename_i v h1' he
          exact ⟨hh, v, h1', hs, he, h⟩
        · cases h
      · cases h
    · exact checkStages_spec h.2 m h1 (by omega)

theorem allLooks_spec {k : Nat} {stages : List H} : ∀ {l : List Look}, allLooks E k stages l = true → ∀ lk ∈ l, checkStages E k stages lk lk.lo (lk.hi + 1 - lk.lo) = true
  | [], _, lk, h => by cases h
  | x :: l, h, lk, hm => by
    simp only [allLooks, Bool.and_eq_true] at h
    rcases List.mem_cons.1 hm with rfl | hm
    · exact h.1
    · exact allLooks_spec h.2 lk hm

theorem withPend_get {nx0 m : Nat} : ∀ {l : List (Nat × Blk)} {h : H} {n : Nat} {b : Blk}, (withPend nx0 m l h).get n = some b → (∃ i, (i, b) ∈ l ∧ bitA m i = true ∧ n = nx0 + i) ∨ h.get n = some b
  | [], h, n, b, hg => .inr hg
  | (i, c) :: l, h, n, b, hg => by
    simp only [withPend] at hg
    rcases withPend_get hg with ⟨j, h1, h2, h3⟩ | hg
    · exact .inl ⟨j, List.mem_cons_of_mem _ h1, h2, h3⟩
    · cases hb : bitA m i with
      | true =>
        rw [hb] at hg; simp only [cond_true] at hg
        rw [H.get_put] at hg
        by_cases e : n = nx0 + i
        · rw [if_pos e] at hg; cases hg; exact .inl ⟨i, by simp, hb, e⟩
        · rw [if_neg e] at hg; exact .inr hg
      | false => rw [hb] at hg; exact .inr hg

theorem withPend_nx {nx0 m : Nat} : ∀ {l : List (Nat × Blk)} {h : H}, (withPend nx0 m l h).nx = h.nx
  | [], h => rfl
  | (i, c) :: l, h => by
    simp only [withPend]
    rw [withPend_nx]
    cases bitA m i <;> rfl

theorem memA_mem {n : Nat} : ∀ {l : List Nat}, memA n l = true ↔ n ∈ l
  | [] => by simp [memA]
  | a :: l => by
    simp only [memA, Bool.or_eq_true, List.mem_cons]
    rw [memA_mem]
    constructor
    · rintro (h | h)
      · exact .inl (Nat.eq_of_beq_eq_true h).symm
      · exact .inr h
    · rintro (h | h)
      · subst h; exact .inl (Nat.beq_refl _)
      · exact .inr h

theorem notInD_spec {d : Nat} {l : List Nat} (h : notInD (some d) l = true) : d ∉ l := by
  simp only [notInD, Bool.not_eq_true'] at h
  intro hm
  rw [memA_mem.2 hm] at h; cases h

theorem differD_spec {a b : Nat} (h : differD (some a) (some b) = true) : a ≠ b := by
  simp only [differD, Bool.not_eq_true'] at h
  intro e; subst e; rw [Nat.beq_refl] at h; cases h

theorem dstAt_mem {all : List Oper} {j t : Nat} : t ∈ dstAt all j ↔ ∃ o, all[j]? = some o ∧ o.dst = some t := by
  unfold dstAt
  rw [nthL_eq]
  cases h : all[j]? with
  | none => simp
  | some o =>
    simp only [Option.some.injEq, exists_eq_left']
    cases o.dst with
    | none => simp
    | some d => simp; exact eq_comm

theorem tmpsOf_mem {t : Nat} : ∀ {l : List Operand}, t ∈ tmpsOf l ↔ Operand.tmp t ∈ l
  | [] => by simp [tmpsOf]
  | x :: l => by
    cases x with
    | tmp u => simp only [tmpsOf, List.mem_cons]; rw [tmpsOf_mem]; simp
    | const v => simp only [tmpsOf, List.mem_cons]; rw [tmpsOf_mem]; simp
    | global g => simp only [tmpsOf, List.mem_cons]; rw [tmpsOf_mem]; simp
    | func f => simp only [tmpsOf, List.mem_cons]; rw [tmpsOf_mem]; simp

end Go.AE
set_option linter.unusedSectionVars false
namespace Go.AE
variable [Syms]
variable {P : Program} {E : Env}

theorem exists_reset (tmA tmB : T AV) : ∀ l : List Nat, ∃ tm1 : T AV, ∀ t, tmGet tm1 t = if t ∈ l then tmGet tmA t else tmGet tmB t
  | [] => ⟨tmB, fun t => by simp⟩
  | d :: l => by
    obtain ⟨tm1, h⟩ := exists_reset tmA tmB l
    refine ⟨tm1.put d (some (tmGet tmA d)), fun t => ?_⟩
    rw [tmGet_put]
    by_cases e : t = d
    · subst e; simp
    · rw [if_neg e, h t]; simp [e]

theorem exists_reset' (A B : Array Value) (hs : A.size = B.size) (l : List Nat) : ∃ C : Array Value, C.size = B.size ∧ ∀ t, C.getD t undef = if t ∈ l then A.getD t undef else B.getD t undef := by
  refine ⟨Array.ofFn (n := B.size) fun t => if t.1 ∈ l then A.getD t.1 undef else B.getD t.1 undef, by simp, fun t => ?_⟩
  rw [Array.getD_eq_getD_getElem?, Array.getElem?_ofFn]
  by_cases h : t < B.size
  · rw [dif_pos h]; rfl
  · rw [dif_neg h, Option.getD_none, Array.getD_eq_getD_getElem?, Array.getD_eq_getD_getElem?, Array.getElem?_eq_none (by omega), Array.getElem?_eq_none (by omega)]
    simp

structure Inv (E : Env) (nt nx0 : Nat) (all : List Oper) (mk : Nat → Nat) (D : Nat → Dr) (p0 : Pl) (g0 : Nat → Option Blk) (w0 : World) (a0 : Act) (listed : Array Bool) (a : Act) (w : World)
    (p : Pl) (g : Nat → Option Blk) (J : Nat) : Prop where
  rel : RelF p g (D J).h.nx w
  fr : FrF p0 g0 nx0 w0 p g nx0 w
  top : nx0 + all.length ≤ (D J).h.nx
  sub : ∀ n b, (D J).h.get n = some b → g n = some b
  pend : ∀ i b, listed.getD i false = true → (i, b) ∈ (D (i + 1)).pend → ¬ Absorbed E all mk D J i → g (nx0 + i) = some b ∧ (D J).h.get (nx0 + i) = none
  free : ∀ i, i < all.length → listed.getD i false = false → p (nx0 + i) = none
  le : J ≤ all.length
  effs : ∀ e o, all[e]? = some o → isEff E o → (listed.getD e false = true ↔ e < J)
  size : a.tmps.size = nt
  done : ∀ j o d, all[j]? = some o → listed.getD j false = true → o.dst = some d → Rep p (tmGet (D (j + 1)).tm d) (a.tmps.getD d undef)
  rest : ∀ t, (∀ j o, all[j]? = some o → listed.getD j false = true → o.dst ≠ some t) → a.tmps.getD t undef = a0.tmps.getD t undef
  closed : ∀ i j, listed.getD i false = true → bitA (mk i) j = true → listed.getD j false = true
  defers : a.defers = a0.defers
  lsize : listed.size = all.length

section
variable {call : Caller} {nt nx0 : Nat} {all : List Oper} {ms : List Nat} {mk : Nat → Nat} {D : Nat → Dr} {p0 : Pl} {g0 : Nat → Option Blk} {w0 : World} {a0 : Act}

theorem getD_set {l : Array Bool} {i j : Nat} (hi : i < l.size) : (l.setIfInBounds i true).getD j false = if j = i then true else l.getD j false := by
  rw [Array.getD_eq_getD_getElem?, Array.getD_eq_getD_getElem?, Array.getElem?_setIfInBounds]
  by_cases e : i = j
  · subst e; simp [hi]
  · simp [e, Ne.symm e]

theorem Plan.dstOne (pl : Plan E call nt nx0 all ms mk D) {i j : Nat} {oi oj : Oper} {t : Nat} (hi : all[i]? = some oi) (hj : all[j]? = some oj) (h1 : oi.dst = some t) (h2 : oj.dst = some t) : i = j := by
  rcases Nat.lt_trichotomy i j with h | h | h
  · have := (pl.pair j oj i oi hj hi h).1
    rw [h1, h2] at this
    exact absurd rfl (differD_spec this)
  · exact h
  · have := (pl.pair i oi j oj hi hj h).1
    rw [h1, h2] at this
    exact absurd rfl (differD_spec this)

/-- What an operation sees. -/
theorem Inv.view (pl : Plan E call nt nx0 all ms mk D) (ht0 : TmRep p0 nt (D 0).tm a0.tmps) {arr : Array Oper} (harr : arr.toList = all) {listed : Array Bool} {a : Act} {w : World} {p : Pl} {g : Nat → Option Blk} {J : Nat}
    (I : Inv E nt nx0 all mk D p0 g0 w0 a0 listed a w p g J) {i : Nat} {o : Oper} (ho : all[i]? = some o) (hun : listed.getD i false = false) (hmask : ∀ j, bitA (mk i) j = true → listed.getD j false = true) :
    ∃ (tm1 : T AV) (a1 : Act), TmRep p nt tm1 a1.tmps ∧ (∀ h, evOp E (D i).tm o.op h = evOp E tm1 o.op h) ∧ wantedA all (D i).tm o.guard = Region.wanted o (yielded arr a.tmps) ∧
      (∀ x ∈ opds o.op, a1.eval x = a.eval x) := by
  let l : List Nat := ((List.range all.length).filter (fun j => !(listed.getD j false && decide (j < i)))).flatMap (fun j => dstAt all j)
  have hl : ∀ t, t ∈ l ↔ ∃ j oj, all[j]? = some oj ∧ oj.dst = some t ∧ ¬ (listed.getD j false = true ∧ j < i) := by
    intro t
    simp only [l, List.mem_flatMap, List.mem_filter, List.mem_range, dstAt_mem]
    constructor
    · rintro ⟨j, ⟨h1, h2⟩, o', h3, h4⟩
      refine ⟨j, o', h3, h4, ?_⟩
      intro ⟨h5, h6⟩
      rw [h5] at h2; simp [h6] at h2
    · rintro ⟨j, oj, h1, h2, h3⟩
      refine ⟨j, ⟨(List.getElem?_eq_some_iff.1 h1).1, ?_⟩, oj, h1, h2⟩
      cases hb : listed.getD j false with
      | false => simp
      | true => simp; exact Nat.le_of_not_lt fun h => h3 ⟨hb, h⟩
  obtain ⟨tm1, htm1⟩ := exists_reset (D 0).tm (D i).tm l
  obtain ⟨C, hC1, hC2⟩ := exists_reset' a0.tmps a.tmps (by rw [I.size, ht0.size]) l
  have hilt : i < all.length := (List.getElem?_eq_some_iff.1 ho).1
  -- what stands at a temporary that no operation yields into
  have hat : ∀ t, t ∈ looksL all o → tmGet (D i).tm t = tmGet tm1 t ∧ a.tmps.getD t undef = C.getD t undef := by
    intro t htl
    rw [htm1 t, hC2 t]
    by_cases hm : t ∈ l
    · rw [if_pos hm, if_pos hm]
      obtain ⟨j, oj, h1, h2, h3⟩ := (hl t).1 hm
      have huniq : ∀ j' o', all[j']? = some o' → o'.dst = some t → j' = j := fun j' o' g1 g2 => pl.dstOne g1 h1 g2 h2
      have hnl : (listed.getD j false = true → False) ∧ ¬ (j < i) := by
        rcases Nat.lt_trichotomy j i with hji | hji | hji
        · exfalso
          have hunj : listed.getD j false ≠ true := fun h => h3 ⟨h, hji⟩
          rcases (pl.pair i o j oj ho h1 hji).2 with hb | ⟨hb, _⟩
          · exact hunj (hmask j hb)
          · rw [h2] at hb; exact notInD_spec hb htl
        · subst hji; exact ⟨fun h => (by rw [hun] at h; cases h), Nat.lt_irrefl _⟩
        · refine ⟨fun h => ?_, by omega⟩
          rcases (pl.pair j oj i o h1 ho hji).2 with hb | ⟨_, hb⟩
          · have := I.closed j i h hb; rw [hun] at this; cases this
          · rw [h2] at hb; exact notInD_spec hb htl
      refine ⟨?_, ?_⟩
      · refine pl.tmSame (Nat.zero_le _) (by omega) fun e o' _ he ho' hd => ?_
        have := huniq e o' ho' hd
        exact hnl.2 (by omega)
      · exact I.rest t fun j' o' g1 g2 g3 => by
          have := huniq j' o' g1 g3
          subst this; exact hnl.1 g2
    · rw [if_neg hm, if_neg hm]; exact ⟨rfl, rfl⟩
  have hops : ∀ t, Operand.tmp t ∈ opds o.op → t ∈ looksL all o := fun t h => by
    unfold looksL
    cases o.guard with
    | none => exact tmpsOf_mem.2 h
    | some jw => exact List.mem_append_right _ (tmpsOf_mem.2 h)
  have htm : TmRep p nt tm1 C := by
    refine ⟨by rw [hC1, I.size], fun t => ?_⟩
    rw [htm1 t, hC2 t]
    by_cases hm : t ∈ l
    · rw [if_pos hm, if_pos hm]; exact Rep.mono I.fr.le _ _ (ht0.rep t)
    · rw [if_neg hm, if_neg hm]
      by_cases hex : ∃ (j : Nat) (oj : Oper), all[j]? = some oj ∧ oj.dst = some t
      · obtain ⟨j, oj, h1, h2⟩ := hex
        have h3 : listed.getD j false = true ∧ j < i := Classical.byContradiction fun hh => hm ((hl t).2 ⟨j, oj, h1, h2, hh⟩)
        have := I.done j oj t h1 h3.1 h2
        rw [pl.tmSame (j := j + 1) (j' := i) (by omega) (by omega) fun e o' he he' ho' hd => by
          have := pl.dstOne ho' h1 hd h2; omega]
        exact this
      · have hno : ∀ (j : Nat) (oj : Oper), all[j]? = some oj → oj.dst ≠ some t := fun j oj h1 h2 => hex ⟨j, oj, h1, h2⟩
        rw [pl.tmSame (Nat.zero_le i) (by omega) fun e o' _ _ ho' => hno e o' ho', I.rest t fun j o' h1 _ => hno j o' h1]
        exact Rep.mono I.fr.le _ _ (ht0.rep t)
  refine ⟨tm1, { a with tmps := C }, htm, ?_, ?_, ?_⟩
  · intro h
    refine evOp_congr (fun x hx => ?_) h
    cases x with
    | tmp t => simp only [evX]; rw [(hat t (hops t hx)).1]
    | const v => rfl
    | global g => rfl
    | func f => rfl
  · have h1 : wantedA all tm1 o.guard = Region.wanted o (yielded arr C) := by
      have := wantedA_ok (ops := arr) (a := { a with tmps := C }) htm o
      rw [harr] at this; exact this
    have h2 : wantedA all (D i).tm o.guard = wantedA all tm1 o.guard := by
      unfold wantedA
      cases hg : o.guard with
      | none => rfl
      | some jw =>
        obtain ⟨j, want⟩ := jw
        simp only []
        cases hj : nthL all j with
        | none => rfl
        | some oj =>
          simp only []
          cases hd : oj.dst with
          | none => rfl
          | some d =>
            simp only []
            rw [(hat d (by unfold looksL; rw [hg]; exact List.mem_append_left _ (dstAt_mem.2 ⟨oj, by rw [← nthL_eq]; exact hj, hd⟩))).1]
    have h3 : Region.wanted o (yielded arr C) = Region.wanted o (yielded arr a.tmps) := by
      unfold Region.wanted
      cases hg : o.guard with
      | none => rfl
      | some jw =>
        obtain ⟨j, want⟩ := jw
        simp only []
        have : yielded arr C j = yielded arr a.tmps j := by
          unfold yielded
          cases hj : (arr[j]?).bind (·.dst) with
          | none => rfl
          | some d =>
            obtain ⟨oj, h4, h5⟩ := Option.bind_eq_some_iff.1 hj
            have h6 := (hat d (by unfold looksL; rw [hg]; exact List.mem_append_left _ (dstAt_mem.2 ⟨oj, by rw [← harr, Array.getElem?_toList]; exact h4, h5⟩))).2
            have h7 : a.tmps[d]? = C[d]? := by
              rw [Array.getD_eq_getD_getElem?, Array.getD_eq_getD_getElem?] at h6
              have hC3 : C.size = a.tmps.size := hC1
              by_cases hlt : d < a.tmps.size
              · have hlt' : d < C.size := by rw [hC3]; exact hlt
                rw [Array.getElem?_eq_getElem hlt, Array.getElem?_eq_getElem hlt'] at h6 ⊢
                simpa using h6
              · have hge : a.tmps.size ≤ d := Nat.le_of_not_lt hlt
                have hge' : C.size ≤ d := by rw [hC3]; exact hge
                rw [Array.getElem?_eq_none hge, Array.getElem?_eq_none hge']
            simp only [Option.bind_some, h7]
        rw [this]
    rw [h2, h1, h3]
  · intro x hx
    cases x with
    | tmp t => show C.getD t undef = a.tmps.getD t undef; rw [(hat t (hops t hx)).2]
    | const v => rfl
    | global g => rfl
    | func f => rfl

/-- One operation more. -/
theorem Inv.next (pl : Plan E call nt nx0 all ms mk D) {listed : Array Bool} {a : Act} {w : World} {p : Pl} {g : Nat → Option Blk} {J : Nat}
    (I : Inv E nt nx0 all mk D p0 g0 w0 a0 listed a w p g J) {i : Nat} {o : Oper} (ho : all[i]? = some o) (hun : listed.getD i false = false) (hmask : ∀ j, bitA (mk i) j = true → listed.getD j false = true)
    {p' : Pl} {g' : Nat → Option Blk} {J' : Nat} {w' : World} {x : Value} (rel' : RelF p' g' (D J').h.nx w') (fr' : FrF p g nx0 w p' g' nx0 w') (top' : nx0 + all.length ≤ (D J').h.nx)
    (sub' : ∀ n b, (D J').h.get n = some b → g' n = some b)
    (pend' : ∀ k b, (k = i ∨ (k ≠ i ∧ listed.getD k false = true)) → (k, b) ∈ (D (k + 1)).pend → ¬ Absorbed E all mk D J' k → g' (nx0 + k) = some b ∧ (D J').h.get (nx0 + k) = none)
    (free' : ∀ k, k < all.length → k ≠ i → listed.getD k false = false → p' (nx0 + k) = none) (le' : J' ≤ all.length)
    (effs' : ∀ e o, all[e]? = some o → isEff E o → ((e = i ∨ listed.getD e false = true) ↔ e < J'))
    {v : AV} (hput : putT nt (D i).tm o.dst v = .ok (D (i + 1)).tm) (hx : Rep p' v x) :
    Inv E nt nx0 all mk D p0 g0 w0 a0 (listed.setIfInBounds i true) (a.put o.dst x) w' p' g' J' := by
  have hilt : i < all.length := (List.getElem?_eq_some_iff.1 ho).1
  have hil : i < listed.size := by rw [I.lsize]; exact hilt
  have hset : ∀ j, (listed.setIfInBounds i true).getD j false = true ↔ (j = i ∨ listed.getD j false = true) := by
    intro j; rw [getD_set hil]
    by_cases e : j = i
    · simp [e]
    · simp [e]
  have hget : ∀ t, (a.put o.dst x).tmps.getD t undef = if o.dst = some t then x else a.tmps.getD t undef := by
    intro t
    cases hd : o.dst with
    | none => simp [Act.put]
    | some d =>
      rw [hd] at hput
      have hlt : d < nt := by
        have := (bif_ok hput).1
        rw [Nat.blt_eq] at this; exact this
      simp only [Act.put, Array.getD_eq_getD_getElem?, Array.getElem?_setIfInBounds]
      by_cases e : d = t
      · subst e; simp [I.size, hlt]
      · simp [e]
  refine ⟨rel', I.fr.trans fr', top', sub', ?_, ?_, le', ?_, ?_, ?_, ?_, ?_, by rw [put_defers]; exact I.defers, by rw [Array.size_setIfInBounds]; exact I.lsize⟩
  · intro k b hk
    refine pend' k b ?_
    by_cases e : k = i
    · exact .inl e
    · exact .inr ⟨e, ((hset k).1 hk).resolve_left e⟩
  · intro k hk hf
    rw [getD_set hil] at hf
    by_cases e : k = i
    · rw [if_pos e] at hf; cases hf
    · rw [if_neg e] at hf; exact free' k hk e hf
  · intro e o' h1 h2
    rw [hset]; exact effs' e o' h1 h2
  · cases hd : o.dst <;> simp [Act.put, I.size]
  · intro j oj d hj hlj hd
    rw [hget]
    by_cases e : o.dst = some d
    · have hji := pl.dstOne hj ho hd e
      subst hji
      rw [ho] at hj; cases hj
      rw [if_pos e, tmGet_putT hput, if_pos e]; exact hx
    · rw [if_neg e]
      have hji : j ≠ i := fun h => by subst h; rw [ho] at hj; cases hj; exact e hd
      exact Rep.mono fr'.le _ _ (I.done j oj d hj (((hset j).1 hlj).resolve_left hji) hd)
  · intro t hno
    rw [hget, if_neg (hno i o ho ((hset i).2 (.inl rfl)))]
    exact I.rest t fun j o' h1 h2 => hno j o' h1 ((hset j).2 (.inr h2))
  · intro k j hk hb
    rcases (hset k).1 hk with rfl | hk
    · exact (hset j).2 (.inr (hmask j hb))
    · exact (hset j).2 (.inr (I.closed k j hk hb))
end
end Go.AE
set_option linter.unusedSectionVars false
namespace Go.AE
variable [Syms]
variable {P : Program} {E : Env}

section
variable {call : Caller} {nt nx0 : Nat} {all : List Oper} {ms : List Nat} {mk : Nat → Nat} {D : Nat → Dr} {p0 : Pl} {g0 : Nat → Option Blk} {w0 : World} {a0 : Act}

theorem Absorbed.mono {j j' i : Nat} (h : j ≤ j') (ha : Absorbed E all mk D j i) : Absorbed E all mk D j' i := by
  obtain ⟨e, o, h1, h2⟩ := ha
  exact ⟨e, o, by omega, h2⟩

theorem mixed_self {g : Nat → Option Blk} {h : H} (hs : ∀ n b, h.get n = some b → g n = some b) : mixed g h h = g := by
  funext n
  unfold mixed
  split
  · rename_i b h1 h2; exact h2.symm
  · rename_i hno
    cases hn : h.get n with
    | some b => exact (hs n b hn).symm
    | none =>
      cases hg : g n with
      | none => rfl
      | some b => exact absurd hg (hno b hn)

theorem draw_step (hE : EnvOk P E) (hC : CallOk P call) (pl : Plan E call nt nx0 all ms mk D) (h00 : nthL (D 0).stages 0 = some (D 0).h) (hp0 : (D 0).pend = []) (hkz : (D 0).k = 0) (hbase : 1000 ≤ nx0)
    (ht0 : TmRep p0 nt (D 0).tm a0.tmps) {arr : Array Oper} (harr : arr.toList = all) {listed : Array Bool} {a : Act} {w : World} {p : Pl} {g : Nat → Option Blk} {J : Nat}
    (I : Inv E nt nx0 all mk D p0 g0 w0 a0 listed a w p g J) {i : Nat} {o : Oper} (ho : all[i]? = some o) (hun : listed.getD i false = false) (hmask : ∀ j, bitA (mk i) j = true → listed.getD j false = true)
    (ro : Option Nat) (n : Nat) {K : Act → World → Prop} {Q : Exit → Act → World → Prop}
    (hK : ∀ a' w' p' g' J', Inv E nt nx0 all mk D p0 g0 w0 a0 (listed.setIfInBounds i true) a' w' p' g' J' → K a' w') : wpOpIn (FW ro) n P arr Q i K a w := by
  have hilt : i < all.length := (List.getElem?_eq_some_iff.1 ho).1
  obtain ⟨tm1, a1, ht1, hev, hwant, hops⟩ := I.view pl ht0 harr ho hun hmask
  have harro : arr[i]? = some o := by rw [← Array.getElem?_toList, harr]; exact ho
  unfold wpOpIn
  simp only [harro]
  rw [← hwant]
  -- no operation that changes memory lies between J and an operation that does
  have hJeff : isEff E o → J ≤ i ∧ ∀ e o', J ≤ e → e < i → all[e]? = some o' → ¬ isEff E o' := fun he => by
    refine ⟨Nat.le_of_not_lt fun h => ?_, fun e o' h1 h2 h3 h4 => ?_⟩
    · have := (I.effs i o ho he).2 h; rw [hun] at this; cases this
    · have := pl.chain i o e o' ho h3 h2 he h4
      have := (I.effs e o' h3 h4).1 (hmask e this)
      omega
  have heffs : isEff E o → ∀ e o', all[e]? = some o' → isEff E o' → ((e = i ∨ listed.getD e false = true) ↔ e < i + 1) := fun he e o' h1 h2 => by
    constructor
    · rintro (rfl | h)
      · omega
      · have := (I.effs e o' h1 h2).1 h
        have := (hJeff he).1
        omega
    · intro h
      by_cases e1 : e = i
      · exact .inl e1
      · exact .inr (hmask e (pl.chain i o e o' ho h1 (by omega) he h2))
  have heffs' : ¬ isEff E o → ∀ e o', all[e]? = some o' → isEff E o' → ((e = i ∨ listed.getD e false = true) ↔ e < J) := fun he e o' h1 h2 => by
    rw [← I.effs e o' h1 h2]
    constructor
    · rintro (rfl | h)
      · rw [ho] at h1; cases h1; exact absurd h2 he
      · exact h
    · exact .inr
  have hfree : ∀ k, k < all.length → k ≠ i → listed.getD k false = false → p (nx0 + k) = none := fun k hk _ hf => I.free k hk hf
  -- an operation that makes nothing has nothing pending
  have hnoP : clsOf E o.op ≠ .alloc → ∀ b, (i, b) ∈ (D (i + 1)).pend → False := fun hc b hb => by
    obtain ⟨_, _, ⟨o', h1, h2⟩, _⟩ := pl.pendAt hp0 (i + 1) (by omega) i b hb
    rw [ho] at h1; cases h1; exact hc h2
  have hpendK : ∀ {J'}, J ≤ J' → ∀ k b, k ≠ i → listed.getD k false = true → (k, b) ∈ (D (k + 1)).pend → ¬ Absorbed E all mk D J' k → g (nx0 + k) = some b ∧ (D J).h.get (nx0 + k) = none :=
    fun hJ k b _ hk hm ha => I.pend k b hk hm fun h => ha (h.mono hJ)
  -- what an operation is handed is a part of what there is
  have hpart : ∀ (h : (D i).h = (D J).h) (_ : ∀ k, Absorbed E all mk D J k → Absorbed E all mk D i k), ∀ m b, (withPend nx0 (mk i) (D i).pend (D i).h).get m = some b → g m = some b := fun h ha m b hm => by
    rcases withPend_get hm with ⟨k, h1, h2, h3⟩ | hm
    · obtain ⟨h4, h5, _, h6⟩ := pl.pendAt hp0 i (by omega) k b h1
      rw [h3]
      exact (I.pend k b (hmask k h2) h5 fun hh => h6 (ha k hh)).1
    · rw [h] at hm; exact I.sub m b hm
  rcases pl.case ho with ⟨hw, hput, hh, hpend, hl, hse, hsn⟩ | ⟨hw, hc, v, h1, he, hput, hh, hpend, hs, hk, hl⟩ | ⟨hw, hc, v, h1, b, he, hb, hput, hh, hpend, hs, hk, hl⟩ | ⟨hw, hc, v, he, hput, hpend, hs, hk, hl⟩
  · -- not wanted
    rw [hw]
    simp only [Bool.false_eq_true, if_false]
    refine ⟨fun _ _ => trivial, ?_⟩
    by_cases hef : isEff E o
    · have hsame : (D (i + 1)).h = (D J).h := by rw [hh]; exact pl.hSame (hJeff hef).1 (by omega) (hJeff hef).2
      have hJ' : J ≤ i + 1 := by have := (hJeff hef).1; omega
      refine hK _ _ p g (i + 1) (I.next pl ho hun hmask (by rw [hsame]; exact I.rel) (FrF.refl _ _ _ _) (by rw [hsame]; exact I.top) (by rw [hsame]; exact I.sub) ?_ hfree (by omega) (heffs hef) hput (undef_rep p))
      intro k b hk hm ha
      rcases hk with rfl | ⟨hki, hk⟩
      · exact absurd hm (hnoP (by rw [show clsOf E o.op = .eff from hef]; simp) b)
      · rw [hsame]; exact hpendK hJ' k b hki hk hm ha
    · refine hK _ _ p g J (I.next pl ho hun hmask I.rel (FrF.refl _ _ _ _) I.top I.sub ?_ hfree I.le (heffs' hef) hput (undef_rep p))
      intro k b hk hm ha
      rcases hk with rfl | ⟨hki, hk⟩
      · rw [hpend] at hm
        have := (pl.pendAt hp0 k (by omega) k b hm).1
        omega
      · exact hpendK (Nat.le_refl _) k b hki hk hm ha
  · -- it reads
    have hef : ¬ isEff E o := by rw [isEff, hc]; simp
    rw [hw]
    simp only [if_true]
    -- the memory that it is evaluated in
    have hread : ∃ hr h1', (∀ m b, hr.get m = some b → g m = some b) ∧ hr.nx = (D J).h.nx ∧ evOp E (D i).tm o.op hr = .ok (.val v h1') := by
      have hlo := pl.lo (m := mk i) all 0 0 (fun k o h => by rw [Nat.zero_add]; exact h) (by omega) (.inl rfl)
      have hhi := pl.hi (x := i) all ms 0 (fun k o h => by rw [Nat.zero_add]; exact h) (fun k m h => by rw [Nat.zero_add]; exact h) (by omega) (by rw [pl.len]; exact Nat.le_refl _)
      rw [hkz] at hlo hhi
      have hloJ : loOf E (mk i) 0 all 0 0 ≤ (D J).k ∧ loOf E (mk i) 0 all 0 0 ≤ (D i).k := by
        rcases hlo with h | ⟨e, o', g1, g2, g3, g4⟩
        · rw [h]; exact ⟨Nat.zero_le _, Nat.zero_le _⟩
        · rw [g4]
          have hlt := pl.maskLt i o e ho g3
          have := (I.effs e o' g1 g2).1 (hmask e g3)
          exact ⟨pl.kUp (by omega) I.le, pl.kUp (by omega) (by omega)⟩
      have hhiJ : (D J).k ≤ hiOf E i all ms 0 ∧ (D i).k ≤ hiOf E i all ms 0 := by
        rcases hhi with h | ⟨e, o', g1, g2, g3, g4⟩
        · rw [h]; exact ⟨pl.kUp I.le (Nat.le_refl _), pl.kUp (by omega) (Nat.le_refl _)⟩
        · rw [g4]
          have hel : e < all.length := (List.getElem?_eq_some_iff.1 g1).1
          have hlt := pl.maskLt e o' i g1 g3
          have hne : listed.getD e false ≠ true := fun h => by
            have := I.closed e i h g3; rw [hun] at this; cases this
          have : J ≤ e := Nat.le_of_not_lt fun h => hne ((I.effs e o' g1 g2).2 h)
          exact ⟨pl.kUp this (by omega), pl.kUp (by omega) (by omega)⟩
      cases hbq : Nat.beq (loOf E (mk i) 0 all 0 0) (hiOf E i all ms 0) with
      | true =>
        have heq := Nat.eq_of_beq_eq_true hbq
        have hkk : (D J).k = (D i).k := by omega
        refine ⟨_, h1, hpart ?_ ?_, ?_, he⟩
        · rcases Nat.le_total J i with h | h
          · exact pl.hSame h (by omega) (pl.kSame h (by omega) hkk)
          · exact (pl.hSame h I.le (pl.kSame h I.le hkk.symm)).symm
        · intro k ⟨e, o', g1, g2, g3, g4⟩
          refine ⟨e, o', Nat.lt_of_not_le fun h => ?_, g2, g3, g4⟩
          exact pl.kSame (by omega : i ≤ J) I.le hkk.symm e o' h g1 g2 g3
        · rw [withPend_nx]
          rcases Nat.le_total J i with h | h
          · rw [pl.hSame h (by omega) (pl.kSame h (by omega) hkk)]
          · rw [pl.hSame h I.le (pl.kSame h I.le hkk.symm)]
      | false =>
        have hin : ({ op := o.op, tm := (D i).tm, v := v, lo := loOf E (mk i) 0 all 0 0, hi := hiOf E i all ms 0 } : Look) ∈ (D (i + 1)).looks := by
          rw [hl, hbq]; simp
        have hin' := pl.looksUp (by omega : i + 1 ≤ all.length) (Nat.le_refl _) hin
        have hcs := allLooks_spec pl.looks _ hin'
        obtain ⟨hh', v', h1', q1, q2, q3⟩ := checkStages_spec hcs (D J).k hloJ.1 (by simp only []; omega)
        rw [pl.stage h00 I.le (Nat.le_refl _)] at q1
        cases q1
        have hv := beqV_ok _ _ q3
        simp only [] at hv q2
        subst hv
        exact ⟨_, h1', I.sub, rfl, q2⟩
    obtain ⟨hr, h1', hsub, hnx, he'⟩ := hread
    have := evOp_read hc he'
    subst this
    rw [hev] at he'
    have hrel : Rel p h1' w := I.rel.toRel hsub hnx
    have hns : ∀ cs b, o.op ≠ .select cs b := fun cs b h => by rw [h] at he'; simp [evOp] at he'
    have hexec : execOp a1.eval o = execOp a.eval o := execOp_congr o hns fun x hx => hops x (opds_mem hns hx)
    refine oper_ok' hE hC (v := v) (h' := h1') (by rw [he']; rfl) ht1 hexec hrel ro n fun x p' w' k1 k2 k3 => ?_
    obtain ⟨m1, m2, _⟩ := RelF.step (by rw [hnx]; exact I.rel) hsub k2 k3
    rw [mixed_self hsub, hnx] at m1 m2
    refine hK _ _ p' g J (I.next pl ho hun hmask m1 (m2.weaken (by have := I.top; omega)) I.top I.sub ?_ (fun k hk hki hf => ?_) I.le (heffs' hef) hput k1)
    · intro k b hk hm ha
      rcases hk with rfl | ⟨hki, hk⟩
      · exact absurd hm (hnoP (by rw [hc]; simp) b)
      · exact hpendK (Nat.le_refl _) k b hki hk hm ha
    · rw [m2.old _ (by have := I.top; omega)]; exact I.free k hk hf
  · -- it makes
    have hef : ¬ isEff E o := by rw [isEff, hc]; simp
    rw [hw]
    simp only [if_true]
    rw [hev] at he
    have hns : ∀ cs b, o.op ≠ .select cs b := fun cs b h => by rw [h] at he; simp [evOp] at he
    have hnd : ∀ c, o.op ≠ .defer c := fun cs h => by rw [h] at he; simp [evOp] at he
    have hexec : execOp a1.eval o = execOp a.eval o := execOp_congr o hns fun x hx => hops x (opds_mem hns hx)
    obtain ⟨b', hb', hmk⟩ := evOp_alloc hE hc he ht1
    simp only [] at hb' hmk
    rw [hb] at hb'; cases hb'
    rw [hexec] at hmk
    obtain ⟨o', sz, y, hrun, hbr, hrep⟩ := hmk w
    refine ⟨fun _ _ => trivial, ?_⟩
    rw [Oper.semAt_eq _ _ _ hnd, hrun, Oper.uponIn_value]
    have hpn := I.free i hilt hun
    have htop := I.top
    obtain ⟨m1, m2⟩ := I.rel.newAt (n := nx0 + i) (nx1 := nx0) hpn (by omega) (by omega) (by omega) hbr
    have hgn : g (nx0 + i) = none := by
      cases hg : g (nx0 + i) with
      | none => rfl
      | some b1 => obtain ⟨c, s, o1, e1, _⟩ := I.rel.blk _ _ hg; rw [hpn] at e1; cases e1
    have hhn : (D J).h.get (nx0 + i) = none := by
      cases hg : (D J).h.get (nx0 + i) with
      | none => rfl
      | some b1 => rw [I.sub _ _ hg] at hgn; cases hgn
    refine hK _ _ _ _ J (I.next pl ho hun hmask m1 m2 I.top ?_ ?_ (fun k hk hki hf => ?_) I.le (heffs' hef) hput (hrep _ m2.le (Pl.ext_self _ _ _ _)))
    · intro m b1 hm
      have : m ≠ nx0 + i := fun e => by rw [e, hhn] at hm; cases hm
      simp only [if_neg this]
      exact I.sub m b1 hm
    · intro k b1 hk hm ha
      rcases hk with rfl | ⟨hki, hk⟩
      · rw [hpend] at hm
        rcases List.mem_cons.1 hm with h | h
        · cases h; exact ⟨by simp, hhn⟩
        · have := (pl.pendAt hp0 k (by omega) k b1 h).1
          omega
      · simp only [if_neg (show nx0 + k ≠ nx0 + i by omega)]
        exact hpendK (Nat.le_refl _) k b1 hki hk hm ha
    · unfold Pl.ext
      rw [if_neg (by omega)]; exact I.free k hk hf
  · -- it changes memory
    have hef : isEff E o := hc
    rw [hw]
    simp only [if_true]
    rw [hev] at he
    have hns : ∀ cs b, o.op ≠ .select cs b := fun cs b h => by rw [h] at he; simp [evOp, fin] at he
    have hexec : execOp a1.eval o = execOp a.eval o := execOp_congr o hns fun x hx => hops x (opds_mem hns hx)
    have hsame : (D i).h = (D J).h := pl.hSame (hJeff hef).1 (by omega) (hJeff hef).2
    have hsub := hpart hsame (fun k h => h.mono (hJeff hef).1)
    have hnx : (withPend nx0 (mk i) (D i).pend (D i).h).nx = (D J).h.nx := by rw [withPend_nx, hsame]
    have hrel : Rel p (withPend nx0 (mk i) (D i).pend (D i).h) w := I.rel.toRel hsub hnx
    refine oper_ok' hE hC he ht1 hexec hrel ro n fun x p' w' k1 k2 k3 => ?_
    obtain ⟨m1, m2, m3⟩ := RelF.step (by rw [hnx]; exact I.rel) hsub k2 k3
    have hJ' : J ≤ i + 1 := by have := (hJeff hef).1; omega
    have htop := I.top
    have hup := k3.nx
    rw [hnx] at hup m2
    refine hK _ _ p' _ (i + 1) (I.next pl ho hun hmask m1 (m2.weaken (by omega)) (by omega) ?_ ?_ (fun k hk hki hf => ?_) (by omega) (heffs hef) hput k1)
    · intro m b hm
      unfold mixed
      split
      · rename_i b1 h1 h2
        rw [m3 m h1 (by rw [h2]; simp)] at hm; cases hm
      · exact hm
    · intro k b hk hm ha
      rcases hk with rfl | ⟨hki, hk⟩
      · exact absurd hm (hnoP (by rw [hc]; simp) b)
      · have hnb : bitA (mk i) k ≠ true := fun h => ha ⟨i, o, by omega, ho, hef, hw, h⟩
        obtain ⟨q1, q2⟩ := hpendK hJ' k b hki hk hm ha
        have hbn : (withPend nx0 (mk i) (D i).pend (D i).h).get (nx0 + k) = none := by
          cases hg : (withPend nx0 (mk i) (D i).pend (D i).h).get (nx0 + k) with
          | none => rfl
          | some b1 =>
            rcases withPend_get hg with ⟨k', h1, h2, h3⟩ | hg
            · have : k = k' := by omega
              subst this; exact absurd h2 hnb
            · rw [hsame, q2] at hg; cases hg
        refine ⟨?_, m3 _ hbn (by rw [q1]; simp)⟩
        unfold mixed
        rw [hbn, q1]
    · rw [m2.old _ (by omega)]; exact I.free k hk hf

theorem filter_less {Q Q' : Nat → Bool} (h : ∀ x, Q' x = true → Q x = true) : ∀ {l : List Nat} {y : Nat}, y ∈ l → Q y = true → Q' y = false → (l.filter Q').length < (l.filter Q).length
  | [], _, hy, _, _ => by cases hy
  | x :: l, y, hy, h1, h2 => by
    have hle : ∀ l : List Nat, (l.filter Q').length ≤ (l.filter Q).length := fun l => by
      induction l with
      | nil => simp
      | cons x l ih =>
        cases hq : Q' x with
        | true => rw [List.filter_cons_of_pos hq, List.filter_cons_of_pos (h x hq)]; simp; exact ih
        | false =>
          rw [List.filter_cons_of_neg (by rw [hq]; simp)]
          cases hq2 : Q x with
          | true => rw [List.filter_cons_of_pos hq2]; simp; omega
          | false => rw [List.filter_cons_of_neg (by rw [hq2]; simp)]; exact ih
    rcases List.mem_cons.1 hy with rfl | hy
    · rw [List.filter_cons_of_neg (by rw [h2]; simp), List.filter_cons_of_pos h1]
      have := hle l
      simp; omega
    · have ih := filter_less h hy h1 h2
      cases hq : Q' x with
      | true => rw [List.filter_cons_of_pos hq, List.filter_cons_of_pos (h x hq)]; simp; exact ih
      | false =>
        rw [List.filter_cons_of_neg (by rw [hq]; simp)]
        cases hq2 : Q x with
        | true => rw [List.filter_cons_of_pos hq2]; simp; omega
        | false => rw [List.filter_cons_of_neg (by rw [hq2]; simp)]; exact ih

theorem bindsA_eq (e : Edge) : Region.binds .any e = bindsA e := by
  unfold Region.binds bindsA
  cases e.ground <;> rfl

theorem getD_un {l : Array Bool} {i : Nat} (hi : i < l.size) : l.getD i true = l.getD i false := by
  rw [Array.getD_eq_getD_getElem?, Array.getD_eq_getD_getElem?, Array.getElem?_eq_getElem hi]; rfl

/-- All schedules. -/
theorem draw_any (hE : EnvOk P E) (hC : CallOk P call) (pl : Plan E call nt nx0 all ms mk D) (h00 : nthL (D 0).stages 0 = some (D 0).h) (hp0 : (D 0).pend = []) (hkz : (D 0).k = 0) (hbase : 1000 ≤ nx0)
    (ht0 : TmRep p0 nt (D 0).tm a0.tmps) {arr : Array Oper} (harr : arr.toList = all) (ro : Option Nat) (n : Nat) {Q : Exit → Act → World → Prop}
    (hQ : ∀ listed a w p g J, Inv E nt nx0 all mk D p0 g0 w0 a0 listed a w p g J → (∀ i, i < all.length → listed.getD i false = true) → Q .normal a w) :
    ∀ (fuel : Nat) (listed : Array Bool) (a : Act) (w : World) (p : Pl) (g : Nat → Option Blk) (J : Nat), ((List.range all.length).filter (fun i => !listed.getD i false)).length ≤ fuel →
      Inv E nt nx0 all mk D p0 g0 w0 a0 listed a w p g J → wpAnyIn (FW ro) n P .any arr Q fuel listed a w := by
  have hsz : arr.size = all.length := by rw [← harr]; simp
  have hsome : ∀ {i o}, arr[i]? = some o ↔ all[i]? = some o := fun {i o} => by rw [← harr, Array.getElem?_toList]
  -- none is ready: all are listed
  have hnone : ∀ (listed : Array Bool) (a : Act) (w : World) (p : Pl) (g : Nat → Option Blk) (J : Nat), Inv E nt nx0 all mk D p0 g0 w0 a0 listed a w p g J → Region.ready .any arr listed = [] → ∀ i, i < all.length → listed.getD i false = true := by
    intro listed a w p g J I hr i
    induction i using Nat.strongRecOn with
    | _ i ih =>
      intro hi
      cases hl : listed.getD i false with
      | true => rfl
      | false =>
        exfalso
        obtain ⟨o, ho⟩ := get_lt hi
        have : i ∈ Region.ready .any arr listed := mem_ready.2 ⟨by rw [getD_un (by rw [I.lsize]; exact hi)]; exact hl, o, hsome.2 ho, fun e he hb => by
          rw [bindsA_eq] at hb
          have h1 := pl.edge i o ho e (by simpa using he) hb
          exact ih e.on h1 (by omega)⟩
        rw [hr] at this; cases this
  intro fuel
  induction fuel with
  | zero =>
    intro listed a w p g J hf I
    have hall : ∀ i, i < all.length → listed.getD i false = true := fun i hi => by
      cases hl : listed.getD i false with
      | true => rfl
      | false =>
        have : i ∈ (List.range all.length).filter (fun i => !listed.getD i false) := List.mem_filter.2 ⟨List.mem_range.2 hi, by rw [hl]; rfl⟩
        rw [List.length_eq_zero_iff.1 (Nat.le_zero.1 hf)] at this; cases this
    refine ⟨?_, hQ listed a w p g J I hall⟩
    cases hr : Region.ready .any arr listed with
    | nil => rfl
    | cons i l =>
      have hi : i ∈ Region.ready .any arr listed := by rw [hr]; simp
      obtain ⟨h1, o, h2, _⟩ := mem_ready.1 hi
      have hlt : i < all.length := (List.getElem?_eq_some_iff.1 (hsome.1 h2)).1
      rw [getD_un (by rw [I.lsize]; exact hlt), hall i hlt] at h1
      cases h1
  | succ fuel ih =>
    intro listed a w p g J hf I
    refine ⟨fun hr => hQ listed a w p g J I (hnone listed a w p g J I hr), fun i hi => ?_⟩
    obtain ⟨h1, o, h2, h3⟩ := mem_ready.1 hi
    have ho := hsome.1 h2
    have hlt : i < all.length := (List.getElem?_eq_some_iff.1 ho).1
    rw [getD_un (by rw [I.lsize]; exact hlt)] at h1
    have hmask : ∀ j, bitA (mk i) j = true → listed.getD j false = true := fun j hj => by
      obtain ⟨e, he, hb, hor⟩ := pl.mask i o j ho hj
      have hon := h3 e (by simpa using he) (by rw [bindsA_eq]; exact hb)
      rcases hor with rfl | ⟨_, h5⟩
      · exact hon
      · exact I.closed _ _ hon h5
    refine draw_step hE hC pl h00 hp0 hkz hbase ht0 harr I ho h1 hmask ro n fun a' w' p' g' J' I' => ?_
    refine ih _ a' w' p' g' J' ?_ I'
    have hil : i < listed.size := by rw [I.lsize]; exact hlt
    have := filter_less (Q := fun i => !listed.getD i false) (Q' := fun j => !(listed.setIfInBounds i true).getD j false) (fun x hx => by
      simp only [Bool.not_eq_true'] at hx ⊢
      rw [getD_set hil] at hx
      by_cases e : x = i
      · rw [if_pos e] at hx; cases hx
      · rw [if_neg e] at hx; exact hx) (List.mem_range.2 hlt) (by simp [h1]) (by rw [getD_set hil, if_pos rfl]; rfl)
    omega
end

/-- A region. -/
theorem evRegion_ok (hE : EnvOk P E) {call : Caller} (hC : CallOk P call) {nt : Nat} {id : Nat} {arr : Array Oper} {draw : Bool} {tm tm' : T AV} {h h' : H} (he : evRegion E call nt arr draw tm h = .ok (tm', h'))
    {p : Pl} {a : Act} {w : World} (ht : TmRep p nt tm a.tmps) (r : Rel p h w) (ro : Option Nat) (n : Nat) {Q : Exit → Act → World → Prop} (hQ : ∀ a' w', RegPost p h w nt tm' h' a a' w' → Q .normal a' w') :
    (Code.region id arr draw).wpIn (FW ro) n P Q a w := by
  unfold evRegion at he
  cases draw with
  | false =>
    simp only [cond_false] at he
    refine wpIn_region ?_
    have := evSeq_ok hE hC (nt := nt) (arr := arr) ro n (Q := Q) arr.toList [] tm tm' h h' (by simp) he p a w ht r hQ
    rw [List.range_eq_range']
    simpa using this
  | true =>
    simp only [cond_true] at he
    have he := bif_ok he
    obtain ⟨hck, he⟩ := he
    rw [Bool.and_eq_true] at hck
    split at he
    · rename_i d hd
      obtain ⟨hlk, he⟩ := bif_ok he
      cases he
      obtain ⟨mk, D, pl, hD0, hDn⟩ := plan_of hd hck.1 hck.2 hlk
      refine wpIn_region_any hE.mixed ?_
      have hnx : (D 0).h.nx = h.nx + arr.toList.length := by rw [hD0]; show h.nx + lenA arr.toList = _; rw [lenA_eq]
      have hget : ∀ n, (D 0).h.get n = h.get n := fun n => by rw [hD0]; rfl
      have hlist : ∀ i, (Array.replicate arr.size false).getD i false = false := fun i => by
        rw [Array.getD_eq_getD_getElem?, Array.getElem?_replicate]; split <;> rfl
      have hpl : (D 0).pend = [] := by rw [hD0]
      have I0 : Inv E nt h.nx arr.toList mk D p h.get w a (Array.replicate arr.size false) a { w with drawn := w.drawn + 1 } p h.get 0 := by
        refine ⟨?_, FrF.drawn _ _ _ _ _, by rw [hnx]; exact Nat.le_refl _, fun n b hg => by rw [hget] at hg; exact hg, ?_, ?_, Nat.zero_le _, ?_, ht.size, ?_, fun _ _ => rfl, ?_, rfl, by simp⟩
        · exact (RelF.up r.toF (by rw [hnx]; exact Nat.le_add_right _ _)).drawn _
        · intro i b hi; rw [hlist] at hi; cases hi
        · intro i _ _; exact r.fresh _ (Nat.le_add_right _ _)
        · intro e o _ _; rw [hlist]; simp
        · intro j o d _ hj; rw [hlist] at hj; cases hj
        · intro i j hi; rw [hlist] at hi; cases hi
      refine draw_any hE hC pl (by rw [hD0]; rfl) hpl (by rw [hD0]) r.base (by rw [hD0]; exact ht) rfl ro n ?_ arr.size _ a _ p h.get 0 ?_ I0
      · intro listed a' w' p' g' J I hall
        refine hQ a' w' ⟨p', ?_, ?_, ?_, I.defers⟩
        · -- the temporaries
          refine ⟨I.size, fun t => ?_⟩
          rw [← hDn]
          by_cases hex : ∃ (j : Nat) (oj : Oper), arr.toList[j]? = some oj ∧ oj.dst = some t
          · obtain ⟨j, oj, h1, h2⟩ := hex
            have hj : j < arr.toList.length := (List.getElem?_eq_some_iff.1 h1).1
            rw [pl.tmSame (j := j + 1) (by omega) (Nat.le_refl _) fun e o' he he' ho' hd' => by
              have := pl.dstOne ho' h1 hd' h2; omega]
            exact I.done j oj t h1 (hall j hj) h2
          · have hno : ∀ (j : Nat) (oj : Oper), arr.toList[j]? = some oj → oj.dst ≠ some t := fun j oj h1 h2 => hex ⟨j, oj, h1, h2⟩
            rw [pl.tmSame (Nat.zero_le _) (Nat.le_refl _) fun e o' _ _ ho' => hno e o' ho', I.rest t fun j o' h1 _ => hno j o' h1, hD0]
            exact Rep.mono I.fr.le _ _ (ht.rep t)
        · -- memory
          have hJ : ∀ e o, J ≤ e → e < arr.toList.length → arr.toList[e]? = some o → ¬ isEff E o := fun e o h1 h2 h3 h4 => by
            have := (I.effs e o h3 h4).1 (hall e h2); omega
          have hsame := pl.hSame I.le (Nat.le_refl _) hJ
          refine I.rel.toRel (fun m b hm => ?_) (by rw [withPend_nx, ← hDn, hsame])
          rw [← hDn] at hm
          rcases withPend_get hm with ⟨k, h1, h2, h3⟩ | hm
          · obtain ⟨g1, g2, _, g4⟩ := pl.pendAt hpl _ (Nat.le_refl _) k b h1
            rw [h3]
            exact (I.pend k b (hall k g1) g2 fun hh => g4 (hh.mono I.le)).1
          · rw [hsame] at hm; exact I.sub m b hm
        · -- the frame
          have hJ : ∀ e o, J ≤ e → e < arr.toList.length → arr.toList[e]? = some o → ¬ isEff E o := fun e o h1 h2 h3 h4 => by
            have := (I.effs e o h3 h4).1 (hall e h2); omega
          have hsame := pl.hSame I.le (Nat.le_refl _) hJ
          have hsubg : ∀ m b, (withPend h.nx (Nat.pow 2 (lenA arr.toList) - 1) d.pend d.h).get m = some b → g' m = some b := fun m b hm => by
            rw [← hDn] at hm
            rcases withPend_get hm with ⟨k, h1, h2, h3⟩ | hm
            · obtain ⟨g1, g2, _, g4⟩ := pl.pendAt hpl _ (Nat.le_refl _) k b h1
              rw [h3]
              exact (I.pend k b (hall k g1) g2 fun hh => g4 (hh.mono I.le)).1
            · rw [hsame] at hm; exact I.sub m b hm
          have f := I.fr
          refine ⟨f.le, ?_, f.old, f.size, f.same, ?_, f.os, f.output, f.tape⟩
          · rw [withPend_nx, ← hDn, hsame]; have := I.top; omega
          · intro m b s hm e
            obtain ⟨b', hb'⟩ := Option.ne_none_iff_exists'.1 hm
            exact f.own m b s (by rw [hsubg m b' hb']; simp) e
      · refine Nat.le_trans (List.length_filter_le _ _) ?_
        simp
    · cases he
end Go.AE
