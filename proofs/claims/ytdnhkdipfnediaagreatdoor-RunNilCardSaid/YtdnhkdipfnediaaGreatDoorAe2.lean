/- The relation between the evaluator's memory and the model's. No condition: definitions and their first laws. -/
import Derived.Test.YtdnhkdipfnediaaGreatDoorAe1
import Derived.RangeFuncLeaves
import Derived.OrdersIn
import Derived.LoopNIn
import Derived.WalkKit
import Derived.RangeFuncRecord
import Derived.Laws.StructEq
set_option linter.unusedSectionVars false
namespace Go.AE

/-! ### Trees -/

theorem getB_leaf {α : Type} (bs : List Bool) : getB bs (T.leaf : T α) = none := by cases bs <;> rfl
theorem T.get_leaf {α : Type} (n : Nat) : (T.leaf : T α).get n = none := getB_leaf _

theorem getB_setB {α : Type} : ∀ (bs cs : List Bool) (t : T α) (x : Option α), getB cs (setB bs t x) = if cs = bs then x else getB cs t
  | [], [], t, x => by cases t <;> rfl
  | [], c :: cs, t, x => by
    rw [if_neg (by simp)]
    cases t with
    | leaf => cases c <;> exact getB_leaf cs
    | node l v r => rfl
  | b :: bs, [], t, x => by
    rw [if_neg (by simp)]
    cases t <;> cases b <;> rfl
  | b :: bs, c :: cs, t, x => by
    have key : ∀ s : T α, getB cs (setB bs s x) = if cs = bs then x else getB cs s := fun s => getB_setB bs cs s x
    have hl : getB cs (T.leaf : T α) = none := getB_leaf cs
    cases t with
    | leaf =>
      cases b <;> cases c
      · show getB cs (setB bs .leaf x) = if false :: cs = false :: bs then x else none
        rw [key, hl]; simp
      · rw [if_neg (by simp)]; exact hl
      · rw [if_neg (by simp)]; exact hl
      · show getB cs (setB bs .leaf x) = if true :: cs = true :: bs then x else none
        rw [key, hl]; simp
    | node l v r =>
      cases b <;> cases c
      · show getB cs (setB bs l x) = if false :: cs = false :: bs then x else getB cs l
        rw [key]; simp
      · rw [if_neg (by simp)]; rfl
      · rw [if_neg (by simp)]; rfl
      · show getB cs (setB bs r x) = if true :: cs = true :: bs then x else getB cs r
        rw [key]; simp

/-- The number of a way. -/
def valB : List Bool → Nat
  | [] => 0
  | false :: bs => 2 * valB bs + 1
  | true :: bs => 2 * valB bs + 2

theorem valB_bitsF : ∀ (f n : Nat), n ≤ f → valB (bitsF f n) = n
  | 0, n, h => by
    have : n = 0 := by omega
    subst this; rfl
  | f + 1, 0, _ => rfl
  | f + 1, k + 1, h => by
    have e : bitsF (f + 1) (k + 1) = Bool.rec (motive := fun _ => List Bool) (true :: bitsF f (Nat.div k 2)) (false :: bitsF f (Nat.div k 2)) (Nat.beq (Nat.mod k 2) 0) := rfl
    have ih := valB_bitsF f (k / 2) (by omega)
    have hd : Nat.div k 2 = k / 2 := rfl
    have hm : Nat.mod k 2 = k % 2 := rfl
    rw [e]
    cases hb : Nat.beq (Nat.mod k 2) 0 with
    | true =>
      have h0 := Nat.eq_of_beq_eq_true hb
      simp only [valB, ih, hd]
      rw [hm] at h0
      omega
    | false =>
      have h0 := Nat.ne_of_beq_eq_false hb
      simp only [valB, ih, hd]
      rw [hm] at h0
      omega
theorem valB_bits (n : Nat) : valB (bits n) = n := valB_bitsF n n (Nat.le_refl n)
theorem bits_inj {m n : Nat} : bits m = bits n ↔ m = n := ⟨fun h => by rw [← valB_bits m, h, valB_bits], fun h => by rw [h]⟩

theorem T.get_put {α : Type} (t : T α) (n m : Nat) (x : Option α) : (t.put n x).get m = if m = n then x else t.get m := by
  unfold T.get T.put
  rw [getB_setB]
  by_cases h : m = n
  · rw [if_pos h, if_pos (bits_inj.2 h)]
  · rw [if_neg h, if_neg (fun e => h (bits_inj.1 e))]

theorem H.get_put (h : H) (n m : Nat) (b : Blk) : (h.put n b).get m = if m = n then some b else h.get m := T.get_put _ _ _ _
theorem H.get_kill (h : H) (n m : Nat) : (h.kill n).get m = if m = n then none else h.get m := T.get_put _ _ _ _
theorem H.get_new (h : H) (m : Nat) (b : Blk) : (h.new b).get m = if m = h.nx then some b else h.get m := T.get_put _ _ _ _
@[simp] theorem H.nx_put (h : H) (n : Nat) (b : Blk) : (h.put n b).nx = h.nx := rfl
@[simp] theorem H.nx_kill (h : H) (n : Nat) : (h.kill n).nx = h.nx := rfl
@[simp] theorem H.nx_new (h : H) (b : Blk) : (h.new b).nx = h.nx + 1 := rfl

/-! ### Values -/

/-- What the names of numbers stand for. -/
class Syms where
  val : Nat → Nat

/-- Where a name lies: a block, and how many cells that has. -/
abbrev Pl := Nat → Option (Nat × Nat)

def Pl.le (p q : Pl) : Prop := ∀ n x, p n = some x → q n = some x
theorem Pl.le_refl (p : Pl) : p.le p := fun _ _ h => h
theorem Pl.le_trans {p q r : Pl} (h : p.le q) (h' : q.le r) : p.le r := fun n x e => h' n x (h n x e)

def RepFn (p : Pl) : Fn → Fn → Prop
  | .yield l, f => ∃ b sz, p l = some (b, sz) ∧ f = .yield b
  | g, f => f = g

mutual
def Rep (p : Pl) : AV → Value → Prop
  | .bool b, v => v = .bool b
  | .int k n, v => v = .int k n
  | .str l, v => ∃ s, v = .string s ∧ s.data.toList.map UInt8.toNat = l
  | .nilPtr, v => v = .pointer none
  | .ptr n o, v => (∃ b sz, p n = some (b, sz) ∧ v = .pointer (some ⟨b, o, none⟩)) ∨ (n < 1000 ∧ v = .pointer (some ⟨n, o, none⟩))
  | .nilSlice, v => v = .slice none 0 0
  | .slice n o len (.exact c), v => ∃ b sz, p n = some (b, sz) ∧ v = .slice (some ⟨b, o, none⟩) len c
  | .slice n o len (.more s), v => ∃ b sz c, p n = some (b, sz) ∧ v = .slice (some ⟨b, o, none⟩) len c ∧ len ≤ c ∧ o + c * s ≤ sz
  | .emptySlice, v => ∃ a c, v = .slice (some a) 0 c
  | .nilMap, v => v = .map none
  | .map n, v => ∃ b sz, p n = some (b, sz) ∧ v = .map (some b)
  | .func f fi ca, v => ∃ f' fi' ca', v = .func f' fi' ca' ∧ RepFn p f f' ∧ Reps p fi fi'.toList ∧ Reps p ca ca'.toList
  | .nilFunc, v => v = .nilFunc
  | .iface t x, v => ∃ y, v = .iface t y ∧ Rep p x y
  | .nilIface, v => v = .nilIface
  | .agg cs, v => ∃ vs, v = .agg vs ∧ Reps p cs vs.toList
  | .tup cs, v => ∃ vs, v = .tuple vs ∧ Reps p cs vs.toList
  | .sym k i, v => ∃ b, 900 ≤ i ∧ i < 1000 ∧ p i = some (i, b) ∧ v = .int k (Int.ofNat b)
def Reps (p : Pl) : List AV → List Value → Prop
  | [], l => l = []
  | a :: as, l => ∃ v vs, l = v :: vs ∧ Rep p a v ∧ Reps p as vs
end

theorem RepFn.mono {p q : Pl} (h : p.le q) {f f' : Fn} (r : RepFn p f f') : RepFn q f f' := by
  cases f with
  | yield l => obtain ⟨b, sz, e, rfl⟩ := r; exact ⟨b, sz, h _ _ e, rfl⟩
  | _ => exact r

mutual
theorem Rep.mono {p q : Pl} (h : p.le q) : ∀ (a : AV) (v : Value), Rep p a v → Rep q a v
  | .bool _, _, r => r
  | .int .., _, r => r
  | .str _, _, r => r
  | .nilPtr, _, r => r
  | .ptr .., _, .inl ⟨b, sz, e, r⟩ => .inl ⟨b, sz, h _ _ e, r⟩
  | .ptr .., _, .inr r => .inr r
  | .nilSlice, _, r => r
  | .slice _ _ _ (.exact _), _, ⟨b, sz, e, r⟩ => ⟨b, sz, h _ _ e, r⟩
  | .slice _ _ _ (.more _), _, ⟨b, sz, c, e, r⟩ => ⟨b, sz, c, h _ _ e, r⟩
  | .emptySlice, _, r => r
  | .nilMap, _, r => r
  | .map _, _, ⟨b, sz, e, r⟩ => ⟨b, sz, h _ _ e, r⟩
  | .func _ fi ca, _, ⟨f', fi', ca', e, rf, r1, r2⟩ => ⟨f', fi', ca', e, rf.mono h, Reps.mono h fi _ r1, Reps.mono h ca _ r2⟩
  | .nilFunc, _, r => r
  | .sym .., _, ⟨b, h1, h2, e, r⟩ => ⟨b, h1, h2, h _ _ e, r⟩
  | .iface _ x, _, ⟨y, e, r⟩ => ⟨y, e, Rep.mono h x y r⟩
  | .nilIface, _, r => r
  | .agg cs, _, ⟨vs, e, r⟩ => ⟨vs, e, Reps.mono h cs _ r⟩
  | .tup cs, _, ⟨vs, e, r⟩ => ⟨vs, e, Reps.mono h cs _ r⟩
theorem Reps.mono {p q : Pl} (h : p.le q) : ∀ (l : List AV) (m : List Value), Reps p l m → Reps q l m
  | [], _, r => r
  | a :: as, _, ⟨v, vs, e, r, rs⟩ => ⟨v, vs, e, Rep.mono h a v r, Reps.mono h as vs rs⟩
end

theorem Reps.nil {p : Pl} : Reps p [] [] := rfl
theorem Reps.cons {p : Pl} {a : AV} {v : Value} {l : List AV} {m : List Value} (h : Rep p a v) (h' : Reps p l m) : Reps p (a :: l) (v :: m) := ⟨v, m, rfl, h, h'⟩
theorem Reps.length {p : Pl} : ∀ {l : List AV} {m : List Value}, Reps p l m → m.length = l.length
  | [], _, h => by rw [show _ = [] from h]; rfl
  | _ :: as, _, ⟨v, vs, e, _, rs⟩ => by rw [e]; simp [Reps.length rs]
theorem Reps.append {p : Pl} : ∀ {l : List AV} {m : List Value} {l' : List AV} {m' : List Value}, Reps p l m → Reps p l' m' → Reps p (l ++ l') (m ++ m')
  | [], _, _, _, h, h' => by rw [show _ = [] from h]; exact h'
  | _ :: as, _, _, _, ⟨v, vs, e, r, rs⟩, h' => by rw [e]; exact ⟨v, vs ++ _, rfl, r, Reps.append rs h'⟩
theorem Reps.nth {p : Pl} : ∀ {l : List AV} {m : List Value} {i : Nat} {a : AV}, Reps p l m → nthL l i = some a → ∃ v, m[i]? = some v ∧ Rep p a v
  | [], _, i, _, _, h => by cases i <;> simp [nthL] at h
  | _ :: as, _, 0, a, ⟨v, vs, e, r, rs⟩, h => by simp [nthL] at h; subst h; exact ⟨v, by rw [e]; rfl, r⟩
  | _ :: as, _, i + 1, a, ⟨v, vs, e, r, rs⟩, h => by
    obtain ⟨v', h1, h2⟩ := Reps.nth rs (i := i) h
    exact ⟨v', by rw [e]; simpa using h1, h2⟩
theorem Reps.take {p : Pl} : ∀ {n : Nat} {l k : List AV} {m : List Value}, Reps p l m → takeL n l = some k → Reps p k (m.take n) ∧ k.length = n ∧ n ≤ m.length
  | 0, l, k, m, _, h => by simp [takeL] at h; subst h; simp [Reps]
  | n + 1, [], _, _, _, h => by simp [takeL] at h
  | n + 1, a :: l, k, _, ⟨v, vs, e, r, rs⟩, h => by
    simp only [takeL] at h
    cases ht : takeL n l with
    | none => simp [ht] at h
    | some k' =>
      simp only [ht, Option.some.injEq] at h
      subst h
      obtain ⟨h1, h2, h3⟩ := Reps.take rs ht
      rw [e]
      exact ⟨⟨v, vs.take n, rfl, r, h1⟩, by simp [h2], by simp; omega⟩
theorem Reps.drop {p : Pl} : ∀ {n : Nat} {l : List AV} {m : List Value}, Reps p l m → Reps p (dropL n l) (m.drop n)
  | 0, _, _, h => by simpa [dropL] using h
  | n + 1, [], _, h => by rw [show _ = [] from h]; simp [dropL, Reps]
  | n + 1, a :: l, _, ⟨v, vs, e, r, rs⟩ => by rw [e]; simpa [dropL] using Reps.drop (n := n) rs

theorem lenA_eq {α : Type} : ∀ (l : List α), lenA l = l.length
  | [] => rfl
  | _ :: l => by simp [lenA, lenA_eq l]
theorem dropL_eq {α : Type} : ∀ (n : Nat) (l : List α), dropL n l = l.drop n
  | 0, _ => by simp [dropL]
  | _ + 1, [] => by simp [dropL]
  | n + 1, _ :: l => by simp [dropL, dropL_eq n l]
theorem takeL_eq {α : Type} : ∀ (n : Nat) (l k : List α), takeL n l = some k → k = l.take n ∧ n ≤ l.length
  | 0, _, k, h => by simp [takeL] at h; subst h; simp
  | n + 1, [], _, h => by simp [takeL] at h
  | n + 1, a :: l, k, h => by
    simp only [takeL] at h
    cases ht : takeL n l with
    | none => simp [ht] at h
    | some k' =>
      simp only [ht, Option.some.injEq] at h
      obtain ⟨h1, h2⟩ := takeL_eq n l k' ht
      subst h; subst h1
      exact ⟨by simp, by simp; omega⟩
theorem nthL_eq {α : Type} : ∀ (l : List α) (i : Nat), nthL l i = l[i]?
  | [], i => by cases i <;> simp [nthL]
  | _ :: _, 0 => by simp [nthL]
  | _ :: l, i + 1 => by simp [nthL, nthL_eq l i]

/-! ### Blocks -/

structure TmRep (p : Pl) (nt : Nat) (tm : T AV) (tmps : Array Value) : Prop where
  size : tmps.size = nt
  rep : ∀ t, Rep p (tmGet tm t) (tmps.getD t undef)

theorem TmRep.mono {p q : Pl} (h : p.le q) {nt : Nat} {tm : T AV} {tmps : Array Value} (r : TmRep p nt tm tmps) : TmRep q nt tm tmps :=
  ⟨r.size, fun t => Rep.mono h _ _ (r.rep t)⟩

def EntRep (p : Pl) (e : AV × AV × Nat) (e' : MapEntry) : Prop := Rep p e.1 e'.key ∧ Rep p e.2.1 e'.val ∧ e'.born = e.2.2
def EntsRep (p : Pl) : List (AV × AV × Nat) → List MapEntry → Prop
  | [], l => l = []
  | a :: as, l => ∃ e es, l = e :: es ∧ EntRep p a e ∧ EntsRep p as es

theorem EntsRep.mono {p q : Pl} (h : p.le q) : ∀ {l : List (AV × AV × Nat)} {m : List MapEntry}, EntsRep p l m → EntsRep q l m
  | [], _, r => r
  | _ :: _, _, ⟨e, es, he, ⟨r1, r2, r3⟩, rs⟩ => ⟨e, es, he, ⟨Rep.mono h _ _ r1, Rep.mono h _ _ r2, r3⟩, EntsRep.mono h rs⟩

def OptRep (p : Pl) : Option Nat → Option Nat → Prop
  | none, m => m = none
  | some n, m => ∃ b sz, p n = some (b, sz) ∧ m = some b

theorem OptRep.mono {p q : Pl} (h : p.le q) {m : Option Nat} {m' : Option Nat} (r : OptRep p m m') : OptRep q m m' := by
  cases m with
  | none => exact r
  | some n => obtain ⟨b, sz, e, r⟩ := r; exact ⟨b, sz, h _ _ e, r⟩

def BRep (p : Pl) (sz : Nat) : Blk → Obj → Prop
  | .cells cs e, o => ∃ c lo hi, o = .cells c e (lo, hi) ∧ c.size = sz ∧ (∀ i, i < sz → ¬ (lo ≤ i ∧ i < hi)) ∧ cs.length ≤ sz ∧ Reps p cs (c.toList.take cs.length)
  | .map es clock, o => ∃ es', o = .map es' clock ∧ EntsRep p es es'.toList
  | .strIter l pos, o => ∃ s, o = .stringIter s pos ∧ s.data.toList.map UInt8.toNat = l
  | .mapIter m since seen stepped, o => ∃ m' seen', o = .mapIter m' since seen' stepped ∧ OptRep p m m' ∧ seen'.toList = seen
  | .loop st pend nt tm ps as bo d, o => ∃ L : Loop, o = .loop L ∧ L.state = st ∧ L.pending = pend ∧ TmRep p nt tm L.tmps ∧ L.params.toList = ps ∧ L.assign = as ∧ L.body = bo ∧
      ∃ b z, p d = some (b, z) ∧ L.defers = b
  | .dfr, o => o = .deferred (some [])

theorem BRep.mono {p q : Pl} (h : p.le q) {sz : Nat} {b : Blk} {o : Obj} (r : BRep p sz b o) : BRep q sz b o := by
  cases b with
  | cells cs e => obtain ⟨c, lo, hi, r1, r2, r3, r4, r5⟩ := r; exact ⟨c, lo, hi, r1, r2, r3, r4, Reps.mono h _ _ r5⟩
  | map es clock => obtain ⟨es', r1, r2⟩ := r; exact ⟨es', r1, r2.mono h⟩
  | strIter l pos => exact r
  | mapIter m since seen stepped => obtain ⟨m', s', r1, r2, r3⟩ := r; exact ⟨m', s', r1, r2.mono h, r3⟩
  | loop st pend nt tm ps as bo d => obtain ⟨L, r1, r2, r3, r4, r5, r6, r7, b, z, r8, r9⟩ := r; exact ⟨L, r1, r2, r3, r4.mono h, r5, r6, r7, b, z, h _ _ r8, r9⟩
  | dfr => exact r

/-- The names below 1000: the blocks of those numbers; from 900 on: numbers. -/
def GlobOk [Syms] (p : Pl) : Prop := (∀ n c s, n < 1000 → p n = some (c, s) → c = n) ∧ ∀ n, 900 ≤ n → n < 1000 → p n = some (n, Syms.val n)

variable [Syms]

structure Rel (p : Pl) (h : H) (w : World) : Prop where
  blk : ∀ n b, h.get n = some b → ∃ c sz o, p n = some (c, sz) ∧ w.heap[c]? = some o ∧ BRep p sz b o
  inj : ∀ n m c s s', h.get n ≠ none → h.get m ≠ none → p n = some (c, s) → p m = some (c, s') → n = m
  fresh : ∀ n, h.nx ≤ n → p n = none
  base : 1000 ≤ h.nx
  glob : GlobOk p

/-- What has become of the world: nothing but what the memory owns, and new blocks. -/
structure Fr (p : Pl) (h : H) (w : World) (p' : Pl) (h' : H) (w' : World) : Prop where
  le : p.le p'
  nx : h.nx ≤ h'.nx
  old : ∀ n, n < h.nx → p' n = p n
  size : w.heap.size ≤ w'.heap.size
  same : ∀ b, b < w.heap.size → (∀ n s, h.get n ≠ none → p n ≠ some (b, s)) → w'.heap[b]? = w.heap[b]?
  own : ∀ n b s, h'.get n ≠ none → p' n = some (b, s) → (∃ m s', h.get m ≠ none ∧ p m = some (b, s')) ∨ w.heap.size ≤ b
  os : w'.os = w.os
  output : w'.output = w.output
  tape : w'.tape = w.tape

theorem Fr.refl (p : Pl) (h : H) (w : World) : Fr p h w p h w :=
  ⟨Pl.le_refl p, Nat.le_refl _, fun _ _ => rfl, Nat.le_refl _, fun _ _ _ => rfl, fun n _ s h1 h2 => .inl ⟨n, s, h1, h2⟩, rfl, rfl, rfl⟩

theorem Fr.trans {p p1 p2 : Pl} {h h1 h2 : H} {w w1 w2 : World} (a : Fr p h w p1 h1 w1) (b : Fr p1 h1 w1 p2 h2 w2) : Fr p h w p2 h2 w2 where
  le := Pl.le_trans a.le b.le
  nx := Nat.le_trans a.nx b.nx
  old := fun n hn => (b.old n (Nat.lt_of_lt_of_le hn a.nx)).trans (a.old n hn)
  size := Nat.le_trans a.size b.size
  same := fun c hc hn => by
    rw [b.same c (Nat.lt_of_lt_of_le hc a.size) ?_, a.same c hc hn]
    intro n s h1n e
    rcases a.own n c s h1n e with ⟨m, s', hm, em⟩ | hlt
    · exact hn m s' hm em
    · omega
  own := fun n c s h2n e => by
    rcases b.own n c s h2n e with ⟨m, s', hm, em⟩ | hlt
    · exact a.own m c s' hm em
    · exact .inr (Nat.le_trans a.size hlt)
  os := b.os.trans a.os
  output := b.output.trans a.output
  tape := b.tape.trans a.tape

/-- A pointer into a block that is known. -/
theorem Rel.ptr {p : Pl} {h : H} {w : World} (r : Rel p h w) {n o b s : Nat} {v : Value} (hp : p n = some (b, s)) (hv : Rep p (.ptr n o) v) : v = .pointer (some ⟨b, o, none⟩) := by
  rcases hv with ⟨b', s', e, rfl⟩ | ⟨hlt, rfl⟩
  · rw [hp] at e
    obtain ⟨rfl, rfl⟩ := Prod.mk.inj (Option.some.inj e)
    rfl
  · rw [r.glob.1 n b s hlt hp]

end Go.AE
set_option linter.unusedSectionVars false
namespace Go.AE

/-- One name more. -/
def Pl.ext (p : Pl) (n c s : Nat) : Pl := fun m => if m = n then some (c, s) else p m
theorem Pl.le_ext {p : Pl} {n c s : Nat} (h : p n = none) : p.le (p.ext n c s) := by
  intro m x e
  unfold Pl.ext
  split
  · subst m; rw [h] at e; cases e
  · exact e
theorem Pl.ext_self (p : Pl) (n c s : Nat) : p.ext n c s n = some (c, s) := by simp [Pl.ext]

variable [Syms]

theorem alloc_heap (w : World) (o : Obj) : (w.alloc o).heap = w.heap.push o := rfl
theorem putObj_heap (w : World) (c : Nat) (o : Obj) : (w.putObj c o).heap = w.heap.setIfInBounds c o := rfl

theorem Rel.lt {p : Pl} {h : H} {w : World} (r : Rel p h w) {n : Nat} (hn : h.get n ≠ none) : n < h.nx := by
  apply Classical.byContradiction
  intro hge
  cases hb : h.get n with
  | none => exact hn hb
  | some b =>
    obtain ⟨c, sz, o, e, _⟩ := r.blk n b hb
    rw [r.fresh n (by omega)] at e
    cases e

theorem Rel.blockLt {p : Pl} {h : H} {w : World} (r : Rel p h w) {n c s : Nat} (hn : h.get n ≠ none) (e : p n = some (c, s)) : c < w.heap.size := by
  cases hb : h.get n with
  | none => exact absurd hb hn
  | some b =>
    obtain ⟨c', sz, o, e', ho, _⟩ := r.blk n b hb
    rw [e] at e'
    obtain ⟨rfl, rfl⟩ := Prod.mk.inj (Option.some.inj e')
    exact (Array.getElem?_eq_some_iff.1 ho).1

theorem GlobOk.ext {p : Pl} (g : GlobOk p) {m : Nat} (hm : 1000 ≤ m) {b s : Nat} : GlobOk (p.ext m b s) := by
  refine ⟨fun n c s1 hn e => ?_, fun n h1 h2 => ?_⟩
  · rw [Pl.ext, if_neg (by omega)] at e
    exact g.1 n c s1 hn e
  · rw [Pl.ext, if_neg (by omega)]
    exact g.2 n h1 h2

/-- New memory. -/
theorem rel_new {p : Pl} {h : H} {w : World} (r : Rel p h w) (b : Blk) (o : Obj) (s : Nat) (hb : BRep (p.ext h.nx w.heap.size s) s b o) :
    Rel (p.ext h.nx w.heap.size s) (h.new b) (w.alloc o) ∧ Fr p h w (p.ext h.nx w.heap.size s) (h.new b) (w.alloc o) := by
  have hle : p.le (p.ext h.nx w.heap.size s) := Pl.le_ext (r.fresh _ (Nat.le_refl _))
  have hold : ∀ n, h.get n ≠ none → n ≠ h.nx := fun n hn => Nat.ne_of_lt (r.lt hn)
  have hget : ∀ n, (h.new b).get n ≠ none → n = h.nx ∨ h.get n ≠ none := by
    intro n hn
    rw [H.get_new] at hn
    by_cases e : n = h.nx
    · exact .inl e
    · rw [if_neg e] at hn; exact .inr hn
  refine ⟨⟨?_, ?_, ?_, by simp; have := r.base; omega, ?_⟩, ⟨hle, by simp, ?_, by rw [alloc_heap]; simp, ?_, ?_, rfl, rfl, rfl⟩⟩
  · intro n b' hn
    rw [H.get_new] at hn
    by_cases e : n = h.nx
    · subst e
      rw [if_pos rfl] at hn
      cases hn
      exact ⟨w.heap.size, s, o, Pl.ext_self _ _ _ _, by rw [alloc_heap]; exact Array.getElem?_push_size, hb⟩
    · rw [if_neg e] at hn
      obtain ⟨c, sz, o', e1, e2, e3⟩ := r.blk n b' hn
      have hlt := (Array.getElem?_eq_some_iff.1 e2).1
      refine ⟨c, sz, o', hle _ _ e1, ?_, e3.mono hle⟩
      rw [alloc_heap, Array.getElem?_push, if_neg (by omega)]
      exact e2
  · intro n m c s1 s2 hn hm e1 e2
    rcases hget n hn with rfl | hn' <;> rcases hget m hm with rfl | hm'
    · rfl
    · exfalso
      rw [Pl.ext_self] at e1
      obtain ⟨rfl, rfl⟩ := Prod.mk.inj (Option.some.inj e1)
      have : p m = some (w.heap.size, s2) := by simpa [Pl.ext, hold m hm'] using e2
      exact absurd (r.blockLt hm' this) (by omega)
    · exfalso
      rw [Pl.ext_self] at e2
      obtain ⟨rfl, rfl⟩ := Prod.mk.inj (Option.some.inj e2)
      have : p n = some (w.heap.size, s1) := by simpa [Pl.ext, hold n hn'] using e1
      exact absurd (r.blockLt hn' this) (by omega)
    · have h1 : p n = some (c, s1) := by simpa [Pl.ext, hold n hn'] using e1
      have h2 : p m = some (c, s2) := by simpa [Pl.ext, hold m hm'] using e2
      exact r.inj n m c s1 s2 hn' hm' h1 h2
  · intro n hn
    simp only [H.nx_new] at hn
    unfold Pl.ext
    rw [if_neg (by omega)]
    exact r.fresh n (by omega)
  · exact r.glob.ext r.base
  · intro n hn
    unfold Pl.ext
    rw [if_neg (by omega)]
  · intro c hc _
    rw [alloc_heap, Array.getElem?_push, if_neg (by omega)]
  · intro n c s1 hn e
    rcases hget n hn with rfl | hn'
    · rw [Pl.ext_self] at e
      obtain ⟨rfl, rfl⟩ := Prod.mk.inj (Option.some.inj e)
      exact .inr (Nat.le_refl _)
    · have h1 : p n = some (c, s1) := by simpa [Pl.ext, hold n hn'] using e
      exact .inl ⟨n, s1, hn', h1⟩

/-- A block that is known is written. -/
theorem rel_put {p : Pl} {h : H} {w : World} (r : Rel p h w) {n c s : Nat} {b0 : Blk} (h0 : h.get n = some b0) (hp : p n = some (c, s)) (b : Blk) (o : Obj) (hb : BRep p s b o) :
    Rel p (h.put n b) (w.putObj c o) ∧ Fr p h w p (h.put n b) (w.putObj c o) := by
  have hn0 : h.get n ≠ none := by rw [h0]; simp
  have hlt := r.blockLt hn0 hp
  have hget : ∀ m, (h.put n b).get m ≠ none → h.get m ≠ none := by
    intro m hm
    rw [H.get_put] at hm
    by_cases e : m = n
    · rw [e]; exact hn0
    · rwa [if_neg e] at hm
  refine ⟨⟨?_, ?_, ?_, by simpa using r.base, r.glob⟩, ⟨Pl.le_refl p, by simp, fun _ _ => rfl, by rw [putObj_heap]; simp, ?_, ?_, rfl, rfl, rfl⟩⟩
  · intro m b' hm
    rw [H.get_put] at hm
    by_cases e : m = n
    · subst e
      rw [if_pos rfl] at hm
      cases hm
      exact ⟨c, s, o, hp, by rw [putObj_heap]; simp [hlt], hb⟩
    · rw [if_neg e] at hm
      obtain ⟨c', sz, o', e1, e2, e3⟩ := r.blk m b' hm
      refine ⟨c', sz, o', e1, ?_, e3⟩
      have hne : c ≠ c' := by
        intro hcc
        subst hcc
        exact e (r.inj m n c sz s (by rw [hm]; simp) hn0 e1 hp)
      rw [putObj_heap]
      rw [Array.getElem?_setIfInBounds_ne hne]
      exact e2
  · intro m k c' s1 s2 hm hk e1 e2
    exact r.inj m k c' s1 s2 (hget m hm) (hget k hk) e1 e2
  · intro m hm; exact r.fresh m (by simpa using hm)
  · intro c' hc' hne
    have : c ≠ c' := by
      intro hcc
      subst hcc
      exact hne n s hn0 hp
    rw [putObj_heap]
    rw [Array.getElem?_setIfInBounds_ne this]
  · intro m c' s1 hm e
    exact .inl ⟨m, s1, hget m hm, e⟩

/-- A name is given up. -/
theorem rel_kill {p : Pl} {h : H} {w : World} (r : Rel p h w) (n : Nat) : Rel p (h.kill n) w ∧ Fr p h w p (h.kill n) w := by
  have hget : ∀ m b, (h.kill n).get m = some b → h.get m = some b := by
    intro m b hm
    rw [H.get_kill] at hm
    by_cases e : m = n
    · rw [if_pos e] at hm; cases hm
    · rwa [if_neg e] at hm
  have hget' : ∀ m, (h.kill n).get m ≠ none → h.get m ≠ none := by
    intro m hm
    cases hb : (h.kill n).get m with
    | none => exact absurd hb hm
    | some b => rw [hget m b hb]; simp
  exact ⟨⟨fun m b hm => r.blk m b (hget m b hm), fun m k c s1 s2 hm hk => r.inj m k c s1 s2 (hget' m hm) (hget' k hk), fun m hm => r.fresh m (by simpa using hm), by simpa using r.base, r.glob⟩,
    ⟨Pl.le_refl p, by simp, fun _ _ => rfl, Nat.le_refl _, fun _ _ _ => rfl, fun m c s hm e => .inl ⟨m, s, hget' m hm, e⟩, rfl, rfl, rfl⟩⟩

/-! ### Reading -/

theorem add_none (b o n : Nat) : (⟨b, o, none⟩ : Addr).add n = ⟨b, o + n, none⟩ := by
  unfold Addr.add
  split
  · rename_i h; subst h; rfl
  · rfl

variable {P : Program}

theorem cellsAt {p : Pl} {h : H} {w : World} (r : Rel p h w) {n : Nat} {cs : List AV} {e : TypeId} (hg : h.get n = some (.cells cs e)) :
    ∃ b sz c lo hi, p n = some (b, sz) ∧ w.heap[b]? = some (.cells c e (lo, hi)) ∧ c.size = sz ∧ (∀ i, i < sz → ¬ (lo ≤ i ∧ i < hi)) ∧ cs.length ≤ sz ∧ Reps p cs (c.toList.take cs.length) := by
  obtain ⟨b, sz, o, e1, e2, c, lo, hi, rfl, e3, e4, e5, e6⟩ := r.blk n _ hg
  exact ⟨b, sz, c, lo, hi, e1, e2, e3, e4, e5, e6⟩

theorem cell_of {w : World} {b o : Nat} {c : Array Value} {e : TypeId} {z : Nat × Nat} (h : w.heap[b]? = some (.cells c e z)) : w.cell? ⟨b, o, none⟩ = c[o]? := by
  simp [World.cell?, h]

theorem readCell_ok {p : Pl} {h : H} {w : World} (r : Rel p h w) {n o : Nat} {a : AV} (hr : readCell h n o = .ok a) :
    ∃ b sz v, p n = some (b, sz) ∧ w.cell? ⟨b, o, none⟩ = some v ∧ Rep p a v := by
  unfold readCell at hr
  split at hr
  · rename_i cs e hg
    split at hr
    · rename_i v hv
      cases hr
      obtain ⟨b, sz, c, lo, hi, e1, e2, e3, e4, e5, e6⟩ := cellsAt r hg
      obtain ⟨x, hx, hrep⟩ := Reps.nth e6 hv
      refine ⟨b, sz, x, e1, ?_, hrep⟩
      rw [cell_of e2]
      rw [List.getElem?_take] at hx
      split at hx
      · simpa using hx
      · cases hx
    · cases hr
  · cases hr

theorem readCells_ok {p : Pl} {h : H} {w : World} (r : Rel p h w) {n o k : Nat} {l : List AV} (hr : readCells h n o k = .ok l) :
    ∃ b sz vs, p n = some (b, sz) ∧ (∀ w' : World, w'.heap = w.heap → (loadCells ⟨b, o, none⟩ k).run P w' = .ok vs w') ∧ Reps p l vs.toList ∧ l.length = k := by
  unfold readCells at hr
  split at hr
  · rename_i cs e hg
    split at hr
    · rename_i l' hl
      cases hr
      obtain ⟨b, sz, c, lo, hi, e1, e2, e3, e4, e5, e6⟩ := cellsAt r hg
      have hd := Reps.drop (n := o) e6
      obtain ⟨h1, h2, h3⟩ := Reps.take hd hl
      refine ⟨b, sz, _, e1, ?_, h1, h2⟩
      · intro w' hw'
        have hlen : (((c.toList.take cs.length).drop o).take k).length = k := by simp; simp at h3; omega
        have := run_loadCells_list (P := P) w' ⟨b, o, none⟩ (((c.toList.take cs.length).drop o).take k) (fun j v hj => by
          rw [add_none, cell_of (by rw [hw']; exact e2)]
          rw [List.getElem?_take] at hj
          split at hj
          · rw [List.getElem?_drop, List.getElem?_take] at hj
            split at hj
            · simpa using hj
            · cases hj
          · cases hj)
        rw [hlen] at this
        exact this
    · cases hr
  · cases hr

end Go.AE
set_option linter.unusedSectionVars false
namespace Go.AE
variable {P : Program}

theorem Reps.iff {p : Pl} : ∀ {l : List AV} {m : List Value}, Reps p l m ↔ m.length = l.length ∧ ∀ (i : Nat) (a : AV), nthL l i = some a → ∃ v, m[i]? = some v ∧ Rep p a v
  | [], m => by
    constructor
    · intro h; rw [show m = [] from h]; exact ⟨rfl, fun i a h => by cases i <;> simp [nthL] at h⟩
    · intro ⟨h, _⟩; exact List.length_eq_zero_iff.1 (by simpa using h)
  | a :: l, m => by
    constructor
    · intro h; exact ⟨Reps.length h, fun i x hx => Reps.nth h hx⟩
    · intro ⟨h1, h2⟩
      cases m with
      | nil => simp at h1
      | cons v m =>
        refine ⟨v, m, rfl, ?_, Reps.iff.2 ⟨by simpa using h1, fun i x hx => ?_⟩⟩
        · obtain ⟨v', e, r⟩ := h2 0 a (by simp [nthL])
          simp at e; subst e; exact r
        · obtain ⟨v', e, r⟩ := h2 (i + 1) x (by simpa [nthL] using hx)
          exact ⟨v', by simpa using e, r⟩

theorem overL_spec : ∀ (l : List AV) (o : Nat) (vs m : List AV), overL l o vs = some m →
    m.length = l.length ∧ (vs ≠ [] → o + vs.length ≤ l.length) ∧ ∀ i, nthL m i = if o ≤ i ∧ i < o + vs.length then nthL vs (i - o) else nthL l i
  | l, o, [], m, h => by
    have : m = l := by cases l <;> simp [overL] at h <;> first | exact h.symm | exact h
    subst this
    refine ⟨rfl, fun h => absurd rfl h, fun i => ?_⟩
    rw [if_neg (by simp)]
  | [], o, v :: vs, m, h => by simp [overL] at h
  | a :: l, 0, v :: vs, m, h => by
    simp only [overL] at h
    cases hm : overL l 0 vs with
    | none => simp [hm] at h
    | some m' =>
      simp only [hm, Option.some.injEq] at h
      subst h
      obtain ⟨h1, h2, h3⟩ := overL_spec l 0 vs m' hm
      refine ⟨by simp [h1], fun _ => ?_, fun i => ?_⟩
      · cases vs with
        | nil => simp
        | cons x y => have := h2 (by simp); simp at this ⊢; omega
      · cases i with
        | zero => simp [nthL]
        | succ i =>
          simp only [nthL, h3 i, Nat.zero_le, true_and, List.length_cons, Nat.sub_zero]
          by_cases c : i < 0 + vs.length
          · rw [if_pos c, if_pos (by omega)]
          · rw [if_neg c, if_neg (by omega)]
  | a :: l, o + 1, v :: vs, m, h => by
    simp only [overL] at h
    cases hm : overL l o (v :: vs) with
    | none => simp [hm] at h
    | some m' =>
      simp only [hm, Option.some.injEq] at h
      subst h
      obtain ⟨h1, h2, h3⟩ := overL_spec l o (v :: vs) m' hm
      refine ⟨by simp [h1], fun _ => by have := h2 (by simp); simp at this ⊢; omega, fun i => ?_⟩
      cases i with
      | zero => rw [if_neg (by omega)]; simp [nthL]
      | succ i =>
        simp only [nthL, h3 i]
        by_cases c : o ≤ i ∧ i < o + (v :: vs).length
        · rw [if_pos c, if_pos (by omega), show i + 1 - (o + 1) = i - o from by omega]
        · rw [if_neg c, if_neg (by omega)]

/-- An array with values laid over it. -/
def ovA (c : Array Value) (o : Nat) : List Value → Array Value
  | [] => c
  | v :: vs => ovA (c.setIfInBounds o v) (o + 1) vs

variable [Syms]

theorem ovA_size : ∀ (vs : List Value) (c : Array Value) (o : Nat), (ovA c o vs).size = c.size
  | [], _, _ => rfl
  | v :: vs, c, o => by simp [ovA, ovA_size vs]

theorem ovA_get : ∀ (vs : List Value) (c : Array Value) (o j : Nat), o + vs.length ≤ c.size → (ovA c o vs)[j]? = if o ≤ j ∧ j < o + vs.length then vs[j - o]? else c[j]?
  | [], c, o, j, _ => by rw [if_neg (by simp)]; rfl
  | v :: vs, c, o, j, h => by
    simp only [ovA, List.length_cons] at h ⊢
    rw [ovA_get vs _ _ _ (by simp; omega)]
    by_cases c1 : o + 1 ≤ j ∧ j < o + 1 + vs.length
    · rw [if_pos c1, if_pos (by omega), show j - o = (j - (o + 1)) + 1 from by omega]
      simp
    · rw [if_neg c1]
      by_cases e : j = o
      · subst e
        have hj : j < c.size := by omega
        rw [if_pos (by omega)]
        simp [hj]
      · rw [if_neg (by omega), Array.getElem?_setIfInBounds_ne (by omega)]

theorem setCell_putObj {w : World} {b o : Nat} {c : Array Value} {e : TypeId} {lo hi : Nat} (v : Value) (h : w.heap[b]? = some (.cells c e (lo, hi))) :
    w.setCell ⟨b, o, none⟩ v = w.putObj b (.cells (c.setIfInBounds o v) e (lo, hi)) := by
  unfold World.setCell World.putObj
  congr 1
  apply Array.ext_getElem?
  intro j
  rw [Array.getElem?_modify, Array.getElem?_setIfInBounds]
  have hlt := (Array.getElem?_eq_some_iff.1 h).1
  by_cases e' : b = j
  · subst e'
    simp [h]
    omega
  · rw [if_neg e', if_neg e']

theorem run_storeCells_over {b o : Nat} {e : TypeId} {lo hi : Nat} : ∀ (vs : List Value) (i : Nat) (c : Array Value) (w : World), w.heap[b]? = some (.cells c e (lo, hi)) →
    o + i + vs.length ≤ c.size → (∀ j, j < c.size → ¬ (lo ≤ j ∧ j < hi)) → (∀ v ∈ vs, v.oneCell' = true) →
    (storeCells ⟨b, o, none⟩ vs i).run P w = .ok () (if vs = [] then w else w.putObj b (.cells (ovA c (o + i) vs) e (lo, hi)))
  | [], i, c, w, h, _, _, _ => by simp [storeCells]
  | v :: vs, i, c, w, h, hl, hf, h1 => by
    have hv := h1 v (by simp)
    have hoi : o + i < c.size := by simp at hl; omega
    have hcell : w.cell? ⟨b, o + i, none⟩ = some (c[o + i]'hoi) := by
      rw [cell_of h]; exact Array.getElem?_eq_getElem hoi
    have hfr : w.frozen? ⟨b, o + i, none⟩ = false := by
      simp only [World.frozen?, h]
      have := hf (o + i) hoi
      simp only [Bool.and_eq_false_iff, decide_eq_false_iff_not]
      omega
    have hstore : (store ⟨b, o + i, none⟩ v).run P w = .ok () (w.setCell ⟨b, o + i, none⟩ v) := by
      have hone : v.oneCell' = true := hv
      cases v <;> simp_all [store, Sem.run, Value.oneCell']
    have hw : (w.setCell ⟨b, o + i, none⟩ v).heap[b]? = some (.cells (c.setIfInBounds (o + i) v) e (lo, hi)) := by
      rw [setCell_putObj v h, putObj_heap]
      have := (Array.getElem?_eq_some_iff.1 h).1
      simp [this]
    have ih := run_storeCells_over (b := b) (o := o) (e := e) (lo := lo) (hi := hi) vs (i + 1) (c.setIfInBounds (o + i) v) (w.setCell ⟨b, o + i, none⟩ v) hw (by simp at hl ⊢; omega) (by simpa using hf) (fun x hx => h1 x (by simp [hx]))
    rw [storeCells, Sem.run_bind, add_none, hstore, Result.andThen_ok, ih]
    simp only [List.cons_ne_nil, if_false, ovA, Nat.add_assoc]
    cases vs with
    | nil => simp [ovA, setCell_putObj v h]
    | cons x y =>
      rw [if_neg (by simp), setCell_putObj v h]
      congr 1
      unfold World.putObj
      simp

theorem one_of_rep {p : Pl} {a : AV} {v : Value} (h : Rep p a v) (h1 : a.one = true) : v.oneCell' = true := by
  cases a with
  | slice n o len c => cases c with
    | exact c => obtain ⟨b, sz, _, rfl⟩ := h; rfl
    | more s => obtain ⟨b, sz, c, _, rfl, _⟩ := h; rfl
  | bool b => rw [show v = _ from h]; rfl
  | int k n => rw [show v = _ from h]; rfl
  | str l => obtain ⟨s, rfl, _⟩ := h; rfl
  | nilPtr => rw [show v = _ from h]; rfl
  | ptr n o => rcases h with ⟨b, sz, _, rfl⟩ | ⟨_, rfl⟩ <;> rfl
  | nilSlice => rw [show v = _ from h]; rfl
  | emptySlice => obtain ⟨a, c, rfl⟩ := h; rfl
  | nilMap => rw [show v = _ from h]; rfl
  | map n => obtain ⟨b, sz, _, rfl⟩ := h; rfl
  | func f fi ca => obtain ⟨f', fi', ca', rfl, _⟩ := h; rfl
  | nilFunc => rw [show v = _ from h]; rfl
  | iface t x => obtain ⟨y, rfl, _⟩ := h; rfl
  | nilIface => rw [show v = _ from h]; rfl
  | sym k i => obtain ⟨b, _, _, _, rfl⟩ := h; rfl
  | agg cs => simp [AV.one] at h1
  | tup cs => simp [AV.one] at h1

theorem ones_of_reps {p : Pl} : ∀ {l : List AV} {m : List Value}, Reps p l m → allOne l = true → ∀ v ∈ m, v.oneCell' = true
  | [], _, h, _, v, hv => by rw [show _ = [] from h] at hv; cases hv
  | a :: as, _, ⟨v0, vs, e, r, rs⟩, h1, v, hv => by
    simp only [allOne, Bool.and_eq_true] at h1
    rw [e] at hv
    rcases List.mem_cons.1 hv with rfl | hv
    · exact one_of_rep r h1.1
    · exact ones_of_reps rs h1.2 v hv

/-- What is written. -/
theorem writeCells_ok {p : Pl} {h h' : H} {w : World} (r : Rel p h w) {n o : Nat} {vs : List AV} {vs' : List Value} (hv : Reps p vs vs') (hw : writeCells h n o vs = .ok h') :
    ∃ b sz, p n = some (b, sz) ∧ ∃ w', (storeCells ⟨b, o, none⟩ vs').run P w = .ok () w' ∧ Rel p h' w' ∧ Fr p h w p h' w' := by
  unfold writeCells at hw
  split at hw
  · rename_i cs e hg
    split at hw
    · rename_i l hl
      cases ha : allOne vs with
      | false => simp [ha] at hw
      | true =>
        simp only [ha, cond_true, R.ok.injEq] at hw
        subst hw
        obtain ⟨b, sz, c, lo, hi, e1, e2, e3, e4, e5, e6⟩ := cellsAt r hg
        obtain ⟨s1, s2, s3⟩ := overL_spec _ _ _ _ hl
        have hlen := Reps.length hv
        refine ⟨b, sz, e1, ?_⟩
        by_cases hnil : vs' = []
        · subst hnil
          have hvs : vs = [] := List.length_eq_zero_iff.1 (by simpa using hlen.symm)
          subst hvs
          refine ⟨w, by simp [storeCells], ?_⟩
          have hlc : l = cs := by cases cs <;> simp [overL] at hl <;> first | exact hl.symm | exact hl
          subst hlc
          -- the same block is put once more
          have hself := rel_put r hg e1 (.cells l e) (.cells c e (lo, hi)) ⟨c, lo, hi, rfl, e3, e4, e5, e6⟩
          have hwp : w.putObj b (.cells c e (lo, hi)) = w := by
            unfold World.putObj
            congr 1
            apply Array.ext_getElem?
            intro j
            rw [Array.getElem?_setIfInBounds]
            by_cases ej : b = j
            · subst ej
              rw [if_pos rfl, e2]
              have := (Array.getElem?_eq_some_iff.1 e2).1
              simp [this]
            · rw [if_neg ej]
          rw [hwp] at hself
          exact hself
        · have hvs : vs ≠ [] := by intro hc; subst hc; exact hnil (List.length_eq_zero_iff.1 (by simpa using hlen))
          have hfit := s2 hvs
          have hrun := run_storeCells_over (P := P) (o := o) vs' 0 c w e2 (by rw [e3, hlen]; omega) (by rw [e3]; exact e4) (ones_of_reps hv ha)
          rw [if_neg hnil] at hrun
          refine ⟨_, hrun, ?_⟩
          refine rel_put r hg e1 _ _ ⟨_, lo, hi, rfl, by rw [ovA_size, e3], e4, by rw [s1]; exact e5, ?_⟩
          rw [Reps.iff]
          refine ⟨by simp [ovA_size, e3, s1, e5], fun i a hi' => ?_⟩
          rw [s3 i] at hi'
          have hil : i < l.length := by
            have hh := s3 i
            rw [hi', nthL_eq] at hh
            exact (List.getElem?_eq_some_iff.1 hh).1
          rw [List.getElem?_take, if_pos hil]
          have hget := ovA_get vs' c (o + 0) i (by rw [e3, hlen]; omega)
          rw [Array.getElem?_toList, hget, hlen]
          by_cases cnd : o ≤ i ∧ i < o + vs.length
          · rw [if_pos cnd] at hi'
            rw [if_pos (by simpa using cnd)]
            obtain ⟨v, e, rr⟩ := Reps.nth hv hi'
            exact ⟨v, by simpa using e, rr⟩
          · rw [if_neg cnd] at hi'
            rw [if_neg (by simpa using cnd)]
            obtain ⟨v, e, rr⟩ := Reps.nth e6 hi'
            refine ⟨v, ?_, rr⟩
            rw [List.getElem?_take] at e
            split at e
            · simpa using e
            · cases e
    · cases hw
  · cases hw
end Go.AE
