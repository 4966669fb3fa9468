/- The law's own copies. No condition: contracts. -/
import Derived.Test.YtdnhkdipfnediaaGreatDoorProg
import Derived.WalkKit
import Derived.WalkSpells
import Derived.WalkLawsBesides
import Derived.Deep.OwnRows
import Derived.Deep.LoopGhost
import Derived.KernelRfl
import Derived.Deep.RegionHeld3
namespace Go.Proofs.YtdnhkdipfnediaaGreatDoor
open Go Go.RowKit

theorem info36 : (Tryz.prog.info? 36).map (fun i => (i.zero, i.size, i.bytes)) = some (some (.int .u32 0), 1, 4) := by kernel_rfl

def CwRel (w wr : World) (n : Nat) : Prop := Below w.heap.size w wr ∧ ∃ f, wr.rowIs w.heap.size 36 n f

set_option maxHeartbeats 400000 in
theorem copyWords_any (A : Option Addr) (n c : Nat) (w : World) (hn : 4 * n ≤ 281474976710656)
    (hA : ∀ k, k < n → ∃ b o z, A = some ⟨b, o, none⟩ ∧ w.cell? ⟨b, o + k, none⟩ = some (.int .u32 z)) :
    Calls Tryz.prog 13 #[.slice A n c] w fun e w' => e = .returned (.slice (some ⟨w.heap.size, 0, none⟩) n n) ∧ Below w.heap.size w w' := by
  have hmk := run_make_row' (P := Tryz.prog) 49 36 (.int .u32 0) 4 Tryz.underlying49 info36 rfl .i64 .i64 n hn (by omega)
  go_enter Tryz.func13, Tryz.ntmps13
  go_wp2
  clear hmk
  go_loopg [4] n (fun g i wr => ∃ k : Nat, k ≤ n ∧ g = n - k ∧ i = .int .i64 k ∧ CwRel w wr n)
  case atStart => exact ⟨0, Nat.zero_le _, rfl, rfl, (Below.refl _ _).alloc (Nat.le_refl _) _, _, World.rowIs_made _ _ _ _⟩
  case round =>
    obtain ⟨k, hk, rfl, rfl, hb, f, hf⟩ := hrel
    by_cases hlt : k < n
    · obtain ⟨b, o, z, rfl, hc⟩ := hA k hlt
      have hlb : b < w.heap.size := World.block_lt_of_cell? _ _ hc
      have g1 : wr.cell? ⟨b, o + k, none⟩ = some (.int .u32 z) := by rw [hb.cell (p := ⟨b, o + k, none⟩) hlb]; exact hc
      have g2 := hf.cell hlt
      have g3 := hf.frozen k
      clear hA hc
      go_wp2
      go_roundg (n - (k + 1))
      case measure => omega
      case rel => exact ⟨k + 1, by omega, rfl, by go_num, hb.setCell (Nat.le_refl _) _, _, hf.set k _⟩
    · have e : k = n := by omega
      subst e
      go_wp2
      go_ret
      exact ⟨rfl, hb⟩
end Go.Proofs.YtdnhkdipfnediaaGreatDoor
namespace Go.Proofs.YtdnhkdipfnediaaGreatDoor
open Go Go.RowKit

theorem info51 : (Tryz.prog.info? 51).map (fun i => (i.zero, i.size, i.bytes)) = some (some (.agg #[.int .i64 0, .int .i64 0, .slice none 0 0]), 3, 40) := by kernel_rfl

/-- A slot, as it lies in memory. -/
def SlotAt (w : World) (b o : Nat) : Prop := ∃ loc bi B m c, w.cell? ⟨b, o, none⟩ = some (.int .i64 loc) ∧ w.cell? ⟨b, o + 1, none⟩ = some (.int .i64 bi) ∧ w.cell? ⟨b, o + 2, none⟩ = some (.slice B m c) ∧
  4 * m ≤ 281474976710656 ∧ ∀ k, k < m → ∃ b' o' z, B = some ⟨b', o', none⟩ ∧ w.cell? ⟨b', o' + k, none⟩ = some (.int .u32 z)
def SlotsAt (w : World) (A : Option Addr) (n : Nat) : Prop := 40 * n ≤ 281474976710656 ∧ ∀ i, i < n → ∃ b o, A = some ⟨b, o, none⟩ ∧ SlotAt w b (o + i * 3)

/-- A block of cells, none frozen. -/
def RowOf (w : World) (b t n : Nat) : Prop := ∃ cs : Array Value, w.heap[b]? = some (.cells cs t (0, 0)) ∧ cs.size = n
theorem RowOf.cell {w : World} {b t n : Nat} (h : RowOf w b t n) {i : Nat} (hi : i < n) : ∃ v, w.cell? ⟨b, i, none⟩ = some v := by
  obtain ⟨cs, hb, hn⟩ := h
  exact ⟨cs[i]'(by omega), by simp [World.cell?, hb]⟩
theorem RowOf.frozen {w : World} {b t n : Nat} (h : RowOf w b t n) (i : Nat) : w.frozen? ⟨b, i, none⟩ = false := by
  obtain ⟨cs, hb, hn⟩ := h
  simp [World.frozen?, hb]
theorem RowOf.set_ {w : World} {b t n : Nat} (h : RowOf w b t n) (i : Nat) (v : Value) : RowOf (w.setCell ⟨b, i, none⟩ v) b t n := by
  obtain ⟨cs, hb, hn⟩ := h
  exact ⟨cs.setIfInBounds i v, by simp [World.setCell, Array.getElem?_modify, hb], by simpa using hn⟩
theorem RowOf.below {w w' : World} {b t n B : Nat} (h : RowOf w b t n) (hb : Below B w w') (hlt : b < B) : RowOf w' b t n := by
  obtain ⟨cs, e, hn⟩ := h
  exact ⟨cs, (hb.block b hlt).trans e, hn⟩
theorem RowOf.lt {w : World} {b t n : Nat} (h : RowOf w b t n) : b < w.heap.size := by
  obtain ⟨cs, e, _⟩ := h
  exact (Array.getElem?_eq_some_iff.1 e).1

def CpRel (w wr : World) (n : Nat) : Prop := Below w.heap.size w wr ∧ RowOf wr w.heap.size 51 (n * 3)

theorem run_make51 (n : Nat) (hn : 40 * n ≤ 281474976710656) (w : World) : (Instr.makeSlice 22 (.int .i64 (n : Int)) (.int .i64 (n : Int))).run Tryz.prog w =
    .ok (.slice (some ⟨w.heap.size, 0, none⟩) n n) (w.alloc (.cells (madeCells #[.int .i64 0, .int .i64 0, .slice none 0 0] (n * 3)) 51)) := by
  obtain ⟨i, hi, hz⟩ := Option.map_eq_some_iff.1 info51
  simp only [Prod.mk.injEq] at hz
  obtain ⟨h1, h2, h3⟩ := hz
  have := run_make (P := Tryz.prog) (w := w) 22 51 i _ Tryz.underlying22 hi h1 .i64 .i64 n n (by omega) (Int.le_refl _) (by rw [h3]; omega) (by omega)
  rw [h2] at this
  exact this

theorem cpRel_start (w : World) (n : Nat) (cs : Array Value) (hc : cs.size = n * 3) : CpRel w (w.alloc (.cells cs 51)) n :=
  ⟨(Below.refl _ _).alloc (Nat.le_refl _) _, cs, heap_alloc_new w _, hc⟩

theorem far3 {w1 : World} {N i j l : Nat} {x y z : Value} {b o : Nat} (h : b ≠ N) : (((w1.setCell ⟨N, i, none⟩ x).setCell ⟨N, j, none⟩ y).setCell ⟨N, l, none⟩ z).cell? ⟨b, o, none⟩ = w1.cell? ⟨b, o, none⟩ := by
  have hne : ∀ i, (⟨b, o, none⟩ : Addr) ≠ ⟨N, i, none⟩ := fun i e => h (congrArg Addr.block e)
  rw [World.cell?_setCell_other _ _ _ _ (hne l).symm, World.cell?_setCell_other _ _ _ _ (hne j).symm, World.cell?_setCell_other _ _ _ _ (hne i).symm]

set_option maxHeartbeats 1000000 in
theorem copied_any (A : Option Addr) (n c : Nat) (w : World) (hS : SlotsAt w A n) :
    Calls Tryz.prog 5 #[.slice A n c] w fun e w' => e = .returned (.slice (some ⟨w.heap.size, 0, none⟩) n n) ∧ Below w.heap.size w w' := by
  obtain ⟨hn, hA⟩ := hS
  have hmk := run_make51 n hn
  go_enter Tryz.func5, Tryz.ntmps5
  go_wp2
  clear hmk
  have hst := cpRel_start w n (madeCells #[.int .i64 0, .int .i64 0, .slice none 0 0] (n * 3)) (size_madeCells _ _)
  go_loopg [4] n (fun g i wr => ∃ k : Nat, k ≤ n ∧ g = n - k ∧ i = .int .i64 k ∧ CpRel w wr n)
  case atStart => exact ⟨0, Nat.zero_le _, rfl, rfl, hst⟩
  case round =>
    clear hst
    obtain ⟨k, hk, rfl, rfl, hb, hr⟩ := hrel
    by_cases hlt : k < n
    · obtain ⟨b, o, rfl, loc, bi, B, m, c', g1, g2, g3, g4, g5⟩ := hA k hlt
      have hlb : b < w.heap.size := World.block_lt_of_cell? _ _ g1
      have f1 : wr.cell? ⟨b, o + k * 3, none⟩ = some (.int .i64 loc) := by rw [hb.cell (p := ⟨b, _, none⟩) hlb]; exact g1
      have f2 : wr.cell? ⟨b, o + k * 3 + 1, none⟩ = some (.int .i64 bi) := by rw [hb.cell (p := ⟨b, _, none⟩) hlb]; exact g2
      have f3 : wr.cell? ⟨b, o + k * 3 + 2, none⟩ = some (.slice B m c') := by rw [hb.cell (p := ⟨b, _, none⟩) hlb]; exact g3
      have f5 : ∀ j, j < m → ∃ b' o' z, B = some ⟨b', o', none⟩ ∧ wr.cell? ⟨b', o' + j, none⟩ = some (.int .u32 z) := by
        intro j hj
        obtain ⟨b', o', z, e1, e2⟩ := g5 j hj
        exact ⟨b', o', z, e1, by rw [hb.cell (p := ⟨b', _, none⟩) (World.block_lt_of_cell? _ _ e2)]; exact e2⟩
      clear hA g1 g2 g3 g5
      go_wp2_with fail
      have h0k : (0 : Int) ≤ (k : Int) := Int.natCast_nonneg _
      have h1k : (k : Int) < (n : Int) := by omega
      have hbn : b ≠ w.heap.size := Nat.ne_of_lt hlb
      have hlw : b < wr.heap.size := Nat.lt_of_lt_of_le hlb hb.size
      go_region_held3 (fun w' => w'.cell? ⟨b, o + k * 3, none⟩ = some (.int .i64 loc) ∧ w'.cell? ⟨b, o + k * 3 + 1, none⟩ = some (.int .i64 bi) ∧ w'.cell? ⟨b, o + k * 3 + 2, none⟩ = some (.slice B m c'))
        (first
          | go_keep
          | (go_split_ands
             refine ⟨?_, ?_, ?_⟩
             · (rw [hb1.cell (p := ⟨b, _, none⟩) hlw]; assumption)
             · (rw [hb1.cell (p := ⟨b, _, none⟩) hlw]; assumption)
             · (rw [hb1.cell (p := ⟨b, _, none⟩) hlw]; assumption))
          | (go_split_ands
             refine ⟨?_, ?_, ?_⟩
             · (rw [far3 hbn, hb1.cell (p := ⟨b, _, none⟩) hlw]; assumption)
             · (rw [far3 hbn, hb1.cell (p := ⟨b, _, none⟩) hlw]; assumption)
             · (rw [far3 hbn, hb1.cell (p := ⟨b, _, none⟩) hlw]; assumption)))
        ((go_at_call 13
          refine (copyWords_any B m c' wr.drew g4 f5).mono ?_
          rintro e w1 ⟨rfl, hb0⟩
          have hb1 : Below wr.heap.size wr w1 := ⟨hb0.os, hb0.tape, hb0.output, hb0.size, hb0.block⟩
          clear hb0
          have r1 := hr.below hb1 hr.lt
          obtain ⟨x0, hx0⟩ := r1.cell (i := k * 3) (by omega)
          obtain ⟨x1, hx1⟩ := r1.cell (i := k * 3 + 1) (by omega)
          obtain ⟨x2, hx2⟩ := r1.cell (i := k * 3 + 2) (by omega)
          have z0 := r1.frozen (k * 3)
          have z1 := r1.frozen (k * 3 + 1)
          have z2 := r1.frozen (k * 3 + 2)))
      have hr2 := ((r1.set_ (k * 3) (.int .i64 loc)).set_ (k * 3 + 1) (.int .i64 bi)).set_ (k * 3 + 2) (.slice (some ⟨wr.heap.size, 0, none⟩) m m)
      have hB2 : Below w.heap.size w (((w1.setCell ⟨w.heap.size, k * 3, none⟩ (.int .i64 loc)).setCell ⟨w.heap.size, k * 3 + 1, none⟩ (.int .i64 bi)).setCell ⟨w.heap.size, k * 3 + 2, none⟩ (.slice (some ⟨wr.heap.size, 0, none⟩) m m)) :=
        (((hb.trans (hb1.mono hb.size)).setCell (Nat.le_refl _) _).setCell (Nat.le_refl _) _).setCell (Nat.le_refl _) _
      go_wp2
      go_roundg (n - (k + 1))
      case measure => omega
      case rel => exact ⟨k + 1, by omega, rfl, by go_num, hB2, hr2⟩
    · have e : k = n := by omega
      subst e
      go_wp2
      go_ret
      exact ⟨rfl, hb⟩
end Go.Proofs.YtdnhkdipfnediaaGreatDoor
