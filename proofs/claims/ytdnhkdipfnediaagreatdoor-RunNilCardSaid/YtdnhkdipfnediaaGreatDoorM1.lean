/- What the reading of the law's slots gives the walk. No condition: lemmas. -/
import Derived.Test.YtdnhkdipfnediaaGreatDoorW
import Derived.Test.YtdnhkdipfnediaaGreatDoorRows
import Derived.ProofKit
import Derived.LaidMore
import Derived.OpenShut
import Derived.Stop.Joined
import Derived.Conc.Holds
import Derived.SevenTiedAt
import Derived.Deep.Slices
import Derived.Deep.Fields
import Derived.ChangeSame
namespace Go.Proofs.YtdnhkdipfnediaaGreatDoor
open Go.ChangeShapes Go.WideShapes Go.ChangeAt Go.RowKit Go.Deep

theorem own : ownKnob Tryz.prog.godebug = none := by kernel_rfl
theorem laidOut : laidOutB Tryz.prog = true := by kernel_rfl

section
variable {H : Type} {enc : TypeId × Value → H} {P : Program} {w : World} {base : Nat} {spare : Nat → Bool} {held : Bool}
/-- A slice of structs of one-cell fields: each element's fields. -/
theorem open_slice_fields {t e : TypeId} {fs : Array Field} {fuel : Nat} {cs : List Value} {x : DataW H × List MemPlace} (ht : P.underlying t = some (.slice e)) (he : P.underlying e = some (.struct fs))
    (hone : oneCellFields P fs = true) (hC : P.cellsOf e = fs.size) (h : DataW.trod enc P w base spare held fuel t cs = some x) :
    (cs = [.slice none 0 0] ∧ x = (.nil, [])) ∨
    ∃ (a : Addr) (len cap m : Nat) (D : Nat → DataW H) (_ : Nat → List MemPlace), cs = [.slice (some a) len cap] ∧ len ≤ cap ∧ m = (if spare a.block then cap else len) ∧
      x.1 = .slice ((List.range len).map D) ((List.range (m - len)).map fun j => D (len + j)) ∧
      ∀ i, i < m → ∃ (ys : List (DataW H × List MemPlace)) (n : Nat), D i = .agg (ys.map (·.1)) ∧ ys.length = fs.size ∧
        ∀ (j : Nat) (f : Field), fs[j]? = some f → ∃ (v : Value) (y : DataW H × List MemPlace), w.cell? (a.add (i * fs.size + j)) = some v ∧ ys[j]? = some y ∧ DataW.trod enc P w base spare held n f.type [v] = some y := by
  rcases open_slice ht h with h0 | ⟨a, len, cap, m, n, D, Pl, hcs, hb, hl, hm, hmm, hx, hi⟩
  · exact .inl h0
  · refine .inr ⟨a, len, cap, m, D, Pl, hcs, hl, hmm, by rw [hx], fun i him => ?_⟩
    obtain ⟨cs', hc, ht'⟩ := hi i him
    rw [hC] at hc
    obtain ⟨ys, n', hn', hy, hlen, hyl, hf⟩ := DataW.trod_struct he ht'
    obtain ⟨_, hcl, hat⟩ := World.cells?_some hc
    simp only [Prod.mk.injEq] at hy
    refine ⟨ys, n', hy.1, hyl, fun j f hj => ?_⟩
    obtain ⟨ho, hk⟩ := hone_of hone j f hj
    have hjl : j < fs.size := (Array.getElem?_eq_some_iff.1 hj).1
    have hcell := hat j hjl
    have hv : cs'[j]? = some (cs'[j]'(by omega)) := List.getElem?_eq_getElem (by omega)
    have h1 := hf j f hj
    rw [ho, hk] at h1
    have hone' : (cs'.drop j).take 1 = [cs'[j]'(by omega)] := by
      rw [List.drop_eq_getElem_cons (by omega)]
      rfl
    rw [hone'] at h1
    have hys : ys[j]? = some (ys[j]'(by omega)) := List.getElem?_eq_getElem (by omega)
    refine ⟨_, _, ?_, hys, h1.trans hys⟩
    rw [← Go.Deep.add_add, hcell, hv]

theorem weightsAll_mem {e : TypeId} : ∀ {l : List (DataW H)} {d : DataW H}, d ∈ l → ∀ n ∈ d.weights P e, n ∈ DataW.weightsAll P e l
  | x :: l, d, hd, n, hn => by
    rcases List.mem_cons.1 hd with rfl | hd
    · simp only [DataW.weightsAll, List.mem_append]; exact .inl hn
    · simp only [DataW.weightsAll, List.mem_append]; exact .inr (weightsAll_mem hd n hn)
end

/-- What the reading of the law's slots gives the walk. -/
theorem slots_of {H : Type} {enc : TypeId × Value → H} {W : World} {fuel : Nat} {v : Value} {x : DataW H × List MemPlace} (hv : ∃ a len cap, v = .slice a len cap) {ts : List TypeId} {ds : List (DataW H)}
    (h : DataW.trod enc Tryz.prog W 0 (fun _ => true) true fuel 22 [v] = some x) (hsz : (DataW.weightsEach Tryz.prog (22 :: ts) (x.1 :: ds)).all (· ≤ reachBytes) = true) :
    ∃ A n c, v = .slice A n c ∧ SlotsAt W A n := by
  have c51 : Tryz.prog.cellsOf 51 = 3 := by kernel_rfl
  have c36 : Tryz.prog.cellsOf 36 = 1 := by kernel_rfl
  have b51 : Tryz.prog.bytesOf 51 = 40 := by kernel_rfl
  have b36 : Tryz.prog.bytesOf 36 = 4 := by kernel_rfl
  rcases open_slice_fields Tryz.underlying22 Tryz.underlying51 (by kernel_rfl) c51 h with ⟨hcs, _⟩ | ⟨a, len, cap, m, D, Pl, hcs, hl, hm, hx, hi⟩
  · simp only [List.cons.injEq, and_true] at hcs
    subst hcs
    exact ⟨none, 0, 0, rfl, by omega, fun i hi => by omega⟩
  · simp only [List.cons.injEq, and_true] at hcs
    subst hcs
    simp only [if_true] at hm
    subst hm
    have hw := List.all_eq_true.1 hsz
    have hlen : 40 * len ≤ 281474976710656 := by
      have := hw ((((List.range len).map D).length + ((List.range (m - len)).map fun j => D (len + j)).length) * 40) (by
        refine DataW.weights_mem_each (j := 0) (t := 22) (d := x.1) rfl rfl _ ?_
        rw [hx]; simp [DataW.weights, Tryz.underlying22, b51])
      simp [reachBytes] at this
      omega
    obtain ⟨b, o, spot⟩ := a
    have hspot : 0 < len → spot = none := fun h0 => by
      obtain ⟨ys, n, _, _, hf⟩ := hi 0 (by omega)
      obtain ⟨v0, y0, e0, _⟩ := hf 0 _ rfl
      have := World.cell?_spot e0
      simpa [Addr.add] using this
    refine ⟨some ⟨b, o, spot⟩, len, m, rfl, hlen, fun i hil => ?_⟩
    obtain rfl := hspot (by omega)
    obtain ⟨ys, n, hD, hyl, hf⟩ := hi i (by omega)
    obtain ⟨v0, y0, e0, q0, t0⟩ := hf 0 _ rfl
    obtain ⟨v1, y1, e1, q1, t1⟩ := hf 1 _ rfl
    obtain ⟨v2, y2, e2, q2, t2⟩ := hf 2 _ rfl
    obtain ⟨loc, k0, _⟩ := DataW.trod_int Tryz.underlying3 t0
    obtain ⟨bi, k1, _⟩ := DataW.trod_int Tryz.underlying3 t1
    simp only [List.cons.injEq, and_true] at k0 k1
    subst k0; subst k1
    have ad : ∀ j, Addr.add ⟨b, o, none⟩ j = ⟨b, o + j, none⟩ := fun j => Go.WideShapes.add_plain ..
    rw [ad] at e0 e1 e2
    refine ⟨b, o, rfl, ?_⟩
    have words : ∃ B k c', v2 = .slice B k c' ∧ 4 * k ≤ 281474976710656 ∧ ∀ j, j < k → ∃ b' o' z, B = some ⟨b', o', none⟩ ∧ W.cell? ⟨b', o' + j, none⟩ = some (.int .u32 z) := by
      rcases open_ints Tryz.underlying49 Tryz.underlying36 c36 t2 with ⟨hc, _⟩ | ⟨a', len', cap', zs, hc, _, hl', hm', hz, hx', hcell, _⟩
      · simp only [List.cons.injEq, and_true] at hc
        exact ⟨none, 0, 0, hc, by omega, fun j hj => by omega⟩
      · simp only [List.cons.injEq, and_true] at hc
        simp only [if_true] at hz
        refine ⟨some a', len', cap', hc, ?_, fun j hj => ?_⟩
        · have hmem : y2.1 ∈ ys.map (·.1) := List.mem_map.2 ⟨y2, List.mem_of_getElem? q2, rfl⟩
          have := hw ((zs.take len').length * 4 + (zs.drop len').length * 4) (by
            refine DataW.weights_mem_each (j := 0) (t := 22) (d := x.1) rfl rfl _ ?_
            rw [hx]
            simp only [DataW.weights, Tryz.underlying22, b51, List.mem_cons, List.mem_append]
            refine .inr (.inl (weightsAll_mem (d := D i) (List.mem_map.2 ⟨i, List.mem_range.2 hil, rfl⟩) _ ?_))
            rw [hD]
            simp only [DataW.weights, Tryz.underlying51]
            refine DataW.weights_mem_each (j := 2) (t := 49) (d := y2.1) rfl (by rw [List.getElem?_map, q2]; rfl) _ ?_
            rw [hx']
            simp [DataW.weights, Tryz.underlying49, b36, lits, Nat.add_mul])
          simp [reachBytes] at this
          omega
        · obtain ⟨b', o', rfl, hc'⟩ := ints_at hcell (by omega)
          exact ⟨b', o', _, rfl, hc' j (by omega)⟩
    obtain ⟨B, k, c', rfl, w1, w2⟩ := words
    exact ⟨loc, bi, B, k, c', e0, e1, e2, w1, w2⟩

end Go.Proofs.YtdnhkdipfnediaaGreatDoor
