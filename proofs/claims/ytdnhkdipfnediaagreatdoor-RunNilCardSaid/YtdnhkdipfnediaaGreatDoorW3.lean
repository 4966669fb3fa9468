/- The law, walked. No condition: contracts. -/
import Derived.Test.YtdnhkdipfnediaaGreatDoorW
import Derived.Test.YtdnhkdipfnediaaGreatDoorTab
namespace Go.Proofs.YtdnhkdipfnediaaGreatDoor
open Go Go.RowKit
open Go.AE (pure_ok PureOk calls_true pure_calls Gives Rep Reps plOf AV Caller)

/-- No run. -/
abbrev ranV : Value := .agg #[.int .u8 0, .int .i64 0, .slice none 0 0]
/-- No face. -/
abbrev faceV : Value := .agg #[.string ⟨#[]⟩, .int .u32 0, .int .u32 0, .slice none 0 0, .slice none 0 0]

set_option maxHeartbeats 400000 in
theorem run_none (x : Value) (f : Int) (w : World) : Calls Tryz.prog 4 #[.pointer none, x, .int .i64 f] w fun e w' => e = .returned (.tuple #[ranV, .int .i64 1]) ∧ Below w.heap.size w w' := by
  go_enter Tryz.func4, Tryz.ntmps4
  go_wp2
  exact bodyPost_ret (v := .tuple #[ranV, .int .i64 1]) (by simp [results, Tryz.results4, go_sem]) rfl ⟨rfl, (Below.refl _ _).alloc (Nat.le_refl _) _⟩

set_option maxHeartbeats 400000 in
theorem many_none (f k : Int) (w : World) : Calls Tryz.prog 6 #[.pointer none, .slice none 0 0, .int .i64 f, .int .i64 k] w fun e w' => e = .returned (.tuple #[.slice none 0 0, .int .i64 0, .int .i64 1]) ∧ Below w.heap.size w w' := by
  go_enter Tryz.func6, Tryz.ntmps6
  go_wp2
  go_ret3
  exact ⟨rfl, (((Below.refl _ _).alloc (Nat.le_refl _) _).alloc (by simp) _).alloc (by simp; omega) _⟩

/-- Two runs that are none are the same. -/
theorem ran_same (w : World) : Calls Tryz.prog 7 #[ranV, ranV] w fun e w' => e = .returned (.bool true) ∧ Below w.heap.size w w' :=
  calls_true (args := [.agg [.int .u8 0, .int .i64 0, .nilSlice], .agg [.int .u8 0, .int .i64 0, .nilSlice]]) (pure_ok ev1_ok (by kernel_rfl)) ⟨_, _, rfl, ⟨_, rfl, _, _, rfl, rfl, _, _, rfl, rfl, _, _, rfl, rfl, rfl⟩, _, _, rfl, ⟨_, rfl, _, _, rfl, rfl, _, _, rfl, rfl, _, _, rfl, rfl, rfl⟩, rfl⟩ w

/-- Two faces that are none are the same. -/
theorem face_same (w : World) : Calls Tryz.prog 8 #[faceV, faceV] w fun e w' => e = .returned (.bool true) ∧ Below w.heap.size w w' :=
  calls_true (args := [.agg [.str [], .int .u32 0, .int .u32 0, .nilSlice, .nilSlice], .agg [.str [], .int .u32 0, .int .u32 0, .nilSlice, .nilSlice]]) (pure_ok ev1_ok (by kernel_rfl))
    ⟨_, _, rfl, ⟨_, rfl, _, _, rfl, ⟨_, rfl, rfl⟩, _, _, rfl, rfl, _, _, rfl, rfl, _, _, rfl, rfl, _, _, rfl, rfl, rfl⟩, _, _, rfl, ⟨_, rfl, _, _, rfl, ⟨_, rfl, rfl⟩, _, _, rfl, rfl, _, _, rfl, rfl, _, _, rfl, rfl, _, _, rfl, rfl, rfl⟩, rfl⟩ w

set_option maxHeartbeats 400000 in
/-- No shader's face. -/
theorem face_none (w : World) : Calls Tryz.prog 9 #[.pointer none] w fun e w' => e = .returned faceV ∧ Below w.heap.size w w' := by
  go_enter Tryz.func9, Tryz.ntmps9
  go_wp2
  exact bodyPost_ret (v := faceV) (by simp [results, Tryz.results9, go_sem]) rfl ⟨rfl, (Below.refl _ _).alloc (Nat.le_refl _) _⟩

theorem bcell {W w1 : World} (hb : Below W.heap.size W w1) : ∀ b o, b < W.heap.size → w1.cell? ⟨b, o, none⟩ = W.cell? ⟨b, o, none⟩ := fun b o h => hb.cell (p := ⟨b, o, none⟩) h

set_option maxHeartbeats 1000000 in
theorem runNil_any (hawake : PureOk Tryz.prog 10 [] (.bool true)) (A : Option Addr) (n c : Nat) (fu wk : Int) (w : World) (hS : SlotsAt w A n) :
    Calls Tryz.prog 3 #[.slice A n c, .int .i64 fu, .int .i64 wk] w fun e w' => e = .returned (.bool true) ∧ Below w.heap.size w w' := by
  go_enter Tryz.func3, Tryz.ntmps3
  go_wp2_with (first
    | (go_at_call 5; refine (copied_any A n c _ hS).mono ?_; rintro e w1 ⟨rfl, hb1⟩)
    | (go_at_call 4; refine (run_none _ fu _).mono ?_; rintro e w2 ⟨rfl, hb2⟩)
    | (go_at_call 6; refine (many_none fu wk _).mono ?_; rintro e w3 ⟨rfl, hb3⟩; have hc3 := bcell hb3)
    | (go_at_call 7; refine (ran_same _).mono ?_; rintro e w4 ⟨rfl, hb4⟩)
    | (go_at_call 9; refine (face_none _).mono ?_; rintro e w5 ⟨rfl, hb5⟩)
    | (go_at_call 8; refine (face_same _).mono ?_; rintro e w6 ⟨rfl, hb6⟩)
    | (go_at_call 10; refine (calls_true hawake (args' := #[]) rfl _).mono ?_; rintro e w7 ⟨rfl, hb7⟩))
  clear hc3
  have s1 := hb1.size
  have s2 := hb2.size
  have s3 : w2.heap.size + 1 ≤ w3.heap.size := by simpa using hb3.size
  have s4 := hb4.size
  have s5 := hb5.size
  have s6 := hb6.size
  go_ret
  exact ⟨rfl, (((((((hb1.trans (hb2.mono s1)).alloc (by omega) _).trans (hb3.mono (by simp; omega))).trans (hb4.mono (by omega))).trans (hb5.mono (by omega))).trans (hb6.mono (by omega))).trans (hb7.mono (by omega)))⟩
end Go.Proofs.YtdnhkdipfnediaaGreatDoor
