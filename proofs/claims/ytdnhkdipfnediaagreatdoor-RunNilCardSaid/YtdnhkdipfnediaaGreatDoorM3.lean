/- The statement 'RunNil': whatever the input, the law returns true; the input reads as it did. No condition. -/
import Derived.Test.YtdnhkdipfnediaaGreatDoorM2
import Derived.Test.YtdnhkdipfnediaaGreatDoorF
import Derived.Test.YtdnhkdipfnediaaGreatDoorTie
import Derived.Test.YtdnhkdipfnediaaGreatDoorCards
import Derived.SevenTiedAt
namespace Go.Proofs.YtdnhkdipfnediaaGreatDoor
open Go

theorem inst7 : Tryz.f3.isInstance Tryz.prog Rows.runNilRow.origin Rows.runNilRow.targs := of_decide_eq_true (by kernel_rfl)
theorem wrap7 : Tryz.f3.isWrapper Tryz.prog Rows.runNilRow.wrapper Rows.runNilRow.mainSum := by
  unfold Func.isWrapper
  first
    | (rw [if_pos (by decide +kernel)]; kernel_rfl)
    | (rw [if_neg (by decide +kernel)]; exact ⟨rfl, rfl⟩)
theorem runNil_holds : Rows.RunNilSaid :=
  OpenClaim.holds_of_wide_leaving 3 Tryz.f3 rfl rfl rfl rfl rfl rfl rfl ⟨rfl, rfl, rfl, rfl, rfl⟩ rfl rfl rfl rfl rfl named Tryz.func3 joined inst7 wrap7
    (fun os started H enc _ => leaving_of_handed (lifted os started H enc))

theorem wf7 : Rows.runNilRow.wfByText (OpenSpec.ofChange Rows.runNilSpec) = true := by kernel_rfl
theorem unf7 : Tryz.prog.unfollowed 3 = true := by kernel_rfl
theorem any7 : Tryz.prog.funcs.any Func.goes = true := by kernel_rfl
theorem goes7 : true = Rows.runNilRow.goesBy Tryz.prog := by
  have h : Tryz.prog.goes 3 = true := by
    unfold Program.goes
    rw [unf7, any7]
    simp
  have e : Rows.runNilRow.goesBy Tryz.prog = (Tryz.prog.goesFrom Rows.runNilRow.func || false) := rfl
  rw [e]
  unfold Program.goesFrom
  rw [named]
  simp [h]
theorem main7 : Tryz.prog.mainIs = some (true, "a214eaad32e07486dc3d3919f3e66644c7567dda5913f54d03205d372890dbba".toList) := by kernel_rfl
theorem looks7 : false = Tryz.prog.looks [] := by kernel_rfl
theorem stand7 : ([22, 3, 3].all fun u => !Tryz.prog.wantsStandIn u) = true := by kernel_rfl

/-- The card of the law: the tied row holds. -/
theorem card_holds : Rows.RunNilCardSaid := by
  refine ⟨Claim7.tied_new_at .later [.data, .data, .data] true (Claim7.new_of_sixth runNil_holds (true, "a214eaad32e07486dc3d3919f3e66644c7567dda5913f54d03205d372890dbba") false rfl ⟨rfl, rfl⟩ main7 (by simp [Claim7.isSixth])
    (fun f fn hf hfn => ?_)) wf7, (fun D hD => by cases hD), runNil_row_tie, (fun h => by cases h), goes7⟩
  obtain rfl : f = 3 := Option.some.inj (named.symm.trans hf) |>.symm
  obtain rfl : fn = Tryz.f3 := (Option.some.inj (Tryz.func3.symm.trans hfn)).symm
  exact ⟨looks7, fun j t ht => by
    rw [Tryz.params3] at ht
    have hm : t ∈ [22, 3, 3] := by simpa using Array.mem_of_getElem? ht
    exact (show Tryz.prog.wantsStandIn t = false by simpa using List.all_eq_true.1 stand7 t hm)⟩
#print axioms card_holds
end Go.Proofs.YtdnhkdipfnediaaGreatDoor
