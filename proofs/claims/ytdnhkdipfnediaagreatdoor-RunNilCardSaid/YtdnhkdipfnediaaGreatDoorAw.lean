/- The closed part of the law. No condition: lemmas. -/
import Derived.Test.YtdnhkdipfnediaaGreatDoorS3a
import Derived.Test.YtdnhkdipfnediaaGreatDoorS3b
import Derived.Test.YtdnhkdipfnediaaGreatDoorS3c
namespace Go.Proofs.YtdnhkdipfnediaaGreatDoor
open Go Go.AE
set_option maxRecDepth 100000
set_option maxHeartbeats 0
noncomputable def memo4 : Memo := (memoOne e205 (memoOne e204 (memoOne e203 (memoOne e202 (memoOne e201 (memoOne e200 (memoOne e199 (memoOne e198 memo3))))))))
theorem memo4_ok : MemoOk Tryz.prog memo4 := (memoOne_ok s205 (memoOne_ok s204 (memoOne_ok s203 (memoOne_ok s202 (memoOne_ok s201 (memoOne_ok s200 (memoOne_ok s199 (memoOne_ok s198 memo3_ok))))))))
noncomputable def ev4 : Caller := evCallR env rts memo4 100000 100
theorem ev4_ok : CallOk Tryz.prog ev4 := evCallR_ok envOk rts_ok memo4_ok 100000 100
theorem awake_chk : pureChk ev4 10 [] (.bool true) = true := by kernel_rfl
theorem awake_ok : PureOk Tryz.prog 10 [] (.bool true) := pure_ok ev4_ok awake_chk
end Go.Proofs.YtdnhkdipfnediaaGreatDoor
