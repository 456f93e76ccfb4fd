/- What the laws of the seat share: the set-up's closed facts. -/
import Derived.Test.YtgmkfjgkpakhfaaRows
import Derived.Test.YtgmkfjgkpakhfaaFrame
import Derived.Test.YtgmkfjgkpakhfaaAlive
namespace Go.Proofs.Ytgmkfjgkpakhfaa
open Go.RowKit Go.ChangeShapes Go.WideShapes Go.ChangeAt
set_option linter.unusedVariables false
theorem own : ownKnob Try.prog.godebug = none := by kernel_rfl
theorem laidOut : laidOutB Try.prog = true := by kernel_rfl
theorem bytes32 : Try.prog.bytesOf 32 = 40 := by kernel_rfl
theorem len_ok {n : Nat} (h : n * Try.prog.bytesOf 32 ≤ reachBytes) : n ≤ 4000000000000 := by
  rw [bytes32] at h
  have : reachBytes < 140737488355328 := by simpa using reachBytes_lt
  omega
end Go.Proofs.Ytgmkfjgkpakhfaa
