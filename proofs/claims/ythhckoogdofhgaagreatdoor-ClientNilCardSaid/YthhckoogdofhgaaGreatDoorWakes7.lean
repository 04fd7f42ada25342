/-
  The last part of the closed call. Conditions: none.
-/
import Derived.Test.YthhckoogdofhgaaGreatDoorWakes0
namespace Go.Proofs.YthhckoogdofhgaaGreatDoor.Wakes
open Go AM
set_option maxRecDepth 1000000
theorem lastPart : (lastA Tryz.prog (go Tryz.prog 1000000) (view6.fr 4) fn (Ctx.at 1) (view6.st names6)).map Prod.fst = some (AV.bool true) := by kernel_rfl
end Go.Proofs.YthhckoogdofhgaaGreatDoor.Wakes
