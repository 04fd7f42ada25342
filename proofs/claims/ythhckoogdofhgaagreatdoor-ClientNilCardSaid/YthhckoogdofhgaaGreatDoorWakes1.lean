/-
  One part of the closed call. Conditions: none.
-/
import Derived.Test.YthhckoogdofhgaaGreatDoorWakes0
namespace Go.Proofs.YthhckoogdofhgaaGreatDoor.Wakes
open Go AM
set_option maxRecDepth 1000000
theorem part1 : viewOf names1 (runK Tryz.prog (go Tryz.prog 1000000) 10 (enterFr 4 fn body []) (Ctx.at 1) st0) = some view1 := by kernel_rfl
end Go.Proofs.YthhckoogdofhgaaGreatDoor.Wakes
