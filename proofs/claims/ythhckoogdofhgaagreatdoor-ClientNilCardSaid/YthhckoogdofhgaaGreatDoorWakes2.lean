/-
  One part of the closed call. Conditions: none.
-/
import Derived.Test.YthhckoogdofhgaaGreatDoorWakes0
namespace Go.Proofs.YthhckoogdofhgaaGreatDoor.Wakes
open Go AM
set_option maxRecDepth 1000000
theorem part2 : viewOf names2 (runK Tryz.prog (go Tryz.prog 1000000) 34 (view1.fr 4) (Ctx.at 1) (view1.st names1)) = some view2 := by kernel_rfl
end Go.Proofs.YthhckoogdofhgaaGreatDoor.Wakes
