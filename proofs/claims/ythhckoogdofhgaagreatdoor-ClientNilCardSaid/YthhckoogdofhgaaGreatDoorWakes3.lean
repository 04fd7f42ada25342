/-
  One part of the closed call. Conditions: none.
-/
import Derived.Test.YthhckoogdofhgaaGreatDoorWakes0
namespace Go.Proofs.YthhckoogdofhgaaGreatDoor.Wakes
open Go AM
set_option maxRecDepth 1000000
theorem part3 : viewOf names3 (runK Tryz.prog (go Tryz.prog 1000000) 30 (view2.fr 4) (Ctx.at 1) (view2.st names2)) = some view3 := by kernel_rfl
end Go.Proofs.YthhckoogdofhgaaGreatDoor.Wakes
