/-
  One part of the closed call. Conditions: none.
-/
import Derived.Test.YthhckoogdofhgaaGreatDoorWakes0
namespace Go.Proofs.YthhckoogdofhgaaGreatDoor.Wakes
open Go AM
set_option maxRecDepth 1000000
theorem part6 : viewOf names6 (runK Tryz.prog (go Tryz.prog 1000000) 13 (view5.fr 4) (Ctx.at 1) (view5.st names5)) = some view6 := by kernel_rfl
end Go.Proofs.YthhckoogdofhgaaGreatDoor.Wakes
