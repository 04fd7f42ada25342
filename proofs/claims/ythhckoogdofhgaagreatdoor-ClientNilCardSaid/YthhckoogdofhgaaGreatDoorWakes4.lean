/-
  One part of the closed call. Conditions: none.
-/
import Derived.Test.YthhckoogdofhgaaGreatDoorWakes0
namespace Go.Proofs.YthhckoogdofhgaaGreatDoor.Wakes
open Go AM
set_option maxRecDepth 1000000
theorem part4 : viewOf names4 (runK Tryz.prog (go Tryz.prog 1000000) 10 (view3.fr 4) (Ctx.at 1) (view3.st names3)) = some view4 := by kernel_rfl
end Go.Proofs.YthhckoogdofhgaaGreatDoor.Wakes
