/-
  One part of the closed call. Conditions: none.
-/
import Derived.Test.YthhckoogdofhgaaGreatDoorWakes0
namespace Go.Proofs.YthhckoogdofhgaaGreatDoor.Wakes
open Go AM
set_option maxRecDepth 1000000
theorem part5 : viewOf names5 (runK Tryz.prog (go Tryz.prog 1000000) 26 (view4.fr 4) (Ctx.at 1) (view4.st names4)) = some view5 := by kernel_rfl
end Go.Proofs.YthhckoogdofhgaaGreatDoor.Wakes
