/-
  A closed call of the program answers true in every world that holds the table; nothing that was there turns. Conditions: the table stands in block 0.
-/
import Derived.Test.YthhckoogdofhgaaGreatDoorWakes1
import Derived.Test.YthhckoogdofhgaaGreatDoorWakes2
import Derived.Test.YthhckoogdofhgaaGreatDoorWakes3
import Derived.Test.YthhckoogdofhgaaGreatDoorWakes4
import Derived.Test.YthhckoogdofhgaaGreatDoorWakes5
import Derived.Test.YthhckoogdofhgaaGreatDoorWakes6
import Derived.Test.YthhckoogdofhgaaGreatDoorWakes7
namespace Go.Proofs.YthhckoogdofhgaaGreatDoor.Wakes
open Go AM
theorem globals1 : Tryz.prog.globals.size = 1 := by kernel_rfl
theorem calls (w : World) (hw : Tryz.prog.globals.size ≤ w.heap.size) (ht : TabAt .u32 tab w) : Calls Tryz.prog 4 #[] w fun e w' => e = .returned (.bool true) ∧ Grew w w' := by
  have r0 : Reached Tryz.prog w 1 4 #[] (enterFr 4 fn body []) st0 := Reached.begin (e := 196) bodyIs (fun _ => .nil) globals1 hw ht
  have r1 := r0.part (names := names1) (v := view1) (go_sound 1000000) (x := Ctx.at 1) (Nat.le_refl 1) rfl rfl rfl part1
  have r2 := r1.part (names := names2) (v := view2) (go_sound 1000000) (x := Ctx.at 1) (Nat.le_refl 1) rfl rfl rfl part2
  have r3 := r2.part (names := names3) (v := view3) (go_sound 1000000) (x := Ctx.at 1) (Nat.le_refl 1) rfl rfl rfl part3
  have r4 := r3.part (names := names4) (v := view4) (go_sound 1000000) (x := Ctx.at 1) (Nat.le_refl 1) rfl rfl rfl part4
  have r5 := r4.part (names := names5) (v := view5) (go_sound 1000000) (x := Ctx.at 1) (Nat.le_refl 1) rfl rfl rfl part5
  have r6 := r5.part (names := names6) (v := view6) (go_sound 1000000) (x := Ctx.at 1) (Nat.le_refl 1) rfl rfl rfl part6
  have hl := lastPart
  cases hq : lastA Tryz.prog (go Tryz.prog 1000000) (view6.fr 4) fn (Ctx.at 1) (view6.st names6) with
  | none => rw [hq] at hl; cases hl
  | some p =>
    obtain ⟨a, s'⟩ := p
    rw [hq] at hl
    simp only [Option.map_some, Option.some.injEq] at hl
    subst hl
    exact r6.last (go_sound 1000000) (x := Ctx.at 1) (Nat.le_refl 1) rfl rfl bodyIs hq (fun φ u h => by simpa only [VR] using h)
end Go.Proofs.YthhckoogdofhgaaGreatDoor.Wakes
