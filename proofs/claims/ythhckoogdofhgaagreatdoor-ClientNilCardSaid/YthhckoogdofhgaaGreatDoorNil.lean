/-
  ClientNil answers true for every two numbers, and what it reads stays as it was. Conditions: the row's own (the table fletch/crc.half stands as the program's text lays it).
-/
import Derived.Test.YthhckoogdofhgaaGreatDoorCards
import Derived.Test.YthhckoogdofhgaaGreatDoorTie
import Derived.Test.YthhckoogdofhgaaGreatDoorWakesAll
import Derived.WalkKit
import Derived.ProofKit
import Derived.OpenShut
import Derived.Deep.DeepHandedRow
import Derived.Lib.LaidTab
namespace Go.Proofs.YthhckoogdofhgaaGreatDoor.clientNil
open Go.ChangeShapes Go.WideShapes Go.ChangeAt Go.RowKit AM
set_option maxRecDepth 1000000

theorem own : ownKnob Tryz.prog.godebug = none := by kernel_rfl
theorem gTab : Tryz.prog.globalNamed "fletch/crc.half" = some 0 := by kernel_rfl
theorem gTabType : (Tryz.prog.globals[0]?).map (·.type) = some 290 := by kernel_rfl
theorem cells290 : Tryz.prog.cellsOf 290 = 16 := by kernel_rfl
theorem cells196 : Tryz.prog.cellsOf 196 = 1 := by kernel_rfl

theorem table {W : World} (h : laidMetH Tryz.prog Rows.clientNilRow.laid W) : Lib.TabIs Tryz.prog W "fletch/crc.half" .u32 Wakes.tab :=
  Lib.tabIs_of_head (rest := []) gTab gTabType Tryz.underlying290 Tryz.underlying196 cells196 cells290 h

theorem tabAt {W : World} (h : Lib.TabIs Tryz.prog W "fletch/crc.half" .u32 Wakes.tab) : TabAt .u32 Wakes.tab W := by
  unfold Lib.TabIs World.var? at h
  rw [gTab] at h
  simp only [Option.bind_some] at h
  cases hh : W.heap[0]? with
  | none => rw [hh] at h; cases h
  | some o =>
    cases o with
    | cells c el fz =>
      rw [hh] at h
      simp only [Option.some.injEq] at h
      subst h
      exact ⟨_, el, fz, hh, by simp, List.take_of_length_le (by simp)⟩
    | _ => rw [hh] at h; cases h

noncomputable def fn : Func := Tryz.f3
noncomputable def body : Code := (Tryz.f3.body).getD .skip
theorem bodyIs : bodyOf Tryz.prog 3 = some (fn, body) := by kernel_rfl
noncomputable def M0 : Goal → M GRes := goS Tryz.prog (summ 4 .u32 Wakes.tab (.bool true)) 1000000
theorem lastPart : ∀ id obj : Int, (lastA Tryz.prog M0 (enterFr 3 fn body [.int .i64 id, .int .i64 obj]) fn (Ctx.at 1) Wakes.st0).map Prod.fst = some (AV.bool true) := by
  intro id obj
  kernel_rfl

theorem walk (id obj : Int) (W : World) (ht : TabAt .u32 Wakes.tab W) : Calls Tryz.prog 3 #[.int .i64 id, .int .i64 obj] W fun e w' => e = .returned (.bool true) ∧ Grown W w' := by
  have hw : Tryz.prog.globals.size ≤ W.heap.size := by
    rw [Wakes.globals1]
    obtain ⟨c, el, fz, h1, _⟩ := ht
    have := (Array.getElem?_eq_some_iff.1 h1).1
    omega
  have hM : RecOK Tryz.prog W 1 M0 := goS_ok (fun rec h => summ_ok h (by rw [Wakes.globals1]; omega) (fun φ => by simp only [VR]) (fun w h1 h2 => Wakes.calls w h1 h2)) 1000000
  have r0 : Reached Tryz.prog W 1 3 #[.int .i64 id, .int .i64 obj] (enterFr 3 fn body [.int .i64 id, .int .i64 obj]) Wakes.st0 :=
    Reached.begin (e := 196) bodyIs (fun φ => .cons (by simp only [VR]) (.cons (by simp only [VR]) .nil)) Wakes.globals1 hw ht
  have hl := lastPart id obj
  cases hq : lastA Tryz.prog M0 (enterFr 3 fn body [.int .i64 id, .int .i64 obj]) fn (Ctx.at 1) Wakes.st0 with
  | none => rw [hq] at hl; cases hl
  | some p =>
    obtain ⟨a, s'⟩ := p
    rw [hq] at hl
    simp only [Option.map_some, Option.some.injEq] at hl
    subst hl
    exact (r0.last hM (x := Ctx.at 1) (Nat.le_refl 1) rfl rfl bodyIs hq (fun φ u h => by simpa only [VR] using h)).mono fun e w' ⟨h1, h2⟩ => ⟨h1, h2.grown⟩

theorem contract (H : Type) (enc : TypeId × Value → H) (W : World) (base : Nat) (args : Array Value) (ds gs : List (DataW H)) (before : List MemPlace)
    (hval : ∀ (j : Nat) t v, Tryz.f3.params[j]? = some t → args[j]? = some v → Value.okWide Tryz.prog W .any base t v)
    (hW : DataW.Whole enc Tryz.prog Tryz.f3.params.toList Rows.clientNilSpec.vars false W args.toList ds gs before) (hL : laidMetH Tryz.prog Rows.clientNilRow.laid W) :
    Calls Tryz.prog 3 args W fun e W' => ∃ v, e = .returned v ∧ Rows.clientNilSpec.post enc Tryz.prog Tryz.f3 false true false false W args v W' := by
  have hW' := hW
  obtain ⟨p, q, hA0, hV, rfl, hfz, hnd⟩ := hW
  have hA : DataW.TrodAll enc Tryz.prog W 0 (fun _ => true) true Tryz.f3.params.toList args.toList ds p := hA0
  rw [Tryz.params3] at hA hval
  obtain ⟨v0, v1, d0, d1, p0, p1, rfl, rfl, rfl, h0, h1⟩ := trodAll_two hA
  obtain ⟨rfl, rfl⟩ := trodVars_none hV
  obtain ⟨n0, rfl, rfl, rfl, w0⟩ := open_int Tryz.underlying3 (hval 0 3 v0 rfl rfl) h0
  obtain ⟨n1, rfl, rfl, rfl, w1⟩ := open_int Tryz.underlying3 (hval 1 3 v1 rfl rfl) h1
  clear hA0
  simp only [List.append_nil] at hW'
  refine (walk n0 n1 W (tabAt (table hL))).mono fun e W' ⟨he, hg⟩ => ?_
  subst he
  exact ⟨_, rfl, post_of_same (pa := []) (pv := []) hW' (fun _ _ _ => trodAll_cons_mk (shut_bool Tryz.underlying4 _) trodAll_mk0)
    (fun _ _ => trodAll_cons_mk (shut_int Tryz.underlying3 w0) (trodAll_cons_mk (shut_int Tryz.underlying3 w1) trodAll_mk0)) (fun _ _ => rfl) rfl
    (hg.frame _) hg.2.1 (ok_one (by kernel_rfl) rfl (okWide_bool_mk Tryz.underlying4 _))⟩

noncomputable def laidWorld (os : Os) : World :=
  { World.holding Tryz.prog os ⟨#[], #[], []⟩ with heap := (World.holding Tryz.prog os ⟨#[], #[], []⟩).heap.modify 0 fun
      | .cells _ t frozen => .cells (Wakes.tab.map fun z => Value.int .u32 z).toArray t frozen
      | o => o }
theorem laid_met (os : Os) : laidMet Tryz.prog Rows.clientNilRow.laid ((laidWorld os).forCall (fun _ _ => 0) ⟨#[], #[.int .i64 0, .int .i64 0], []⟩).memory :=
  laidMet_of_run' 8 (by kernel_rfl) (by kernel_rfl)
theorem reads (os : Os) {H : Type} (enc : TypeId × Value → H) : ∃ places, DataW.whole enc Tryz.prog ((laidWorld os).forCall (fun _ _ => 0) ⟨#[], #[.int .i64 0, .int .i64 0], []⟩).memory Tryz.f3.params.toList Rows.clientNilSpec.vars false #[Value.int .i64 0, Value.int .i64 0].toList 8 = some ([.lit (.int .i64 0), .lit (.int .i64 0)], [], places) :=
  ⟨[], by kernel_rfl⟩

theorem lifted (os : Os) (started : os.Started) (H : Type) (enc : TypeId × Value → H) (F : Stop.Interp) :
    ReturnsInHanded {} Tryz.checked os 3 .any ((OpenSpec.ofChange Rows.clientNilSpec).preRow enc Tryz.prog Tryz.f3 Rows.clientNilRow.domain false Rows.clientNilRow.laid) (((OpenSpec.ofChange Rows.clientNilSpec).at F).post enc Tryz.prog Tryz.f3 false true false false) := by
  obtain ⟨places, hx⟩ := reads os enc
  refine returnsInHanded_of_row (C := Tryz.checked) (s := OpenSpec.ofChange Rows.clientNilSpec) own started (by kernel_rfl) Tryz.func3
    (witness_row_at (enc := enc) (C := Tryz.checked) false (laidWorld os) #[.int .i64 0, .int .i64 0] rfl (by kernel_rfl) (by kernel_rfl) (by kernel_rfl)
      (OpenSpec.preRow_of_cond 8 hx (by kernel_rfl) (fun k hk => by cases hk) (by kernel_rfl) (laid_met os))) ?_
  intro W base args ds gs before hval hW _ _ _ hL _ _
  exact contract H enc W base args ds gs before hval hW hL

theorem said : Rows.ClientNilSaid :=
  OpenClaim.holds_of_cond 3 Tryz.f3 rfl rfl rfl rfl rfl rfl rfl ⟨rfl, rfl, rfl, rfl, rfl⟩ rfl rfl rfl rfl rfl (by kernel_rfl) Tryz.func3 (by kernel_rfl)
    (of_decide_eq_true (by kernel_rfl)) (by unfold Func.isWrapper; first | (rw [if_pos (by decide +kernel)]; kernel_rfl) | (rw [if_neg (by decide +kernel)]; exact ⟨rfl, rfl⟩))
    (fun os started H enc _ F => by rw [OpenClaim.pre_eq_preRow]; exact lifted os started H enc F)

theorem plain (f : FuncId) (fn : Func) (hf : Tryz.pinned.checked.prog.funcNamed "fletch/fletchlaw24.ClientNil" = some f) (hfn : Tryz.pinned.checked.prog.funcs[f]? = some fn) :
    true = Tryz.pinned.checked.prog.looks [] ∧ ∀ (j : Nat) t, fn.params[j]? = some t → Tryz.pinned.checked.prog.wantsStandIn t = false := by
  obtain rfl : f = 3 := Option.some.inj ((show Tryz.prog.funcNamed "fletch/fletchlaw24.ClientNil" = some 3 by kernel_rfl).symm.trans hf) |>.symm
  obtain rfl : fn = Tryz.f3 := (Option.some.inj (Tryz.func3.symm.trans hfn)).symm
  refine ⟨by kernel_rfl, fun j t ht => ?_⟩
  rw [Tryz.params3] at ht
  obtain rfl : t = 3 := by simpa using Array.mem_of_getElem? ht
  exact (show Tryz.prog.wantsStandIn 3 = false by kernel_rfl)

/-- THE CARD. -/
theorem card : Rows.ClientNilCardSaid :=
  Claim7.holds_tied_plain_at .later [] _ _ _ _ said (fun _ h => by cases h) (by kernel_rfl) (fun _ h => by cases h) clientNil_row_tie rfl ⟨rfl, rfl⟩ (by kernel_rfl) rfl plain (by kernel_rfl)
end Go.Proofs.YthhckoogdofhgaaGreatDoor.clientNil
