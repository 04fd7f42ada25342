/-
  A lemma text: the abstract machine of the AmDef text reads as the model runs (part AmExec2). Conditions: none; no premise beyond what each theorem states.
-/
import Derived.Test.YthhckoogdofhgaaGreatDoorAmExec
import Derived.Great.BuildSlice
namespace AM
open Go

section
variable {P : Program} {φ : Phi} {w w0 : World} {L0 : Nat} {H : T ABlk} {ρA : Operand → Option AV} {ρ : Operand → Value}

theorem argsA_sound (hρ : ∀ y a, ρA y = some a → VR φ a (ρ y)) : ∀ {l : List Operand} {as : List AV}, argsA ρA l = some as → VRL φ as (l.map ρ)
  | [], as, h => by simp [argsA] at h; subst h; exact .nil
  | y :: r, as, h => by
    unfold argsA at h
    cases h1 : ρA y with
    | none => simp only [h1] at h; cases h
    | some a =>
    cases h2 : argsA ρA r with
    | none => simp only [h1, h2] at h; cases h
    | some as' =>
      simp only [h1, h2, Option.some.injEq] at h
      subst h
      exact .cons (hρ _ _ h1) (argsA_sound hρ h2)

theorem partsA_sound (hρ : ∀ y a, ρA y = some a → VR φ a (ρ y)) : ∀ {l : List (Nat × Operand)} {ps : List (Nat × AV)}, partsA ρA l = some ps → PartsR φ ps (l.map fun p => (p.1, ρ p.2))
  | [], ps, h => by simp [partsA] at h; subst h; exact ⟨rfl, fun i p u hp => by simp at hp⟩
  | (i, y) :: r, ps, h => by
    unfold partsA at h
    cases h1 : ρA y with
    | none => simp only [h1] at h; cases h
    | some a =>
    cases h2 : partsA ρA r with
    | none => simp only [h1, h2] at h; cases h
    | some as' =>
      simp only [h1, h2, Option.some.injEq] at h
      subst h
      obtain ⟨q1, q2⟩ := partsA_sound hρ h2
      refine ⟨by simp [q1], fun j p u hp hu => ?_⟩
      cases j with
      | zero =>
        simp only [List.map_cons, List.getElem?_cons_zero, Option.some.injEq] at hp hu
        subst hp; subst hu
        exact ⟨rfl, hρ _ _ h1⟩
      | succ j => exact q2 j p u (by simpa using hp) (by simpa using hu)

theorem optA_sound (hρ : ∀ y a, ρA y = some a → VR φ a (ρ y)) {o : Option Operand} {r : Option AV} (h : optA ρA o = some r) : OptR φ r (o.map ρ) := by
  unfold optA at h
  cases o with
  | none => cases h; rfl
  | some y =>
    cases h1 : ρA y with
    | none => simp only [h1] at h; cases h
    | some b => simp only [h1] at h; cases h; exact ⟨_, rfl, hρ _ _ h1⟩

theorem bodyOf_some {f : FuncId} {fn : Func} {c : Code} (h : bodyOf P f = some (fn, c)) : P.funcs[f]? = some fn ∧ fn.body = some c := by
  unfold bodyOf at h
  cases h1 : P.funcs[f]? with
  | none => simp only [h1] at h; cases h
  | some fn' =>
    cases h2 : fn'.body with
    | none => simp only [h1, h2] at h; cases h
    | some c' => simp only [h1, h2, Option.some.injEq, Prod.mk.injEq] at h; obtain ⟨rfl, rfl⟩ := h; exact ⟨rfl, h2⟩

theorem callFunc_run {f : FuncId} {fn : Func} {c : Code} (h : bodyOf P f = some (fn, c)) (hn : (fn.name == "runtime.NumGoroutine") = false) (args : Array Value) (w : World) : (callFunc f args).run P w = .ok (.enter f args) w := by
  obtain ⟨h1, h2⟩ := bodyOf_some h
  have hn' : ¬ fn.name = "runtime.NumGoroutine" := by simpa using hn
  simp [callFunc, h1, h2, hn']

/-- A plain value. -/
theorem fin_value {o : Oper} {a : AV} {v : Value} {s : St} (h : Inv w0 L0 φ s.H w) (hv : VR φ a v) (he : (execOp ρ o).run P w = .ok (.value v) w) :
    ∃ φ' w', Inv w0 L0 φ' s.H w' ∧ Ext φ φ' s.nx s.nx ∧ NextR P φ' w' (.value a) ((execOp ρ o).run P w) :=
  ⟨φ, w, h, Ext.refl _ _ _, v, he, hv⟩

theorem placesT_run {t : TypeId} {pl : Nat → Option (Nat × Nat)} {z : Value} {i : TypeInfo} (h : placesT P t = some pl) (hi : P.info? t = some i) (hz : i.zero = some z) (parts : List (Nat × Value)) : P.built t parts = Instr.fill pl z.cells parts := by
  unfold placesT at h
  unfold Program.built
  cases hu : P.underlying t with
  | none => simp only [hu] at h; cases h
  | some d =>
    simp only [hu] at h
    cases d with
    | array n e =>
      simp only at h
      cases he : P.info? e with
      | none => simp only [he] at h; cases h
      | some ie => simp only [he, Option.some.injEq] at h; subst h; simp only [hi, hz, he]
    | struct fields =>
      simp only at h
      cases hm : fields.toList.mapM (fun f => (P.info? f.type).map fun i => (f.offset, i.size)) with
      | none => simp only [hm] at h; cases h
      | some places => simp only [hm, Option.some.injEq] at h; subst h; simp only [hi, hz, hm]
    | _ => cases h

set_option maxHeartbeats 1000000 in
theorem exec_sound (hρ : ∀ y a, ρA y = some a → VR φ a (ρ y)) {o : Oper} {x : Ctx} {s s' : St} {r : ONext} (hr : execA P ρA o x s = some (r, s')) (h : Inv w0 L0 φ s.H w) (hf : Fresh φ s.nx s'.nx) (hL : L0 ≤ x.lock) :
    ∃ φ' w', Inv w0 L0 φ' s'.H w' ∧ Ext φ φ' s.nx s'.nx ∧ NextR P φ' w' r ((execOp ρ o).run P w) := by
  obtain ⟨dst, op, ty, pos, after, guard⟩ := o
  unfold execA at hr
  have val : ∀ (q : Option AV), (match q with | some a => M.pure (ONext.value a) | none => M.fail : M ONext) x s = some (r, s') → ∃ a, q = some a ∧ r = .value a ∧ s' = s := by
    intro q hq
    cases q with
    | none => exact (M.fail_iff.1 hq).elim
    | some a => obtain ⟨rfl, rfl⟩ := M.pure_iff.1 hq; exact ⟨a, rfl, rfl, rfl⟩
  cases op <;> dsimp only at hr
  case move y =>
    obtain ⟨a, ha, rfl, rfl⟩ := val _ hr
    exact fin_value h (hρ _ _ ha) rfl
  case assign y =>
    obtain ⟨a, ha, rfl, rfl⟩ := val _ hr
    exact fin_value h (hρ _ _ ha) rfl
  case pick c a b =>
    cases hc : ρA c with
    | none => simp only [hc] at hr; exact (M.fail_iff.1 hr).elim
    | some cv =>
    cases cv with
    | bool t =>
      simp only [hc] at hr
      obtain ⟨q, hq, rfl, rfl⟩ := val _ hr
      have := hρ _ _ hc
      simp only [VR] at this
      cases t with
      | true => exact fin_value h (hρ _ _ hq) (by simp [execOp, this, asBool])
      | false => exact fin_value h (hρ _ _ hq) (by simp [execOp, this, asBool])
    | _ => simp only [hc] at hr; exact (M.fail_iff.1 hr).elim
  case alloc e =>
    cases hz : zeroT P e with
    | none => simp only [hz] at hr; exact (M.fail_iff.1 hr).elim
    | some z =>
      simp only [hz] at hr
      obtain ⟨a, s1, r1, r2⟩ := M.bind_iff.1 hr
      obtain ⟨rfl, rfl⟩ := M.pure_iff.1 r2
      obtain ⟨i, zv, hi, hzv, hzr⟩ := zeroT_info (φ := φ) hz
      obtain ⟨φ', w', u, e1, e2, e3, e4⟩ := newVar_sound (P := P) r1 h hf hzr
      exact ⟨φ', w', e2, e3, _, by simp only [execOp, Instr.alloc, Sem.run_bind, run_zero' hi hzv, Result.andThen_ok, e1, Sem.run_pure], e4⟩
  case box e y =>
    cases hy : ρA y with
    | none => simp only [hy] at hr; exact (M.fail_iff.1 hr).elim
    | some a0 =>
      simp only [hy] at hr
      obtain ⟨a, s1, r1, r2⟩ := M.bind_iff.1 hr
      obtain ⟨rfl, rfl⟩ := M.pure_iff.1 r2
      obtain ⟨φ', w', u, e1, e2, e3, e4⟩ := newVar_sound (P := P) r1 h hf (hρ _ _ hy)
      exact ⟨φ', w', e2, e3, _, by simp only [execOp, Instr.box, Sem.run_bind, e1, Result.andThen_ok, Sem.run_pure], e4⟩
  case build t parts =>
    obtain ⟨ps, s1, r1, hq1⟩ := M.bind_iff.1 hr
    clear hr
    obtain ⟨hps, rfl⟩ := M.of_iff.1 r1
    obtain ⟨z, s2, r2, hq2⟩ := M.bind_iff.1 hq1
    clear hq1
    obtain ⟨hz, rfl⟩ := M.of_iff.1 r2
    obtain ⟨pl, s3, r3, hq3⟩ := M.bind_iff.1 hq2
    clear hq2
    obtain ⟨hpl, rfl⟩ := M.of_iff.1 r3
    obtain ⟨a, ha, rfl, rfl⟩ := val _ hq3
    cases hfl : fillA pl z.cells ps with
    | none => rw [hfl] at ha; cases ha
    | some cs =>
      rw [hfl] at ha; cases ha
      obtain ⟨i, zv, hi, hzv, hzr⟩ := zeroT_info (φ := φ) hz
      obtain ⟨cv', c1, c2⟩ := fill_sound pl ps _ _ cs zv.cells (partsA_sound hρ hps) hzr.cells hfl
      refine fin_value (v := .agg cv') h (by simp only [VR]; exact ⟨cv', rfl, c2⟩) ?_
      have hb := run_build (P := P) w t (parts.map fun (i, x) => (i, ρ x)) cv' (by rw [placesT_run hpl hi hzv]; simpa using c1)
      simp only [execOp, Sem.run_bind, hb, Result.andThen_ok, Sem.run_pure]
  case buildSlice t len parts =>
    obtain ⟨ps, s1, r1, hq1⟩ := M.bind_iff.1 hr
    clear hr
    obtain ⟨hps, rfl⟩ := M.of_iff.1 r1
    cases hu : P.underlying t with
    | none => simp only [hu] at hq1; exact (M.fail_iff.1 hq1).elim
    | some d =>
    cases d with
    | slice e =>
      cases hs : szT P e with
      | none => simp only [hu, hs] at hq1; exact (M.fail_iff.1 hq1).elim
      | some sz =>
      cases hz : zeroT P e with
      | none => simp only [hu, hs, hz] at hq1; exact (M.fail_iff.1 hq1).elim
      | some z =>
      simp only [hu, hs, hz] at hq1
      obtain ⟨_, s2, r2, hq2⟩ := M.bind_iff.1 hq1
      clear hq1
      obtain ⟨hg, rfl⟩ := M.guard_iff.1 r2
      simp only [Bool.and_eq_true, Nat.ble_eq, Nat.beq_eq] at hg
      obtain ⟨⟨hg1, hg2⟩, hg3⟩ := hg
      obtain ⟨cs, s3, r3, hq3⟩ := M.bind_iff.1 hq2
      clear hq2
      obtain ⟨hfl, rfl⟩ := M.of_iff.1 r3
      obtain ⟨_, s4, r4, hq4⟩ := M.bind_iff.1 hq3
      clear hq3
      obtain ⟨hsc, rfl⟩ := M.guard_iff.1 r4
      obtain ⟨b, s5, r5, hq5⟩ := M.bind_iff.1 hq4
      clear hq4
      obtain ⟨rfl, rfl⟩ := M.pure_iff.1 hq5
      obtain ⟨i, hi, his⟩ := szT_info hs
      obtain ⟨i', zv, hi', hzv, hzr⟩ := zeroT_info (φ := φ) hz
      obtain rfl : i' = i := Option.some.inj (hi'.symm.trans hi)
      have hzl := hzr.cells.length
      have hzs : zv.cells.size = sz := by simpa [hg2] using hzl
      have hrep : VRL φ (repL len z.cells) ((Array.range (len * sz)).map (zv.cells[· % zv.cells.size]!)).toList := by
        rw [← hzs, range_zero_toList]; exact hzr.cells.rep len
      obtain ⟨cv', c1, c2⟩ := fill_sound _ ps _ _ cs _ (partsA_sound hρ hps) hrep hfl
      have hcl := c2.length
      have hlen : cs.length = len * sz := by
        have := fillA_length hfl
        rw [this, repL_length, hg2]
      have hrun : (Instr.buildSlice t len (parts.map fun (i, x) => (i, ρ x))).run P w = .ok (.slice (some ⟨w.heap.size, 0, none⟩) len len) (w.alloc (.cells cv' e)) := by
        by_cases hl0 : len * sz = 0
        · have hl : len = 0 := by
            rcases Nat.mul_eq_zero.1 hl0 with e0 | e0
            · exact e0
            · omega
          subst hl
          have e0 : Array.range 0 = #[] := rfl
          rw [Nat.zero_mul, e0, Array.map_empty] at c1
          have c1' : Instr.fill (fun i => some (i * sz, sz)) #[] (parts.map fun (i, x) => (i, ρ x)).toList = some cv' := by simpa using c1
          simp only [Instr.buildSlice, Sem.run_bind, run_underlying hu, Result.andThen_ok, run_sizeOf' hs, Nat.zero_mul, if_true, Sem.run_pure, show ¬ ((0 : Nat) > 2 ^ 24) from by omega, if_false, e0, Array.map_empty, c1', newRow, run_newObj, World.alloc_eq]
        · exact run_buildSlice w t e len _ cv' i' zv hu hi hzv (by rw [his]; omega) (by rw [his]; exact hl0) (by rw [his]; simpa using c1)
      obtain ⟨rfl, hnx, hi2, he2⟩ := new_sound (c := cv') (el := e) r5 h hf (by simpa using Nat.le_of_eq hcl.symm) (by rw [List.take_of_length_le (by omega)]; exact c2)
      refine ⟨_, _, hi2, he2, .slice (some ⟨w.heap.size, 0, none⟩) len len, by simp only [execOp, Sem.run_bind, hrun, Result.andThen_ok, Sem.run_pure], ?_⟩
      simp only [VR]
      refine ⟨_, _, _, Phi.put_self _ _ _, rfl, Nat.le_refl _, Nat.le_refl _, fun _ => rfl, .inr rfl, ?_⟩
      have : cv'.size = len * sz := by simpa [hlen] using hcl
      simp [this]
    | _ => simp only [hu] at hq1; exact (M.fail_iff.1 hq1).elim
  case load t y =>
    cases hy : ρA y with
    | none => simp only [hy] at hr; exact (M.fail_iff.1 hr).elim
    | some ya =>
    cases ya with
    | ptr n off =>
      simp only [hy] at hr
      obtain ⟨a, s1, r1, r2⟩ := M.bind_iff.1 hr
      obtain ⟨rfl, rfl⟩ := M.pure_iff.1 r2
      have hv := hρ _ _ hy
      simp only [VR] at hv
      obtain ⟨l, hl, hv⟩ := hv
      obtain ⟨rfl, v, e1, e2⟩ := loadVar_sound r1 h hl
      exact fin_value h e2 (by simp only [execOp, hv, Instr.loadAt, Instr.sureAddr, Sem.run_bind, Sem.run_pure, Result.andThen_ok, e1])
    | _ => simp only [hy] at hr; exact (M.fail_iff.1 hr).elim
  case store t y z =>
    cases hy : ρA y with
    | none => simp only [hy] at hr; exact (M.fail_iff.1 hr).elim
    | some ya =>
    cases ya with
    | ptr n off =>
      cases hz : ρA z with
      | none => simp only [hy, hz] at hr; exact (M.fail_iff.1 hr).elim
      | some za =>
      simp only [hy, hz] at hr
      obtain ⟨a, s1, r1, r2⟩ := M.bind_iff.1 hr
      obtain ⟨rfl, rfl⟩ := M.pure_iff.1 r2
      have hv := hρ _ _ hy
      simp only [VR] at hv
      obtain ⟨l, hl, hv⟩ := hv
      obtain ⟨hnx, w', e1, e2⟩ := storeVar_sound (P := P) r1 h hL hl (hρ _ _ hz)
      exact ⟨φ, w', e2, Ext.refl _ _ _, by simp only [NextR, execOp, hv, Instr.storeAt, Instr.sureAddr, Sem.run_bind, Sem.run_pure, Result.andThen_ok, e1]⟩
    | _ => simp only [hy] at hr; exact (M.fail_iff.1 hr).elim
  case nilCheck y =>
    cases hy : ρA y with
    | none => simp only [hy] at hr; exact (M.fail_iff.1 hr).elim
    | some ya =>
      have hv := hρ _ _ hy
      cases ya with
      | null => simp only [hy] at hr; exact (M.fail_iff.1 hr).elim
      | nilIface => simp only [hy] at hr; exact (M.fail_iff.1 hr).elim
      | nilFunc => simp only [hy] at hr; exact (M.fail_iff.1 hr).elim
      | func fn f c =>
        cases fn with
        | method m => simp only [hy] at hr; exact (M.fail_iff.1 hr).elim
        | _ =>
          simp only [hy] at hr
          obtain ⟨rfl, rfl⟩ := M.pure_iff.1 hr
          have hv' := hv
          simp only [VR, FnR] at hv
          refine fin_value h hv' ?_
          obtain ⟨g, us, vs, e, hg, _⟩ := hv
          first
            | (subst hg; simp [execOp, e])
            | (obtain ⟨l, _, _, rfl⟩ := hg; simp [execOp, e])
      | _ =>
        simp only [hy] at hr
        obtain ⟨rfl, rfl⟩ := M.pure_iff.1 hr
        have hv' := hv
        simp only [VR] at hv
        refine fin_value h hv' ?_
        first
          | (simp [execOp, hv]; done)
          | (obtain ⟨l, _, e⟩ := hv; simp [execOp, e]; done)
          | (obtain ⟨l, e, _⟩ := hv; simp [execOp, e]; done)
          | (obtain ⟨l, ad, c, _, e, _⟩ := hv; simp [execOp, e]; done)
  case binOp op t y z t2 =>
    cases hy : ρA y with
    | none => simp only [hy] at hr; exact (M.fail_iff.1 hr).elim
    | some ya =>
    cases hz : ρA z with
    | none => simp only [hy, hz] at hr; exact (M.fail_iff.1 hr).elim
    | some za =>
      simp only [hy, hz] at hr
      obtain ⟨a, ha, rfl, rfl⟩ := val _ hr
      obtain ⟨v, e1, e2⟩ := binOp_sound ha (hρ _ _ hy) (hρ _ _ hz)
      refine fin_value h e2 ?_
      have e1' := e1 w
      simp only [execOp]
      rw [Sem.run_bind, e1']
      rfl
  case unOp op t y =>
    cases hy : ρA y with
    | none => simp only [hy] at hr; exact (M.fail_iff.1 hr).elim
    | some ya =>
    have hv := hρ _ _ hy
    cases ya with
    | int k n =>
      simp only [hy] at hr
      obtain ⟨a, ha, rfl, rfl⟩ := val _ hr
      obtain ⟨v, e1, e2⟩ := ofSem_run (P := P) (φ := φ) ha
      simp only [VR] at hv
      exact fin_value h e2 (by simp only [execOp, hv, Sem.run_bind, e1, Result.andThen_ok, Sem.run_pure])
    | bool b =>
      simp only [hy] at hr
      obtain ⟨a, ha, rfl, rfl⟩ := val _ hr
      obtain ⟨v, e1, e2⟩ := ofSem_run (P := P) (φ := φ) ha
      simp only [VR] at hv
      exact fin_value h e2 (by simp only [execOp, hv, Sem.run_bind, e1, Result.andThen_ok, Sem.run_pure])
    | _ => simp only [hy] at hr; exact (M.fail_iff.1 hr).elim
  case convert sT dT y =>
    cases hs : P.underlying sT with
    | none => simp only [hs] at hr; exact (M.fail_iff.1 hr).elim
    | some sd =>
    cases sd with
    | int k0 =>
      cases hd : P.underlying dT with
      | none => simp only [hs, hd] at hr; exact (M.fail_iff.1 hr).elim
      | some dd =>
      cases dd with
      | int k =>
        cases hy : ρA y with
        | none => simp only [hs, hd, hy] at hr; exact (M.fail_iff.1 hr).elim
        | some ya =>
        cases ya with
        | int k' n =>
          simp only [hs, hd, hy] at hr
          obtain ⟨rfl, rfl⟩ := M.pure_iff.1 hr
          have hv := hρ _ _ hy
          simp only [VR] at hv
          exact fin_value (v := .int k (k.wrap n)) h (by simp only [VR]) (by simp only [execOp, hv, Sem.run_bind, Go.convert, run_underlying hs, run_underlying hd, Result.andThen_ok, Conv.intToInt, Sem.run_pure])
        | _ => simp only [hs, hd, hy] at hr; exact (M.fail_iff.1 hr).elim
      | _ => simp only [hs, hd] at hr; exact (M.fail_iff.1 hr).elim
    | _ => simp only [hs] at hr; exact (M.fail_iff.1 hr).elim
  case makeInterface t y =>
    cases hs : P.underlying t with
    | none => simp only [hs] at hr; exact (M.fail_iff.1 hr).elim
    | some sd =>
    cases hy : ρA y with
    | none => cases sd <;> simp only [hs, hy] at hr <;> exact (M.fail_iff.1 hr).elim
    | some ya =>
      have hv := hρ _ _ hy
      cases sd
      case interface ms => simp only [hs, hy] at hr; exact (M.fail_iff.1 hr).elim
      all_goals
        simp only [hs, hy] at hr
        obtain ⟨rfl, rfl⟩ := M.pure_iff.1 hr
        exact fin_value (v := .iface t (ρ y)) h (by simp only [VR]; exact ⟨_, rfl, hv⟩) (by simp only [execOp, Instr.makeInterface, Sem.run_bind, run_underlying hs, Result.andThen_ok, Sem.run_pure])
  case makeFunc fn first captured =>
    obtain ⟨fs, s1, r1, hq1⟩ := M.bind_iff.1 hr
    clear hr
    obtain ⟨h1, rfl⟩ := M.of_iff.1 r1
    obtain ⟨cs, s2, r2, hq2⟩ := M.bind_iff.1 hq1
    clear hq1
    obtain ⟨h2, rfl⟩ := M.of_iff.1 r2
    obtain ⟨_, s3, r3, hq3⟩ := M.bind_iff.1 hq2
    clear hq2
    obtain ⟨hfn, rfl⟩ := M.guard_iff.1 r3
    obtain ⟨rfl, rfl⟩ := M.pure_iff.1 hq3
    refine fin_value (v := .func fn (first.map ρ) (captured.map ρ)) h ?_ (by simp only [execOp, Instr.makeFunc, Sem.run_bind, Sem.run_pure, Result.andThen_ok])
    simp only [VR]
    refine ⟨fn, _, _, rfl, ?_, by simpa using argsA_sound hρ h1, by simpa using argsA_sound hρ h2⟩
    cases fn <;> first | rfl | (simp at hfn)
  case slice t y lo hi mx =>
    cases hy : ρA y with
    | none => simp only [hy] at hr; exact (M.fail_iff.1 hr).elim
    | some ya =>
    cases h1 : optA ρA lo with
    | none => simp only [hy, h1] at hr; exact (M.fail_iff.1 hr).elim
    | some l1 =>
    cases h2 : optA ρA hi with
    | none => simp only [hy, h1, h2] at hr; exact (M.fail_iff.1 hr).elim
    | some l2 =>
    cases h3 : optA ρA mx with
    | none => simp only [hy, h1, h2, h3] at hr; exact (M.fail_iff.1 hr).elim
    | some l3 =>
      simp only [hy, h1, h2, h3] at hr
      obtain ⟨a, ha, rfl, rfl⟩ := val _ hr
      obtain ⟨v, e1, e2⟩ := slice_sound ha (hρ _ _ hy) (optA_sound hρ h1) (optA_sound hρ h2) (optA_sound hρ h3)
      exact fin_value h e2 (by simp only [execOp, Sem.run_bind, e1, Result.andThen_ok, Sem.run_pure])
  case extract t i =>
    cases hy : ρA t with
    | none => simp only [hy] at hr; exact (M.fail_iff.1 hr).elim
    | some ya =>
    cases ya with
    | tuple vs =>
      simp only [hy] at hr
      obtain ⟨a, ha, rfl, rfl⟩ := val _ hr
      have hv := hρ _ _ hy
      simp only [VR] at hv
      obtain ⟨us, e, hv⟩ := hv
      obtain ⟨u, hu, hvu⟩ := hv.get i a ha
      have hu' : us[i]? = some u := by simpa using hu
      exact fin_value h hvu (by simp only [execOp, e, Instr.extract, hu', Sem.run_bind, Sem.run_pure, Result.andThen_ok])
    | _ => simp only [hy] at hr; exact (M.fail_iff.1 hr).elim
  case panic y =>
    cases hy : ρA y with
    | none => simp only [hy] at hr; exact (M.fail_iff.1 hr).elim
    | some ya =>
    cases ya with
    | iface t a =>
      simp only [hy] at hr
      obtain ⟨rfl, rfl⟩ := M.pure_iff.1 hr
      have hv := hρ _ _ hy
      have hv' := hv
      simp only [VR] at hv
      obtain ⟨u, e, _⟩ := hv
      exact ⟨φ, w, h, Ext.refl _ _ _, .iface t u, by simp only [execOp, e, Instr.panic, Sem.run_bind, run_goPanic, Result.andThen_halt], by rw [← e]; exact hv'⟩
    | _ => simp only [hy] at hr; exact (M.fail_iff.1 hr).elim
  case fieldAddr st y f =>
    cases hs : P.underlying st with
    | none => simp only [hs] at hr; exact (M.fail_iff.1 hr).elim
    | some sd =>
    cases sd with
    | struct fs =>
      cases hy : ρA y with
      | none => simp only [hs, hy] at hr; exact (M.fail_iff.1 hr).elim
      | some ya =>
      cases ya with
      | ptr n off =>
        cases hfd : fs[f]? with
        | none => simp only [hs, hy, hfd] at hr; exact (M.fail_iff.1 hr).elim
        | some fd =>
        cases hsz : szT P fd.type with
        | none => simp only [hs, hy, hfd, hsz] at hr; exact (M.fail_iff.1 hr).elim
        | some sz =>
        cases sz with
        | zero => simp only [hs, hy, hfd, hsz] at hr; exact (M.fail_iff.1 hr).elim
        | succ sz =>
          simp only [hs, hy, hfd, hsz] at hr
          obtain ⟨rfl, rfl⟩ := M.pure_iff.1 hr
          have hv := hρ _ _ hy
          simp only [VR] at hv
          obtain ⟨l, hl, hv⟩ := hv
          refine fin_value (v := .pointer (some ⟨l.b, l.o + (off + fd.offset), none⟩)) h (by simp only [VR]; exact ⟨l, hl, rfl⟩) ?_
          simp only [execOp, hv, Instr.fieldAt, Sem.run_bind, run_underlying hs, Result.andThen_ok, hfd, Instr.sureAddr, Sem.run_pure, fieldPlace, run_sizeOf' hsz, Nat.add_one_ne_zero, if_false, addr_add, Nat.add_assoc]
      | _ => simp only [hs, hy] at hr; exact (M.fail_iff.1 hr).elim
    | _ => simp only [hs] at hr; exact (M.fail_iff.1 hr).elim
  case field t y f =>
    cases hs : P.underlying t with
    | none => simp only [hs] at hr; exact (M.fail_iff.1 hr).elim
    | some sd =>
    cases sd with
    | struct fs =>
      cases hy : ρA y with
      | none => simp only [hs, hy] at hr; exact (M.fail_iff.1 hr).elim
      | some ya =>
      cases ya with
      | agg cs =>
        cases hfd : fs[f]? with
        | none => simp only [hs, hy, hfd] at hr; exact (M.fail_iff.1 hr).elim
        | some fd =>
          simp only [hs, hy, hfd] at hr
          obtain ⟨a, ha, rfl, rfl⟩ := val _ hr
          have hv := hρ _ _ hy
          simp only [VR] at hv
          obtain ⟨us, e, hv⟩ := hv
          obtain ⟨v, e1, e2⟩ := part_sound ha hv
          exact fin_value h e2 (by simp only [execOp, e, Instr.field, Sem.run_bind, run_underlying hs, Result.andThen_ok, hfd, asAgg, Sem.run_pure, e1])
      | _ => simp only [hs, hy] at hr; exact (M.fail_iff.1 hr).elim
    | _ => simp only [hs] at hr; exact (M.fail_iff.1 hr).elim
  case indexAddr t y z =>
    cases hs : P.underlying t with
    | none => simp only [hs] at hr; exact (M.fail_iff.1 hr).elim
    | some sd =>
    cases hy : ρA y with
    | none => cases sd <;> simp only [hs, hy] at hr <;> exact (M.fail_iff.1 hr).elim
    | some ya =>
    cases hz : ρA z with
    | none => cases sd <;> cases ya <;> simp only [hs, hy, hz] at hr <;> exact (M.fail_iff.1 hr).elim
    | some za =>
    have hvy := hρ _ _ hy
    have hvz := hρ _ _ hz
    cases sd with
    | array len e =>
      cases ya with
      | ptr n off =>
        cases za with
        | int k i =>
          cases hsz : szT P e with
          | none => simp only [hs, hy, hz, hsz] at hr; exact (M.fail_iff.1 hr).elim
          | some sz =>
          simp only [hs, hy, hz, hsz] at hr
          rcases M.cond_iff.1 hr with ⟨hb, hq⟩ | ⟨_, hq⟩
          · obtain ⟨rfl, rfl⟩ := M.pure_iff.1 hq
            simp only [Bool.and_eq_true, decide_eq_true_eq] at hb
            simp only [VR] at hvy hvz
            obtain ⟨l, hl, hvy⟩ := hvy
            refine fin_value (v := .pointer (some ⟨l.b, l.o + (off + i.toNat * sz), none⟩)) h (by simp only [VR]; exact ⟨l, hl, rfl⟩) ?_
            simp only [execOp, hvy, hvz, Instr.indexAt, asIntOf, Sem.run_bind, run_underlying hs, Result.andThen_ok, Instr.sureAddr, Sem.run_pure, hb, and_self, if_true, run_sizeOf' hsz, addr_add, Nat.add_assoc]
          · exact (M.fail_iff.1 hq).elim
        | _ => simp only [hs, hy, hz] at hr; exact (M.fail_iff.1 hr).elim
      | _ => simp only [hs, hy] at hr; exact (M.fail_iff.1 hr).elim
    | slice e =>
      cases ya with
      | slice n off len lo ex esz =>
        cases za with
        | int k i =>
          cases hsz : szT P e with
          | none => simp only [hs, hy, hz, hsz] at hr; exact (M.fail_iff.1 hr).elim
          | some sz =>
          simp only [hs, hy, hz, hsz] at hr
          rcases M.cond_iff.1 hr with ⟨hb, hq⟩ | ⟨_, hq⟩
          · obtain ⟨rfl, rfl⟩ := M.pure_iff.1 hq
            simp only [Bool.and_eq_true, decide_eq_true_eq, Nat.beq_eq] at hb
            obtain ⟨⟨hb0, hb1⟩, hb2⟩ := hb
            simp only [VR] at hvy hvz
            obtain ⟨l, ad, c, hl, hvy, q1, q2, q3, q4, q5⟩ := hvy
            have hade : ad = ⟨l.b, l.o + off, none⟩ := q4.resolve_left (by omega)
            refine fin_value (v := .pointer (some ⟨l.b, l.o + (off + i.toNat * sz), none⟩)) h (by simp only [VR]; exact ⟨l, hl, rfl⟩) ?_
            have hb' : 0 ≤ i ∧ i < (len : Int) := ⟨hb1, hb2⟩
            simp only [execOp, hvy, hvz, Instr.indexAt, asIntOf, Sem.run_bind, run_underlying hs, Result.andThen_ok, Sem.run_pure, hb', and_self, if_true, run_sizeOf' hsz, hade, addr_add, Nat.add_assoc]
          · exact (M.fail_iff.1 hq).elim
        | _ => simp only [hs, hy, hz] at hr; exact (M.fail_iff.1 hr).elim
      | _ => simp only [hs, hy] at hr; exact (M.fail_iff.1 hr).elim
    | _ => simp only [hs] at hr; exact (M.fail_iff.1 hr).elim
  case index t y z =>
    cases hs : P.underlying t with
    | none => simp only [hs] at hr; exact (M.fail_iff.1 hr).elim
    | some sd =>
    cases hy : ρA y with
    | none => cases sd <;> simp only [hs, hy] at hr <;> exact (M.fail_iff.1 hr).elim
    | some ya =>
    cases hz : ρA z with
    | none => cases sd <;> cases ya <;> simp only [hs, hy, hz] at hr <;> exact (M.fail_iff.1 hr).elim
    | some za =>
    have hvy := hρ _ _ hy
    have hvz := hρ _ _ hz
    cases sd with
    | array len e =>
      cases ya with
      | agg cs =>
        cases za with
        | int k i =>
          cases hsz : szT P e with
          | none => simp only [hs, hy, hz, hsz] at hr; exact (M.fail_iff.1 hr).elim
          | some sz =>
          simp only [hs, hy, hz, hsz] at hr
          rcases M.cond_iff.1 hr with ⟨hb, hq⟩ | ⟨_, hq⟩
          · obtain ⟨a, ha, rfl, rfl⟩ := val _ hq
            simp only [Bool.and_eq_true, decide_eq_true_eq] at hb
            simp only [VR] at hvy hvz
            obtain ⟨us, e, hvy⟩ := hvy
            obtain ⟨v, e1, e2⟩ := part_sound ha hvy
            exact fin_value h e2 (by simp only [execOp, e, hvz, Instr.index, asIntOf, Sem.run_bind, run_underlying hs, Result.andThen_ok, Sem.run_pure, hb, and_self, if_true, run_sizeOf' hsz, e1])
          · exact (M.fail_iff.1 hq).elim
        | _ => simp only [hs, hy, hz] at hr; exact (M.fail_iff.1 hr).elim
      | _ => simp only [hs, hy] at hr; exact (M.fail_iff.1 hr).elim
    | string =>
      cases ya with
      | str t =>
        cases za with
        | int k i =>
          simp only [hs, hy, hz] at hr
          rcases M.cond_iff.1 hr with ⟨hb, hq⟩ | ⟨_, hq⟩
          · cases hbt : t.data.toList[i.toNat]? with
            | none => simp only [hbt] at hq; exact (M.fail_iff.1 hq).elim
            | some b =>
              simp only [hbt] at hq
              obtain ⟨rfl, rfl⟩ := M.pure_iff.1 hq
              have hb0 := of_decide_eq_true hb
              simp only [VR] at hvy hvz
              have hg : t[i.toNat]? = some b := by
                have h1 : t.data[i.toNat]? = some b := by simpa using hbt
                obtain ⟨h2, h3⟩ := Array.getElem?_eq_some_iff.1 h1
                have h4 : i.toNat < t.size := h2
                rw [getElem?_pos t i.toNat h4]
                exact congrArg some h3
              exact fin_value (v := .int .u8 b.toNat) h (by simp only [VR]) (by simp only [execOp, hvy, hvz, Instr.index, asIntOf, Sem.run_bind, run_underlying hs, Result.andThen_ok, Sem.run_pure, hb0, if_true, hg])
          · exact (M.fail_iff.1 hq).elim
        | _ => simp only [hs, hy, hz] at hr; exact (M.fail_iff.1 hr).elim
      | _ => simp only [hs, hy] at hr; exact (M.fail_iff.1 hr).elim
    | _ => simp only [hs] at hr; exact (M.fail_iff.1 hr).elim
  case typeAssert y t0 asserted commaOk =>
    cases hs : P.underlying asserted with
    | none => simp only [hs] at hr; exact (M.fail_iff.1 hr).elim
    | some sd =>
    cases hy : ρA y with
    | none => cases sd <;> simp only [hs, hy] at hr <;> exact (M.fail_iff.1 hr).elim
    | some ya =>
    have hv := hρ _ _ hy
    have hni : (∀ ms, sd ≠ .interface ms) ∧ ∃ t a, ya = .iface t a := by
      cases sd
      case interface ms => simp only [hs, hy] at hr; exact (M.fail_iff.1 hr).elim
      all_goals
        refine ⟨by simp, ?_⟩
        cases ya
        case iface t a => exact ⟨t, a, rfl⟩
        all_goals (simp only [hs, hy] at hr; exact (M.fail_iff.1 hr).elim)
    obtain ⟨hnif, t, a, rfl⟩ := hni
    simp only [VR] at hv
    obtain ⟨u, e, hu⟩ := hv
    have hr2 : (bif Nat.beq t asserted then M.pure (.value (bif commaOk then .tuple [a, .bool true] else a))
        else (bif commaOk then (match zeroT P asserted with | some z => M.pure (.value (.tuple [z, .bool false])) | none => M.fail) else M.fail) : M ONext) x s = some (r, s') := by
      cases sd
      case interface ms => exact absurd rfl (hnif ms)
      all_goals (simp only [hs, hy] at hr; exact hr)
    clear hr
    have hexec : (execOp ρ ⟨dst, .typeAssert y t0 asserted commaOk, ty, pos, after, guard⟩).run P w = ((if t = asserted then (Pure.pure (if commaOk then .tuple #[u, .bool true] else u) : Sem Value) else (do
        if commaOk then Pure.pure (.tuple #[← zeroValue asserted, .bool false])
        else runtimePanic (.typeAssertion (some t0) (some t) asserted "") : Sem Value)).run P w).andThen fun v w' => .ok (.value v) w' := by
      cases sd
      case interface ms => exact absurd rfl (hnif ms)
      all_goals
        simp only [execOp, e, Instr.typeAssert, Sem.run_bind, run_underlying hs, Result.andThen_ok, Sem.run_pure]
    rcases M.cond_iff.1 hr2 with ⟨hb, hq⟩ | ⟨hb, hq⟩
    · obtain ⟨rfl, rfl⟩ := M.pure_iff.1 hq
      obtain rfl := Nat.eq_of_beq_eq_true hb
      cases commaOk with
      | true =>
        exact ⟨φ, w, h, Ext.refl _ _ _, .tuple #[u, .bool true], by rw [hexec]; simp, by simp only [cond_true, VR]; exact ⟨_, rfl, .cons hu (.cons (by simp only [VR]) .nil)⟩⟩
      | false => exact ⟨φ, w, h, Ext.refl _ _ _, u, by rw [hexec]; simp, by simpa using hu⟩
    · have hne := Nat.ne_of_beq_eq_false hb
      cases commaOk with
      | false => simp only [cond_false] at hq; exact (M.fail_iff.1 hq).elim
      | true =>
        cases hz : zeroT P asserted with
        | none => simp only [cond_true, hz] at hq; exact (M.fail_iff.1 hq).elim
        | some z =>
          simp only [cond_true, hz] at hq
          obtain ⟨rfl, rfl⟩ := M.pure_iff.1 hq
          obtain ⟨i, zv, hi, hzv, hzr⟩ := zeroT_info (φ := φ) hz
          refine ⟨φ, w, h, Ext.refl _ _ _, .tuple #[zv, .bool false], ?_, by simp only [VR]; exact ⟨_, rfl, .cons hzr (.cons (by simp only [VR]) .nil)⟩⟩
          rw [hexec]
          simp [hne, run_zero' hi hzv]
  case makeSlice t y z =>
    cases hs : P.underlying t with
    | none => simp only [hs] at hr; exact (M.fail_iff.1 hr).elim
    | some sd =>
    cases sd with
    | slice e =>
      cases hy : ρA y with
      | none => simp only [hs, hy] at hr; exact (M.fail_iff.1 hr).elim
      | some ya =>
      cases ya with
      | int k1 l =>
        cases k1 with
        | i64 =>
          cases hz : ρA z with
          | none => simp only [hs, hy, hz] at hr; exact (M.fail_iff.1 hr).elim
          | some za =>
          cases za with
          | int k2 c =>
            cases k2 with
            | i64 =>
              cases hsz : szT P e with
              | none => simp only [hs, hy, hz, hsz] at hr; exact (M.fail_iff.1 hr).elim
              | some sz =>
              cases hby : bytesT P e with
              | none => simp only [hs, hy, hz, hsz, hby] at hr; exact (M.fail_iff.1 hr).elim
              | some bytes =>
              cases hzt : zeroT P e with
              | none => simp only [hs, hy, hz, hsz, hby, hzt] at hr; exact (M.fail_iff.1 hr).elim
              | some zz =>
              simp only [hs, hy, hz, hsz, hby, hzt] at hr
              obtain ⟨_, s1, r1, hq1⟩ := M.bind_iff.1 hr
              clear hr
              obtain ⟨hg, rfl⟩ := M.guard_iff.1 r1
              simp only [Bool.and_eq_true, decide_eq_true_eq, Nat.ble_eq, Nat.beq_eq] at hg
              obtain ⟨⟨⟨⟨⟨⟨g1, g2⟩, g3⟩, g4⟩, g5⟩, g6⟩, g7⟩ := hg
              obtain ⟨b, s2, r2, hq2⟩ := M.bind_iff.1 hq1
              clear hq1
              obtain ⟨rfl, rfl⟩ := M.pure_iff.1 hq2
              have hvy := hρ _ _ hy
              have hvz := hρ _ _ hz
              simp only [VR] at hvy hvz
              have g5' := roomy_le g5
              obtain ⟨i, hi, his⟩ := szT_info hsz
              obtain ⟨i', hi', hib⟩ := run_bytes' hby
              obtain rfl : i' = i := Option.some.inj (hi'.symm.trans hi)
              obtain ⟨i'', zv, hi'', hzv, hzr⟩ := zeroT_info (φ := φ) hzt
              obtain rfl : i'' = i' := Option.some.inj (hi''.symm.trans hi)
              have hzl := hzr.cells.length
              have hzs : zv.cells.size = sz := by simpa [g4] using hzl
              have hc0 : (0 : Int) ≤ c := by omega
              have ec : (c.toNat : Int) = c := Int.toNat_of_nonneg hc0
              have hc40 : c.toNat ≤ 2 ^ 40 := Nat.le_trans (Nat.le_mul_of_pos_right _ g7) g5'
              have hwl : IntKind.i64.wrap l = l := by
                simp [IntKind.wrap, IntKind.bits, IntKind.signed]; omega
              have hwc : IntKind.i64.wrap c = c := by
                simp [IntKind.wrap, IntKind.bits, IntKind.signed]; omega
              have hbig : ¬ ((bytes : Int) * c > 2 ^ 48) := by
                rw [← ec]
                have : ((c.toNat * bytes : Nat) : Int) ≤ ((2 ^ 40 : Nat) : Int) := Int.ofNat_le.2 g5'
                rw [Int.natCast_mul, Int.mul_comm] at this
                omega
              have hzc : VRL φ (repL c.toNat zz.cells) ((Array.range (c.toNat * sz)).map (zv.cells[· % zv.cells.size]!)).toList := by
                rw [← hzs, range_zero_toList]; exact hzr.cells.rep _
              have hlen := hzc.length
              obtain ⟨rfl, hnx, hi2, he2⟩ := new_sound (c := (Array.range (c.toNat * sz)).map (zv.cells[· % zv.cells.size]!)) (el := e) r2 h hf (by simpa using Nat.le_of_eq hlen.symm) (by rw [List.take_of_length_le (by omega)]; exact hzc)
              have hneg1 : ¬ l < 0 := by omega
              have hneg2 : ¬ c < 0 := by omega
              have hlc : ¬ l > c := by omega
              have hrun : (Instr.makeSlice t (ρ y) (ρ z)).run P w = .ok (.slice (some ⟨w.heap.size, 0, none⟩) l.toNat c.toNat) (w.alloc (.cells ((Array.range (c.toNat * sz)).map (zv.cells[· % zv.cells.size]!)) e)) := by
                have hti : (typeInfo e).run P w = .ok i'' w := by simp [typeInfo, hi]
                by_cases e0 : c.toNat * sz = 0
                · have e1 : Array.range 0 = #[] := rfl
                  simp only [Instr.makeSlice, Sem.run_bind, run_underlying hs, Result.andThen_ok, hvy, hvz, asInt, asIntOf, Sem.run_pure, hti, hib, hwl, hwc, hneg1, hneg2, hlc, decide_false, Bool.or_false, hbig, Bool.false_eq_true, if_false, run_askRoom, run_sizeOf' hsz, e0, if_true, e1, Array.map_empty, newRow, run_newObj, World.alloc_eq]
                · simp only [Instr.makeSlice, Sem.run_bind, run_underlying hs, Result.andThen_ok, hvy, hvz, asInt, asIntOf, Sem.run_pure, hti, hib, hwl, hwc, hneg1, hneg2, hlc, decide_false, Bool.or_false, hbig, Bool.false_eq_true, if_false, run_askRoom, run_sizeOf' hsz, e0, run_zero' hi hzv, newRow, run_newObj, World.alloc_eq]
              refine ⟨_, _, hi2, he2, .slice (some ⟨w.heap.size, 0, none⟩) l.toNat c.toNat, by simp only [execOp, Sem.run_bind, hrun, Result.andThen_ok, Sem.run_pure], ?_⟩
              simp only [VR]
              refine ⟨_, _, _, Phi.put_self _ _ _, rfl, by omega, Nat.le_refl _, fun _ => rfl, .inr rfl, ?_⟩
              simp only [Array.size_map, Array.size_range]
              omega
            | _ => simp only [hs, hy, hz] at hr; exact (M.fail_iff.1 hr).elim
          | _ => simp only [hs, hy, hz] at hr; exact (M.fail_iff.1 hr).elim
        | _ => simp only [hs, hy] at hr; exact (M.fail_iff.1 hr).elim
      | _ => simp only [hs, hy] at hr; exact (M.fail_iff.1 hr).elim
    | _ => simp only [hs] at hr; exact (M.fail_iff.1 hr).elim
  case call c =>
    obtain ⟨args, s1, r1, hq1⟩ := M.bind_iff.1 hr
    clear hr
    obtain ⟨ha, rfl⟩ := M.of_iff.1 r1
    have hargs := argsA_sound hρ ha
    have harr : c.args.map ρ = (c.args.toList.map ρ).toArray := by rw [← Array.toList_map, Array.toArray_toList]
    cases hc : c.callee with
    | builtin b =>
      simp only [hc] at hq1
      obtain ⟨φ', w', e1, e2, e3⟩ := builtin_sound (P := P) (cs := c.args.map fun | .const _ => true | _ => false) hq1 h hf hL hargs
      refine ⟨φ', w', e1, e2, ?_⟩
      have : (execOp ρ ⟨dst, .call c, ty, pos, after, guard⟩).run P w = (builtin b c.argTypes ty (c.args.map fun | .const _ => true | _ => false) (c.args.toList.map ρ).toArray).run P w := by
        simp only [execOp, resolve, hc, Sem.run_bind, Sem.run_pure, Result.andThen_ok, invoke, harr]
        rfl
      rw [this]; exact e3
    | value f =>
      cases hy : ρA f with
      | none => simp only [hc, hy] at hq1; exact (M.fail_iff.1 hq1).elim
      | some fa =>
      have hv := hρ _ _ hy
      cases fa with
      | func fn first captured =>
        simp only [VR] at hv
        obtain ⟨g, us, vs, e, hg, hfs, hcs⟩ := hv
        cases fn with
        | func gid =>
          cases hb : bodyOf P gid with
          | none => simp only [hc, hy, hb] at hq1; exact (M.fail_iff.1 hq1).elim
          | some fb =>
            obtain ⟨fnn, cc⟩ := fb
            simp only [hc, hy, hb] at hq1
            rcases M.cond_iff.1 hq1 with ⟨_, hq⟩ | ⟨hn, hq⟩
            · exact (M.fail_iff.1 hq).elim
            · obtain ⟨rfl, rfl⟩ := M.pure_iff.1 hq
              simp only [FnR] at hg; subst hg
              refine ⟨φ, w, h, Ext.refl _ _ _, us ++ c.args.map ρ ++ vs, ?_, ?_⟩
              · simp only [execOp, resolve, hc, e, Deferred.ofValue, Sem.run_bind, Sem.run_pure, Result.andThen_ok, invoke, callFunc_run hb hn]
              · simp only [Array.toList_append, Array.toList_map]
                exact (hfs.append hargs).append hcs
        | yield l =>
          simp only [hc, hy] at hq1
          obtain ⟨rfl, rfl⟩ := M.pure_iff.1 hq1
          simp only [FnR] at hg
          obtain ⟨lo, hl, hlo, rfl⟩ := hg
          refine ⟨φ, w, h, Ext.refl _ _ _, lo, us ++ c.args.map ρ, hl, hlo, ?_, ?_⟩
          · simp only [execOp, resolve, hc, e, Deferred.ofValue, Sem.run_bind, Sem.run_pure, Result.andThen_ok, invoke]
          · simp only [Array.toList_append, Array.toList_map]
            exact hfs.append hargs
        | _ => simp only [hc, hy] at hq1; exact (M.fail_iff.1 hq1).elim
      | _ => simp only [hc, hy] at hq1; exact (M.fail_iff.1 hq1).elim
    | invoke _ _ => simp only [hc] at hq1; exact (M.fail_iff.1 hq1).elim
  case defer c =>
    obtain ⟨args, s1, r1, hq1⟩ := M.bind_iff.1 hr
    clear hr
    obtain ⟨ha, rfl⟩ := M.of_iff.1 r1
    have hargs := argsA_sound hρ ha
    cases hc : c.callee with
    | builtin b => simp only [hc] at hq1; exact (M.fail_iff.1 hq1).elim
    | value f =>
      cases hy : ρA f with
      | none => simp only [hc, hy] at hq1; exact (M.fail_iff.1 hq1).elim
      | some fa =>
      have hv := hρ _ _ hy
      cases fa with
      | func fn first captured =>
        simp only [hc, hy] at hq1
        obtain ⟨rfl, rfl⟩ := M.pure_iff.1 hq1
        simp only [VR] at hv
        obtain ⟨g, us, vs, e, hg, hfs, hcs⟩ := hv
        refine ⟨φ, w, h, Ext.refl _ _ _, { target := .fn g vs, args := us ++ c.args.map ρ }, ?_, g, vs, rfl, hg, hcs, ?_⟩
        · simp only [execOp, resolve, hc, e, Deferred.ofValue, Sem.run_bind, Sem.run_pure, Result.andThen_ok]
        · simp only [Array.toList_append, Array.toList_map]
          exact hfs.append hargs
      | _ => simp only [hc, hy] at hq1; exact (M.fail_iff.1 hq1).elim
    | invoke _ _ => simp only [hc] at hq1; exact (M.fail_iff.1 hq1).elim
  all_goals exact (M.fail_iff.1 hr).elim
end
end AM
