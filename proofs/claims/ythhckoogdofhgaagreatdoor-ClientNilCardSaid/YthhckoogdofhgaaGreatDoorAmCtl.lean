/-
  A lemma text: the abstract machine of the AmDef text reads as the model runs (part AmCtl). Conditions: none; no premise beyond what each theorem states.
-/
import Derived.Test.YthhckoogdofhgaaGreatDoorAmStep
namespace AM
open Go

def CallR (φ : Phi) (fr : Fr) (cs : List Frame) : Prop := fr.dcall = true → ∃ c rest, cs = c :: rest ∧
  ((∃ a v, fr.rcv = some a ∧ fr.recd = false ∧ c.mode = .panicking [{ v := v, recovered := false }] ∧ VR φ a v) ∨
   (∃ v, fr.rcv = none ∧ fr.recd = true ∧ c.mode = .panicking [{ v := v, recovered := true }]) ∨
   (fr.rcv = none ∧ fr.recd = false ∧ c.mode = .returning))

theorem CallR.mono {φ φ' : Phi} (h : φ.le φ') {fr : Fr} {cs : List Frame} (hr : CallR φ fr cs) : CallR φ' fr cs := fun hd => by
  obtain ⟨c, rest, e, hc⟩ := hr hd
  refine ⟨c, rest, e, ?_⟩
  rcases hc with ⟨a, v, h1, h2, h3, h4⟩ | hc | hc
  · exact .inl ⟨a, v, h1, h2, h3, VR.mono h _ _ h4⟩
  · exact .inr (.inl hc)
  · exact .inr (.inr hc)
theorem CallR.same {φ : Phi} {fr fr' : Fr} {cs : List Frame} (hr : CallR φ fr cs) (h1 : fr'.dcall = fr.dcall) (h2 : fr'.rcv = fr.rcv) (h3 : fr'.recd = fr.recd) : CallR φ fr' cs := by
  unfold CallR at *
  rw [h1, h2, h3]; exact hr

def Below (d : Bool) (cs cs' : List Frame) : Prop := (d = false → cs' = cs) ∧ (d = true → ∃ c m rest, cs = c :: rest ∧ cs' = { c with mode := m } :: rest)
theorem Below.refl (d : Bool) {φ : Phi} {fr : Fr} {cs : List Frame} (h : CallR φ fr cs) (hd : fr.dcall = d) : Below d cs cs := ⟨fun _ => rfl, fun e => by
  obtain ⟨c, rest, rfl, _⟩ := h (hd.trans e)
  exact ⟨c, c.mode, rest, rfl, rfl⟩⟩
theorem Below.trans {d : Bool} {a b c : List Frame} (h : Below d a b) (h' : Below d b c) : Below d a c := ⟨fun e => (h'.1 e).trans (h.1 e), fun e => by
  obtain ⟨x, m, r, rfl, rfl⟩ := h.2 e
  obtain ⟨y, m', r', e1, rfl⟩ := h'.2 e
  cases e1
  exact ⟨x, m', r, rfl, rfl⟩⟩

def JumpAt (F : Frame) (j : Option Code) : Prop :=
  (F.todo = [] ∧ j = none) ∨ (∃ k, F.todo = .code .ret :: k ∧ j = some .ret) ∨ (∃ id k, F.todo = .code (.exit id) :: k ∧ exitTo id k = none ∧ j = some (.exit id))

structure LeaveR (φ : Phi) (l : Leave) (fr : Fr) (F : Frame) : Prop where
  fn : F.fn = fr.fn
  tmps : TR φ fr.nt fr.tmps F.tmps
  defers : DefsR φ fr.defers F.defers
  round : RoundR φ fr.round F.roundOf
  kind : F.kind = if fr.dcall then .deferred else .normal
  how : match l with
    | .ret => F.mode = .returning ∧ fr.round = none
    | .panic a => ∃ v, F.mode = .panicking [{ v := v, recovered := false }] ∧ VR φ a v
    | .jump j => F.mode = .run ∧ JumpAt F j ∧ ∃ l, fr.round = some l

def SRes.fr : SRes → Fr
  | .cont fr => fr
  | .left _ fr => fr

def SResR (φ : Phi) : SRes → Frame → Prop
  | .cont fr, F => FrR φ fr F ∧ F.mode = .run
  | .left l fr, F => LeaveR φ l fr F

/-- What the calls of a run owe. -/
structure RecOK (P : Program) (w0 : World) (L0 : Nat) (rec : Goal → M GRes) : Prop where
  frame : ∀ g, FrameP (rec g)
  exec : ∀ {fr : Fr} {x : Ctx} {s s' : St} {r : GRes} {φ : Phi} {w : World} {F : Frame} {cs : List Frame}, rec (.exec fr) x s = some (r, s') → Inv w0 L0 φ s.H w → Fresh φ s.nx s'.nx → L0 ≤ x.lock → GOK P φ → FrR φ fr F → F.mode = .run → CallR φ fr cs →
    ∃ l fr' φ' w' F' cs', r = .left l fr' ∧ Steps P (lone F cs w) (lone F' cs' w') ∧ Inv w0 L0 φ' s'.H w' ∧ Ext φ φ' s.nx s'.nx ∧ LeaveR φ' l fr' F' ∧ CallR φ' fr' cs' ∧ Below fr.dcall cs cs' ∧ fr'.dcall = fr.dcall ∧ fr'.round = fr.round ∧ fr'.fn = fr.fn ∧ (fr'.recd = false → fr'.rcv = fr.rcv ∧ fr.recd = false)
  call : ∀ {f : FuncId} {args : List AV} {us : Array Value} {x : Ctx} {s s' : St} {r : GRes} {φ : Phi} {w : World} (cs : List Frame), rec (.call f args) x s = some (r, s') → Inv w0 L0 φ s.H w → Fresh φ s.nx s'.nx → L0 ≤ x.lock → GOK P φ → VRL φ args us.toList →
    ∃ φ' w' fr, Inv w0 L0 φ' s'.H w' ∧ Ext φ φ' s.nx s'.nx ∧ Steps P (lone (Frame.enter P f us .normal) cs w) (lone fr cs w') ∧ fr.fn = f ∧
      ((∃ a v, r = .done a ∧ VR φ' a v ∧ fr.leaving P w' (.returned v)) ∨ (∃ a v, r = .panicked a ∧ VR φ' a v ∧ fr.leaving P w' (.panicked [{ v := v, recovered := false }])))
  yield : ∀ {l : Nat} {lo : Loc} {args : List AV} {us : Array Value} {x : Ctx} {s s' : St} {r : GRes} {φ : Phi} {w : World} (c : Frame) (cs : List Frame), rec (.yield l args) x s = some (r, s') → Inv w0 L0 φ s.H w → Fresh φ s.nx s'.nx → L0 ≤ x.lock → GOK P φ → φ l = some lo → lo.o = 0 → VRL φ args us.toList →
    ∃ fn tmps assign body φ' w', (Instr.yield lo.b us).run P w = .ok (.round lo.b fn tmps assign body) w ∧ Inv w0 L0 φ' s'.H w' ∧ Ext φ φ' s.nx s'.nx ∧
      ((∃ a v, r = .done a ∧ VR φ' a v ∧ Steps P (lone (Frame.round lo.b fn tmps assign body .normal) (c :: cs) w) (lone (c.finish v) cs w')) ∨
       (∃ a v, r = .panicked a ∧ VR φ' a v ∧ Steps P (lone (Frame.round lo.b fn tmps assign body .normal) (c :: cs) w) (lone (c.raise [{ v := v, recovered := false }]) cs w')))

section
variable {P : Program} {φ : Phi} {w w' w0 : World} {L0 : Nat} {H : T ABlk} {F : Frame} {cs : List Frame}

theorem op_apply {ops : Array Oper} {i : Nat} {rest : List Nat} {k : List Item} {o : Oper} (hm : F.mode = .run) (ht : F.todo = .inRegion ops (i :: rest) :: k) (ho : ops[i]? = some o) (hw : Region.wanted o (yielded ops F.tmps) = true)
    (hd : F.roundOf = none ∨ ∀ c, o.op ≠ .defer c) : stepG P true { frame := F, callers := cs, status := .running, dying := none } w = stepG.apply P true F cs none (execOp F.eval o) w := by
  rw [exec_eq hm]
  unfold stepG.exec
  simp only [ht, ho, Option.map_some, hw, Option.getD_some, if_true]
  unfold stepG.oper
  have : F.oper? = some o := by unfold Frame.oper?; rw [ht]; exact ho
  simp only [this]
  rcases hd with hd | hd
  · simp only [hd]
  · cases F.roundOf with
    | none => rfl
    | some l =>
      cases hop : o.op with
      | defer c => exact absurd hop (hd c)
      | _ => rfl

theorem step_off {ops : Array Oper} {i : Nat} {rest : List Nat} {k : List Item} {o : Oper} (hm : F.mode = .run) (ht : F.todo = .inRegion ops (i :: rest) :: k) (ho : ops[i]? = some o) (hw : Region.wanted o (yielded ops F.tmps) = false) :
    step P (lone F cs w) = .next (lone (F.finish Go.undef) cs w) := by
  refine step_lone_go ?_
  rw [exec_eq hm]
  unfold stepG.exec
  simp only [ht, ho, Option.map_some, hw, Option.getD_some, Bool.false_eq_true, if_false, GStep.bare_go]

section
variable {m : Sem Next}
theorem step_value {v : Value} (hap : stepG P true { frame := F, callers := cs, status := .running, dying := none } w = stepG.apply P true F cs none m w) (hr : m.run P w = .ok (.value v) w') : step P (lone F cs w) = .next (lone (F.finish v) cs w') :=
  step_lone_go (by rw [hap]; simp [stepG.apply, hr])
theorem step_skip' (hap : stepG P true { frame := F, callers := cs, status := .running, dying := none } w = stepG.apply P true F cs none m w) (hr : m.run P w = .ok .skip w') : step P (lone F cs w) = .next (lone (F.finish Go.undef) cs w') :=
  step_lone_go (by rw [hap]; simp [stepG.apply, hr])
theorem step_panic {v : Value} (hap : stepG P true { frame := F, callers := cs, status := .running, dying := none } w = stepG.apply P true F cs none m w) (hr : m.run P w = .halt (.panic v) w') : step P (lone F cs w) = .next (lone (F.raise [{ v := v, recovered := false }]) cs w') :=
  step_lone_go (by rw [hap]; simp [stepG.apply, hr])
theorem step_enter {f : FuncId} {args : Array Value} (hap : stepG P true { frame := F, callers := cs, status := .running, dying := none } w = stepG.apply P true F cs none m w) (hk : ∀ d b s a k, F.todo ≠ .call d b s a :: k) (hr : m.run P w = .ok (.enter f args) w') : step P (lone F cs w) = .next (lone (Frame.enter P f args .normal) (F :: cs) w') :=
  step_lone_go (by
    rw [hap]
    simp only [stepG.apply, Sem.runT_eq, hr, GStep.bare_after, GStep.bare_go, if_true]
    congr 2
    split
    · rename_i e; exact absurd e (hk _ _ _ _ _)
    · rfl)
theorem step_round {l : Nat} {f : FuncId} {tmps : Array Value} {a b : Code} (hap : stepG P true { frame := F, callers := cs, status := .running, dying := none } w = stepG.apply P true F cs none m w) (hr : m.run P w = .ok (.round l f tmps a b) w') : step P (lone F cs w) = .next (lone (Frame.round l f tmps a b .normal) (F :: cs) w') :=
  step_lone_go (by rw [hap]; simp [stepG.apply, hr])
theorem step_defer' {d : Deferred} (hap : stepG P true { frame := F, callers := cs, status := .running, dying := none } w = stepG.apply P true F cs none m w) (hr : m.run P w = .ok (.defer d) w') : step P (lone F cs w) = .next (lone ({ F with defers := d :: F.defers }.finish Go.undef) cs w') :=
  step_lone_go (by rw [hap]; simp [stepG.apply, hr])
theorem step_recover_some {v : Value} {cs' : List Frame} (hap : stepG P true { frame := F, callers := cs, status := .running, dying := none } w = stepG.apply P true F cs none m w) (hro : F.roundOf = none) (ht : tryRecover F cs = some (v, cs')) (hr : m.run P w = .ok .recover w') : step P (lone F cs w) = .next (lone (F.finish v) cs' w') :=
  step_lone_go (by rw [hap]; simp [stepG.apply, hr, hro, ht])
theorem step_recover_none (hap : stepG P true { frame := F, callers := cs, status := .running, dying := none } w = stepG.apply P true F cs none m w) (hro : F.roundOf = none) (ht : tryRecover F cs = none) (hr : m.run P w = .ok .recover w') : step P (lone F cs w) = .next (lone (F.finish .nilIface) cs w') :=
  step_lone_go (by rw [hap]; simp [stepG.apply, hr, hro, ht])
end

theorem raise_run (hm : F.mode = .run) (chain : List PanicEntry) : F.raise chain = { F with mode := .panicking chain } := by
  unfold Frame.raise; rw [hm]

theorem exec_defer {ρA : Operand → Option AV} {o : Oper} {x : Ctx} {s s' : St} {r : ONext} (hr : execA P ρA o x s = some (r, s')) (hd : ∀ d, r ≠ .defer d) (c : Call) : o.op ≠ .defer c := by
  intro e
  obtain ⟨dst, op, ty, pos, after, guard⟩ := o
  simp only at e
  subst e
  unfold execA at hr
  dsimp only at hr
  obtain ⟨args, s1, r1, hq⟩ := M.bind_iff.1 hr
  cases hc : c.callee with
  | builtin b => simp only [hc] at hq; exact (M.fail_iff.1 hq).elim
  | invoke _ _ => simp only [hc] at hq; exact (M.fail_iff.1 hq).elim
  | value f =>
    cases hy : ρA f with
    | none => simp only [hc, hy] at hq; exact (M.fail_iff.1 hq).elim
    | some fa =>
      cases fa with
      | func fn first captured =>
        simp only [hc, hy] at hq
        exact hd _ (M.pure_iff.1 hq).1
      | _ => simp only [hc, hy] at hq; exact (M.fail_iff.1 hq).elim

theorem todo_irrel {fr : Fr} : ∀ k y, ({ fr with todo := k } : Fr).eval P y = fr.eval P y := by
  intro k y; cases y <;> rfl

set_option maxHeartbeats 1000000 in
theorem doOp_sound {rec : Goal → M GRes} (hrec : RecOK P w0 L0 rec) {fr : Fr} {ops : Array Oper} {i : Nat} {rest : List Nat} {k : List AItem} {o : Oper} {x : Ctx} {s s' : St} {r : SRes}
    (hr : doOp P rec { fr with todo := .ops ops rest :: k } o x s = some (r, s')) (h : Inv w0 L0 φ s.H w) (hf : Fresh φ s.nx s'.nx) (hL : L0 ≤ x.lock) (hg : GOK P φ) (hF : FrR φ fr F) (hm : F.mode = .run) (hc : CallR φ fr cs)
    (ht : fr.todo = .ops ops (i :: rest) :: k) (ho : ops[i]? = some o) (hw : wantedA ops fr o = true) :
    ∃ φ' w' F' cs', Steps P (lone F cs w) (lone F' cs' w') ∧ Inv w0 L0 φ' s'.H w' ∧ Ext φ φ' s.nx s'.nx ∧ SResR φ' r F' ∧ CallR φ' r.fr cs' ∧ Below fr.dcall cs cs' ∧ r.fr.dcall = fr.dcall ∧ r.fr.round = fr.round ∧ r.fr.fn = fr.fn ∧ (r.fr.recd = false → r.fr.rcv = fr.rcv ∧ fr.recd = false) := by
  unfold doOp at hr
  dsimp only at hr
  obtain ⟨n, s1, r1, r2⟩ := M.bind_iff.1 hr
  clear hr
  have hle1 := (frame_exec P _ o x s n s1 r1).1
  have hFt : F.todo = .inRegion ops (i :: rest) :: k.map AItem.conc := by rw [hF.todo, ht]; rfl
  have hwc : Region.wanted o (yielded ops F.tmps) = true := by rw [wanted_sound hF]; exact hw
  have hncall : ∀ d b s a k, F.todo ≠ .call d b s a :: k := by intro d b s a k; rw [hFt]; simp
  have hρ : ∀ y a, ({ fr with todo := .ops ops rest :: k } : Fr).eval P y = some a → VR φ a (F.eval y) := fun y a hya => eval_sound hF hg y a (by rw [← todo_irrel (P := P)]; exact hya)
  -- what a value comes to
  have fin : ∀ (φ1 φ2 : Phi) (t1 t2 : St) (fr0 : Fr) (F0 : Frame) (a : AV) (v : Value), FrR φ1 fr0 F0 → F0.mode = .run → F0.todo = .inRegion ops (i :: rest) :: k.map AItem.conc → φ1.le φ2 → VR φ2 a v → ∀ q : SRes,
      (match ({ fr0 with todo := .ops ops rest :: k } : Fr).put o.dst a with | some fr' => M.pure (SRes.cont fr') | none => M.fail : M SRes) x t1 = some (q, t2) → (∃ fr', q = .cont fr' ∧ t2 = t1 ∧ FrR φ2 fr' (F0.finish v) ∧ (F0.finish v).mode = .run ∧ fr'.dcall = fr0.dcall ∧ fr'.rcv = fr0.rcv ∧ fr'.recd = fr0.recd ∧ fr'.round = fr0.round ∧ fr'.fn = fr0.fn) := by
    intro φ1 φ2 t1 t2 fr0 F0 a v h1 h2 h3 h4 h5 q hq
    cases hp : ({ fr0 with todo := .ops ops rest :: k } : Fr).put o.dst a with
    | none => rw [hp] at hq; exact (M.fail_iff.1 hq).elim
    | some fr' =>
      rw [hp] at hq
      obtain ⟨rfl, rfl⟩ := M.pure_iff.1 hq
      obtain ⟨k1, k2, k3, k4, k5, k6, k7, k8⟩ := put_keeps hp
      have hp2 : ∃ fr'', fr0.put o.dst a = some fr'' ∧ fr' = { fr'' with todo := .ops ops rest :: k } := by
        unfold Fr.put at hp ⊢
        cases hd : o.dst with
        | none => rw [hd] at hp; cases hp; exact ⟨fr0, rfl, rfl⟩
        | some d =>
          rw [hd] at hp
          simp only at hp ⊢
          cases hb : Nat.blt d fr0.nt with
          | false => rw [hb] at hp; cases hp
          | true => rw [hb] at hp; cases hp; exact ⟨_, rfl, rfl⟩
      obtain ⟨fr'', hp3, rfl⟩ := hp2
      obtain ⟨e1, e2⟩ := finish_sound (h1.mono h4) h3 ho hp3 h5
      exact ⟨_, rfl, rfl, e1, e2.trans h2, k6, k7, k8, k5, k1⟩
  cases n with
  | value a =>
    have hs1 : s' = s1 := by
      cases hp : ({ fr with todo := .ops ops rest :: k } : Fr).put o.dst a with
      | none => simp only [hp] at r2; exact (M.fail_iff.1 r2).elim
      | some fr' => simp only [hp] at r2; exact (M.pure_iff.1 r2).2
    subst hs1
    obtain ⟨φ1, w1, i1, e1, v, hv1, hv2⟩ := exec_sound hρ r1 h hf hL
    have hap := op_apply (P := P) (cs := cs) (w := w) hm hFt ho hwc (.inr (exec_defer r1 (by simp)))
    obtain ⟨fr', rfl, -, q1, q2, q3, q4, q5, q6, q7⟩ := fin φ φ1 _ _ fr F a v hF hm hFt e1.1 hv2 r r2
    exact ⟨φ1, w1, _, cs, .one (step_value hap hv1), i1, e1, ⟨q1, q2⟩, (hc.mono e1.1).same q3 q4 q5, Below.refl _ hc rfl, q3, q6, q7, fun e => ⟨q4, q5.symm.trans e⟩⟩
  | skip =>
    have hs1 : s' = s1 := by
      cases hp : ({ fr with todo := .ops ops rest :: k } : Fr).put o.dst .undef with
      | none => simp only [hp] at r2; exact (M.fail_iff.1 r2).elim
      | some fr' => simp only [hp] at r2; exact (M.pure_iff.1 r2).2
    subst hs1
    obtain ⟨φ1, w1, i1, e1, hv1⟩ := exec_sound hρ r1 h hf hL
    have hap := op_apply (P := P) (cs := cs) (w := w) hm hFt ho hwc (.inr (exec_defer r1 (by simp)))
    obtain ⟨fr', rfl, -, q1, q2, q3, q4, q5, q6, q7⟩ := fin φ φ1 _ _ fr F .undef Go.undef hF hm hFt e1.1 VR.undef r r2
    exact ⟨φ1, w1, _, cs, .one (step_skip' hap hv1), i1, e1, ⟨q1, q2⟩, (hc.mono e1.1).same q3 q4 q5, Below.refl _ hc rfl, q3, q6, q7, fun e => ⟨q4, q5.symm.trans e⟩⟩
  | panic a =>
    obtain ⟨rfl, rfl⟩ := M.pure_iff.1 r2
    obtain ⟨φ1, w1, i1, e1, v, hv1, hv2⟩ := exec_sound hρ r1 h hf hL
    have hap := op_apply (P := P) (cs := cs) (w := w) hm hFt ho hwc (.inr (exec_defer r1 (by simp)))
    have hF1 := hF.mono e1.1
    refine ⟨φ1, w1, _, cs, .one (step_panic hap hv1), i1, e1, ?_, hc.mono e1.1, Below.refl _ hc rfl, rfl, rfl, rfl, fun e => ⟨rfl, e⟩⟩
    rw [raise_run hm]
    exact ⟨hF1.fn, hF1.tmps, hF1.defers, hF1.round, hF1.kind, v, rfl, hv2⟩
  | enter f args =>
    simp only at r2
    obtain ⟨g, s2, r3, r4⟩ := M.bind_iff.1 r2
    clear r2
    have hs2 : s' = s2 := by
      cases g with
      | done a =>
        simp only at r4
        cases hp : ({ fr with todo := .ops ops rest :: k } : Fr).put o.dst a with
        | none => simp only [hp] at r4; exact (M.fail_iff.1 r4).elim
        | some fr' => simp only [hp] at r4; exact (M.pure_iff.1 r4).2
      | panicked a => exact (M.pure_iff.1 r4).2
      | left l fr' => exact (M.fail_iff.1 r4).elim
    subst hs2
    have hle2 := (hrec.frame _ x s1 g s' r3).1
    obtain ⟨φ1, w1, i1, e1, us, hv1, hv2⟩ := exec_sound hρ r1 h (hf.sub (Nat.le_refl _) hle2) hL
    have hap := op_apply (P := P) (cs := cs) (w := w) hm hFt ho hwc (.inr (exec_defer r1 (by simp)))
    have hf1 := (hf.sub hle1 (Nat.le_refl _)).ext e1 (.inl (Nat.le_refl _))
    obtain ⟨φ2, w2, G, i2, e2, st, hG, hres⟩ := hrec.call (F :: cs) r3 i1 hf1 hL (hg.mono e1.1) hv2
    have e12 := e1.trans e2 (Nat.le_refl _) hle1 hle2 (Nat.le_refl _)
    have st0 := Steps.head (step_enter hap hncall hv1) st
    rcases hres with ⟨a, v, rfl, hva, hl⟩ | ⟨a, v, rfl, hva, hl⟩
    · simp only at r4
      obtain ⟨fr', rfl, -, q1, q2, q3, q4, q5, q6, q7⟩ := fin φ φ2 _ _ fr F a v hF hm hFt e12.1 hva r r4
      exact ⟨φ2, w2, _, cs, st0.trans (.one (step_leave_returned hl)), i2, e12, ⟨q1, q2⟩, (hc.mono e12.1).same q3 q4 q5, Below.refl _ hc rfl, q3, q6, q7, fun e => ⟨q4, q5.symm.trans e⟩⟩
    · obtain ⟨rfl, -⟩ := M.pure_iff.1 r4
      have hF1 := hF.mono e12.1
      refine ⟨φ2, w2, _, cs, st0.trans (.one (step_leave_panicked hl)), i2, e12, ?_, hc.mono e12.1, Below.refl _ hc rfl, rfl, rfl, rfl, fun e => ⟨rfl, e⟩⟩
      rw [raise_run hm]
      exact ⟨hF1.fn, hF1.tmps, hF1.defers, hF1.round, hF1.kind, v, rfl, hva⟩
  | yield l args =>
    simp only at r2
    obtain ⟨g, s2, r3, r4⟩ := M.bind_iff.1 r2
    clear r2
    have hs2 : s' = s2 := by
      cases g with
      | done a =>
        simp only at r4
        cases hp : ({ fr with todo := .ops ops rest :: k } : Fr).put o.dst a with
        | none => simp only [hp] at r4; exact (M.fail_iff.1 r4).elim
        | some fr' => simp only [hp] at r4; exact (M.pure_iff.1 r4).2
      | panicked a => exact (M.pure_iff.1 r4).2
      | left l fr' => exact (M.fail_iff.1 r4).elim
    subst hs2
    have hle2 := (hrec.frame _ x s1 g s' r3).1
    obtain ⟨φ1, w1, i1, e1, lo, us, hlo, hlo0, hv1, hv2⟩ := exec_sound hρ r1 h (hf.sub (Nat.le_refl _) hle2) hL
    have hap := op_apply (P := P) (cs := cs) (w := w) hm hFt ho hwc (.inr (exec_defer r1 (by simp)))
    have hf1 := (hf.sub hle1 (Nat.le_refl _)).ext e1 (.inl (Nat.le_refl _))
    obtain ⟨fnn, tm, as, bd, φ2, w2, hy, i2, e2, hres⟩ := hrec.yield F cs r3 i1 hf1 hL (hg.mono e1.1) hlo hlo0 hv2
    have e12 := e1.trans e2 (Nat.le_refl _) hle1 hle2 (Nat.le_refl _)
    have st0 := step_round hap (hv1.trans hy)
    rcases hres with ⟨a, v, rfl, hva, st⟩ | ⟨a, v, rfl, hva, st⟩
    · simp only at r4
      obtain ⟨fr', rfl, -, q1, q2, q3, q4, q5, q6, q7⟩ := fin φ φ2 _ _ fr F a v hF hm hFt e12.1 hva r r4
      exact ⟨φ2, w2, _, cs, .head st0 st, i2, e12, ⟨q1, q2⟩, (hc.mono e12.1).same q3 q4 q5, Below.refl _ hc rfl, q3, q6, q7, fun e => ⟨q4, q5.symm.trans e⟩⟩
    · obtain ⟨rfl, -⟩ := M.pure_iff.1 r4
      have hF1 := hF.mono e12.1
      refine ⟨φ2, w2, _, cs, .head st0 st, i2, e12, ?_, hc.mono e12.1, Below.refl _ hc rfl, rfl, rfl, rfl, fun e => ⟨rfl, e⟩⟩
      rw [raise_run hm]
      exact ⟨hF1.fn, hF1.tmps, hF1.defers, hF1.round, hF1.kind, v, rfl, hva⟩
  | defer d =>
    cases hrd : fr.round with
    | some l => simp only [hrd] at r2; exact (M.fail_iff.1 r2).elim
    | none =>
      simp only [hrd] at r2
      have hs1 : s' = s1 := by
        cases hp : ({ fr with todo := .ops ops rest :: k, defers := d :: fr.defers, round := none } : Fr).put o.dst .undef with
        | none => rw [hp] at r2; exact (M.fail_iff.1 r2).elim
        | some fr' => rw [hp] at r2; exact (M.pure_iff.1 r2).2
      subst hs1
      obtain ⟨φ1, w1, i1, e1, d', hv1, hv2⟩ := exec_sound hρ r1 h hf hL
      have hro : F.roundOf = none := by have := hF.round; rw [hrd] at this; exact this
      have hap := op_apply (P := P) (cs := cs) (w := w) hm hFt ho hwc (.inl hro)
      have hF1 := hF.mono e1.1
      have hF2 : FrR φ1 { fr with defers := d :: fr.defers } { F with defers := d' :: F.defers } := ⟨hF1.fn, hF1.tmps, hF1.todo, ⟨d', _, rfl, hv2, hF1.defers⟩, hF1.round, hF1.kind⟩
      obtain ⟨fr', rfl, -, q1, q2, q3, q4, q5, q6, q7⟩ := fin φ1 φ1 s' s' { fr with defers := d :: fr.defers } { F with defers := d' :: F.defers } .undef Go.undef hF2 hm hFt (Phi.le.refl _) VR.undef r (by rw [← hrd] at r2; exact r2)
      exact ⟨φ1, w1, _, cs, .one (step_defer' hap hv1), i1, e1, ⟨q1, q2⟩, (hc.mono e1.1).same q3 q4 q5, Below.refl _ hc rfl, q3, q6.trans hrd, q7, fun e => ⟨q4, q5.symm.trans e⟩⟩
  | recover =>
    rcases M.cond_iff.1 r2 with ⟨hb, r3⟩ | ⟨_, r3⟩
    · simp only [Bool.and_eq_true] at hb
      obtain ⟨hdc, hrd'⟩ := hb
      have hrd : fr.round = none := by
        cases hh : fr.round with
        | none => rfl
        | some l => rw [hh] at hrd'; cases hrd'
      have hro : F.roundOf = none := by have := hF.round; rw [hrd] at this; exact this
      obtain ⟨c, rest', hcs, hcc⟩ := hc hdc
      subst hcs
      have hkd : F.kind = .deferred := by rw [hF.kind, hdc]; rfl
      have hap := op_apply (P := P) (cs := c :: rest') (w := w) hm hFt ho hwc (.inl hro)
      cases hrcv : fr.rcv with
      | some a =>
        simp only [hrcv] at r3
        have hs1 : s' = s1 := by
          cases hp : ({ fr with todo := .ops ops rest :: k, rcv := none, recd := true } : Fr).put o.dst a with
          | none => rw [hp] at r3; exact (M.fail_iff.1 r3).elim
          | some fr' => rw [hp] at r3; exact (M.pure_iff.1 r3).2
        subst hs1
        obtain ⟨φ1, w1, i1, e1, hv1⟩ := exec_sound hρ r1 h hf hL
        rcases hcc with ⟨a', v, h1, h2, h3, h4⟩ | ⟨v, h1, _⟩ | ⟨h1, _⟩
        · rw [hrcv] at h1; cases h1
          have htr : tryRecover F (c :: rest') = some (v, { c with mode := .panicking [{ v := v, recovered := true }] } :: rest') := by
            simp [tryRecover, hkd, h3]
          have hF1 := hF.mono e1.1
          have hF2 : FrR φ1 { fr with rcv := none, recd := true } F := ⟨hF1.fn, hF1.tmps, hF1.todo, hF1.defers, hF1.round, hF1.kind⟩
          obtain ⟨fr', rfl, -, q1, q2, q3, q4, q5, q6, q7⟩ := fin φ1 φ1 s' s' { fr with rcv := none, recd := true } F a v hF2 hm hFt (Phi.le.refl _) (VR.mono e1.1 _ _ h4) r r3
          refine ⟨φ1, w1, _, { c with mode := .panicking [{ v := v, recovered := true }] } :: rest', .one (step_recover_some hap hro htr hv1), i1, e1, ⟨q1, q2⟩, (fun _ => ⟨_, _, rfl, .inr (.inl ⟨v, q4, q5, rfl⟩)⟩), ⟨fun e => absurd (hdc.symm.trans e) (by simp), fun _ => ⟨c, _, rest', rfl, rfl⟩⟩, q3, q6, q7, fun e => absurd (q5.symm.trans e) (by simp)⟩
        · rw [hrcv] at h1; cases h1
        · rw [hrcv] at h1; cases h1
      | none =>
        simp only [hrcv] at r3
        have hs1 : s' = s1 := by
          cases hp : ({ fr with todo := .ops ops rest :: k, rcv := none } : Fr).put o.dst .nilIface with
          | none => rw [hp] at r3; exact (M.fail_iff.1 r3).elim
          | some fr' => rw [hp] at r3; exact (M.pure_iff.1 r3).2
        subst hs1
        obtain ⟨φ1, w1, i1, e1, hv1⟩ := exec_sound hρ r1 h hf hL
        have htr : tryRecover F (c :: rest') = none := by
          rcases hcc with ⟨a', v, h1, _⟩ | ⟨v, _, _, h3⟩ | ⟨_, _, h3⟩
          · rw [hrcv] at h1; cases h1
          · simp [tryRecover, hkd, h3]
          · simp [tryRecover, hkd, h3]
        obtain ⟨fr', rfl, -, q1, q2, q3, q4, q5, q6, q7⟩ := fin φ φ1 s' s' fr F .nilIface .nilIface hF hm hFt e1.1 (by simp only [VR]) r (by rw [← hrcv] at r3; exact r3)
        exact ⟨φ1, w1, _, _, .one (step_recover_none hap hro htr hv1), i1, e1, ⟨q1, q2⟩, (hc.mono e1.1).same q3 q4 q5, Below.refl _ hc rfl, q3, q6, q7, fun e => ⟨q4.trans hrcv, q5.symm.trans e⟩⟩
    · exact (M.fail_iff.1 r3).elim
end
end AM
