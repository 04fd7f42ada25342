/-
  A lemma text: the abstract machine of the AmDef text reads as the model runs (part AmRec). Conditions: none; no premise beyond what each theorem states.
-/
import Derived.Test.YthhckoogdofhgaaGreatDoorAmLeave
namespace AM
open Go

section
variable {P : Program} {w0 : World} {L0 : Nat}

theorem jump_step {l : Nat} {j : Option Code} {v : Value} {w w' : World} {F c : Frame} {cs : List Frame} (hm : F.mode = .run) (hk : F.kind = .normal) (hr : F.roundOf = some l) (hj : JumpAt F j) (he : (Instr.endRound l j).run P w = .ok v w') :
    step P (lone F (c :: cs) w) = .next (lone (c.finish v) cs w') := by
  have hF := atR_eta hm
  rcases hj with ⟨ht, rfl⟩ | ⟨k, ht, rfl⟩ | ⟨id, k, ht, hx, rfl⟩
  · rw [hF, ht]; exact stepR_round_end hr hk he
  · rw [hF, ht]; exact stepR_round_ret hr hk he
  · rw [hF, ht]; exact stepR_round_exit hr hk hx he

set_option maxHeartbeats 2000000 in
theorem exec_ok {rec : Goal → M GRes} (hrec : RecOK P w0 L0 rec) (hdr : DrawnOK P w0 L0 rec) {fr : Fr} {x : Ctx} {s s' : St} {r : GRes} {φ : Phi} {w : World} {F : Frame} {cs : List Frame}
    (hr : goalA P rec (.exec fr) x s = some (r, s')) (h : Inv w0 L0 φ s.H w) (hf : Fresh φ s.nx s'.nx) (hL : L0 ≤ x.lock) (hg : GOK P φ) (hF : FrR φ fr F) (hm : F.mode = .run) (hc : CallR φ fr cs) :
    ∃ l fr' φ' w' F' cs', r = .left l fr' ∧ Steps P (lone F cs w) (lone F' cs' w') ∧ Inv w0 L0 φ' s'.H w' ∧ Ext φ φ' s.nx s'.nx ∧ LeaveR φ' l fr' F' ∧ CallR φ' fr' cs' ∧ Below fr.dcall cs cs' ∧ fr'.dcall = fr.dcall ∧ fr'.round = fr.round ∧ fr'.fn = fr.fn ∧ (fr'.recd = false → fr'.rcv = fr.rcv ∧ fr.recd = false) := by
  unfold goalA at hr
  dsimp only at hr
  obtain ⟨sr, s1, r1, r2⟩ := M.bind_iff.1 hr
  have hle1 := (frame_step P hrec.frame fr x s sr s1 r1).1
  cases sr with
  | cont fr1 =>
    have hle2 := (hrec.frame _ x s1 r s' r2).1
    obtain ⟨φ1, w1, F1, cs1, st1, i1, e1, hs1, hc1, hb1, d1, o1, f1, rc1⟩ := step_sound hrec hdr r1 h (hf.sub (Nat.le_refl _) hle2) hL hg hF hm hc
    obtain ⟨l, fr', φ2, w2, F2, cs2, rfl, st2, i2, e2, hl2, hc2, hb2, d2, o2, f2, rc2⟩ := hrec.exec r2 i1 ((hf.sub hle1 (Nat.le_refl _)).ext e1 (.inl (Nat.le_refl _))) hL (hg.mono e1.1) hs1.1 hs1.2 hc1
    simp only [SRes.fr] at d1 o1 f1 rc1 hc1
    rw [d1] at hb2
    exact ⟨l, fr', φ2, w2, F2, cs2, rfl, st1.trans st2, i2, e1.trans e2 (Nat.le_refl _) hle1 hle2 (Nat.le_refl _), hl2, hc2, hb1.trans hb2, d2.trans d1, o2.trans o1, f2.trans f1, fun e => ⟨(rc2 e).1.trans (rc1 (rc2 e).2).1, (rc1 (rc2 e).2).2⟩⟩
  | left l fr1 =>
    obtain ⟨rfl, rfl⟩ := M.pure_iff.1 r2
    obtain ⟨φ1, w1, F1, cs1, st1, i1, e1, hs1, hc1, hb1, d1, o1, f1, rc1⟩ := step_sound hrec hdr r1 h hf hL hg hF hm hc
    exact ⟨l, fr1, φ1, w1, F1, cs1, rfl, st1, i1, e1, hs1, hc1, hb1, d1, o1, f1, rc1⟩

set_option maxHeartbeats 2000000 in
theorem call_ok {rec : Goal → M GRes} (hrec : RecOK P w0 L0 rec) {f : FuncId} {args : List AV} {us : Array Value} {x : Ctx} {s s' : St} {r : GRes} {φ : Phi} {w : World} (cs : List Frame)
    (hr : goalA P rec (.call f args) x s = some (r, s')) (h : Inv w0 L0 φ s.H w) (hf : Fresh φ s.nx s'.nx) (hL : L0 ≤ x.lock) (hg : GOK P φ) (hv : VRL φ args us.toList) :
    ∃ φ' w' fr, Inv w0 L0 φ' s'.H w' ∧ Ext φ φ' s.nx s'.nx ∧ Steps P (lone (Frame.enter P f us .normal) cs w) (lone fr cs w') ∧ fr.fn = f ∧
      ((∃ a v, r = .done a ∧ VR φ' a v ∧ fr.leaving P w' (.returned v)) ∨ (∃ a v, r = .panicked a ∧ VR φ' a v ∧ fr.leaving P w' (.panicked [{ v := v, recovered := false }]))) := by
  unfold goalA at hr
  dsimp only at hr
  cases hbody : bodyOf P f with
  | none => simp only [hbody] at hr; exact (M.fail_iff.1 hr).elim
  | some fb =>
  obtain ⟨fn, c⟩ := fb
  simp only [hbody] at hr
  obtain ⟨gr, s1, r1, r2⟩ := M.bind_iff.1 hr
  obtain ⟨hF1, hm1⟩ := enter_sound hbody hv false none
  -- what is left, from the frame that leaves
  obtain ⟨l, fr, u, e, hu, r3⟩ : ∃ l fr u, gr = .left l fr ∧ (l = .ret ∧ u = none ∨ ∃ a, l = .panic a ∧ u = some a) ∧ (do match ← leaveA P rec fr.defers u with | none => do M.pure (.done (← resultA P fr fn)) | some v => M.pure (.panicked v) : M GRes) x s1 = some (r, s') := by
    cases gr with
    | left l fr =>
      cases l with
      | ret => exact ⟨_, fr, none, rfl, .inl ⟨rfl, rfl⟩, r2⟩
      | panic v => exact ⟨_, fr, some v, rfl, .inr ⟨v, rfl, rfl⟩, r2⟩
      | jump j => exact (M.fail_iff.1 r2).elim
    | _ => exact (M.fail_iff.1 r2).elim
  subst e
  obtain ⟨u', s2, r4, r5⟩ := M.bind_iff.1 r3
  have hle1 := (hrec.frame _ x s _ s1 r1).1
  have hle2 := (frame_leave P hrec.frame _ _ x s1 _ s2 r4).1
  have hle3 : s2.nx ≤ s'.nx := by
    cases u' with
    | none =>
      obtain ⟨a, s3, q1, q2⟩ := M.bind_iff.1 r5
      obtain ⟨_, rfl⟩ := M.pure_iff.1 q2
      exact (frame_result P fr fn x s2 _ _ q1).1
    | some v => obtain ⟨_, rfl⟩ := M.pure_iff.1 r5; exact Nat.le_refl _
  obtain ⟨l', fr', φ1, w1, F', cs', e', st1, i1, e1, hlv, _, hbl, hdc, hro, hfn, _⟩ := hrec.exec (cs := cs) r1 h (hf.sub (Nat.le_refl _) (Nat.le_trans hle2 hle3)) hL hg hF1 hm1 (fun e => nomatch e)
  cases e'
  obtain rfl := hbl.1 rfl
  have hmode : ModeR φ1 u F'.mode := by
    rcases hu with ⟨rfl, rfl⟩ | ⟨a, rfl, rfl⟩
    · exact hlv.how.1
    · exact hlv.how
  have hf2 : Fresh φ1 s1.nx s'.nx := (hf.sub hle1 (Nat.le_refl _)).ext e1 (.inl (Nat.le_refl _))
  obtain ⟨φ2, w2, m, st2, i2, e2, hm2⟩ := leave_sound (cs := cs') hrec r4 i1 (hf2.sub (Nat.le_refl _) hle3) hL (hg.mono e1.1) hmode hlv.defers
  have e12 : Ext φ φ2 s.nx s'.nx := e1.trans e2 (Nat.le_refl _) hle1 (Nat.le_trans hle2 hle3) hle3
  have hfF : F'.fn = f := hlv.fn.trans hfn
  have hfP : P.funcs[F'.fn]? = some fn := by rw [hfF]; exact (bodyOf_some hbody).1
  cases u' with
  | none =>
    obtain ⟨a, s3, q1, q2⟩ := M.bind_iff.1 r5
    obtain ⟨rfl, rfl⟩ := M.pure_iff.1 q2
    obtain ⟨rfl, v, hrun, hv⟩ := result_sound (hlv.tmps.mono e2.1) q1 i2
    refine ⟨φ2, w2, _, i2, e12, st1.trans st2, hfF, .inl ⟨a, v, rfl, hv, hm2, rfl, ?_, fn, hfP, hrun⟩⟩
    show F'.kind = _
    rw [hlv.kind, hdc]; rfl
  | some a =>
    obtain ⟨rfl, rfl⟩ := M.pure_iff.1 r5
    obtain ⟨v, hm3, hv⟩ := hm2
    exact ⟨φ2, w2, _, i2, e12, st1.trans st2, hfF, .inr ⟨a, v, rfl, hv, hm3, rfl, fn, hfP⟩⟩

set_option maxHeartbeats 2000000 in
theorem yield_ok {rec : Goal → M GRes} (hrec : RecOK P w0 L0 rec) {l : Nat} {lo : Loc} {args : List AV} {us : Array Value} {x : Ctx} {s s' : St} {r : GRes} {φ : Phi} {w : World} (c : Frame) (cs : List Frame)
    (hr : goalA P rec (.yield l args) x s = some (r, s')) (h : Inv w0 L0 φ s.H w) (hf : Fresh φ s.nx s'.nx) (hL : L0 ≤ x.lock) (hg : GOK P φ) (hlo : φ l = some lo) (hlo0 : lo.o = 0) (hv : VRL φ args us.toList) :
    ∃ fn tmps assign body φ' w', (Instr.yield lo.b us).run P w = .ok (.round lo.b fn tmps assign body) w ∧ Inv w0 L0 φ' s'.H w' ∧ Ext φ φ' s.nx s'.nx ∧
      ((∃ a v, r = .done a ∧ VR φ' a v ∧ Steps P (lone (Frame.round lo.b fn tmps assign body .normal) (c :: cs) w) (lone (c.finish v) cs w')) ∨
       (∃ a v, r = .panicked a ∧ VR φ' a v ∧ Steps P (lone (Frame.round lo.b fn tmps assign body .normal) (c :: cs) w) (lone (c.raise [{ v := v, recovered := false }]) cs w'))) := by
  unfold goalA at hr
  dsimp only at hr
  obtain ⟨b, s1, r1, r2⟩ := M.bind_iff.1 hr
  obtain ⟨_, _, hb, rfl⟩ := rd_iff.1 r1
  cases b with
  | loop st pend f t nt ps a b d =>
    obtain ⟨lo', tm, ld, hlo', _, hheap, hd, htr⟩ := h.loop hb
    obtain rfl : lo' = lo := Option.some.inj (hlo'.symm.trans hlo)
    simp only at r2
    cases hz : zipPut ps args nt t with
    | none => simp only [hz] at r2; exact (M.fail_iff.1 r2).elim
    | some t' =>
    simp only [hz] at r2
    obtain ⟨fb, s2, r3, r4⟩ := M.bind_iff.1 r2
    obtain ⟨hbody, rfl⟩ := M.of_iff.1 r3
    obtain ⟨gr, s3, r5, r6⟩ := M.bind_iff.1 r4
    obtain ⟨hsz, htr'⟩ := zipPut_sound hz hv htr
    have hy := run_yield (P := P) (args := us) hheap (by simpa using hsz.symm)
    have hzip : ((ps.toArray.zip us).foldl (fun (tmps : Array Value) (p : Tmp × Value) => tmps.setIfInBounds p.1 p.2) tm) = (ps.zip us.toList).foldl (fun tmps (p : Tmp × Value) => tmps.setIfInBounds p.1 p.2) tm := by
      rw [← Array.foldl_toList]; simp
    have hFR : FrR φ { fn := f, nt := nt, tmps := t', todo := [.code a, .beginRound, .code b], defers := [], round := some l, dcall := false, rcv := none, recd := false }
        (Frame.round lo'.b f ((ps.toArray.zip us).foldl (fun (tmps : Array Value) (p : Tmp × Value) => tmps.setIfInBounds p.1 p.2) tm) a b .normal) :=
      ⟨rfl, by rw [hzip]; exact htr', rfl, rfl, ⟨lo', hlo, hlo0, rfl⟩, rfl⟩
    have hle1 := (hrec.frame _ x s2 _ s3 r5).1
    cases gr with
    | left jl fr' =>
      have hle2 : s3.nx ≤ s'.nx := by
        cases jl with
        | jump j =>
          obtain ⟨_, s4, q1, q2⟩ := M.bind_iff.1 r6
          obtain ⟨_, rfl⟩ := M.guard_iff.1 q1
          obtain ⟨b2, s5, q3, q4⟩ := M.bind_iff.1 q2
          obtain ⟨_, _, _, rfl⟩ := rd_iff.1 q3
          cases b2 with
          | loop st pend f t nt ps a b d =>
            obtain ⟨_, s6, q5, q6⟩ := M.bind_iff.1 q4
            obtain ⟨_, _, _, rfl⟩ := wr_iff.1 q5
            obtain ⟨_, rfl⟩ := M.pure_iff.1 q6
            exact Nat.le_refl _
          | _ => exact (M.fail_iff.1 q4).elim
        | panic v =>
          obtain ⟨_, s4, q1, q2⟩ := M.bind_iff.1 r6
          obtain ⟨_, rfl⟩ := M.guard_iff.1 q1
          obtain ⟨_, rfl⟩ := M.pure_iff.1 q2
          exact Nat.le_refl _
        | ret => exact (M.fail_iff.1 r6).elim
      obtain ⟨l', fr'', φ1, w1, F', cs', e', st1, i1, e1, hlv, _, hbl, hdc, hro, hfn, _⟩ := hrec.exec (cs := c :: cs) r5 h (hf.sub (Nat.le_refl _) hle2) hL hg hFR rfl (fun e => nomatch e)
      cases e'
      obtain rfl := hbl.1 rfl
      have hroF : F'.roundOf = some lo'.b := by
        have := hlv.round
        rw [hro] at this
        obtain ⟨y, hy1, _, hy2⟩ := this
        obtain rfl : y = lo' := Option.some.inj (hy1.symm.trans (e1.1 _ _ hlo))
        exact hy2
      have hkF : F'.kind = .normal := by rw [hlv.kind, hdc]; rfl
      have e12 : Ext φ φ1 s2.nx s'.nx := e1.trans (Ext.refl φ1 s2.nx s'.nx) (Nat.le_refl _) (Nat.le_refl _) hle2 (Nat.le_refl _)
      cases jl with
      | ret => exact (M.fail_iff.1 r6).elim
      | jump j =>
        obtain ⟨_, s4, q1, q2⟩ := M.bind_iff.1 r6
        obtain ⟨_, rfl⟩ := M.guard_iff.1 q1
        obtain ⟨b2, s5, q3, q4⟩ := M.bind_iff.1 q2
        obtain ⟨_, _, hb2, rfl⟩ := rd_iff.1 q3
        cases b2 with
        | loop st2 pend2 f2 t2 nt2 ps2 a2 b2 d2 =>
          obtain ⟨_, s6, q5, q6⟩ := M.bind_iff.1 q4
          obtain ⟨hw1, _, _, rfl⟩ := wr_iff.1 q5
          obtain ⟨rfl, rfl⟩ := M.pure_iff.1 q6
          obtain ⟨lo2, tm2, ld2, hlo2, hlo20, hheap2, hd2, htr2⟩ := i1.loop hb2
          obtain rfl : lo2 = lo' := Option.some.inj (hlo2.symm.trans (e1.1 _ _ hlo))
          have hlt : lo2.b < w1.heap.size := i1.inb l lo2 hlo2
          have her := run_endRound (P := P) (w := w1) j hheap2
          have i2 := i1.putLoop (b := .loop (match (generalizing := false) j with | none => .ready | some _ => .done) j f2 t2 nt2 ps2 a2 b2 d2) (o := .loop { state := if j.isNone then .ready else .done, pending := j, fn := f2, tmps := tm2, params := ps2.toArray, assign := a2, body := b2, defers := ld2 }) hb2 (Nat.le_trans hL (canWrite_lock hw1)) hlo2
            ⟨hlo20, tm2, ld2, by rw [World.putObj_heap_same hlt]; cases j <;> rfl, hd2, htr2⟩
          refine ⟨_, _, _, _, φ1, _, hy, i2, e12, .inl ⟨_, .bool j.isNone, rfl, by cases j <;> simp [VR], st1.trans (.one ?_)⟩⟩
          exact jump_step hlv.how.1 hkF hroF hlv.how.2.1 her
        | _ => exact (M.fail_iff.1 q4).elim
      | panic v =>
        obtain ⟨_, s4, q1, q2⟩ := M.bind_iff.1 r6
        obtain ⟨hgd, rfl⟩ := M.guard_iff.1 q1
        obtain ⟨rfl, rfl⟩ := M.pure_iff.1 q2
        obtain ⟨u, hmu, hvu⟩ := hlv.how
        have hFd : F'.defers = [] := by
          have := hlv.defers
          cases hdd : fr'.defers with
          | nil => rw [hdd] at this; exact this
          | cons _ _ => simp only [hdd] at hgd; cases hgd
        obtain ⟨fn, cc⟩ := fb
        exact ⟨_, _, _, _, φ1, w1, hy, i1, e12, .inr ⟨_, u, rfl, hvu, st1.trans (.one (step_leave_panicked ⟨hmu, hFd, fn, by rw [hlv.fn, hfn]; exact (bodyOf_some hbody).1⟩))⟩⟩
    | _ => exact (M.fail_iff.1 r6).elim
  | _ => exact (M.fail_iff.1 r2).elim

/-- One level more. -/
theorem goal_ok {rec : Goal → M GRes} (hrec : RecOK P w0 L0 rec) (hdr : DrawnOK P w0 L0 rec) : RecOK P w0 L0 (goalA P rec) where
  frame := frame_goal P hrec.frame
  exec := exec_ok hrec hdr
  call := call_ok hrec
  yield := yield_ok hrec

theorem go_ok (hdr : ∀ rec, RecOK P w0 L0 rec → DrawnOK P w0 L0 rec) : ∀ n, RecOK P w0 L0 (go P n)
  | 0 => ⟨frame_go P 0, fun h => (M.fail_iff.1 h).elim, fun _ h => (M.fail_iff.1 h).elim, fun _ _ h => (M.fail_iff.1 h).elim⟩
  | n + 1 => goal_ok (go_ok hdr n) (hdr _ (go_ok hdr n))
end
end AM
