/-
  A lemma text: the abstract machine of the AmDef text reads as the model runs (part AmLeave). Conditions: none; no premise beyond what each theorem states.
-/
import Derived.Test.YthhckoogdofhgaaGreatDoorAmGo
namespace AM
open Go

def ModeR (φ : Phi) : Option AV → FrameMode → Prop
  | none, m => m = .returning
  | some a, m => ∃ v, m = .panicking [{ v := v, recovered := false }] ∧ VR φ a v
theorem ModeR.mono {φ φ' : Phi} (h : φ.le φ') {u : Option AV} {m : FrameMode} (hr : ModeR φ u m) : ModeR φ' u m := by
  cases u with
  | none => exact hr
  | some a => obtain ⟨v, h1, h2⟩ := hr; exact ⟨v, h1, VR.mono h _ _ h2⟩
theorem ModeR.run {φ : Phi} {u : Option AV} {m : FrameMode} (hr : ModeR φ u m) : m ≠ .run := by
  cases u with
  | none => rw [show m = .returning from hr]; simp
  | some a => obtain ⟨v, rfl, _⟩ := hr; simp

section
variable {P : Program} {w0 : World} {L0 : Nat}

set_option maxHeartbeats 2000000 in
/-- The deferred calls of a frame that leaves. -/
theorem leave_sound {rec : Goal → M GRes} (hrec : RecOK P w0 L0 rec) : ∀ {ds : List ADef} {u : Option AV} {x : Ctx} {s s' : St} {r : Option AV} {φ : Phi} {w : World} {F : Frame} {cs : List Frame},
    leaveA P rec ds u x s = some (r, s') → Inv w0 L0 φ s.H w → Fresh φ s.nx s'.nx → L0 ≤ x.lock → GOK P φ → ModeR φ u F.mode → DefsR φ ds F.defers →
    ∃ φ' w' m, Steps P (lone F cs w) (lone { F with mode := m, defers := [] } cs w') ∧ Inv w0 L0 φ' s'.H w' ∧ Ext φ φ' s.nx s'.nx ∧ ModeR φ' r m := by
  intro ds
  induction ds with
  | nil =>
    intro u x s s' r φ w F cs hr h hf hL hg hm hd
    unfold leaveA at hr
    obtain ⟨rfl, rfl⟩ := M.pure_iff.1 hr
    have hd' : F.defers = [] := hd
    refine ⟨φ, w, F.mode, ?_, h, Ext.refl _ _ _, hm⟩
    have : F = { F with mode := F.mode, defers := [] } := by
      obtain ⟨a1, a2, a3, a4, a5, a6, a7⟩ := F
      simp only at hd'
      subst hd'
      rfl
    rw [← this]
    exact Steps.refl _ _
  | cons d ds ih =>
    intro u x s s' r φ w F cs hr h hf hL hg hm hd
    obtain ⟨e, t, hdd, hd1, hd2⟩ := hd
    have hmr : F.mode ≠ .run := hm.run
    cases d with
    | collected rr =>
      unfold leaveA at hr
      obtain ⟨b, s1, r1, r2⟩ := M.bind_iff.1 hr
      obtain ⟨_, _, hb, rfl⟩ := rd_iff.1 r1
      cases b with
      | deferred tk =>
        cases tk with
        | true => exact (M.fail_iff.1 r2).elim
        | false =>
          simp only at r2
          obtain ⟨_, s2, r3, r4⟩ := M.bind_iff.1 r2
          obtain ⟨hw1, _, _, rfl⟩ := wr_iff.1 r3
          obtain ⟨l, hl, hl0, htar, hargs⟩ := hd1
          obtain ⟨l', hl', hbk⟩ := h.blk rr _ hb
          obtain rfl : l' = l := Option.some.inj (hl'.symm.trans hl)
          have hheap : w.heap[l'.b]? = some (.deferred (some [])) := hbk.2
          have hlt : l'.b < w.heap.size := h.inb rr l' hl'
          have htk := run_takeDeferred (P := P) hheap
          have hi := h.putLoop (b := .deferred true) (o := .deferred none) hb (Nat.le_trans hL (canWrite_lock hw1)) hl ⟨hl0, World.putObj_heap_same hlt⟩
          have hst := step_collected (P := P) (fr := F) (cs := cs) hmr hdd htar htk
          obtain ⟨φ', w', m, q1, q2, q3, q4⟩ := ih (F := { F with defers := [] ++ t }) r4 hi hf hL hg hm (by simpa using hd2)
          exact ⟨φ', w', m, .head hst q1, q2, q3, q4⟩
      | _ => exact (M.fail_iff.1 r2).elim
    | call fn captured args =>
      cases fn with
      | func g =>
        unfold leaveA at hr
        cases hbody : bodyOf P g with
        | none => simp only [hbody] at hr; exact (M.fail_iff.1 hr).elim
        | some fb =>
        obtain ⟨fnn, cc⟩ := fb
        simp only [hbody] at hr
        rcases M.cond_iff.1 hr with ⟨_, hq⟩ | ⟨hnm, hq⟩
        · exact (M.fail_iff.1 hq).elim
        obtain ⟨gr, s1, r1, r2⟩ := M.bind_iff.1 hq
        obtain ⟨fn', cap', htar, hfn, hcap, hargs⟩ := hd1
        have hfn' : fn' = .func g := hfn
        subst hfn'
        have hinv : (invoke e.target e.args).run P w = .ok (.enter g (e.args ++ cap')) w := by
          rw [htar]; simp only [invoke, callFunc_run hbody hnm]
        have hst := step_defer (P := P) (fr := F) (cs := cs) hmr hdd htar hinv
        obtain ⟨hF1, hm1⟩ := enter_sound (us := e.args ++ cap') hbody (show VRL φ (args ++ captured) (e.args ++ cap').toList by rw [Array.toList_append]; exact hargs.append hcap) true u
        have hle1 := (hrec.frame _ x s gr s1 r1).1
        have hle2 : s1.nx ≤ s'.nx := by
          cases gr with
          | left l fr =>
            cases l with
            | ret =>
              cases hfd : fr.defers with
              | nil =>
                simp only [hfd] at r2
                obtain ⟨_, s2, r3, r4⟩ := M.bind_iff.1 r2
                exact Nat.le_trans (frame_result P fr fnn x s1 _ s2 r3).1 (frame_leave P hrec.frame _ _ x s2 _ s' r4).1
              | cons _ _ => simp only [hfd] at r2; exact (M.fail_iff.1 r2).elim
            | _ => exact (M.fail_iff.1 r2).elim
          | _ => exact (M.fail_iff.1 r2).elim
        have hcr : CallR φ { enterFr g fnn cc (args ++ captured) with dcall := true, rcv := u } ({ F with defers := t } :: cs) := fun _ => by
          refine ⟨_, _, rfl, ?_⟩
          cases u with
          | none => exact .inr (.inr ⟨rfl, rfl, hm⟩)
          | some a => obtain ⟨v, h1, h2⟩ := hm; exact .inl ⟨a, v, rfl, rfl, h1, h2⟩
        obtain ⟨l, fr', φ1, w1, F', cs', rfl, st1, i1, e1, hlv, hcr', hbl, hdc, hro, hfnn, hrc⟩ := hrec.exec r1 h (hf.sub (Nat.le_refl _) hle2) hL hg hF1 hm1 hcr
        cases l with
        | ret =>
          obtain ⟨hFm, hrnd⟩ := hlv.how
          cases hfd : fr'.defers with
          | cons _ _ => simp only [hfd] at r2; exact (M.fail_iff.1 r2).elim
          | nil =>
          simp only [hfd] at r2
          obtain ⟨ra, s2, r3, r4⟩ := M.bind_iff.1 r2
          obtain ⟨rfl, v, hrun, hv⟩ := result_sound (fn := fnn) hlv.tmps r3 i1
          obtain ⟨c, m, rest, ec, rfl⟩ := hbl.2 rfl
          cases ec
          have hFd : F'.defers = [] := by have := hlv.defers; rw [hfd] at this; exact this
          have hgo : F'.going P w1 (.returned v) := ⟨hFm, hFd, fnn, by rw [hlv.fn, hfnn]; exact (bodyOf_some hbody).1, hrun⟩
          have hst2 := step_going_returned (P := P) (c := { { F with defers := t } with mode := m }) (cs := cs) (by rw [hlv.kind, hdc]; rfl) hgo
          have hmm : ModeR φ1 (bif fr'.recd then none else u) (settle m) := by
            obtain ⟨c, rest, ec, hcc⟩ := hcr' hdc
            cases ec
            rcases hcc with ⟨a, v, h1, h2, h3, h4⟩ | ⟨v, h1, h2, h3⟩ | ⟨h1, h2, h3⟩
            · have hu : fr'.rcv = u := (hrc h2).1
              rw [h2]
              simp only at h3
              subst h3
              rw [← hu, h1]
              exact ⟨v, rfl, h4⟩
            · rw [h2]
              simp only at h3
              subst h3
              rfl
            · have hu : fr'.rcv = u := (hrc h2).1
              rw [h2]
              simp only at h3
              subst h3
              rw [← hu, h1]
              rfl
          obtain ⟨φ', w', m', q1, q2, q3, q4⟩ := ih (F := { { F with defers := t } with mode := settle m }) (cs := cs) r4 i1 ((hf.sub hle1 (Nat.le_refl _)).ext e1 (.inl (Nat.le_refl _))) hL (hg.mono e1.1) hmm (hd2.mono e1.1)
          exact ⟨φ', w', m', .head hst (st1.trans (.head hst2 q1)), q2, e1.trans q3 (Nat.le_refl _) hle1 hle2 (Nat.le_refl _), q4⟩
        | _ => exact (M.fail_iff.1 r2).elim
      | _ => unfold leaveA at hr; exact (M.fail_iff.1 hr).elim
end
end AM
