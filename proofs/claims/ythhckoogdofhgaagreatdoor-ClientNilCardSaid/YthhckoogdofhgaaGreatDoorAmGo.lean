/-
  A lemma text: the abstract machine of the AmDef text reads as the model runs (part AmGo). Conditions: none; no premise beyond what each theorem states.
-/
import Derived.Test.YthhckoogdofhgaaGreatDoorAmCtl
import Derived.RangeFuncLeaves
import Derived.RangeFuncNested
namespace AM
open Go

section
variable {P : Program} {φ : Phi} {w w' w0 : World} {L0 : Nat} {H : T ABlk} {F : Frame} {cs : List Frame}

/-- What a loop's record is. -/
theorem Inv.loop (h : Inv w0 L0 φ H w) {n : Nat} {st : LoopState} {pend : Option Code} {fn : FuncId} {tmps : T AV} {nt : Nat} {ps : List Tmp} {a b : Code} {d : Nat} (hn : H.get n = some (.loop st pend fn tmps nt ps a b d)) :
    ∃ l tm ld, φ n = some l ∧ l.o = 0 ∧ w.heap[l.b]? = some (.loop { state := st, pending := pend, fn := fn, tmps := tm, params := ps.toArray, assign := a, body := b, defers := ld }) ∧ (∃ x, φ d = some x ∧ x.b = ld ∧ x.o = 0) ∧ TR φ nt tmps tm := by
  obtain ⟨l, hl, h0, tm, ld, h1, h2, h3⟩ := h.blk n _ hn
  exact ⟨l, tm, ld, hl, h0, h1, h2, h3⟩

/-- A record is written anew. -/
theorem Inv.putLoop (h : Inv w0 L0 φ H w) {n : Nat} {b0 : ABlk} {l : Loc} {o : Obj} {b : ABlk} (hn : H.get n = some b0) (hL : L0 ≤ n) (hl : φ n = some l) (hb : BlkR True φ (w.putObj l.b o) l b) : Inv w0 L0 φ (H.set n (some b)) (w.putObj l.b o) :=
  h.write hn hL hl (fun k hk => World.putObj_heap_other hk) (by simp) rfl rfl hb

/-- One result. -/
def resF (tm : Array Value) : ResultVar → Sem Value
  | .tmp t => Pure.pure (tm.getD t Go.undef)
  | .cell a t => do loadVar t (← asAddr (tm.getD a Go.undef))

theorem results_eq (fn : Func) (tm : Array Value) : results fn tm = (do let vs ← fn.results.mapM (resF tm); Pure.pure (if h : vs.size = 1 then vs[0] else .tuple vs)) := by
  unfold results
  congr 1

theorem mapM_run {α β : Type} {f : α → Sem β} {g : α → β} {w : World} : ∀ (l : List α), (∀ a ∈ l, (f a).run P w = .ok (g a) w) → (l.mapM f).run P w = .ok (l.map g) w
  | [], _ => by simp
  | a :: l, h => by
    simp only [List.mapM_cons, Sem.run_bind, h a (by simp), Result.andThen_ok, mapM_run l (fun b hb => h b (by simp [hb])), Sem.run_pure, List.map_cons]

/-- The results of a frame that returns. -/
theorem resultsA_sound {fr : Fr} {F : Frame} (hT : TR φ fr.nt fr.tmps F.tmps) : ∀ {l : List ResultVar} {x : Ctx} {s s' : St} {as : List AV}, resultsA P fr l x s = some (as, s') → Inv w0 L0 φ s.H w →
    s' = s ∧ ∃ vs, (l.mapM (resF F.tmps)).run P w = .ok vs w ∧ VRL φ as vs := by
  have ev : ∀ t a, fr.eval P (.tmp t) = some a → VR φ a (F.tmps.getD t Go.undef) := by
    intro t a ha
    simp only [Fr.eval] at ha
    cases hb : Nat.blt t fr.nt with
    | false => rw [hb] at ha; cases ha
    | true =>
      rw [hb] at ha; cases ha
      rw [blt_eq] at hb
      exact hT.2 t (of_decide_eq_true hb)
  intro l
  induction l with
  | nil =>
    intro x s s' as hr h
    obtain ⟨rfl, rfl⟩ := M.pure_iff.1 hr
    exact ⟨rfl, [], by simp, .nil⟩
  | cons r l ih =>
    intro x s s' as hr h
    cases r with
    | tmp t =>
      unfold resultsA at hr
      obtain ⟨a, s1, r1, hq1⟩ := M.bind_iff.1 hr
      obtain ⟨ha, rfl⟩ := M.of_iff.1 r1
      obtain ⟨as', s2, r2, r3⟩ := M.bind_iff.1 hq1
      obtain ⟨rfl, rfl⟩ := M.pure_iff.1 r3
      obtain ⟨rfl, vs, hvs, hv⟩ := ih r2 h
      exact ⟨rfl, _, by simp only [List.mapM_cons, resF, Sem.run_bind, Sem.run_pure, Result.andThen_ok, hvs], .cons (ev _ _ ha) hv⟩
    | cell a t =>
      unfold resultsA at hr
      cases he : fr.eval P (.tmp a) with
      | none => simp only [he] at hr; exact (M.fail_iff.1 hr).elim
      | some av =>
      cases av with
      | ptr n off =>
        simp only [he] at hr
        obtain ⟨b, s1, r1, hq1⟩ := M.bind_iff.1 hr
        obtain ⟨as', s2, r2, r3⟩ := M.bind_iff.1 hq1
        obtain ⟨rfl, rfl⟩ := M.pure_iff.1 r3
        have hv := ev _ _ he
        simp only [VR] at hv
        obtain ⟨lo, hlo, hv⟩ := hv
        obtain ⟨rfl, v, hv1, hv2⟩ := loadVar_sound r1 h hlo
        obtain ⟨rfl, vs, hvs, hvv⟩ := ih r2 h
        have had : ∀ w : World, (asAddr (F.tmps.getD a Go.undef)).run P w = .ok ⟨lo.b, lo.o + off, none⟩ w := fun w => by rw [hv]; rfl
        exact ⟨rfl, v :: vs, by simp only [List.mapM_cons, resF, Sem.run_bind, had, Sem.run_pure, Result.andThen_ok, hv1, hvs], .cons hv2 hvv⟩
      | _ => simp only [he] at hr; exact (M.fail_iff.1 hr).elim

theorem result_sound {fr : Fr} {F : Frame} {fn : Func} {x : Ctx} {s s' : St} {a : AV} (hT : TR φ fr.nt fr.tmps F.tmps) (hr : resultA P fr fn x s = some (a, s')) (h : Inv w0 L0 φ s.H w) :
    s' = s ∧ ∃ v, (results fn F.tmps).run P w = .ok v w ∧ VR φ a v := by
  unfold resultA at hr
  obtain ⟨as, s1, r1, r2⟩ := M.bind_iff.1 hr
  obtain ⟨rfl, vs, hvs, hv⟩ := resultsA_sound hT r1 h
  have hrun : (results fn F.tmps).run P w = .ok (if h : vs.length = 1 then vs[0] else .tuple vs.toArray) w := by
    rw [results_eq, Sem.run_bind, Array.mapM_eq_mapM_toList, Sem.run_map, hvs]
    simp only [Result.andThen_ok, Sem.run_pure]
    simp
  cases as with
  | nil =>
    obtain ⟨rfl, rfl⟩ := M.pure_iff.1 r2
    have := hv.nil_inv
    subst this
    exact ⟨rfl, _, hrun, by simp only [VR]; exact ⟨#[], rfl, .nil⟩⟩
  | cons a1 r =>
    cases r with
    | nil =>
      obtain ⟨rfl, rfl⟩ := M.pure_iff.1 r2
      obtain ⟨v, _, rfl, h1, h2⟩ := hv.cons_out
      have := h2.nil_inv
      subst this
      exact ⟨rfl, v, by simpa using hrun, h1⟩
    | cons a2 r =>
      obtain ⟨rfl, rfl⟩ := M.pure_iff.1 r2
      have hl := hv.length
      refine ⟨rfl, .tuple vs.toArray, ?_, by simp only [VR]; exact ⟨_, rfl, by simpa using hv⟩⟩
      rw [hrun, dif_neg (by simp at hl; omega)]

/-- Entering a function. -/
theorem enter_sound {f : FuncId} {fn : Func} {c : Code} {args : List AV} {us : Array Value} (hb : bodyOf P f = some (fn, c)) (hv : VRL φ args us.toList) (dc : Bool) (u : Option AV) :
    FrR φ { enterFr f fn c args with dcall := dc, rcv := u } (Frame.enter P f us (if dc then .deferred else .normal)) ∧ (Frame.enter P f us (if dc then .deferred else .normal)).mode = .run := by
  obtain ⟨h1, h2⟩ := bodyOf_some hb
  have hl := hv.length
  have hus : us.size = args.length := by simpa using hl
  have get : ∀ (l : List AV) (k : Nat) (t : T AV) (i : Nat), ((l.zipIdx k).foldl (fun t (p : AV × Nat) => t.set p.2 (some p.1)) t).get i = if k ≤ i ∧ i < k + l.length then l[i - k]? else t.get i := by
    intro l
    induction l with
    | nil => intro k t i; simp; omega
    | cons a l ih =>
      intro k t i
      simp only [List.zipIdx_cons, List.foldl_cons]
      rw [ih, T.get_set]
      by_cases e : i = k
      · subst e
        rw [if_neg (by omega), if_pos rfl, if_pos (by simp)]
        simp
      · by_cases hlt : k + 1 ≤ i ∧ i < k + 1 + l.length
        · rw [if_pos hlt, if_pos (by simp; omega)]
          have : i - k = (i - (k + 1)) + 1 := by omega
          rw [this]; simp
        · rw [if_neg hlt, if_neg e, if_neg (by simp; omega)]
  refine ⟨⟨by simp [Frame.enter, enterFr], ⟨?_, fun i hi => ?_⟩, by simp [Frame.enter, enterFr, h1, h2, AItem.conc], rfl, rfl, rfl⟩, rfl⟩
  · simp only [Frame.enter, enterFr, h1, Option.map_some, Option.getD_some, Array.size_append, Array.size_replicate, hus]
    show _ = Nat.max _ _
    simp only [Nat.max_def]
    split <;> omega
  · simp only [enterFr] at hi ⊢
    have hg := get args 0 .nil i
    have e : (args.zipIdx.foldl (fun t (p : AV × Nat) => t.set p.2 (some p.1)) (T.nil : T AV)).get i = if i < args.length then args[i]? else none := by
      rw [hg]; simp [T.get]
    have e' : (List.foldl (fun t x => match x with | (a, i) => t.set i (some a)) (T.nil : T AV) args.zipIdx).get i = if i < args.length then args[i]? else none := e
    rw [e']
    by_cases hlt : i < args.length
    · rw [if_pos hlt]
      obtain ⟨v, hv1, hv2⟩ := hv.get i args[i] (by simp [hlt])
      have : (Frame.enter P f us (if dc then .deferred else .normal)).tmps.getD i Go.undef = v := by
        have hlt' : i < us.size := by omega
        have : us[i]? = some v := by simpa using hv1
        simp only [Frame.enter, h1, Option.map_some, Option.getD_some, Array.getD_eq_getD_getElem?, Array.getElem?_append, hlt', if_true, this]
      rw [this]
      simpa [hlt] using hv2
    · rw [if_neg hlt]
      have : (Frame.enter P f us (if dc then .deferred else .normal)).tmps.getD i Go.undef = Go.undef := by
        have hlt' : ¬ i < us.size := by omega
        simp only [Frame.enter, h1, Option.map_some, Option.getD_some, Array.getD_eq_getD_getElem?, Array.getElem?_append, hlt', if_false, Array.getElem?_replicate]
        split <;> rfl
      rw [this]
      exact VR.undef

/-! Control. -/
theorem to_sound {fr : Fr} {k : List AItem} (hF : FrR φ fr F) (hm : F.mode = .run) : FrR φ { fr with todo := k } { F with todo := k.map AItem.conc } ∧ ({ F with todo := k.map AItem.conc } : Frame).mode = .run :=
  ⟨⟨hF.fn, hF.tmps, rfl, hF.defers, hF.round, hF.kind⟩, hm⟩

theorem atR_eta (hm : F.mode = .run) : F = F.atR { tmps := F.tmps, defers := F.defers } F.todo := by
  obtain ⟨fn, tmps, todo, defers, mode, kind, roundOf⟩ := F
  simp only at hm
  subst hm
  rfl

theorem zipPut_sound : ∀ {ps : List Tmp} {as : List AV} {us : List Value} {nt : Nat} {t t' : T AV} {tm : Array Value}, zipPut ps as nt t = some t' → VRL φ as us → TR φ nt t tm → ps.length = us.length ∧ TR φ nt t' ((ps.zip us).foldl (fun tmps (p : Tmp × Value) => tmps.setIfInBounds p.1 p.2) tm)
  | [], [], us, nt, t, t', tm, h, hv, ht => by
    simp only [zipPut, Option.some.injEq] at h
    subst h
    rw [hv.nil_inv]
    exact ⟨rfl, ht⟩
  | [], a :: as, us, nt, t, t', tm, h, hv, ht => by simp [zipPut] at h
  | p :: ps, [], us, nt, t, t', tm, h, hv, ht => by simp [zipPut] at h
  | p :: ps, a :: as, us, nt, t, t', tm, h, hv, ht => by
    obtain ⟨v, us', rfl, h1, h2⟩ := hv.cons_out
    unfold zipPut at h
    cases hb : Nat.blt p nt with
    | false => rw [hb] at h; cases h
    | true =>
      rw [hb] at h
      obtain ⟨e1, e2⟩ := zipPut_sound h h2 (ht.set (d := p) h1)
      exact ⟨by simp [e1], by simpa using e2⟩

/-- What a drawn region owes (its own text). -/
def DrawnOK (P : Program) (w0 : World) (L0 : Nat) (rec : Goal → M GRes) : Prop :=
  ∀ {fr fr' : Fr} {ops : Array Oper} {id : Nat} {k : List AItem} {x : Ctx} {s s' : St} {φ : Phi} {w : World} {F : Frame} {cs : List Frame}, drawn P rec ops { fr with todo := k } x s = some (fr', s') → Inv w0 L0 φ s.H w → Fresh φ s.nx s'.nx → L0 ≤ x.lock → GOK P φ → FrR φ fr F → F.mode = .run → CallR φ fr cs → fr.todo = .code (.region id ops true) :: k →
    ∃ φ' w' F' cs', Steps P (lone F cs w) (lone F' cs' w') ∧ Inv w0 L0 φ' s'.H w' ∧ Ext φ φ' s.nx s'.nx ∧ FrR φ' fr' F' ∧ F'.mode = .run ∧ CallR φ' fr' cs' ∧ Below fr.dcall cs cs' ∧ fr'.dcall = fr.dcall ∧ fr'.rcv = fr.rcv ∧ fr'.recd = fr.recd ∧ fr'.round = fr.round ∧ fr'.fn = fr.fn

set_option maxHeartbeats 2000000 in
/-- A range over a function. -/
theorem range_sound {rec : Goal → M GRes} (hrec : RecOK P w0 L0 rec) {fr : Fr} {f : Operand} {params : Array Tmp} {assign body : Code} {k : List AItem} {g : FuncId} {captured : List AV} {x : Ctx} {s s' : St} {r : SRes}
    (hr : rangeA P rec fr g captured params assign body k x s = some (r, s')) (h : Inv w0 L0 φ s.H w) (hf : Fresh φ s.nx s'.nx) (hL : L0 ≤ x.lock) (hg : GOK P φ) (hF : FrR φ fr F) (hm : F.mode = .run) (hc : CallR φ fr cs)
    (ht : fr.todo = .code (.rangeFunc f params assign body) :: k) (hv : VR φ (.func (.func g) [] captured) (F.eval f)) :
    ∃ φ' w' F' cs', Steps P (lone F cs w) (lone F' cs' w') ∧ Inv w0 L0 φ' s'.H w' ∧ Ext φ φ' s.nx s'.nx ∧ SResR φ' r F' ∧ CallR φ' r.fr cs' ∧ Below fr.dcall cs cs' ∧ r.fr.dcall = fr.dcall ∧ r.fr.round = fr.round ∧ r.fr.fn = fr.fn ∧ (r.fr.recd = false → r.fr.rcv = fr.rcv ∧ fr.recd = false) := by
  have hto : F.todo = .code (.rangeFunc f params assign body) :: k.map AItem.conc := by rw [hF.todo, ht]; rfl
  simp only [VR, FnR] at hv
  obtain ⟨_, us, vs, hev, rfl, husn, hvs⟩ := hv
  have hus : us = #[] := Array.toList_eq_nil_iff.1 husn.nil_inv
  subst hus
  unfold rangeA at hr
  obtain ⟨fb, s1, r1, hq1⟩ := M.bind_iff.1 hr
  clear hr
  obtain ⟨hbody, rfl⟩ := M.of_iff.1 r1
  obtain ⟨fnn, cc⟩ := fb
  obtain ⟨_, s2, r2, hq2⟩ := M.bind_iff.1 hq1
  clear hq1
  obtain ⟨hnm, rfl⟩ := M.guard_iff.1 r2
  simp only [Bool.not_eq_true'] at hnm
  obtain ⟨⟨d, mark⟩, s3, r3, hq3⟩ := M.bind_iff.1 hq2
  clear hq2
  simp only at hq3
  obtain ⟨l, s4, r4, hq4⟩ := M.bind_iff.1 hq3
  clear hq3
  obtain ⟨gr, s5, r5, hq5⟩ := M.bind_iff.1 hq4
  clear hq4
  have hle45 := (hrec.frame _ x s4 gr s5 r5).1
  have hle34 := (FrameP.nw _ x s3 l s4 r4).1
  have hle5 : s5.nx ≤ s'.nx := by
    cases gr with
    | done a =>
      simp only at hq5
      obtain ⟨b, s6, q1, q2⟩ := M.bind_iff.1 hq5
      obtain ⟨_, _, _, rfl⟩ := rd_iff.1 q1
      cases b with
      | loop st pend f t nt ps a b d =>
        cases st <;> first
          | exact (M.fail_iff.1 q2).elim
          | (obtain ⟨_, s7, q3, q4⟩ := M.bind_iff.1 q2
             obtain ⟨_, _, _, rfl⟩ := wr_iff.1 q3
             obtain ⟨_, rfl⟩ := M.pure_iff.1 q4
             exact Nat.le_refl _)
      | _ => exact (M.fail_iff.1 q2).elim
    | panicked v => obtain ⟨_, rfl⟩ := M.pure_iff.1 hq5; exact Nat.le_refl _
    | left _ _ => exact (M.fail_iff.1 hq5).elim
  -- the record is laid
  obtain ⟨φ1, w1, lo, markc, hen, i1, e1, hlo, hlo0, hmk, hle24⟩ : ∃ φ1 w1 lo markc, (Instr.enterLoop F.fn F.tmps params assign body F.roundOf).run P w = .ok (lo.b, markc) w1 ∧ Inv w0 L0 φ1 s4.H w1 ∧ Ext φ φ1 s2.nx s4.nx ∧ φ1 l = some lo ∧ lo.o = 0 ∧ DefsR φ1 mark markc ∧ s2.nx ≤ s4.nx := by
    cases hro : fr.round with
    | none =>
      rw [hro] at r3
      obtain ⟨rr, s6, q1, q2⟩ := M.bind_iff.1 r3
      obtain ⟨e, rfl⟩ := M.pure_iff.1 q2
      cases e
      obtain ⟨_, rfl, rfl⟩ := nw_iff.1 q1
      obtain ⟨_, rfl, rfl⟩ := nw_iff.1 r4
      simp only at hle34 hle45
      have hroF : F.roundOf = none := by have := hF.round; rw [hro] at this; exact this
      have n1 : φ s2.nx = none := hf _ (Nat.le_refl _) (by omega)
      have i0 := h.alloc n1 (.deferred (some [])) (.deferred false) 0 ⟨rfl, heap_alloc_at w _⟩
      have x1 : Ext φ (φ.put s2.nx ⟨w.heap.size, 0, 0⟩) s2.nx (s2.nx + 1) := Ext.put n1
      have n2 : (φ.put s2.nx ⟨w.heap.size, 0, 0⟩) (s2.nx + 1) = none := by
        unfold Phi.put; rw [if_neg (by omega)]; exact hf _ (by omega) (by omega)
      have i2 := i0.alloc n2 (.loop { state := .ready, pending := none, fn := F.fn, tmps := F.tmps, params := params, assign := assign, body := body, defers := w.heap.size }) (.loop .ready none fr.fn fr.tmps fr.nt params.toList assign body s2.nx) 0 (by
        refine ⟨rfl, F.tmps, w.heap.size, ?_, ⟨⟨w.heap.size, 0, 0⟩, Phi.le_put n2 _ _ (Phi.put_self _ _ _), rfl, rfl⟩, (hF.tmps.mono x1.1).mono (Phi.le_put n2)⟩
        rw [← hF.fn, Array.toArray_toList]
        exact heap_alloc_at _ _)
      refine ⟨_, _, ⟨(w.alloc (.deferred (some []))).heap.size, 0, 0⟩, [{ target := .collected w.heap.size, args := #[] }], ?_, i2, x1.trans (Ext.put n2) (Nat.le_refl _) (by omega) (by simp) (by simp), Phi.put_self _ _ _, rfl, ?_, by simp; omega⟩
      · rw [hroF, run_enterLoop_outer]; simp
      · exact ⟨_, [], rfl, ⟨⟨w.heap.size, 0, 0⟩, Phi.le_put n2 _ _ (Phi.put_self _ _ _), rfl, rfl, rfl⟩, rfl⟩
    | some l0 =>
      rw [hro] at r3
      obtain ⟨b, s6, q1, q2⟩ := M.bind_iff.1 r3
      obtain ⟨_, _, hb, rfl⟩ := rd_iff.1 q1
      cases b with
      | loop st pend f0 t0 nt0 ps0 a0 b0 d0 =>
        obtain ⟨e, rfl⟩ := M.pure_iff.1 q2
        cases e
        obtain ⟨_, rfl, rfl⟩ := nw_iff.1 r4
        simp only at hle34 hle45
        obtain ⟨lo0, tm0, ld0, hl0, _, hheap0, ⟨xd, hxd, hxd1, hxd2⟩, htr0⟩ := h.loop hb
        have hroF := hF.round
        rw [hro] at hroF
        obtain ⟨lo0', hlo0', _, hroF⟩ := hroF
        obtain rfl : lo0' = lo0 := Option.some.inj (hlo0'.symm.trans hl0)
        have n1 : φ s3.nx = none := hf _ (Nat.le_refl _) (by omega)
        have i2 := h.alloc n1 (.loop { state := .ready, pending := none, fn := F.fn, tmps := F.tmps, params := params, assign := assign, body := body, defers := ld0 }) (.loop .ready none fr.fn fr.tmps fr.nt params.toList assign body d) 0 (by
          refine ⟨rfl, F.tmps, ld0, ?_, ⟨xd, Phi.le_put n1 _ _ hxd, hxd1, hxd2⟩, hF.tmps.mono (Phi.le_put n1)⟩
          rw [← hF.fn, Array.toArray_toList]
          exact heap_alloc_at _ _)
        refine ⟨_, _, ⟨w.heap.size, 0, 0⟩, [], ?_, i2, Ext.put n1, Phi.put_self _ _ _, rfl, rfl, by simp⟩
        rw [hroF]
        exact run_enterLoop_inner hheap0 F.fn F.tmps params assign body
      | _ => exact (M.fail_iff.1 q2).elim
  have hf1 : Fresh φ1 s4.nx s5.nx := (hf.sub hle24 hle5).ext e1 (.inl (Nat.le_refl _))
  have hFe : F = F.atR { tmps := F.tmps, defers := F.defers } (.code (.rangeFunc f params assign body) :: k.map AItem.conc) := by rw [← hto]; exact atR_eta hm
  have hae : ({ tmps := F.tmps, defers := F.defers } : Act).eval f = F.eval f := by
    conv => rhs; rw [hFe]
    exact (congrFun (Frame.eval_atR F _ _) f).symm
  obtain ⟨Fc, hFc⟩ : ∃ Fc, Fc = F.atR { tmps := F.tmps, defers := markc ++ F.defers } (.inRangeFunc lo.b :: k.map AItem.conc) := ⟨_, rfl⟩
  have hst1 : step P (lone F cs w) = .next (lone (Frame.enter P g (#[] ++ #[Value.func (.yield lo.b) #[] #[]] ++ vs) .normal) (Fc :: cs) w1) := by
    have := stepR_rangeFunc (P := P) (b := F) (a := { tmps := F.tmps, defers := F.defers }) (k := k.map AItem.conc) (cs := cs) (w := w) (g := f) (ps := params) (assign := assign) (body := body) (l := lo.b) (mark := markc) (w₁ := w1) (w₁' := w1) (w₂ := w1)
      (d := { target := .fn (.func g) vs, args := #[] ++ #[Value.func (.yield lo.b) #[] #[]] }) (f := g) (args := #[] ++ #[Value.func (.yield lo.b) #[] #[]] ++ vs) hen
      (by simp only [resolve, hae, hev, Deferred.ofValue, Sem.run_pure]; simp [Act.eval])
      (by simp only [invoke, callFunc_run hbody hnm])
    rw [← hFe, ← hFc] at this
    exact this
  obtain ⟨φ2, w2, G, i2, e2, st2, hG, hres⟩ := hrec.call (us := #[] ++ #[Value.func (.yield lo.b) #[] #[]] ++ vs) (Fc :: cs) r5 i1 hf1 hL (hg.mono e1.1) (by
    have : (#[] ++ #[Value.func (.yield lo.b) #[] #[]] ++ vs).toList = Value.func (.yield lo.b) #[] #[] :: vs.toList := by simp
    rw [this]
    refine .cons ?_ (VRL.mono e1.1 _ _ hvs)
    simp only [VR, FnR]
    exact ⟨_, _, _, rfl, ⟨lo, hlo, hlo0, rfl⟩, .nil, .nil⟩)
  have e12 : Ext φ φ2 s2.nx s'.nx := e1.trans e2 (Nat.le_refl _) hle24 (Nat.le_trans hle45 hle5) hle5
  have hF2 := hF.mono e12.1
  have hmk2 := hmk.mono e2.1
  rcases hres with ⟨a, v, rfl, hva, hl⟩ | ⟨a, v, rfl, hva, hl⟩
  · simp only at hq5
    obtain ⟨b, s6, q1, q2⟩ := M.bind_iff.1 hq5
    obtain ⟨_, _, hb, rfl⟩ := rd_iff.1 q1
    cases b with
    | loop st pend f0 t0 nt0 ps0 a0 b0 d0 =>
      have hst : st ≠ .busy ∧ wr l (.loop .exhausted pend f0 t0 nt0 ps0 a0 b0 d0) x s6 = some ((), s') ∧ r = .cont { fr with todo := (match (generalizing := false) pend with | some c => [.code c] | none => []) ++ k, defers := mark ++ fr.defers } := by
        cases st <;> first
          | exact (M.fail_iff.1 q2).elim
          | (simp only at q2
             obtain ⟨_, s7, q3, q4⟩ := M.bind_iff.1 q2
             obtain ⟨rfl, rfl⟩ := M.pure_iff.1 q4
             exact ⟨by simp, q3, rfl⟩)
      obtain ⟨hnb, q3, rfl⟩ := hst
      obtain ⟨hw1, _, _, rfl⟩ := wr_iff.1 q3
      obtain ⟨lo', tm, ld, hlo', hlo0', hheap, hd, htr⟩ := i2.loop hb
      obtain rfl : lo' = lo := Option.some.inj (hlo'.symm.trans (e2.1 _ _ hlo))
      have hlt : lo'.b < w2.heap.size := i2.inb l lo' hlo'
      have hen2 := run_endLoop (P := P) (w := w2) hheap hnb
      have i3 := i2.putLoop (b := .loop .exhausted pend f0 t0 nt0 ps0 a0 b0 d0) (o := .loop { state := .exhausted, pending := pend, fn := f0, tmps := tm, params := ps0.toArray, assign := a0, body := b0, defers := ld }) hb (Nat.le_trans hL (canWrite_lock hw1)) hlo' ⟨hlo0', tm, ld, World.putObj_heap_same hlt, hd, htr⟩
      have hfin : Fc.finish v = F.atR { tmps := F.tmps, defers := markc ++ F.defers } (.endRangeFunc lo'.b :: k.map AItem.conc) := by rw [hFc]; exact finish_atR_inRangeFunc _ _
      have hst3 := stepR_endRangeFunc (P := P) (b := F) (a := { tmps := F.tmps, defers := markc ++ F.defers }) (k := k.map AItem.conc) (cs := cs) (w := w2) hen2
      rw [← hfin] at hst3
      refine ⟨φ2, _, _, cs, .head hst1 (st2.trans (.head (step_leave_returned hl) (.one hst3))), i3, e12, ⟨⟨hF2.fn, hF2.tmps, ?_, hmk2.append hF2.defers, hF2.round, hF2.kind⟩, rfl⟩, hc.mono e12.1, Below.refl _ hc rfl, rfl, rfl, rfl, fun e => ⟨rfl, e⟩⟩
      simp only [Frame.atR, List.map_append]
      cases pend <;> rfl
    | _ => exact (M.fail_iff.1 q2).elim
  · obtain ⟨rfl, rfl⟩ := M.pure_iff.1 hq5
    refine ⟨φ2, w2, Fc.raise [{ v := v, recovered := false }], cs, .head hst1 (st2.trans (.one (step_leave_panicked hl))), i2, e12, ?_, hc.mono e12.1, Below.refl _ hc rfl, rfl, rfl, rfl, fun e => ⟨rfl, e⟩⟩
    rw [hFc, raise_run rfl]
    exact ⟨hF2.fn, hF2.tmps, hmk2.append hF2.defers, hF2.round, hF2.kind, v, rfl, hva⟩

set_option maxHeartbeats 2000000 in
theorem step_sound {rec : Goal → M GRes} (hrec : RecOK P w0 L0 rec) (hdr : DrawnOK P w0 L0 rec) {fr : Fr} {x : Ctx} {s s' : St} {r : SRes}
    (hr : stepA P rec fr x s = some (r, s')) (h : Inv w0 L0 φ s.H w) (hf : Fresh φ s.nx s'.nx) (hL : L0 ≤ x.lock) (hg : GOK P φ) (hF : FrR φ fr F) (hm : F.mode = .run) (hc : CallR φ fr cs) :
    ∃ φ' w' F' cs', Steps P (lone F cs w) (lone F' cs' w') ∧ Inv w0 L0 φ' s'.H w' ∧ Ext φ φ' s.nx s'.nx ∧ SResR φ' r F' ∧ CallR φ' r.fr cs' ∧ Below fr.dcall cs cs' ∧ r.fr.dcall = fr.dcall ∧ r.fr.round = fr.round ∧ r.fr.fn = fr.fn ∧ (r.fr.recd = false → r.fr.rcv = fr.rcv ∧ fr.recd = false) := by
  have hto := hF.todo
  -- a step that only turns what is left to do
  have go : ∀ (k : List AItem), step P (lone F cs w) = .next (lone { F with todo := k.map AItem.conc } cs w) → r = .cont { fr with todo := k } → s' = s →
      ∃ φ' w' F' cs', Steps P (lone F cs w) (lone F' cs' w') ∧ Inv w0 L0 φ' s'.H w' ∧ Ext φ φ' s.nx s'.nx ∧ SResR φ' r F' ∧ CallR φ' r.fr cs' ∧ Below fr.dcall cs cs' ∧ r.fr.dcall = fr.dcall ∧ r.fr.round = fr.round ∧ r.fr.fn = fr.fn ∧ (r.fr.recd = false → r.fr.rcv = fr.rcv ∧ fr.recd = false) := by
    rintro k hs rfl rfl
    exact ⟨φ, w, _, cs, .one hs, h, Ext.refl _ _ _, to_sound hF hm, hc, Below.refl _ hc rfl, rfl, rfl, rfl, fun e => ⟨rfl, e⟩⟩
  -- leaving
  have leave : ∀ j, JumpAt F j → (match fr.round with | none => (match j with | none | some .ret => M.pure (.left .ret fr) | _ => M.fail : M SRes) | some _ => M.pure (.left (.jump j) fr) : M SRes) x s = some (r, s') →
      ∃ φ' w' F' cs', Steps P (lone F cs w) (lone F' cs' w') ∧ Inv w0 L0 φ' s'.H w' ∧ Ext φ φ' s.nx s'.nx ∧ SResR φ' r F' ∧ CallR φ' r.fr cs' ∧ Below fr.dcall cs cs' ∧ r.fr.dcall = fr.dcall ∧ r.fr.round = fr.round ∧ r.fr.fn = fr.fn ∧ (r.fr.recd = false → r.fr.rcv = fr.rcv ∧ fr.recd = false) := by
    intro j hj hq
    cases hro : fr.round with
    | some l =>
      rw [hro] at hq
      obtain ⟨rfl, rfl⟩ := M.pure_iff.1 hq
      exact ⟨φ, w, F, cs, Steps.refl _ _, h, Ext.refl _ _ _, ⟨hF.fn, hF.tmps, hF.defers, hF.round, hF.kind, hm, hj, l, hro⟩, hc, Below.refl _ hc rfl, rfl, hro, rfl, fun e => ⟨rfl, e⟩⟩
    | none =>
      have hroF : F.roundOf = none := by have := hF.round; rw [hro] at this; exact this
      have key : (j = none ∨ j = some .ret) ∧ r = .left .ret fr ∧ s' = s := by
        rw [hro] at hq
        cases j with
        | none => obtain ⟨e1, e2⟩ := M.pure_iff.1 hq; exact ⟨.inl rfl, e1, e2⟩
        | some c => cases c with
          | ret => obtain ⟨e1, e2⟩ := M.pure_iff.1 hq; exact ⟨.inr rfl, e1, e2⟩
          | _ => exact (M.fail_iff.1 hq).elim
      obtain ⟨hj2, rfl, rfl⟩ := key
      have hs : step P (lone F cs w) = .next (lone { F with mode := .returning } cs w) := by
        refine step_lone_go ?_
        rw [exec_eq hm]
        unfold stepG.exec
        rcases hj with ⟨ht, e⟩ | ⟨k, ht, e⟩ | ⟨id, k, ht, hx, e⟩
        · simp only [ht, hroF]; rfl
        · simp only [ht, hroF]; rfl
        · subst e; rcases hj2 with e | e <;> cases e
      exact ⟨φ, w, _, cs, .one hs, h, Ext.refl _ _ _, ⟨hF.fn, hF.tmps, hF.defers, hF.round, hF.kind, rfl, hro⟩, hc, Below.refl _ hc rfl, rfl, hro, rfl, fun e => ⟨rfl, e⟩⟩
  unfold stepA at hr
  dsimp only at hr
  cases ht : fr.todo with
  | nil =>
    rw [ht] at hto hr
    exact leave none (.inl ⟨hto, rfl⟩) hr
  | cons it k =>
    rw [ht] at hto hr
    have hto' : F.todo = it.conc :: k.map AItem.conc := hto
    cases it with
    | inBlock id =>
      obtain ⟨e1, e2⟩ := M.pure_iff.1 hr
      exact go k (step_lone_go (by rw [exec_eq hm]; unfold stepG.exec; simp only [hto', AItem.conc]; rfl)) e1 e2
    | inScope c =>
      obtain ⟨e1, e2⟩ := M.pure_iff.1 hr
      exact go k (step_lone_go (by rw [exec_eq hm]; unfold stepG.exec; simp only [hto', AItem.conc]; rfl)) e1 e2
    | inLoop c =>
      obtain ⟨e1, e2⟩ := M.pure_iff.1 hr
      exact go (.code c :: .inLoop c :: k) (step_lone_go (by rw [exec_eq hm]; unfold stepG.exec; simp only [hto', AItem.conc]; rfl)) e1 e2
    | beginRound =>
      dsimp only at hr
      cases hro : fr.round with
      | none => simp only [hro] at hr; exact (M.fail_iff.1 hr).elim
      | some l =>
        simp only [hro] at hr
        obtain ⟨b, s1, r1, r2⟩ := M.bind_iff.1 hr
        obtain ⟨_, _, hb, rfl⟩ := rd_iff.1 r1
        cases b with
        | loop st pend fnn tmps nt ps a bd d =>
          cases st with
          | ready =>
            simp only at r2
            obtain ⟨_, s2, r3, r4⟩ := M.bind_iff.1 r2
            obtain ⟨hw1, _, _, rfl⟩ := wr_iff.1 r3
            obtain ⟨rfl, rfl⟩ := M.pure_iff.1 r4
            obtain ⟨lo, tm, ld, hlo, hlo0, hheap, hd, htr⟩ := h.loop hb
            have hroF := hF.round
            rw [hro] at hroF
            obtain ⟨lo', hlo', _, hroF⟩ := hroF
            obtain rfl : lo' = lo := Option.some.inj (hlo'.symm.trans hlo)
            have hbr := run_beginRound (P := P) (w := w) hheap rfl
            have hlt : lo'.b < w.heap.size := h.inb l lo' hlo
            have hi := h.putLoop (b := .loop .busy pend fnn tmps nt ps a bd d) (o := .loop { state := .busy, pending := pend, fn := fnn, tmps := tm, params := ps.toArray, assign := a, body := bd, defers := ld }) hb (Nat.le_trans hL (canWrite_lock hw1)) hlo ⟨hlo0, tm, ld, World.putObj_heap_same hlt, hd, htr⟩
            have hfin : F.finish Go.undef = { F with todo := k.map AItem.conc } := by unfold Frame.finish; rw [hto']; rfl
            refine ⟨φ, _, { F with todo := k.map AItem.conc }, cs, .one ?_, hi, Ext.refl _ _ _, (by rw [← hro]; exact to_sound (k := k) hF hm), (by rw [← hro]; exact hc), Below.refl _ hc rfl, rfl, rfl, rfl, fun e => ⟨rfl, e⟩⟩
            rw [← hfin]
            refine step_skip' (m := do F.roundOf.elim (stuck "beginRound: no round") Instr.beginRound; Pure.pure .skip) ?_ ?_
            · rw [exec_eq hm]; unfold stepG.exec; simp only [hto', AItem.conc]
            · simp only [hroF, Option.elim_some, Sem.run_bind, hbr, Result.andThen_ok, Sem.run_pure]
          | _ => simp only at r2; exact (M.fail_iff.1 r2).elim
        | _ => simp only at r2; exact (M.fail_iff.1 r2).elim
    | ops all rest =>
      cases rest with
      | nil =>
        obtain ⟨e1, e2⟩ := M.pure_iff.1 hr
        exact go k (step_lone_go (by rw [exec_eq hm]; unfold stepG.exec; simp only [hto', AItem.conc]; rfl)) e1 e2
      | cons i rest =>
        dsimp only at hr
        cases ho : all[i]? with
        | none => simp only [ho] at hr; exact (M.fail_iff.1 hr).elim
        | some o =>
          simp only [ho] at hr
          rcases M.cond_iff.1 hr with ⟨hw, hq⟩ | ⟨hw, hq⟩
          · exact doOp_sound hrec hq h hf hL hg hF hm hc ht ho hw
          · cases hp : fr.put o.dst .undef with
            | none => simp only [hp] at hq; exact (M.fail_iff.1 hq).elim
            | some fr' =>
              simp only [hp] at hq
              obtain ⟨rfl, rfl⟩ := M.pure_iff.1 hq
              obtain ⟨k1, k2, k3, k4, k5, k6, k7, k8⟩ := put_keeps hp
              obtain ⟨f1, f2⟩ := finish_sound hF hto' ho hp VR.undef
              exact ⟨φ, w, _, cs, .one (step_off hm hto' ho (by rw [wanted_sound hF]; exact hw)), h, Ext.refl _ _ _, ⟨f1, f2.trans hm⟩, hc.same k6 k7 k8, Below.refl _ hc rfl, k6, k5, k1, fun e => ⟨k7, k8.symm.trans e⟩⟩
    | code c =>
      cases c with
      | ret => exact leave (some .ret) (.inr (.inl ⟨_, hto', rfl⟩)) hr
      | skip =>
        obtain ⟨e1, e2⟩ := M.pure_iff.1 hr
        exact go k (step_lone_go (by rw [exec_eq hm]; unfold stepG.exec; simp only [hto', AItem.conc]; rfl)) e1 e2
      | label l =>
        obtain ⟨e1, e2⟩ := M.pure_iff.1 hr
        exact go k (step_lone_go (by rw [exec_eq hm]; unfold stepG.exec; simp only [hto', AItem.conc]; rfl)) e1 e2
      | seq a b =>
        obtain ⟨e1, e2⟩ := M.pure_iff.1 hr
        exact go (.code a :: .code b :: k) (step_lone_go (by rw [exec_eq hm]; unfold stepG.exec; simp only [hto', AItem.conc]; rfl)) e1 e2
      | cond c thn els =>
        dsimp only at hr
        cases hcv : fr.eval P c with
        | none => simp only [hcv] at hr; exact (M.fail_iff.1 hr).elim
        | some cv =>
          cases cv with
          | bool b =>
            simp only [hcv] at hr
            obtain ⟨e1, e2⟩ := M.pure_iff.1 hr
            have hv := eval_sound hF hg _ _ hcv
            simp only [VR] at hv
            refine go (.code (bif b then thn else els) :: k) (step_lone_go ?_) e1 e2
            rw [exec_eq hm]; unfold stepG.exec; simp only [hto', AItem.conc, hv]
            cases b <;> rfl
          | _ => simp only [hcv] at hr; exact (M.fail_iff.1 hr).elim
      | block id body =>
        obtain ⟨e1, e2⟩ := M.pure_iff.1 hr
        exact go (.code body :: .inBlock id :: k) (step_lone_go (by rw [exec_eq hm]; unfold stepG.exec; simp only [hto', AItem.conc]; rfl)) e1 e2
      | loop body =>
        obtain ⟨e1, e2⟩ := M.pure_iff.1 hr
        exact go (.code body :: .inLoop body :: k) (step_lone_go (by rw [exec_eq hm]; unfold stepG.exec; simp only [hto', AItem.conc]; rfl)) e1 e2
      | scope body =>
        obtain ⟨e1, e2⟩ := M.pure_iff.1 hr
        exact go (.code body :: .inScope body :: k) (step_lone_go (by rw [exec_eq hm]; unfold stepG.exec; simp only [hto', AItem.conc]; rfl)) e1 e2
      | exit id =>
        dsimp only at hr
        have hex := exit_sound id k
        cases hx : exitToA id k with
        | some k' =>
          simp only [hx] at hr
          rw [hx] at hex
          obtain ⟨e1, e2⟩ := M.pure_iff.1 hr
          refine go k' (step_lone_go ?_) e1 e2
          rw [exec_eq hm]; unfold stepG.exec; simp only [hto', AItem.conc, hex]; rfl
        | none =>
          simp only [hx] at hr
          rw [hx] at hex
          exact leave (some (.exit id)) (.inr (.inr ⟨id, _, hto', hex, rfl⟩)) hr
      | region id ops draw =>
        cases draw with
        | false =>
          obtain ⟨e1, e2⟩ := M.pure_iff.1 hr
          exact go (.ops ops (List.range ops.size) :: k) (step_lone_go (by rw [exec_eq hm]; unfold stepG.exec; simp only [hto', AItem.conc]; rfl)) e1 e2
        | true =>
          obtain ⟨fr', s1, r1, r2⟩ := M.bind_iff.1 hr
          obtain ⟨rfl, rfl⟩ := M.pure_iff.1 r2
          obtain ⟨φ', w', F', cs', q1, q2, q3, q4, q5, c1, c2, q6, q7, q8, q9, q10⟩ := hdr r1 h hf hL hg hF hm hc ht
          exact ⟨φ', w', F', cs', q1, q2, q3, ⟨q4, q5⟩, c1, c2, q6, q9, q10, fun e => ⟨q7, q8.symm.trans e⟩⟩
      | rangeFunc f params assign body =>
        dsimp only at hr
        cases hfv : fr.eval P f with
        | none => simp only [hfv] at hr; exact (M.fail_iff.1 hr).elim
        | some fv =>
        have hv := eval_sound hF hg _ _ hfv
        cases fv with
        | func fn0 first captured =>
          cases fn0 with
          | func g =>
            cases first with
            | nil =>
              simp only [hfv] at hr
              exact range_sound hrec hr h hf hL hg hF hm hc ht hv
            | cons _ _ => simp only [hfv] at hr; exact (M.fail_iff.1 hr).elim
          | _ => simp only [hfv] at hr; exact (M.fail_iff.1 hr).elim
        | _ => simp only [hfv] at hr; exact (M.fail_iff.1 hr).elim
      | goto l => exact (M.fail_iff.1 hr).elim
      | refuse why => exact (M.fail_iff.1 hr).elim
end
end AM
