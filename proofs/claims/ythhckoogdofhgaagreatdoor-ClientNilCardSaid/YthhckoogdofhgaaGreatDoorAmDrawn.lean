/-
  A lemma text: the abstract machine of the AmDef text reads as the model runs (part AmDrawn). Conditions: none; no premise beyond what each theorem states.
-/
import Derived.Test.YthhckoogdofhgaaGreatDoorAmTrace
namespace AM
open Go

section
variable {P : Program} {w0 : World} {L0 : Nat}

theorem Inv.get_eq {φ : Phi} {H H' : T ABlk} {w : World} (h : Inv w0 L0 φ H w) (e : H.get = H'.get) : Inv w0 L0 φ H' w :=
  ⟨fun n b hb => h.blk n b (by rw [e]; exact hb), fun n m b b' l l' h1 h2 => h.inj n m b b' l l' (by rw [e]; exact h1) (by rw [e]; exact h2), h.low, h.old, h.size, h.inb, h.os, h.out, h.fz⟩
theorem TR.get_eq {φ : Phi} {nt : Nat} {t t' : T AV} {a : Array Value} (h : TR φ nt t a) (e : t.get = t'.get) : TR φ nt t' a := ⟨h.1, fun i hi => by rw [← e]; exact h.2 i hi⟩

theorem doOp_of_opVal {rec : Goal → M GRes} {fr : Fr} {o : Oper} {x : Ctx} {s s1 : St} {v : AV} (h : opVal P rec fr o x s = some (v, s1)) (hd : ∀ d, o.dst = some d → d < fr.nt) (k : List AItem) :
    doOp P rec { fr with todo := k } o x s = some (.cont { fr with todo := k, tmps := put1 fr.tmps o.dst v }, s1) := by
  have hput : ∀ (v : AV), ({ fr with todo := k } : Fr).put o.dst v = some { fr with todo := k, tmps := put1 fr.tmps o.dst v } := by
    intro v
    unfold Fr.put put1
    cases hod : o.dst with
    | none => rfl
    | some d => simp only [blt_eq, decide_eq_true (hd d hod), cond_true]
  have hev : ({ fr with todo := k } : Fr).eval P = fr.eval P := by funext y; cases y <;> rfl
  unfold opVal at h
  unfold doOp
  rw [hev]
  dsimp only
  obtain ⟨n, s2, r1, r2⟩ := M.bind_iff.1 h
  refine M.bind_iff.2 ⟨n, s2, r1, ?_⟩
  cases n with
  | value a =>
    obtain ⟨rfl, rfl⟩ := M.pure_iff.1 r2
    simp only [hput]; rfl
  | skip =>
    obtain ⟨rfl, rfl⟩ := M.pure_iff.1 r2
    simp only [hput]; rfl
  | enter f args =>
    obtain ⟨g, s3, r3, r4⟩ := M.bind_iff.1 r2
    cases g with
    | done a =>
      obtain ⟨rfl, rfl⟩ := M.pure_iff.1 r4
      refine M.bind_iff.2 ⟨_, _, r3, ?_⟩
      simp only [hput]; rfl
    | _ => exact (M.fail_iff.1 r4).elim
  | yield l args =>
    obtain ⟨g, s3, r3, r4⟩ := M.bind_iff.1 r2
    cases g with
    | done a =>
      obtain ⟨rfl, rfl⟩ := M.pure_iff.1 r4
      refine M.bind_iff.2 ⟨_, _, r3, ?_⟩
      simp only [hput]; rfl
    | _ => exact (M.fail_iff.1 r4).elim
  | _ => exact (M.fail_iff.1 r2).elim

theorem FrR.tmps_eq {φ : Phi} {fr : Fr} {F : Frame} {t : T AV} (h : FrR φ fr F) (e : fr.tmps.get = t.get) : FrR φ { fr with tmps := t } F := ⟨h.fn, h.tmps.get_eq e, h.todo, h.defers, h.round, h.kind⟩

set_option maxHeartbeats 2000000 in
/-- The machine runs the operations in the order drawn. -/
theorem sim {rec : Goal → M GRes} (hrec : RecOK P w0 L0 rec) {ops : Array Oper} {fr : Fr} {k : List AItem} {S S' : Nat} : ∀ {es : List It} {a b : Sx} {φ : Phi} {w : World} {F : Frame} {cs : List Frame}, RunI P rec ops fr es a b →
    FrR φ { fr with tmps := a.T, todo := .ops ops (es.map (·.i)) :: k } F → F.mode = .run → CallR φ fr cs → Inv w0 L0 φ a.H w → (∀ e ∈ es, Fresh φ e.lo e.hi) → (∀ e ∈ es, S ≤ e.lo ∧ e.lo ≤ e.hi ∧ e.hi ≤ S' ∧ L0 ≤ e.X.lock) → GOK P φ →
    es.Pairwise (fun e f => e.hi ≤ f.lo ∨ f.hi ≤ e.lo) →
    ∃ φ' w' F' cs', Steps P (lone F cs w) (lone F' cs' w') ∧ Inv w0 L0 φ' b.H w' ∧ Ext φ φ' S S' ∧ FrR φ' { fr with tmps := b.T, todo := .ops ops [] :: k } F' ∧ F'.mode = .run ∧ CallR φ' fr cs' ∧ Below fr.dcall cs cs' := by
  intro es
  induction es with
  | nil =>
    intro a b φ w F cs hr hF hm hc hi _ _ _ _
    exact ⟨φ, w, F, cs, Steps.refl _ _, hi.get_eq hr.1, Ext.refl _ _ _, hF.tmps_eq (fr := { fr with tmps := a.T, todo := _ }) hr.2, hm, hc, Below.refl _ hc rfl⟩
  | cons e es ih =>
    intro a b φ w F cs hr hF hm hc hi hfr hb hg hp
    obtain ⟨c, ⟨o, v, ho, hd, hw, hpt, hst⟩, hr2⟩ := hr
    obtain ⟨hp1, hp2⟩ := List.pairwise_cons.1 hp
    obtain ⟨hS, hle, hS', hL⟩ := hb e (by simp)
    have hto : F.todo = .inRegion ops (e.i :: es.map (·.i)) :: k.map AItem.conc := by rw [hF.todo]; rfl
    rcases hst with ⟨hon, s1, r1, r2, r3⟩ | ⟨hoff, rfl, r2⟩
    · have hdo := doOp_of_opVal r1 hd (.ops ops (es.map (·.i)) :: k)
      obtain ⟨φ1, w1, F1, cs1, q1, q2, q3, q4, q5, q6, q7, q8, q9, q10⟩ := doOp_sound (fr := { fr with tmps := a.T, todo := .ops ops ((e :: es).map (·.i)) :: k }) (cs := cs) hrec hdo hi (by rw [r2]; exact hfr e (by simp)) hL hg hF hm hc rfl ho (by rw [← hon, ← hw]; rfl)
      simp only [r2] at q3
      have hF1 : FrR φ1 { fr with tmps := c.T, todo := .ops ops (es.map (·.i)) :: k } F1 := by
        have := q4.1.tmps_eq (t := c.T) hpt
        exact this
      obtain ⟨φ2, w2, F2, cs2, p1, p2, p3, p4, p5, p6, p7⟩ := ih hr2 hF1 q4.2 (q5.same (fr' := fr) rfl rfl rfl) (q2.get_eq r3)
        (fun f hf => (hfr f (List.mem_cons_of_mem _ hf)).ext q3 (by rcases hp1 f hf with h | h; exact .inl h; exact .inr h)) (fun f hf => hb f (List.mem_cons_of_mem _ hf)) (hg.mono q3.1) hp2
      exact ⟨φ2, w2, F2, cs2, q1.trans p1, p2, q3.trans p3 hS (Nat.le_refl _) hS' (Nat.le_refl _), p4, p5, p6, q6.trans p7⟩
    · have hFt := finish_sound (a := .undef) (v := Go.undef) (fr' := { fr with tmps := put1 a.T o.dst .undef, todo := .ops ops ((e :: es).map (·.i)) :: k }) hF hto ho (by
        unfold Fr.put put1
        cases hod : o.dst with
        | none => rfl
        | some d => simp only [blt_eq, decide_eq_true (hd d hod), cond_true]) VR.undef
      have hF1 : FrR φ { fr with tmps := c.T, todo := .ops ops (es.map (·.i)) :: k } (F.finish Go.undef) := hFt.1.tmps_eq (t := c.T) hpt
      have hst1 : step P (lone F cs w) = .next (lone (F.finish Go.undef) cs w) := step_off hm hto ho (by rw [wanted_sound hF, ← hoff, ← hw]; rfl)
      obtain ⟨φ2, w2, F2, cs2, p1, p2, p3, p4, p5, p6, p7⟩ := ih hr2 hF1 (hFt.2.trans hm) hc (hi.get_eq r2) (fun f hf => hfr f (List.mem_cons_of_mem _ hf)) (fun f hf => hb f (List.mem_cons_of_mem _ hf)) hg hp2
      exact ⟨φ2, w2, F2, cs2, .head hst1 p1, p2, p3, p4, p5, p6, p7⟩

/-! The plan's word. -/
theorem memN_iff {n : Nat} : ∀ {l : List Nat}, memN l n = true ↔ n ∈ l
  | [] => by simp [memN]
  | a :: l => by
    simp only [memN, Bool.or_eq_true, List.mem_cons, memN_iff (l := l)]
    constructor
    · rintro (h | h)
      · exact .inl (Nat.eq_of_beq_eq_true h).symm
      · exact .inr h
    · rintro (h | h)
      · subst h; exact .inl (Nat.beq_refl _)
      · exact .inr h

theorem linOk_spec {bef : Array Nat} {n : Nat} : ∀ {l : List Nat} {done : Nat}, linOk bef n done l = true → l.Nodup ∧ (∀ i ∈ l, i < n ∧ done.testBit i = false) ∧ l.Pairwise (fun i j => ¬ ordered bef j i = true)
  | [], _, _ => ⟨.nil, fun _ h => (List.not_mem_nil h).elim, .nil⟩
  | i :: l, done, h => by
    unfold linOk at h
    simp only [Bool.and_eq_true, Bool.not_eq_true', Nat.blt_eq] at h
    obtain ⟨⟨⟨h1, h2⟩, h3⟩, h4⟩ := h
    obtain ⟨q1, q2, q3⟩ := linOk_spec h4
    have bit : ∀ j ∈ l, j ≠ i ∧ done.testBit j = false := fun j hj => by
      have := (q2 j hj).2
      change (done ||| 2 ^ i).testBit j = false at this
      rw [Nat.testBit_or, Nat.testBit_two_pow] at this
      simp only [Bool.or_eq_false_iff, decide_eq_false_iff_not] at this
      exact ⟨fun e => this.2 e.symm, this.1⟩
    refine ⟨List.nodup_cons.2 ⟨fun hi => (bit i hi).1 rfl, q1⟩, fun j hj => ?_, List.pairwise_cons.2 ⟨fun j hj hord => ?_, q3⟩⟩
    · rcases List.mem_cons.1 hj with rfl | hj
      · exact ⟨h1, h2⟩
      · exact ⟨(q2 j hj).1, (bit j hj).2⟩
    · -- j must be listed ahead of i, and is not
      have hsub := Nat.eq_of_beq_eq_true h3
      have : (bef.getD i 0).testBit j = true := hord
      rw [← hsub] at this
      change ((bef.getD i 0) &&& done).testBit j = true at this
      rw [Nat.testBit_and, (bit j hj).2, Bool.and_false] at this
      cases this

theorem rankedOk_spec {md : Region.Mode} {ops : Array Oper} {rank : Nat → Nat} (h : rankedOk md ops rank = true) : Ranked md ops := by
  refine ⟨rank, fun i o ho e he hb => ?_⟩
  have hlt : i < ops.size := (Array.getElem?_eq_some_iff.1 ho).1
  unfold rankedOk at h
  have := List.all_eq_true.1 h i (List.mem_range.2 hlt)
  simp only [ho] at this
  have := List.all_eq_true.1 this e (Array.mem_toList_iff.2 he)
  simp only [hb, Bool.not_true, Bool.false_or, Bool.and_eq_true, Nat.blt_eq] at this
  exact this

theorem tmpsOk_spec {ops : Array Oper} {bef : Array Nat} (h : tmpsOk ops bef = true) {k i : Nat} {o q : Oper} {d : Tmp} (hk : ops[k]? = some o) (hi : ops[i]? = some q) (hd : o.dst = some d) (hki : k ≠ i) (h1 : ¬ ordered bef k i = true) (h2 : ¬ ordered bef i k = true) : usesT ops q d = false := by
  have hlk : k < ops.size := (Array.getElem?_eq_some_iff.1 hk).1
  have hli : i < ops.size := (Array.getElem?_eq_some_iff.1 hi).1
  unfold tmpsOk at h
  have := List.all_eq_true.1 h k (List.mem_range.2 hlk)
  simp only [hk, hd] at this
  have := List.all_eq_true.1 this i (List.mem_range.2 hli)
  simp only [hi, Bool.or_eq_true, Bool.not_eq_true'] at this
  rcases this with ((h' | h') | h') | h'
  · exact absurd (Nat.eq_of_beq_eq_true h') hki
  · exact absurd h' h1
  · exact absurd h' h2
  · exact h'

set_option maxHeartbeats 2000000 in
/-- A drawn region. -/
theorem drawn_ok {rec : Goal → M GRes} (hrec : RecOK P w0 L0 rec) : DrawnOK P w0 L0 rec := by
  intro fr fr' ops id k x s s' φ w F cs hr h hf hL hg hF hm hc ht
  unfold drawn at hr
  cases hpl : plan ops with
  | none => simp only [hpl] at hr; exact (M.fail_iff.1 hr).elim
  | some l =>
  simp only [hpl] at hr
  obtain ⟨es, hes, hrun, hfr', hnx, hb, hpw, hpf, -⟩ := trace hrec.frame hr
  -- the plan
  unfold plan at hpl
  dsimp only at hpl
  obtain ⟨hall, hlin, hany, hdep, htmp⟩ : (List.range ops.size).all (fun i => memN l i) = true ∧ linOk (Region.before ops) ops.size 0 l = true ∧ rankedOk .any ops (fun i => i) = true ∧
      (!Region.departs ops || (rankedOk .text ops (fun i => i) && rankedOk .gc ops (posIn (Region.linearise .gc ops 0)))) = true ∧ tmpsOk ops (Region.before ops) = true := by
    revert hpl
    generalize greedy ops (Region.before ops) ops.size 0 = l0
    intro hpl
    cases hcond : ((List.range ops.size).all (fun i => memN l0 i) && linOk (Region.before ops) ops.size 0 l0 && rankedOk .any ops (fun i => i) && (!Region.departs ops || (rankedOk .text ops (fun i => i) && rankedOk .gc ops (posIn (Region.linearise .gc ops 0)))) && tmpsOk ops (Region.before ops)) with
    | false => rw [hcond] at hpl; cases hpl
    | true =>
      rw [hcond] at hpl
      simp only [cond_true, Option.some.injEq] at hpl
      subst hpl
      simp only [Bool.and_eq_true] at hcond
      obtain ⟨⟨⟨⟨c1, c2⟩, c3⟩, c4⟩, c5⟩ := hcond
      exact ⟨c1, c2, c3, c4, c5⟩
  obtain ⟨hnd, hlt, hord⟩ := linOk_spec hlin
  have hmemL : ∀ i, i ∈ l ↔ i < ops.size := fun i => ⟨fun hi => (hlt i hi).1, fun hi => memN_iff.1 (List.all_eq_true.1 hall i (List.mem_range.2 hi))⟩
  -- the order drawn
  have hsched : ∀ (mixed : Bool) (t : Nat), (Region.schedule mixed ops t).Nodup ∧ (∀ i, i ∈ Region.schedule mixed ops t ↔ i < ops.size) ∧ ∃ md, Keeps md ops (Region.schedule mixed ops t) := by
    intro mixed t
    unfold Region.schedule
    by_cases hmx : (mixed || !Region.departs ops) = true
    · rw [if_pos hmx]
      obtain ⟨a, b, c⟩ := linearise_spec (rankedOk_spec hany) t
      exact ⟨a, b, _, c⟩
    · rw [if_neg hmx]
      simp only [Bool.or_eq_true, Bool.not_eq_true', not_or, Bool.not_eq_false] at hmx
      rw [hmx.2] at hdep
      simp only [Bool.not_true, Bool.false_or, Bool.and_eq_true] at hdep
      by_cases ht2 : (t % 2 == 0) = true
      · rw [if_pos ht2]
        obtain ⟨a, b, c⟩ := linearise_spec (rankedOk_spec hdep.1) (t / 2)
        exact ⟨a, b, _, c⟩
      · rw [if_neg ht2]
        obtain ⟨a, b, c⟩ := linearise_spec (rankedOk_spec hdep.2) (t / 2)
        exact ⟨a, b, _, c⟩
  obtain ⟨t, ht'⟩ : ∃ t, t = w.tape w.drawn (.order F.fn id) := ⟨_, rfl⟩
  obtain ⟨σ, hσ⟩ : ∃ σ, σ = Region.schedule (P.follows .mixedOrders) ops t := ⟨_, rfl⟩
  obtain ⟨hσ1, hσ2, md, hσ3⟩ := hsched (P.follows .mixedOrders) t
  rw [← hσ] at hσ1 hσ2 hσ3
  have hto : F.todo = .code (.region id ops true) :: k.map AItem.conc := by rw [hF.todo, ht]; rfl
  have hst : step P (lone F cs w) = .next (lone { F with todo := .inRegion ops σ :: k.map AItem.conc } cs { w with drawn := w.drawn + 1 }) := by
    refine step_lone_go ?_
    rw [exec_eq hm]
    unfold stepG.exec
    simp only [hto]
    simp [choose, Sem.run, Question.forced, Question.cut, hσ, ht']
  -- the runs
  have hperm : σ.Perm (es.map (·.i)) := by
    rw [hes]
    exact (List.perm_ext_iff_of_nodup hσ1 hnd).2 fun i => (hσ2 i).trans (hmemL i).symm
  have hσp : σ.Pairwise (fun i j => ¬ (ordered (Region.before ops) j i = true)) := by
    have key : ∀ (A l : List Nat), σ = A ++ l → l.Pairwise (fun i j => ¬ (ordered (Region.before ops) j i = true)) := by
      intro A l
      induction l generalizing A with
      | nil => intro _; exact .nil
      | cons i l ih =>
        intro hA
        refine List.pairwise_cons.2 ⟨fun j hj hord => ?_, ih (A ++ [i]) (by simp [hA])⟩
        have hjA := hσ3.reach (before_reach ops hord) A l hA
        rw [hA] at hσ1
        exact (List.nodup_append.1 hσ1).2.2 j hjA j (List.mem_cons_of_mem _ hj) rfl
    exact key [] σ rfl
  have hesnd : es.Pairwise (fun e f => e.i ≠ f.i ∧ ¬ ordered (Region.before ops) f.i e.i = true) := by
    have h1 : (es.map (·.i)).Pairwise (fun i j => i ≠ j ∧ ¬ ordered (Region.before ops) j i = true) := by
      rw [hes]
      exact List.Pairwise.and hnd hord
    exact List.pairwise_map.1 h1
  have hR : es.Pairwise (fun e f => ordered (Region.before ops) e.i f.i = true ∨ (Free e f ∧ TFree ops e f)) := by
    refine (hpf.and hesnd).imp ?_
    rintro e f ⟨h1, h2, h3⟩
    by_cases ho : ordered (Region.before ops) e.i f.i = true
    · exact .inl ho
    · refine .inr ⟨h1.resolve_left ho, fun o q ho' hq' => ⟨fun d hd => ?_, fun d hd => ?_⟩⟩
      · exact tmpsOk_spec htmp ho' hq' hd h2 ho h3
      · exact tmpsOk_spec htmp hq' ho' hd h2.symm h3 ho
  obtain ⟨es', he1, he2, hrun'⟩ := RunI.perm hrec.frame hrun hperm hR hσp
  have hF1 : FrR φ { fr with tmps := fr.tmps, todo := .ops ops (es'.map (·.i)) :: k } { F with todo := .inRegion ops σ :: k.map AItem.conc } := by
    rw [he1]
    exact ⟨hF.fn, hF.tmps, rfl, hF.defers, hF.round, hF.kind⟩
  have hdis : es'.Pairwise (fun e f => e.hi ≤ f.lo ∨ f.hi ≤ e.lo) := by
    refine (List.Perm.pairwise_iff (R := fun e f : It => e.hi ≤ f.lo ∨ f.hi ≤ e.lo) (fun {a b} h => h.symm) he2).2 (hpw.imp fun h => .inl h)
  obtain ⟨φ', w', F', cs', p1, p2, p3, p4, p5, p6, p7⟩ := sim (S := s.nx) (S' := s'.nx) (fr := { fr with todo := k }) (cs := cs) (w := { w with drawn := w.drawn + 1 }) hrec hrun' hF1 hm (hc.same (fr' := { fr with todo := k }) rfl rfl rfl) (h.heap_eq rfl rfl rfl)
    (fun e he => by obtain ⟨b1, b2, b3, b4⟩ := hb e (he2.subset he); exact hf.sub b1 b3)
    (fun e he => by obtain ⟨b1, b2, b3, b4⟩ := hb e (he2.subset he); exact ⟨b1, b2, b3, Nat.le_trans hL b4⟩) hg hdis
  have hto2 : F'.todo = .inRegion ops [] :: k.map AItem.conc := by rw [p4.todo]; rfl
  have hst2 : step P (lone F' cs' w') = .next (lone { F' with todo := k.map AItem.conc } cs' w') := step_lone_go (by rw [exec_eq p5]; unfold stepG.exec; simp only [hto2]; rfl)
  rw [hfr']
  exact ⟨φ', w', { F' with todo := k.map AItem.conc }, cs', .head hst (p1.trans (.one hst2)), p2, p3, ⟨p4.fn, p4.tmps, rfl, p4.defers, p4.round, p4.kind⟩, p5, p6.same rfl rfl rfl, p7, rfl, rfl, rfl, rfl, rfl⟩

/-- The abstract machine's word holds. -/
theorem go_sound (n : Nat) : RecOK P w0 L0 (go P n) := go_ok (fun _ => drawn_ok) n
end
end AM
