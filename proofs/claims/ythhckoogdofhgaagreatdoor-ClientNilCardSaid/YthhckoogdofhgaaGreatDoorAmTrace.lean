/-
  A lemma text: the abstract machine of the AmDef text reads as the model runs (part AmTrace). Conditions: none; no premise beyond what each theorem states.
-/
import Derived.Test.YthhckoogdofhgaaGreatDoorAmSwap
namespace AM
open Go

/-! What a run of a drawn region has noted. -/
section
variable {P : Program}

def Compat (q : Need) : Foot → Foot → Prop
  | .none, _ => True
  | _, .none => True
  | .load _, .load _ => True
  | .load _, .call => True
  | .load n, .store m => n ≠ m
  | .store n, .load m => n ≠ m
  | .store n, .store m => n ≠ m
  | .store _, .call => False
  | .call, .store _ => False
  | .call, .load m => memN q.locks m = true
  | .call, .call => q.full = true

theorem need_spec {bef : Array Nat} {i : Nat} {foot : Foot} : ∀ {ds : List Done} {q : Need}, need bef i foot ds = some q → ∀ d ∈ ds, ordered bef d.i i = true ∨ ((∀ n, d.lo ≤ n → n < d.hi → inForb q.forb n = true) ∧ Compat q foot d.foot) := by
  intro ds
  induction ds with
  | nil => intro q _ d hd; cases hd
  | cons x r ih =>
    intro q h d hd
    unfold need at h
    cases hn : need bef i foot r with
    | none => rw [hn] at h; cases h
    | some q0 =>
      rw [hn] at h
      simp only at h
      have ih' := ih hn
      cases ho : ordered bef x.i i with
      | true =>
        rw [ho] at h
        simp only [cond_true, Option.some.injEq] at h
        subst h
        rcases List.mem_cons.1 hd with rfl | hd
        · exact .inl ho
        · exact ih' d hd
      | false =>
        rw [ho] at h
        simp only [cond_false] at h
        -- what grows stays
        have grow : ∀ q', (∀ n, inForb q0.forb n = true → inForb q'.forb n = true) → (∀ n, memN q0.locks n = true → memN q'.locks n = true) → (q0.full = true → q'.full = true) → ∀ d ∈ r, ordered bef d.i i = true ∨ ((∀ n, d.lo ≤ n → n < d.hi → inForb q'.forb n = true) ∧ Compat q' foot d.foot) := by
          intro q' g1 g2 g3 d hd
          rcases ih' d hd with h | ⟨h1, h2⟩
          · exact .inl h
          · refine .inr ⟨fun n a b => g1 n (h1 n a b), ?_⟩
            cases foot <;> cases hdf : d.foot <;> rw [hdf] at h2 <;> simp only [Compat] at h2 ⊢ <;> first | exact h2 | exact g2 _ h2 | exact g3 h2
        have forb : ∀ (l : List (Nat × Nat)) n, x.lo ≤ n → n < x.hi → inForb ((x.lo, x.hi) :: l) n = true := fun l n a b => by
          simp only [inForb, Bool.or_eq_true, Bool.and_eq_true, Nat.ble_eq, Nat.blt_eq]; exact .inl ⟨a, b⟩
        have forb' : ∀ (l : List (Nat × Nat)) n, inForb l n = true → inForb ((x.lo, x.hi) :: l) n = true := fun l n a => by
          simp only [inForb, Bool.or_eq_true]; exact .inr a
        have fin : ∀ q', q'.forb = (x.lo, x.hi) :: q0.forb → (∀ n, memN q0.locks n = true → memN q'.locks n = true) → (q0.full = true → q'.full = true) → Compat q' foot x.foot → ∀ d ∈ x :: r, ordered bef d.i i = true ∨ ((∀ n, d.lo ≤ n → n < d.hi → inForb q'.forb n = true) ∧ Compat q' foot d.foot) := by
          intro q' e g2 g3 hc d hd
          rcases List.mem_cons.1 hd with rfl | hd
          · exact .inr ⟨fun n a b => by rw [e]; exact forb _ n a b, hc⟩
          · exact grow q' (fun n a => by rw [e]; exact forb' _ n a) g2 g3 d hd
        cases foot <;> cases hxf : x.foot <;> rw [hxf] at h <;> simp only [Option.some.injEq] at h
        case store.call => cases h
        case call.store => cases h
        case load.store n m =>
          cases hb : Nat.beq n m with
          | true => rw [hb] at h; cases h
          | false =>
            rw [hb] at h; simp only [cond_false, Option.some.injEq] at h
            subst h
            exact fin { q0 with forb := (x.lo, x.hi) :: q0.forb } rfl (fun _ a => a) (fun a => a) (by rw [hxf]; exact Nat.ne_of_beq_eq_false hb) d hd
        case store.load n m =>
          cases hb : Nat.beq n m with
          | true => rw [hb] at h; cases h
          | false =>
            rw [hb] at h; simp only [cond_false, Option.some.injEq] at h
            subst h
            exact fin { q0 with forb := (x.lo, x.hi) :: q0.forb } rfl (fun _ a => a) (fun a => a) (by rw [hxf]; exact Nat.ne_of_beq_eq_false hb) d hd
        case store.store n m =>
          cases hb : Nat.beq n m with
          | true => rw [hb] at h; cases h
          | false =>
            rw [hb] at h; simp only [cond_false, Option.some.injEq] at h
            subst h
            exact fin { q0 with forb := (x.lo, x.hi) :: q0.forb } rfl (fun _ a => a) (fun a => a) (by rw [hxf]; exact Nat.ne_of_beq_eq_false hb) d hd
        case call.load m =>
          subst h
          exact fin { q0 with forb := (x.lo, x.hi) :: q0.forb, locks := m :: q0.locks } rfl (fun n a => by simp only [memN, Bool.or_eq_true]; exact .inr a) (fun a => a) (by rw [hxf]; simp [Compat, memN]) d hd
        case call.call =>
          subst h
          exact fin { q0 with forb := (x.lo, x.hi) :: q0.forb, full := true } rfl (fun _ a => a) (fun _ => rfl) (by rw [hxf]; rfl) d hd
        all_goals
          subst h
          exact fin { q0 with forb := (x.lo, x.hi) :: q0.forb } rfl (fun _ a => a) (fun a => a) (by rw [hxf]; trivial) d hd

theorem laterTouch_spec {ops : Array Oper} {bef : Array Nat} {i : Nat} : ∀ {l : List Nat}, laterTouch ops bef i l = false → ∀ j ∈ l, ordered bef i j = true ∨ (∀ o, ops[j]? = some o → touches o.op = false)
  | [], _, j, hj => by cases hj
  | a :: l, h, j, hj => by
    unfold laterTouch at h
    simp only [Bool.or_eq_false_iff, Bool.and_eq_false_iff] at h
    rcases List.mem_cons.1 hj with rfl | hj
    · rcases h.1 with h1 | h1
      · left; simpa using h1
      · right; intro o ho; rw [ho] at h1; exact h1
    · exact laterTouch_spec h.2 j hj

theorem footOf_touches {fr : Fr} {o : Oper} {foot : Foot} (h : footOf P fr o = some foot) (hn : ∀ _ : foot = .none, False) : touches o.op = true := by
  unfold footOf at h
  unfold touches
  cases hop : o.op with
  | load t a => rfl
  | store t a x => rfl
  | call c =>
    rw [hop] at h
    simp only at h ⊢
    cases hc : c.callee with
    | builtin b =>
      rw [hc] at h
      cases b <;> simp only [Option.some.injEq] at h ⊢ <;> first | rfl | exact (hn h.symm).elim
    | _ => rfl
  | _ =>
    rw [hop] at h
    first
      | (simp only [Option.some.injEq] at h; exact (hn h.symm).elim)
      | (simp only at h; cases h)

/-- The two operations: e is run ahead of f. -/
theorem free_of {e f : It} {x : Ctx} {footE footF : Foot} {qE qF : Need} {fullE fullF : Bool} (hE : e.X = footCtx qE fullE footE x e.lo) (hF : f.X = footCtx qF fullF footF x f.lo)
    (hle : e.hi ≤ f.lo) (hforb : ∀ n, e.lo ≤ n → n < e.hi → inForb qF.forb n = true) (hc : Compat qF footF footE) (hq : qF.full = true → footF = .call → fullF = true)
    (hl : footE = .call → (footF = .none ∨ fullE = true)) : Free e f := by
  intro _ _
  have canF : ∀ n, f.X.canRead n = true → ¬ (e.lo ≤ n ∧ n < e.hi) := by
    rintro n hr ⟨h1, h2⟩
    have := hforb n h1 h2
    rw [hF] at hr
    unfold Ctx.canRead at hr
    cases footF <;> simp [footCtx, inForb_append, this] at hr
  -- what a foot lets see, of the old
  have seeOld : ∀ {g : It} {q : Need} {full : Bool} {foot : Foot} {n : Nat}, g.X = footCtx q full foot x g.lo → g.X.canRead n = true → n < g.lo → (match foot with | .none => False | .load a => n = a | .store a => n = a | .call => True) := by
    intro g q full foot n hg hr hn
    rw [hg] at hr
    unfold Ctx.canRead at hr
    cases foot <;> simp [footCtx, memN] at hr ⊢
    · omega
    · rcases hr.2 with h | h
      · exact h.symm
      · omega
    · rcases hr.2 with h | h
      · exact h.symm
      · omega
  have writeOld : ∀ {g : It} {q : Need} {full : Bool} {foot : Foot} {n : Nat}, g.X = footCtx q full foot x g.lo → g.X.canWrite n = true → n < g.lo → (match foot with | .none => False | .load a => False | .store a => n = a | .call => full = false ∧ memN q.locks n = false) := by
    intro g q full foot n hg hw hn
    have hs := seeOld hg (canWrite_canRead hw) hn
    rw [hg] at hw
    unfold Ctx.canWrite at hw
    simp only [Bool.and_eq_true, Nat.ble_eq] at hw
    obtain ⟨⟨h1, h2⟩, _⟩ := hw
    cases foot with
    | none => exact hs
    | load a => simp only [footCtx] at h1; have := Nat.le_max_left g.lo x.lock; exact absurd (Nat.le_trans this h1) (by omega)
    | store a => exact hs
    | call =>
      simp only [footCtx] at h1 h2
      cases full with
      | true => have := Nat.le_max_left g.lo x.lock; exact absurd (Nat.le_trans this h1) (by omega)
      | false =>
        refine ⟨rfl, ?_⟩
        rw [memN_append] at h2
        simp at h2
        exact h2.1
  constructor
  · rintro n ⟨hr, hn⟩ ⟨m1, m2, m3⟩
    have hlt : n < e.lo := by have := canF n hr; omega
    have hw : e.X.canWrite n = true := by rcases m3 with h | h; exact h; omega
    have h1 := writeOld hE hw hlt
    have h2 := seeOld hF hr (by omega)
    cases footE with
    | none => exact h1
    | load a => exact h1
    | store a =>
      simp only at h1
      cases footF <;> simp only [Compat] at hc h2
      · exact hc (h2.symm.trans h1)
      · exact hc (h2.symm.trans h1)
    | call =>
      rcases hl rfl with h | h
      · rw [h] at h2; exact h2
      · rw [h] at h1; cases h1.1
  · rintro n ⟨hr, hn⟩ ⟨m1, m2, m3⟩
    have hlt : n < e.lo := by have := canF n m1; omega
    have hw : f.X.canWrite n = true := by rcases m3 with h | h; exact h; omega
    have h1 := writeOld hF hw (by omega)
    have h2 := seeOld hE hr hlt
    cases footF with
    | none => exact h1
    | load a => exact h1
    | store a =>
      simp only at h1
      cases footE <;> simp only [Compat] at hc h2
      · exact hc (h1.symm.trans h2)
      · exact hc (h1.symm.trans h2)
    | call =>
      simp only at h1
      cases footE <;> simp only [Compat] at hc h2
      · rw [h2, hc] at h1; cases h1.2
      · rw [hq hc rfl] at h1; cases h1.1

theorem put_eq {fr fr' : Fr} {dst : Option Tmp} {a : AV} (h : fr.put dst a = some fr') : fr' = { fr with tmps := put1 fr.tmps dst a } ∧ ∀ d, dst = some d → d < fr.nt := by
  unfold Fr.put at h
  cases dst with
  | none => simp only [Option.some.injEq] at h; subst h; exact ⟨rfl, fun _ e => nomatch e⟩
  | some d =>
    simp only at h
    cases hb : Nat.blt d fr.nt with
    | false => rw [hb] at h; cases h
    | true =>
      rw [hb] at h; simp only [cond_true, Option.some.injEq] at h
      subst h
      rw [blt_eq] at hb
      exact ⟨rfl, fun e he => by cases he; exact of_decide_eq_true hb⟩

theorem RunI.fr {rec : Goal → M GRes} {ops : Array Oper} {fr : Fr} {t : T AV} : ∀ {es : List It} {a b : Sx}, RunI P rec ops { fr with tmps := t } es a b → RunI P rec ops fr es a b
  | [], _, _, h => h
  | _ :: _, _, _, h => by
    obtain ⟨c, h1, h2⟩ := h
    exact ⟨c, h1, RunI.fr h2⟩

set_option maxHeartbeats 2000000 in
theorem trace {rec : Goal → M GRes} (hrec : ∀ g, FrameP (rec g)) {ops : Array Oper} {bef : Array Nat} {x : Ctx} : ∀ {l : List Nat} {ds : List Done} {fr fr' : Fr} {s s' : St}, drawnOps P rec ops bef l ds fr x s = some (fr', s') →
    ∃ es : List It, es.map (·.i) = l ∧ RunI P rec ops fr es ⟨s.H, fr.tmps⟩ ⟨s'.H, fr'.tmps⟩ ∧ fr' = { fr with tmps := fr'.tmps } ∧ s.nx ≤ s'.nx ∧
      (∀ e ∈ es, s.nx ≤ e.lo ∧ e.lo ≤ e.hi ∧ e.hi ≤ s'.nx ∧ x.lock ≤ e.X.lock) ∧ es.Pairwise (fun e f => e.hi ≤ f.lo) ∧ es.Pairwise (fun e f => ordered bef e.i f.i = true ∨ Free e f) ∧
      (∀ d ∈ ds, ∀ e ∈ es, e.on = true → ∃ foot q full, e.X = footCtx q full foot x e.lo ∧ (foot = .none ∨ ∃ o, ops[e.i]? = some o ∧ touches o.op = true) ∧ (q.full = true → foot = .call → full = true) ∧
        (ordered bef d.i e.i = true ∨ ((∀ n, d.lo ≤ n → n < d.hi → inForb q.forb n = true) ∧ Compat q foot d.foot))) := by
  intro l
  induction l with
  | nil =>
    intro ds fr fr' s s' h
    unfold drawnOps at h
    obtain ⟨rfl, rfl⟩ := M.pure_iff.1 h
    exact ⟨[], rfl, ⟨rfl, rfl⟩, rfl, Nat.le_refl _, fun _ h => (List.not_mem_nil h).elim, .nil, .nil, fun _ _ _ h => (List.not_mem_nil h).elim⟩
  | cons i rest ih =>
    intro ds fr fr' s s' h
    unfold drawnOps at h
    cases ho : ops[i]? with
    | none => simp only [ho] at h; exact (M.fail_iff.1 h).elim
    | some o =>
    simp only [ho] at h
    rcases M.cond_iff.1 h with ⟨hw, hq⟩ | ⟨hw, hq⟩
    · obtain ⟨foot, s1, r1, q1⟩ := M.bind_iff.1 hq
      obtain ⟨hfoot, rfl⟩ := M.of_iff.1 r1
      obtain ⟨q, s2, r2, q2⟩ := M.bind_iff.1 q1
      obtain ⟨hneed, rfl⟩ := M.of_iff.1 r2
      obtain ⟨lo, s3, r3, q3⟩ := M.bind_iff.1 q2
      obtain ⟨rfl, rfl⟩ := getNx_iff.1 r3
      obtain ⟨v, s4, r4, q4⟩ := M.bind_iff.1 q3
      obtain ⟨hxo, r4⟩ := under_iff.1 r4
      obtain ⟨hi, s5, r5, q5⟩ := M.bind_iff.1 q4
      obtain ⟨rfl, rfl⟩ := getNx_iff.1 r5
      have hle := (frame_opVal P hrec _ _ _ _ _ _ r4).1
      cases hp : fr.put o.dst v with
      | none => simp only [hp] at q5; exact (M.fail_iff.1 q5).elim
      | some fr1 =>
      simp only [hp] at q5
      obtain ⟨hfr1, hdst⟩ := put_eq hp
      subst hfr1
      obtain ⟨es, hes, hrun, hfr, hnx, hb, hpw, hpf, hd⟩ := ih q5
      obtain ⟨e, he⟩ : ∃ e : It, e = ⟨i, s3.nx, s5.nx, footCtx q (q.full || (match (generalizing := false) foot with | .call => laterTouch ops bef i rest | _ => false)) foot x s3.nx, true⟩ := ⟨_, rfl⟩
      have hef : e.lo = s3.nx := by rw [he]
      have ehi : e.hi = s5.nx := by rw [he]
      have ei : e.i = i := by rw [he]
      have eX : e.X = footCtx q (q.full || (match (generalizing := false) foot with | .call => laterTouch ops bef i rest | _ => false)) foot x e.lo := by rw [he]
      have eon : e.on = true := by rw [he]
      have htouch : foot = .none ∨ ∃ o, ops[e.i]? = some o ∧ touches o.op = true := by
        cases hfo : foot with
        | none => exact .inl rfl
        | _ => exact .inr ⟨o, by rw [ei]; exact ho, footOf_touches hfoot fun hn => by rw [hfo] at hn; cases hn⟩
      have hlock : x.lock ≤ e.X.lock := by
        rw [eX]
        cases foot <;> simp only [footCtx]
        · exact Nat.le_max_right _ _
        · exact Nat.le_max_right _ _
        · exact Nat.le_refl _
        · cases (q.full || laterTouch ops bef i rest)
          · exact Nat.le_refl _
          · exact Nat.le_max_right _ _
      refine ⟨e :: es, by simp [hes, ei], ⟨⟨s5.H, put1 fr.tmps o.dst v⟩, ⟨o, v, by rw [ei]; exact ho, hdst, by rw [eon]; exact hw, rfl, .inl ⟨eon, s5, ?_, ehi.symm, rfl⟩⟩, hrun.fr⟩, hfr, Nat.le_trans hle hnx, ?_, ?_, ?_, ?_⟩
      · rw [he]; exact r4
      · intro f hf
        rcases List.mem_cons.1 hf with rfl | hf
        · exact ⟨by omega, by omega, by omega, hlock⟩
        · obtain ⟨b1, b2, b3, b4⟩ := hb f hf
          exact ⟨by omega, b2, b3, b4⟩
      · exact List.pairwise_cons.2 ⟨fun f hf => by rw [ehi]; exact (hb f hf).1, hpw⟩
      · refine List.pairwise_cons.2 ⟨fun f hf => ?_, hpf⟩
        cases hon : f.on with
        | false => exact .inr fun _ h => by rw [hon] at h; cases h
        | true =>
          obtain ⟨footF, qF, fullF, fX, ft, fq, fd⟩ := hd ⟨i, s3.nx, s5.nx, foot⟩ (by simp) f hf hon
          rcases fd with fd | ⟨fd1, fd2⟩
          · left; rw [ei]; exact fd
          · by_cases hord : ordered bef e.i f.i = true
            · exact .inl hord
            · refine .inr (free_of eX fX (by rw [ehi]; exact (hb f hf).1) (by rw [hef, ehi]; exact fd1) fd2 fq fun hc => ?_)
              rcases ft with ft | ⟨o', ho', ht'⟩
              · exact .inl ft
              · right
                cases hq : q.full with
                | true => rfl
                | false =>
                  rw [hc]
                  simp only [Bool.false_or]
                  cases hlt : laterTouch ops bef i rest with
                  | true => rfl
                  | false =>
                    have hfi : f.i ∈ rest := by rw [← hes]; exact List.mem_map.2 ⟨f, hf, rfl⟩
                    rcases laterTouch_spec hlt f.i hfi with h1 | h1
                    · rw [ei] at hord; exact absurd h1 hord
                    · rw [h1 o' ho'] at ht'; cases ht'
      · intro d hdm f hf hon
        rcases List.mem_cons.1 hf with rfl | hf
        · refine ⟨foot, q, _, eX, htouch, fun hqf _ => by rw [hqf]; rfl, ?_⟩
          rw [ei]
          exact need_spec hneed d hdm
        · exact hd d (List.mem_cons_of_mem _ hdm) f hf hon
    · cases hp : fr.put o.dst .undef with
      | none => simp only [hp] at hq; exact (M.fail_iff.1 hq).elim
      | some fr1 =>
      simp only [hp] at hq
      obtain ⟨hfr1, hdst⟩ := put_eq hp
      subst hfr1
      obtain ⟨es, hes, hrun, hfr, hnx, hb, hpw, hpf, hd⟩ := ih hq
      refine ⟨⟨i, s.nx, s.nx, x, false⟩ :: es, by simp [hes], ⟨⟨s.H, put1 fr.tmps o.dst .undef⟩, ⟨o, .undef, ho, hdst, hw, rfl, .inr ⟨rfl, rfl, rfl⟩⟩, hrun.fr⟩, hfr, hnx, ?_, ?_, ?_, ?_⟩
      · intro f hf
        rcases List.mem_cons.1 hf with rfl | hf
        · exact ⟨Nat.le_refl _, Nat.le_refl _, hnx, Nat.le_refl _⟩
        · exact hb f hf
      · exact List.pairwise_cons.2 ⟨fun f hf => (hb f hf).1, hpw⟩
      · exact List.pairwise_cons.2 ⟨fun f _ => .inr (fun h => nomatch h), hpf⟩
      · intro d hdm f hf hon
        rcases List.mem_cons.1 hf with rfl | hf
        · cases hon
        · exact hd d hdm f hf hon
end
end AM
