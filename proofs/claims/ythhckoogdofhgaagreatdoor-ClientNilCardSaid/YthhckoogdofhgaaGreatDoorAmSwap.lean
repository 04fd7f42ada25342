/-
  A lemma text: the abstract machine of the AmDef text reads as the model runs (part AmSwap). Conditions: none; no premise beyond what each theorem states.
-/
import Derived.Test.YthhckoogdofhgaaGreatDoorAmRec
import Derived.Test.YthhckoogdofhgaaGreatDoorAmOrd
namespace AM
open Go

/-! Two operations that are not ordered may change places. -/

section
variable {P : Program}

theorem namesTmp_iff {t : Tmp} : ∀ {l : List Operand}, namesTmp t l = true ↔ Operand.tmp t ∈ l
  | [] => by simp [namesTmp]
  | y :: l => by
    cases y with
    | tmp u =>
      simp only [namesTmp, Bool.or_eq_true, List.mem_cons, Operand.tmp.injEq, namesTmp_iff (l := l)]
      constructor
      · rintro (h | h)
        · exact .inl (Nat.eq_of_beq_eq_true h).symm
        · exact .inr h
      · rintro (h | h)
        · subst h; exact .inl (Nat.beq_refl _)
        · exact .inr h
    | _ => simp [namesTmp, namesTmp_iff (l := l)]

theorem argsA_congr {ρ ρ' : Operand → Option AV} : ∀ {l : List Operand}, (∀ x ∈ l, ρ x = ρ' x) → argsA ρ l = argsA ρ' l
  | [], _ => rfl
  | x :: l, h => by
    unfold argsA
    rw [h x (by simp), argsA_congr (l := l) fun y hy => h y (List.mem_cons_of_mem _ hy)]
theorem partsA_congr {ρ ρ' : Operand → Option AV} : ∀ {l : List (Nat × Operand)}, (∀ x ∈ l.map (·.2), ρ x = ρ' x) → partsA ρ l = partsA ρ' l
  | [], _ => rfl
  | (i, x) :: l, h => by
    unfold partsA
    rw [h x (by simp), partsA_congr (l := l) fun y hy => h y (by simp only [List.map_cons]; exact List.mem_cons_of_mem _ hy)]
theorem optA_congr {ρ ρ' : Operand → Option AV} : ∀ {o : Option Operand}, (∀ x ∈ o.toArray, ρ x = ρ' x) → optA ρ o = optA ρ' o
  | none, _ => rfl
  | some y, h => by
    simp only [optA, h y (by simp)]

set_option maxHeartbeats 1000000 in
/-- An operation hangs on its operands alone. -/
theorem execA_congr {ρ ρ' : Operand → Option AV} (o : Oper) (h : ∀ x ∈ o.op.operands, ρ x = ρ' x) : execA P ρ o = execA P ρ' o := by
  obtain ⟨dst, op, type, pos, after, guard⟩ := o
  cases op <;> simp only [Op.operands] at h <;> simp only [execA]
  case build t ps => rw [partsA_congr fun x hx => h x (by simpa using hx)]
  case buildSlice t n ps => rw [partsA_congr fun x hx => h x (by simpa using hx)]
  case makeFunc fn first captured =>
    rw [argsA_congr (l := first.toList) fun x hx => h x (by simp [Array.mem_toList_iff.1 hx]), argsA_congr (l := captured.toList) fun x hx => h x (by simp [Array.mem_toList_iff.1 hx])]
  case call c =>
    rw [argsA_congr (l := c.args.toList) fun x hx => h x (by simp [Call.operands, Array.mem_toList_iff.1 hx])]
    cases hc : c.callee with
    | value f => have hf : ρ f = ρ' f := h f (by simp [Call.operands, hc]); simp only [hf]
    | _ => rfl
  case defer c =>
    rw [argsA_congr (l := c.args.toList) fun x hx => h x (by simp [Call.operands, Array.mem_toList_iff.1 hx])]
    cases hc : c.callee with
    | value f => have hf : ρ f = ρ' f := h f (by simp [Call.operands, hc]); simp only [hf]
    | _ => rfl
  case slice t x lo hi mx =>
    rw [h x (by simp), optA_congr (o := lo) fun y hy => h y (by simp [Array.mem_append, hy]), optA_congr (o := hi) fun y hy => h y (by simp [Array.mem_append, hy]), optA_congr (o := mx) fun y hy => h y (by simp [Array.mem_append, hy])]
  all_goals (first | rfl | (simp_all; done))

/-- One operation of a drawn region, and what was noted of it. -/
structure It where
  i : Nat
  lo : Nat
  hi : Nat
  X : Ctx
  on : Bool

structure Sx where
  H : T ABlk
  T : T AV

def put1 (t : T AV) (dst : Option Tmp) (v : AV) : T AV := match dst with
  | some d => t.set d (some v)
  | none => t

variable (P) in
def StepI (rec : Goal → M GRes) (ops : Array Oper) (fr : Fr) (e : It) (a b : Sx) : Prop := ∃ o v, ops[e.i]? = some o ∧ (∀ d, o.dst = some d → d < fr.nt) ∧
  wantedA ops { fr with tmps := a.T } o = e.on ∧ (put1 a.T o.dst v).get = b.T.get ∧
  ((e.on = true ∧ ∃ s1, opVal P rec { fr with tmps := a.T } o e.X ⟨a.H, e.lo⟩ = some (v, s1) ∧ s1.nx = e.hi ∧ s1.H.get = b.H.get) ∨
   (e.on = false ∧ v = .undef ∧ a.H.get = b.H.get))

theorem eval_congr {fr : Fr} {t t' : T AV} (y : Operand) (h : ∀ u, y = .tmp u → t.get u = t'.get u) : ({ fr with tmps := t } : Fr).eval P y = ({ fr with tmps := t' } : Fr).eval P y := by
  cases y with
  | tmp u => simp only [Fr.eval, h u rfl]
  | _ => rfl

theorem opVal_congr {rec : Goal → M GRes} {fr : Fr} {t t' : T AV} (o : Oper) (h : ∀ u, Operand.tmp u ∈ o.op.operands → t.get u = t'.get u) : opVal P rec { fr with tmps := t } o = opVal P rec { fr with tmps := t' } o := by
  unfold opVal
  rw [execA_congr o fun x hx => eval_congr x fun u e => h u (e ▸ hx)]

theorem wantedA_congr {ops : Array Oper} {fr : Fr} {t t' : T AV} (o : Oper) (h : ∀ j w q d, o.guard = some (j, w) → ops[j]? = some q → q.dst = some d → t.get d = t'.get d) : wantedA ops { fr with tmps := t } o = wantedA ops { fr with tmps := t' } o := by
  unfold wantedA
  cases hg : o.guard with
  | none => rfl
  | some g =>
    obtain ⟨j, w⟩ := g
    have : yieldedA ops { fr with tmps := t } j = yieldedA ops { fr with tmps := t' } j := by
      unfold yieldedA
      cases hq : ops[j]? with
      | none => rfl
      | some q =>
        simp only
        cases hd : q.dst with
        | none => rfl
        | some d => simp only [h j w q d hg hq hd]
    simp only [this]

theorem put1_get (t : T AV) (dst : Option Tmp) (v : AV) (u : Nat) : (put1 t dst v).get u = if dst = some u then some v else t.get u := by
  unfold put1
  cases dst with
  | none => simp
  | some d =>
    simp only [T.get_set, Option.some.injEq]
    by_cases e : u = d
    · subst e; simp
    · rw [if_neg e, if_neg fun q => e q.symm]

theorem StepI.congr {rec : Goal → M GRes} (hrec : ∀ g, FrameP (rec g)) {ops : Array Oper} {fr : Fr} {e : It} {a a' b b' : Sx} (h : StepI P rec ops fr e a b) (h1 : a.H.get = a'.H.get) (h2 : a.T.get = a'.T.get) (h3 : b.H.get = b'.H.get) (h4 : b.T.get = b'.T.get) : StepI P rec ops fr e a' b' := by
  obtain ⟨o, v, ho, hd, hw, hp, hr⟩ := h
  refine ⟨o, v, ho, hd, ?_, ?_, ?_⟩
  · rw [← hw]; exact wantedA_congr o fun _ _ _ d _ _ _ => by rw [h2]
  · rw [← h4, ← hp]
    funext u
    rw [put1_get, put1_get, h2]
  · rcases hr with ⟨on, s1, r1, r2, r3⟩ | ⟨off, r1, r2⟩
    · refine .inl ⟨on, ?_⟩
      rw [opVal_congr (t' := a'.T) o fun u _ => by rw [h2]] at r1
      obtain ⟨_, g1, g2⟩ := frame_opVal P hrec _ _ _ _ _ _ r1
      obtain ⟨s3, q1, q2, q3, q4⟩ := g2 ⟨a'.H, e.lo⟩ rfl (fun n _ _ => by rw [h1])
      refine ⟨s3, q1, q2.trans r2, ?_⟩
      rw [← h3, ← r3]
      funext n
      by_cases hn : e.X.canRead n = true ∧ n < s1.nx
      · exact q3 n hn.1 hn.2
      · rw [q4 n hn, g1 n fun hm => hn ⟨hm.1, hm.2.1⟩]
        show a'.H.get n = a.H.get n
        rw [h1]
    · exact .inr ⟨off, r1, by rw [← h1, ← h3]; exact r2⟩

def RunI (P : Program) (rec : Goal → M GRes) (ops : Array Oper) (fr : Fr) : List It → Sx → Sx → Prop
  | [], a, b => a.H.get = b.H.get ∧ a.T.get = b.T.get
  | e :: es, a, b => ∃ c, StepI P rec ops fr e a c ∧ RunI P rec ops fr es c b

theorem RunI.congr {rec : Goal → M GRes} (hrec : ∀ g, FrameP (rec g)) {ops : Array Oper} {fr : Fr} : ∀ {es : List It} {a a' b b' : Sx}, RunI P rec ops fr es a b → a.H.get = a'.H.get → a.T.get = a'.T.get → b.H.get = b'.H.get → b.T.get = b'.T.get → RunI P rec ops fr es a' b'
  | [], a, a', b, b', h, h1, h2, h3, h4 => ⟨(h1.symm.trans h.1).trans h3, (h2.symm.trans h.2).trans h4⟩
  | e :: es, a, a', b, b', h, h1, h2, h3, h4 => by
    obtain ⟨c, hs, hr⟩ := h
    exact ⟨c, hs.congr hrec h1 h2 rfl rfl, RunI.congr hrec hr rfl rfl h3 h4⟩

/-- What an operation may turn, by what was noted. -/
def ModI (e : It) (n : Nat) : Prop := e.X.canRead n = true ∧ n < e.hi ∧ (e.X.canWrite n = true ∨ e.lo ≤ n)
def SeesI (e : It) (n : Nat) : Prop := e.X.canRead n = true ∧ n < e.hi

/-- Neither sees what the other turns. -/
def Free (e f : It) : Prop := e.on = true → f.on = true → (∀ n, SeesI f n → ¬ ModI e n) ∧ (∀ n, SeesI e n → ¬ ModI f n)

/-- No temporary in common that one of them writes. -/
def TFree (ops : Array Oper) (e f : It) : Prop := ∀ o q, ops[e.i]? = some o → ops[f.i]? = some q → (∀ d, o.dst = some d → usesT ops q d = false) ∧ (∀ d, q.dst = some d → usesT ops o d = false)

theorem usesT_op {ops : Array Oper} {o : Oper} {d u : Tmp} (h : usesT ops o d = false) (hu : Operand.tmp u ∈ o.op.operands) : u ≠ d := by
  rintro rfl
  unfold usesT at h
  simp only [Bool.or_eq_false_iff] at h
  have := namesTmp_iff.2 (Array.mem_toList_iff.2 hu)
  rw [this] at h
  cases h.1.2
theorem usesT_dst {ops : Array Oper} {o : Oper} {d u : Tmp} (h : usesT ops o d = false) (hu : o.dst = some u) : u ≠ d := by
  rintro rfl
  unfold usesT at h
  simp only [Bool.or_eq_false_iff] at h
  have := h.1.1
  simp only [dstIs, hu] at this
  rw [Nat.beq_refl] at this; cases this
theorem usesT_guard {ops : Array Oper} {o q : Oper} {j : Nat} {w : Bool} {d u : Tmp} (h : usesT ops o d = false) (hg : o.guard = some (j, w)) (hq : ops[j]? = some q) (hu : q.dst = some u) : u ≠ d := by
  rintro rfl
  unfold usesT at h
  simp only [Bool.or_eq_false_iff, hg, hq] at h
  have := h.2
  simp only [dstIs, hu] at this
  rw [Nat.beq_refl] at this; cases this

theorem StepI.comm {rec : Goal → M GRes} (hrec : ∀ g, FrameP (rec g)) {ops : Array Oper} {fr : Fr} {e f : It} {a b c : Sx} (hF : Free e f) (hT : TFree ops e f) (h1 : StepI P rec ops fr e a b) (h2 : StepI P rec ops fr f b c) :
    ∃ b', StepI P rec ops fr f a b' ∧ StepI P rec ops fr e b' c := by
  obtain ⟨oe, ve, hoe, hde, hwe, hpe, hre⟩ := h1
  obtain ⟨of, vf, hof, hdf, hwf, hpf, hrf⟩ := h2
  obtain ⟨t1, t2⟩ := hT oe of hoe hof
  -- the temporaries
  have bT : ∀ u, oe.dst ≠ some u → b.T.get u = a.T.get u := fun u hu => by rw [← hpe, put1_get, if_neg hu]
  have cT : (put1 (put1 a.T of.dst vf) oe.dst ve).get = c.T.get := by
    rw [← hpf]
    funext u
    rw [put1_get, put1_get, put1_get, ← hpe, put1_get]
    by_cases x1 : oe.dst = some u
    · have x2 : of.dst ≠ some u := fun x2 => usesT_dst (t1 u x1) x2 rfl
      rw [if_pos x1, if_neg x2, if_pos x1]
    · rw [if_neg x1, if_neg x1]
  have wf : wantedA ops { fr with tmps := a.T } of = f.on := by
    rw [← hwf]
    exact wantedA_congr of fun j w q d hg hq hd => (bT d fun x => usesT_guard (t1 d x) hg hq hd rfl).symm
  have vfc : opVal P rec { fr with tmps := b.T } of = opVal P rec { fr with tmps := a.T } of := opVal_congr of fun u hu => bT u fun x => usesT_op (t1 u x) hu rfl
  have put_ne : ∀ u, of.dst ≠ some u → (put1 a.T of.dst vf).get u = a.T.get u := fun u hu => by rw [put1_get, if_neg hu]
  have we : wantedA ops { fr with tmps := put1 a.T of.dst vf } oe = e.on := by
    rw [← hwe]
    exact wantedA_congr oe fun j w q d hg hq hd => put_ne d fun x => usesT_guard (t2 d x) hg hq hd rfl
  have vec : opVal P rec { fr with tmps := put1 a.T of.dst vf } oe = opVal P rec { fr with tmps := a.T } oe := opVal_congr oe fun u hu => put_ne u fun x => usesT_op (t2 u x) hu rfl
  rcases hrf with ⟨onf, sf, rf1, rf2, rf3⟩ | ⟨offf, rf1, rf2⟩
  · rw [vfc] at rf1
    obtain ⟨_, gf1, gf2⟩ := frame_opVal P hrec _ _ _ _ _ _ rf1
    rcases hre with ⟨one, se, re1, re2, re3⟩ | ⟨offe, re1, re2⟩
    · obtain ⟨_, ge1, ge2⟩ := frame_opVal P hrec _ _ _ _ _ _ re1
      obtain ⟨fA, fB⟩ := hF one onf
      have bH : ∀ n, ¬ ModI e n → b.H.get n = a.H.get n := fun n hn => by
        rw [← re3]; exact ge1 n fun ⟨m1, m2, m3⟩ => hn ⟨m1, re2 ▸ m2, m3⟩
      have cH : ∀ n, ¬ ModI f n → c.H.get n = b.H.get n := fun n hn => by
        rw [← rf3]; exact gf1 n fun ⟨m1, m2, m3⟩ => hn ⟨m1, rf2 ▸ m2, m3⟩
      obtain ⟨s3, q1, q2, q3, q4⟩ := gf2 ⟨a.H, f.lo⟩ rfl (fun n hn hl => (bH n (fA n ⟨hn, rf2 ▸ hl⟩)).symm)
      have s3H : ∀ n, ¬ ModI f n → s3.H.get n = a.H.get n := fun n hn => by
        by_cases hs : f.X.canRead n = true ∧ n < sf.nx
        · rw [q3 n hs.1 hs.2, gf1 n fun ⟨m1, m2, m3⟩ => hn ⟨m1, rf2 ▸ m2, m3⟩]
          exact bH n (fA n ⟨hs.1, rf2 ▸ hs.2⟩)
        · exact q4 n hs
      refine ⟨⟨s3.H, put1 a.T of.dst vf⟩, ⟨of, vf, hof, hdf, wf, rfl, .inl ⟨onf, s3, q1, q2.trans rf2, rfl⟩⟩, ⟨oe, ve, hoe, hde, we, cT, .inl ⟨one, ?_⟩⟩⟩
      rw [vec]
      obtain ⟨s4, p1, p2, p3, p4⟩ := ge2 ⟨s3.H, e.lo⟩ rfl (fun n hn hl => s3H n (fB n ⟨hn, re2 ▸ hl⟩))
      refine ⟨s4, p1, p2.trans re2, ?_⟩
      funext n
      by_cases hs : e.X.canRead n = true ∧ n < se.nx
      · rw [p3 n hs.1 hs.2, re3, cH n (fB n ⟨hs.1, re2 ▸ hs.2⟩)]
      · rw [p4 n hs]
        have hb : b.H.get n = a.H.get n := bH n fun ⟨m1, m2, _⟩ => hs ⟨m1, by rw [re2]; exact m2⟩
        show s3.H.get n = _
        by_cases hs' : f.X.canRead n = true ∧ n < sf.nx
        · rw [q3 n hs'.1 hs'.2, rf3]
        · rw [q4 n hs', cH n fun ⟨m1, m2, _⟩ => hs' ⟨m1, by rw [rf2]; exact m2⟩, hb]
    · -- e was not wanted
      obtain ⟨s3, q1, q2, q3, q4⟩ := gf2 ⟨a.H, f.lo⟩ rfl (fun n _ _ => by rw [re2])
      refine ⟨⟨s3.H, put1 a.T of.dst vf⟩, ⟨of, vf, hof, hdf, wf, rfl, .inl ⟨onf, s3, q1, q2.trans rf2, rfl⟩⟩, ⟨oe, ve, hoe, hde, we, cT, .inr ⟨offe, re1, ?_⟩⟩⟩
      funext n
      show s3.H.get n = _
      by_cases hs' : f.X.canRead n = true ∧ n < sf.nx
      · rw [q3 n hs'.1 hs'.2, rf3]
      · rw [q4 n hs', ← rf3, gf1 n fun ⟨m1, m2, _⟩ => hs' ⟨m1, m2⟩]
        show a.H.get n = b.H.get n
        rw [re2]
  · -- f was not wanted
    refine ⟨⟨a.H, put1 a.T of.dst vf⟩, ⟨of, vf, hof, hdf, wf, rfl, .inr ⟨offf, rf1, rfl⟩⟩, ⟨oe, ve, hoe, hde, we, cT, ?_⟩⟩
    rcases hre with ⟨one, se, re1, re2, re3⟩ | ⟨offe, re1, re2⟩
    · exact .inl ⟨one, se, by rw [vec]; exact re1, re2, by rw [re3, rf2]⟩
    · exact .inr ⟨offe, re1, by rw [← rf2, ← re2]⟩

/-- A region's operations, in another order that keeps to what is ordered. -/
theorem RunI.perm {rec : Goal → M GRes} (hrec : ∀ g, FrameP (rec g)) {ops : Array Oper} {fr : Fr} {Ord : Nat → Nat → Prop} : ∀ {l : List Nat} {es : List It} {a b : Sx}, RunI P rec ops fr es a b → l.Perm (es.map (·.i)) →
    es.Pairwise (fun e f => Ord e.i f.i ∨ (Free e f ∧ TFree ops e f)) → l.Pairwise (fun i j => ¬ Ord j i) → ∃ es' : List It, es'.map (·.i) = l ∧ es'.Perm es ∧ RunI P rec ops fr es' a b := by
  -- an operation goes to the front
  have front : ∀ {A : List It} {e : It} {B : List It} {a b : Sx}, RunI P rec ops fr (A ++ e :: B) a b → (∀ x ∈ A, Free x e ∧ TFree ops x e) → RunI P rec ops fr (e :: (A ++ B)) a b := by
    intro A
    induction A with
    | nil => intro e B a b h _; exact h
    | cons x A ih =>
      intro e B a b h hA
      obtain ⟨c, hs, hr⟩ := h
      obtain ⟨d, hs2, hr2⟩ := ih hr fun y hy => hA y (List.mem_cons_of_mem _ hy)
      obtain ⟨hf, ht⟩ := hA x (by simp)
      obtain ⟨c', q1, q2⟩ := StepI.comm hrec hf ht hs hs2
      exact ⟨c', q1, d, q2, hr2⟩
  intro l
  induction l with
  | nil =>
    intro es a b h hp _ _
    have : es = [] := by simpa using hp
    subst this
    exact ⟨[], rfl, .refl _, h⟩
  | cons i l ih =>
    intro es a b h hp hR hl
    have hm : i ∈ es.map (·.i) := hp.subset (by simp)
    obtain ⟨e, he, rfl⟩ := List.mem_map.1 hm
    obtain ⟨A, B, rfl⟩ := List.append_of_mem he
    have hp2 : l.Perm ((A ++ B).map (·.i)) := by
      have : ((A ++ e :: B).map (·.i)).Perm (e.i :: (A ++ B).map (·.i)) := by
        rw [← List.map_cons (f := fun x : It => x.i)]
        exact List.perm_middle.map _
      exact (List.perm_cons _).1 (hp.trans this)
    obtain ⟨hl1, hl2⟩ := List.pairwise_cons.1 hl
    obtain ⟨hRA, hRB, hRAB⟩ := List.pairwise_append.1 hR
    have hfree : ∀ x ∈ A, Free x e ∧ TFree ops x e := fun x hx => by
      rcases hRAB x hx e (by simp) with h' | h'
      · refine absurd h' (hl1 x.i (hp2.symm.subset ?_))
        exact List.mem_map.2 ⟨x, List.mem_append_left _ hx, rfl⟩
      · exact h'
    obtain ⟨c, hs, hr⟩ := front h hfree
    have hR2 : (A ++ B).Pairwise (fun e f => Ord e.i f.i ∨ (Free e f ∧ TFree ops e f)) := by
      refine List.pairwise_append.2 ⟨hRA, (List.pairwise_cons.1 hRB).2, fun x hx y hy => hRAB x hx y (List.mem_cons_of_mem _ hy)⟩
    obtain ⟨es', q1, q2, q3⟩ := ih hr hp2 hR2 hl2
    exact ⟨e :: es', by simp [q1], (List.Perm.cons e q2).trans List.perm_middle.symm, c, hs, q3⟩
end
end AM
