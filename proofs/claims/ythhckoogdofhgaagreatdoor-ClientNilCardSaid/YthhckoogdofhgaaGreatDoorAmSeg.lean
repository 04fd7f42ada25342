/-
  The abstract machine's word holds of the model: a run in parts; a call whose answer is known. (part AmSeg). Conditions: none; no premise beyond what each theorem states.
-/
import Derived.Test.YthhckoogdofhgaaGreatDoorAmDrawn
import Derived.RowKit3
namespace AM
open Go

/-! A run in parts. -/
section
variable (P : Program)

def runK (rec : Goal → M GRes) : Nat → Fr → M Fr
  | 0, fr => M.pure fr
  | k + 1, fr => do
    match ← stepA P rec fr with
    | .cont fr' => runK rec k fr'
    | _ => M.fail

def ofL {α : Type} : List α → Nat → T α → T α
  | [], _, t => t
  | a :: l, i, t => ofL l (i + 1) (t.set i (some a))
def ofLo {α : Type} : List (Nat × Option α) → T α
  | [] => .nil
  | (n, a) :: l => (ofLo l).set n a

def subC : Code → List Nat → Code
  | c, [] => c
  | .seq a b, n :: p => bif Nat.beq n 0 then subC a p else subC b p
  | .cond _ a b, n :: p => bif Nat.beq n 0 then subC a p else subC b p
  | .block _ b, _ :: p | .loop b, _ :: p | .scope b, _ :: p => subC b p
  | .rangeFunc _ _ a b, n :: p => bif Nat.beq n 0 then subC a p else subC b p
  | c, _ => c
def opsC : Code → Array Oper
  | .region _ ops _ => ops
  | _ => #[]

/-- What a part of a run leaves: the frame and the blocks that are named. -/
structure View where
  nt : Nat
  todo : List AItem
  tmps : List AV
  nx : Nat
  blks : List (Option ABlk)

def viewOf (names : List Nat) : Option (Fr × St) → Option View
  | some (fr, s) => match fr.defers with
    | [] => some ⟨fr.nt, fr.todo, (List.range fr.nt).map fun i => (fr.tmps.get i).getD .undef, s.nx, names.map s.H.get⟩
    | _ => none
  | none => none

def View.fr (f : FuncId) (v : View) : Fr := { fn := f, nt := v.nt, tmps := ofL v.tmps 0 .nil, todo := v.todo, defers := [], round := none, dcall := false, rcv := none, recd := false }
def View.st (names : List Nat) (v : View) : St := ⟨ofLo (names.zip v.blks), v.nx⟩

/-- The end of a run. -/
def lastA (rec : Goal → M GRes) (fr : Fr) (fn : Func) : M AV := do
  match ← rec (.exec fr) with
  | .left .ret fr => match fr.defers with
    | [] => resultA P fr fn
    | _ => M.fail
  | _ => M.fail
end

section
variable {P : Program} {w0 : World} {L0 : Nat}

/-- A call of f has come so far. -/
def Reached (P : Program) (w0 : World) (L0 : Nat) (f : FuncId) (us : Array Value) (fr : Fr) (s : St) : Prop :=
  ∀ cs, ∃ φ w' F, Steps P (lone (Frame.enter P f us .normal) cs w0) (lone F cs w') ∧ Inv w0 L0 φ s.H w' ∧ (∀ n, s.nx ≤ n → φ n = none) ∧ GOK P φ ∧ FrR φ fr F ∧ F.mode = .run

theorem none_ext {φ φ' : Phi} {a b : Nat} (h : ∀ n, a ≤ n → φ n = none) (he : Ext φ φ' a b) (hab : a ≤ b) : ∀ n, b ≤ n → φ' n = none := fun n hn => by
  by_cases e : φ' n = φ n
  · rw [e]; exact h n (by omega)
  · have := he.2 n e; omega

theorem frame_runK {rec : Goal → M GRes} (hr : ∀ g, FrameP (rec g)) : ∀ k fr, FrameP (runK P rec k fr)
  | 0, fr => .pure _
  | k + 1, fr => by
    unfold runK
    refine .bind (frame_step P hr fr) fun r => ?_
    cases r with
    | cont fr' => exact frame_runK hr k fr'
    | left _ _ => exact .fail

theorem Reached.run {rec : Goal → M GRes} (hrec : RecOK P w0 L0 rec) {f : FuncId} {us : Array Value} {x : Ctx} (hL : L0 ≤ x.lock) : ∀ {k : Nat} {fr fr' : Fr} {s s' : St}, Reached P w0 L0 f us fr s → fr.dcall = false → runK P rec k fr x s = some (fr', s') → Reached P w0 L0 f us fr' s' ∧ fr'.dcall = false ∧ fr'.round = fr.round ∧ fr'.fn = fr.fn
  | 0, fr, fr', s, s', h, hd, hr => by
    unfold runK at hr
    obtain ⟨rfl, rfl⟩ := M.pure_iff.1 hr
    exact ⟨h, hd, rfl, rfl⟩
  | k + 1, fr, fr', s, s', h, hd, hr => by
    unfold runK at hr
    obtain ⟨r, s1, r1, r2⟩ := M.bind_iff.1 hr
    cases r with
    | left _ _ => exact (M.fail_iff.1 r2).elim
    | cont fr1 =>
      have hle := (frame_step P hrec.frame fr x s _ s1 r1).1
      have key : Reached P w0 L0 f us fr1 s1 ∧ fr1.dcall = false ∧ fr1.round = fr.round ∧ fr1.fn = fr.fn := by
        have one : ∀ cs, ∃ φ w' F, (Steps P (lone (Frame.enter P f us .normal) cs w0) (lone F cs w') ∧ Inv w0 L0 φ s1.H w' ∧ (∀ n, s1.nx ≤ n → φ n = none) ∧ GOK P φ ∧ FrR φ fr1 F ∧ F.mode = .run) ∧ fr1.dcall = false ∧ fr1.round = fr.round ∧ fr1.fn = fr.fn := by
          intro cs
          obtain ⟨φ, w', F, h1, h2, h3, h4, h5, h6⟩ := h cs
          obtain ⟨φ1, w1, F1, cs1, q1, q2, q3, q4, q5, q6, q7, q8, q9, q10⟩ := step_sound hrec (drawn_ok hrec) r1 h2 (fun m hm _ => h3 m hm) hL h4 h5 h6 (cs := cs) (fun e => by rw [hd] at e; cases e)
          rw [hd] at q6
          obtain rfl := q6.1 rfl
          exact ⟨φ1, w1, F1, ⟨h1.trans q1, q2, none_ext h3 q3 hle, h4.mono q3.1, q4⟩, q7.trans hd, q8, q9⟩
        obtain ⟨_, _, _, _, e⟩ := one []
        exact ⟨fun cs => by obtain ⟨φ, w', F, a, _⟩ := one cs; exact ⟨φ, w', F, a⟩, e⟩
      obtain ⟨k1, k2, k3, k4⟩ := key
      obtain ⟨j1, j2, j3, j4⟩ := Reached.run hrec hL k1 k2 r2
      exact ⟨j1, j2, j3.trans k3, j4.trans k4⟩

theorem ofL_get {α : Type} : ∀ (l : List α) (i : Nat) (t : T α) (j : Nat), (ofL l i t).get j = if i ≤ j ∧ j < i + l.length then l[j - i]? else t.get j
  | [], i, t, j => by simp [ofL]; omega
  | a :: l, i, t, j => by
    unfold ofL
    rw [ofL_get l (i + 1) _ j, T.get_set]
    by_cases e : j = i
    · subst e
      rw [if_neg (by omega), if_pos rfl, if_pos (by simp)]
      simp
    · by_cases hlt : i + 1 ≤ j ∧ j < i + 1 + l.length
      · rw [if_pos hlt, if_pos (by simp; omega)]
        have : j - i = (j - (i + 1)) + 1 := by omega
        rw [this]; simp
      · rw [if_neg hlt, if_neg e, if_neg (by simp; omega)]

theorem ofLo_get {α : Type} {n : Nat} {b : α} : ∀ {l : List (Nat × Option α)}, (ofLo l).get n = some b → (n, some b) ∈ l
  | [], h => by simp [ofLo, T.get] at h
  | (m, a) :: l, h => by
    unfold ofLo at h
    rw [T.get_set] at h
    by_cases e : n = m
    · subst e; rw [if_pos rfl] at h; subst h; simp
    · rw [if_neg e] at h; exact List.mem_cons_of_mem _ (ofLo_get h)

theorem mem_zip_map {α β : Type} {f : α → β} {a : α} {b : β} : ∀ {l : List α}, (a, b) ∈ l.zip (l.map f) → b = f a
  | [], h => by simp at h
  | x :: l, h => by
    simp only [List.map_cons, List.zip_cons_cons, List.mem_cons, Prod.mk.injEq] at h
    rcases h with ⟨rfl, rfl⟩ | h
    · rfl
    · exact mem_zip_map h

theorem Inv.sub {φ : Phi} {H H' : T ABlk} {w : World} (h : Inv w0 L0 φ H w) (hs : ∀ n b, H'.get n = some b → H.get n = some b) : Inv w0 L0 φ H' w :=
  ⟨fun n b hb => h.blk n b (hs n b hb), fun n m b b' l l' h1 h2 => h.inj n m b b' l l' (hs _ _ h1) (hs _ _ h2), h.low, h.old, h.size, h.inb, h.os, h.out, h.fz⟩

/-- A part of a run. -/
theorem Reached.part {rec : Goal → M GRes} (hrec : RecOK P w0 L0 rec) {f : FuncId} {us : Array Value} {k : Nat} {x : Ctx} {fr : Fr} {s : St} {names : List Nat} {v : View} (h : Reached P w0 L0 f us fr s) (hL : L0 ≤ x.lock) (hd : fr.dcall = false) (hro : fr.round = none) (hfn : fr.fn = f)
    (hr : viewOf names (runK P rec k fr x s) = some v) : Reached P w0 L0 f us (v.fr f) (v.st names) := by
  unfold viewOf at hr
  cases hk : runK P rec k fr x s with
  | none => rw [hk] at hr; cases hr
  | some p =>
    obtain ⟨fr', s'⟩ := p
    rw [hk] at hr
    simp only at hr
    obtain ⟨h1, h2, h3, h4⟩ := Reached.run hrec hL h hd hk
    cases hdf : fr'.defers with
    | cons _ _ => simp only [hdf] at hr; cases hr
    | nil =>
      simp only [hdf, Option.some.injEq] at hr
      subst hr
      intro cs
      obtain ⟨φ, w', F, a1, a2, a3, a4, a5, a6⟩ := h1 cs
      refine ⟨φ, w', F, a1, a2.sub fun m b hb => ?_, a3, a4, ⟨?_, ⟨a5.tmps.1, fun i hi => ?_⟩, a5.todo, ?_, ?_, ?_⟩, a6⟩
      · exact (mem_zip_map (ofLo_get hb)).symm
      · rw [a5.fn, h4, hfn]; rfl
      · simp only [View.fr] at hi ⊢
        rw [ofL_get]
        rw [if_pos (by simpa using hi)]
        simp only [Nat.sub_zero, List.getElem?_map, List.getElem?_range hi, Option.map_some, Option.getD_some]
        exact a5.tmps.2 i hi
      · have := a5.defers; rw [hdf] at this; exact this
      · have := a5.round; rw [h3, hro] at this; exact this
      · rw [a5.kind, h2]; rfl

/-- A world has grown: what was there lies as it lay; what is new bears no frozen range. -/
structure Grew (w w' : World) : Prop where
  os : w'.os = w.os
  out : w'.output = w.output
  size : w.heap.size ≤ w'.heap.size
  old : ∀ k : Nat, k < w.heap.size → w'.heap[k]? = w.heap[k]?
  fz : ∀ (k : Nat) (c : Array Value) (el : TypeId) (f : Nat × Nat), w.heap.size ≤ k → w'.heap[k]? = some (.cells c el f) → f = (0, 0)

theorem Grew.grown {w w' : World} (q : Grew w w') : RowKit.Grown w w' := by
  refine ⟨⟨q.os, q.out, fun i hi => ?_⟩, fun a => ?_, q.size⟩
  · rw [q.old i hi]
    cases w.heap[i]? with
    | none => trivial
    | some o => cases o <;> simp
  · unfold World.frozen?
    by_cases hi : a.block < w.heap.size
    · rw [q.old _ hi]
    · have e1 : w.heap[a.block]? = none := Array.getElem?_eq_none (Nat.le_of_not_lt hi)
      rw [e1]
      cases e2 : w'.heap[a.block]? with
      | none => rfl
      | some o =>
        cases o with
        | cells c el f =>
          obtain ⟨lo, hi'⟩ := f
          have := q.fz _ _ _ _ (Nat.le_of_not_lt hi) e2
          cases this
          simp
        | _ => rfl

theorem Grew.inv {w1 w2 : World} {φ : Phi} {H : T ABlk} (q : Grew w1 w2) (h : Inv w0 L0 φ H w1) : Inv w0 L0 φ H w2 := by
  refine h.change (Phi.le.refl φ) (fun n b hb => .inl ⟨hb, fun l hl => q.old _ (h.inb n l hl)⟩) h.low (fun k hk => q.old k (Nat.lt_of_lt_of_le hk h.size)) q.size (fun n l hl => Nat.lt_of_lt_of_le (h.inb n l hl) q.size) q.os q.out (fun k c el f hk hh => ?_)
  by_cases hlt : k < w1.heap.size
  · rw [q.old k hlt] at hh; exact h.fz k c el f hk hh
  · exact q.fz k c el f (Nat.le_of_not_lt hlt) hh

/-- The last part. -/
theorem Reached.last {rec : Goal → M GRes} (hrec : RecOK P w0 L0 rec) {f : FuncId} {us : Array Value} {x : Ctx} {fr : Fr} {s s' : St} {a : AV} {v : Value} {fn : Func} {c : Code} (h : Reached P w0 L0 f us fr s) (hL : L0 ≤ x.lock) (hd : fr.dcall = false) (hfn : fr.fn = f) (hb : bodyOf P f = some (fn, c))
    (hr : lastA P rec fr fn x s = some (a, s')) (hv : ∀ φ u, VR φ a u → u = v) : Calls P f us w0 fun e w' => e = .returned v ∧ Grew w0 w' := by
  intro cs
  unfold lastA at hr
  obtain ⟨g, s1, r1, r2⟩ := M.bind_iff.1 hr
  obtain ⟨fr', rfl, hdf, r3⟩ : ∃ fr', g = .left .ret fr' ∧ fr'.defers = [] ∧ resultA P fr' fn x s1 = some (a, s') := by
    cases g with
    | left l fr' =>
      cases l with
      | ret =>
        cases hdf : fr'.defers with
        | nil => simp only [hdf] at r2; exact ⟨fr', rfl, hdf, r2⟩
        | cons _ _ => simp only [hdf] at r2; exact (M.fail_iff.1 r2).elim
      | _ => exact (M.fail_iff.1 r2).elim
    | _ => exact (M.fail_iff.1 r2).elim
  obtain ⟨φ, w', F, a1, a2, a3, a4, a5, a6⟩ := h cs
  obtain ⟨l, fr2, φ1, w1, F1, cs1, e, q1, q2, q3, q4, q5, q6, q7, q8, q9, q10⟩ := hrec.exec (cs := cs) r1 a2 (fun m hm _ => a3 m hm) hL a4 a5 a6 (fun e => by rw [hd] at e; cases e)
  cases e
  rw [hd] at q6
  obtain rfl := q6.1 rfl
  obtain ⟨rfl, u, hrun, hvu⟩ := result_sound (fn := fn) q4.tmps r3 q2
  obtain rfl := hv _ _ hvu
  have hFd : F1.defers = [] := by have := q4.defers; rw [hdf] at this; exact this
  have hFn : F1.fn = f := q4.fn.trans (q9.trans hfn)
  refine ⟨.returned u, w1, F1, ⟨rfl, ?_⟩, a1.trans q1, hFn, q4.how.1, hFd, by rw [q4.kind, q7, hd]; rfl, fn, by rw [hFn]; exact (bodyOf_some hb).1, hrun⟩
  exact ⟨q2.os, q2.out, q2.size, q2.old, q2.fz⟩

/-- A call begins. -/
theorem Reached.start {f : FuncId} {us : Array Value} {args : List AV} {fn : Func} {c : Code} {φ : Phi} {s : St} (hb : bodyOf P f = some (fn, c)) (hv : VRL φ args us.toList) (hi : Inv w0 L0 φ s.H w0) (hn : ∀ n, s.nx ≤ n → φ n = none) (hg : GOK P φ) :
    Reached P w0 L0 f us (enterFr f fn c args) s := fun cs => by
  obtain ⟨h1, h2⟩ := enter_sound hb hv false none
  exact ⟨φ, w0, _, Steps.refl _ _, hi, hn, hg, h1, h2⟩

/-- A table of one block of globals: where the names lie as the call begins. -/
def phi0 (G : Nat) (w : World) : Phi := fun n => if n < G then some ⟨n, 0, match w.heap[n]? with | some (.cells c _ _) => c.size | _ => 0⟩ else none

theorem inv0 {G : Nat} {tabs : List (Nat × Option ABlk)} (hG : G ≤ w0.heap.size) (hL : L0 = G)
    (ht : ∀ n b, (n, some b) ∈ tabs → n < G ∧ ∃ vs e c el fz, b = .cells vs e ∧ w0.heap[n]? = some (.cells c el fz) ∧ vs.length ≤ c.size ∧ ∀ φ, VRL φ vs (c.toList.take vs.length)) : Inv w0 L0 (phi0 G w0) (ofLo tabs) w0 := by
  have hphi : ∀ n l, phi0 G w0 n = some l → n < G ∧ l.b = n ∧ l.o = 0 := by
    intro n l h
    unfold phi0 at h
    by_cases hn : n < G
    · rw [if_pos hn] at h; cases h; exact ⟨hn, rfl, rfl⟩
    · rw [if_neg hn] at h; cases h
  refine ⟨fun n b hb => ?_, fun n m b b' l l' _ _ h1 h2 h3 => ?_, fun n l h hL' => ?_, fun _ _ => rfl, Nat.le_refl _, fun n l h => ?_, rfl, rfl, fun k c el f hk hh => ?_⟩
  · obtain ⟨hn, vs, e, c, el, fz, rfl, h1, h2, h3⟩ := ht n b (ofLo_get hb)
    exact ⟨⟨n, 0, c.size⟩, by simp only [phi0, if_pos hn, h1], c, el, fz, h1, fun h => by omega, rfl, by simpa using h2, by simpa using h3 _⟩
  · rw [← (hphi n l h1).2.1, ← (hphi m l' h2).2.1]; exact h3
  · have := (hphi n l h).1; omega
  · have := hphi n l h; omega
  · rw [Array.getElem?_eq_none hk] at hh; cases hh

theorem phi0_none {G : Nat} {w : World} : ∀ n, G ≤ n → phi0 G w n = none := fun n hn => if_neg (by omega)
theorem gok0 {w : World} : GOK P (phi0 P.globals.size w) := fun _ hg => ⟨_, if_pos hg, rfl, rfl⟩

theorem VRL_ints {φ : Phi} {k : IntKind} : ∀ (zs : List Int), VRL φ (zs.map fun z => AV.int k z) (zs.map fun z => Value.int k z)
  | [] => .nil
  | z :: zs => .cons (by simp only [VR]) (VRL_ints zs)

/-! A closed call whose answer is known. -/
def eqInts (k : IntKind) : List AV → List Int → Bool
  | [], [] => true
  | .int k' n :: r, z :: zs => decide (k' = k) && decide (n = z) && eqInts k r zs
  | _, _ => false

theorem eqInts_eq {k : IntKind} : ∀ {vs : List AV} {zs : List Int}, eqInts k vs zs = true → vs = zs.map fun z => AV.int k z
  | [], [], _ => rfl
  | [], _ :: _, h => by simp [eqInts] at h
  | a :: r, zs, h => by
    cases a with
    | int k' n =>
      cases zs with
      | nil => simp [eqInts] at h
      | cons z zs =>
        simp only [eqInts, Bool.and_eq_true, decide_eq_true_eq] at h
        obtain ⟨⟨rfl, rfl⟩, h3⟩ := h
        simp [eqInts_eq h3]
    | _ => simp [eqInts] at h

/-- Block 0, the one table, holds these numbers. -/
def TabAt (k : IntKind) (zs : List Int) (w : World) : Prop := ∃ c el fz, w.heap[0]? = some (.cells c el fz) ∧ zs.length ≤ c.size ∧ c.toList.take zs.length = zs.map fun z => Value.int k z

def summA (k : IntKind) (zs : List Int) (a : AV) : M GRes := do
  match ← rd 0 with
  | .cells vs _ => do
    M.guard (eqInts k vs zs)
    M.pure (.done a)
  | _ => M.fail

/-- The machine with one call of no argument answered ahead. -/
def summ (f : FuncId) (k : IntKind) (zs : List Int) (a : AV) (rec : Goal → M GRes) : Goal → M GRes
  | .call g args => match args with
    | [] => bif Nat.beq g f then summA k zs a else rec (.call g [])
    | b :: r => rec (.call g (b :: r))
  | g => rec g

theorem frame_summA (k : IntKind) (zs : List Int) (a : AV) : FrameP (summA k zs a) := by
  unfold summA
  refine .bind (.rd 0) fun b => ?_
  cases b with
  | cells vs _ => exact .bind (.guard _) fun _ => .pure _
  | _ => exact .fail

theorem summ_ok {rec : Goal → M GRes} (hrec : RecOK P w0 L0 rec) {f : FuncId} {k : IntKind} {zs : List Int} {a : AV} {v : Value} (hG : 0 < P.globals.size) (hva : ∀ φ, VR φ a v)
    (hS : ∀ w, P.globals.size ≤ w.heap.size → TabAt k zs w → Calls P f #[] w fun e w' => e = .returned v ∧ Grew w w') : RecOK P w0 L0 (summ f k zs a rec) where
  frame g := by
    unfold summ
    cases g with
    | call g args =>
      cases args with
      | nil => exact .cond (frame_summA _ _ _) (hrec.frame _)
      | cons _ _ => exact hrec.frame _
    | _ => exact hrec.frame _
  exec := hrec.exec
  yield := hrec.yield
  call := by
    intro g args us x s s' r φ w cs hr h hf hL hg hv
    cases args with
    | cons b rs => exact hrec.call cs hr h hf hL hg hv
    | nil =>
      unfold summ at hr
      simp only at hr
      rcases M.cond_iff.1 hr with ⟨hb, hq⟩ | ⟨_, hq⟩
      · have hgf := Nat.eq_of_beq_eq_true hb
        subst hgf
        unfold summA at hq
        obtain ⟨blk, s1, r1, r2⟩ := M.bind_iff.1 hq
        obtain ⟨_, _, hblk, rfl⟩ := rd_iff.1 r1
        cases blk with
        | cells vs e =>
          simp only at r2
          obtain ⟨_, s2, r3, r4⟩ := M.bind_iff.1 r2
          obtain ⟨hq1, rfl⟩ := M.guard_iff.1 r3
          obtain ⟨rfl, rfl⟩ := M.pure_iff.1 r4
          obtain rfl := eqInts_eq hq1
          obtain ⟨l, hl, c, el, fz, h1, _, h2, h3, h4⟩ := h.blk 0 _ hblk
          obtain ⟨l', hl', hb0, ho0⟩ := hg 0 hG
          obtain rfl : l' = l := Option.some.inj (hl'.symm.trans hl)
          have hvs : us = #[] := Array.toList_eq_nil_iff.1 hv.nil_inv
          subst hvs
          have hG' : P.globals.size ≤ w.heap.size := by
            rcases Nat.lt_or_ge w.heap.size P.globals.size with hlt | hge
            · obtain ⟨l2, hl2, hb2, _⟩ := hg w.heap.size hlt
              have := h.inb _ _ hl2
              omega
            · exact hge
          have htab : TabAt k zs w := by
            refine ⟨c, el, fz, by rw [← hb0]; exact h1, by simp at h3; omega, ?_⟩
            rw [ho0] at h4
            simp only [List.drop_zero, List.length_map] at h4
            have key : ∀ (zs : List Int) (l : List Value), VRL φ (zs.map fun z => AV.int k z) l → l = zs.map fun z => Value.int k z := by
              intro zs
              induction zs with
              | nil => intro l h; exact h.nil_inv
              | cons z zs ih =>
                intro l h
                obtain ⟨u, t, rfl, h1, h2⟩ := h.cons_out
                simp only [VR] at h1
                rw [h1, ih t h2]; rfl
            exact key zs _ h4
          obtain ⟨e, w', fr, ⟨rfl, hgr⟩, hst, hfn, hl⟩ := hS w hG' htab cs
          exact ⟨φ, w', fr, hgr.inv h, Ext.refl _ _ _, hst, hfn, .inl ⟨a, v, rfl, hva φ, hl⟩⟩
        | _ => exact (M.fail_iff.1 r2).elim
      · exact hrec.call cs hq h hf hL hg hv

def goS (P : Program) (S : (Goal → M GRes) → Goal → M GRes) : Nat → Goal → M GRes
  | 0, _ => M.fail
  | n + 1, g => S (goalA P (goS P S n)) g

theorem none_ok : RecOK P w0 L0 (fun _ => M.fail) := ⟨fun _ => .fail, fun h => (M.fail_iff.1 h).elim, fun _ h => (M.fail_iff.1 h).elim, fun _ _ h => (M.fail_iff.1 h).elim⟩
theorem goS_ok {S : (Goal → M GRes) → Goal → M GRes} (hS : ∀ rec, RecOK P w0 L0 rec → RecOK P w0 L0 (S rec)) : ∀ n, RecOK P w0 L0 (goS P S n)
  | 0 => none_ok
  | n + 1 => hS _ (goal_ok (goS_ok hS n) (drawn_ok (goS_ok hS n)))

/-- A call of a world that holds the table begins. -/
theorem Reached.begin {f : FuncId} {us : Array Value} {args : List AV} {fn : Func} {c : Code} {k : IntKind} {zs : List Int} {e : TypeId} (hb : bodyOf P f = some (fn, c)) (hv : ∀ φ, VRL φ args us.toList) (hG : P.globals.size = 1) (hw : P.globals.size ≤ w0.heap.size) (ht : TabAt k zs w0) :
    Reached P w0 1 f us (enterFr f fn c args) ⟨ofLo [(0, some (.cells (zs.map fun z => .int k z) e))], 1⟩ := by
  refine Reached.start (φ := phi0 P.globals.size w0) hb (hv _) ?_ (by rw [hG]; exact phi0_none) gok0
  refine inv0 hw hG.symm fun n b hm => ?_
  simp only [List.mem_singleton, Prod.mk.injEq, Option.some.injEq] at hm
  obtain ⟨rfl, rfl⟩ := hm
  obtain ⟨c, el, fz, h1, h2, h3⟩ := ht
  exact ⟨by omega, _, _, c, el, fz, rfl, h1, by simpa using h2, fun φ => by rw [List.length_map, h3]; exact VRL_ints zs⟩
end
end AM
