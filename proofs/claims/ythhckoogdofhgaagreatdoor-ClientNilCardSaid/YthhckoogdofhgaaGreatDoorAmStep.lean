/-
  A lemma text: the abstract machine of the AmDef text reads as the model runs (part AmStep). Conditions: none; no premise beyond what each theorem states.
-/
import Derived.Test.YthhckoogdofhgaaGreatDoorAmExec2
import Derived.Test.YthhckoogdofhgaaGreatDoorAmFrame
namespace AM
open Go

def AItem.conc : AItem → Item
  | .code c => .code c
  | .inBlock id => .inBlock id
  | .inLoop c => .inLoop c
  | .inScope c => .inScope c
  | .ops all rest => .inRegion all rest
  | .beginRound => .beginRound

def DefsR (φ : Phi) : List ADef → List Deferred → Prop
  | [], l => l = []
  | d :: r, l => ∃ e t, l = e :: t ∧ DefR φ d e ∧ DefsR φ r t

theorem DefR.mono {φ φ' : Phi} (h : φ.le φ') {d : ADef} {e : Deferred} (hr : DefR φ d e) : DefR φ' d e := by
  cases d with
  | call fn cap args =>
    obtain ⟨fn', cap', h1, h2, h3, h4⟩ := hr
    exact ⟨fn', cap', h1, h2.mono h, VRL.mono h _ _ h3, VRL.mono h _ _ h4⟩
  | collected r =>
    obtain ⟨l, h1, h2⟩ := hr
    exact ⟨l, h _ _ h1, h2⟩
theorem DefsR.mono {φ φ' : Phi} (h : φ.le φ') : ∀ {ds : List ADef} {es : List Deferred}, DefsR φ ds es → DefsR φ' ds es
  | [], es, hr => hr
  | d :: ds, es, hr => by
    obtain ⟨e, t, h1, h2, h3⟩ := hr
    exact ⟨e, t, h1, h2.mono h, h3.mono h⟩
theorem DefsR.nil_inv {φ : Phi} {es : List Deferred} (h : DefsR φ [] es) : es = [] := h
theorem DefsR.append {φ : Phi} : ∀ {a b : List ADef} {x y : List Deferred}, DefsR φ a x → DefsR φ b y → DefsR φ (a ++ b) (x ++ y)
  | [], b, x, y, h, h' => by rw [h.nil_inv]; exact h'
  | d :: a, b, x, y, h, h' => by
    obtain ⟨e, t, rfl, h2, h3⟩ := h
    exact ⟨e, t ++ y, rfl, h2, h3.append h'⟩

/-- The globals lie where they lie. -/
def GOK (P : Program) (φ : Phi) : Prop := ∀ g, g < P.globals.size → ∃ l, φ g = some l ∧ l.b = g ∧ l.o = 0
theorem GOK.mono {P : Program} {φ φ' : Phi} (h : φ.le φ') (hg : GOK P φ) : GOK P φ' := fun g hl => let ⟨l, h1, h2⟩ := hg g hl; ⟨l, h _ _ h1, h2⟩

def RoundR (φ : Phi) : Option Nat → Option Nat → Prop
  | none, r => r = none
  | some l, r => ∃ x, φ l = some x ∧ x.o = 0 ∧ r = some x.b

/-- A frame reads as a frame. -/
structure FrR (φ : Phi) (fr : Fr) (F : Frame) : Prop where
  fn : F.fn = fr.fn
  tmps : TR φ fr.nt fr.tmps F.tmps
  todo : F.todo = fr.todo.map AItem.conc
  defers : DefsR φ fr.defers F.defers
  round : RoundR φ fr.round F.roundOf
  kind : F.kind = if fr.dcall then .deferred else .normal

theorem RoundR.mono {φ φ' : Phi} (h : φ.le φ') {a b : Option Nat} (hr : RoundR φ a b) : RoundR φ' a b := by
  cases a with
  | none => exact hr
  | some l => obtain ⟨x, h1, h2⟩ := hr; exact ⟨x, h _ _ h1, h2⟩

theorem FrR.mono {φ φ' : Phi} (h : φ.le φ') {fr : Fr} {F : Frame} (hr : FrR φ fr F) : FrR φ' fr F :=
  ⟨hr.fn, hr.tmps.mono h, hr.todo, hr.defers.mono h, hr.round.mono h, hr.kind⟩

section
variable {P : Program} {φ : Phi} {w w0 : World} {L0 : Nat} {H : T ABlk}

theorem eval_sound {fr : Fr} {F : Frame} (h : FrR φ fr F) (hg : GOK P φ) : ∀ y a, fr.eval P y = some a → VR φ a (F.eval y) := by
  intro y a ha
  cases y with
  | tmp t =>
    simp only [Fr.eval] at ha
    cases hb : Nat.blt t fr.nt with
    | false => rw [hb] at ha; cases ha
    | true =>
      rw [hb] at ha; cases ha
      rw [blt_eq] at hb
      exact h.tmps.2 t (of_decide_eq_true hb)
  | const v => exact cv_VR ha
  | global g =>
    simp only [Fr.eval] at ha
    cases hb : Nat.blt g P.globals.size with
    | false => rw [hb] at ha; cases ha
    | true =>
      rw [hb] at ha; cases ha
      rw [blt_eq] at hb
      obtain ⟨l, h1, h2, h3⟩ := hg g (of_decide_eq_true hb)
      simp only [VR]
      exact ⟨l, h1, by rw [h2, h3]; rfl⟩
  | func f =>
    simp only [Fr.eval, Option.some.injEq] at ha
    subst ha
    simp only [VR]
    exact ⟨.func f, #[], #[], rfl, rfl, .nil, .nil⟩

theorem VR.bool_iff {a : AV} {v : Value} (h : VR φ a v) (b : Bool) : v = .bool b ↔ a = .bool b := by
  cases a <;> simp only [VR] at h
  case bool c => subst h; simp
  all_goals (first
    | (subst h; simp)
    | (obtain ⟨l, h1, rfl⟩ := h; simp; done)
    | (obtain ⟨l, rfl, h1⟩ := h; simp; done)
    | (obtain ⟨l, a, c, h1, rfl, h2⟩ := h; simp; done)
    | (obtain ⟨g, us, vs, rfl, h2⟩ := h; simp; done))

theorem yielded_sound {fr : Fr} {F : Frame} (h : FrR φ fr F) (ops : Array Oper) (j : Nat) : yielded ops F.tmps j = yieldedA ops fr j := by
  unfold yielded yieldedA
  cases ho : ops[j]? with
  | none => rfl
  | some o =>
    simp only [Option.bind_some]
    cases hd : o.dst with
    | none => rfl
    | some d =>
      simp only [Option.bind_some]
      rw [blt_eq]
      by_cases hlt : d < fr.nt
      · rw [decide_eq_true hlt, cond_true]
        have hv := h.tmps.2 d hlt
        have hsz : d < F.tmps.size := by rw [h.tmps.1]; exact hlt
        have hg : F.tmps[d]? = some (F.tmps.getD d Go.undef) := by simp [Array.getD, hsz]
        rw [hg]
        generalize (fr.tmps.get d).getD AV.undef = a at hv
        generalize F.tmps.getD d Go.undef = v at hv
        have hb := hv.bool_iff
        cases v with
        | bool b =>
          have := (hb b).1 rfl
          subst this; rfl
        | _ =>
          cases a with
          | bool b => have := (hb b).2 rfl; cases this
          | _ => rfl
      · rw [decide_eq_false hlt, cond_false]
        have : F.tmps[d]? = none := Array.getElem?_eq_none (by rw [h.tmps.1]; exact Nat.le_of_not_lt hlt)
        rw [this]

theorem wanted_sound {fr : Fr} {F : Frame} (h : FrR φ fr F) (ops : Array Oper) (o : Oper) : Region.wanted o (yielded ops F.tmps) = wantedA ops fr o := by
  unfold Region.wanted wantedA
  cases o.guard with
  | none => rfl
  | some q =>
    obtain ⟨j, want⟩ := q
    simp only [yielded_sound h]
    cases yieldedA ops fr j with
    | none => rfl
    | some b => cases b <;> cases want <;> rfl

theorem TR.set {nt d : Nat} {t : T AV} {a : Array Value} {x : AV} {v : Value} (h : TR φ nt t a) (hv : VR φ x v) : TR φ nt (t.set d (some x)) (a.setIfInBounds d v) := by
  refine ⟨by simp [h.1], fun i hi => ?_⟩
  rw [T.get_set]
  by_cases e : i = d
  · subst e
    rw [if_pos rfl]
    have : (a.setIfInBounds i v).getD i Go.undef = v := by simp [Array.getD, h.1, hi]
    rw [this]; exact hv
  · rw [if_neg e]
    have : (a.setIfInBounds d v).getD i Go.undef = a.getD i Go.undef := by
      simp only [Array.getD_eq_getD_getElem?, Array.getElem?_setIfInBounds_ne (fun q => e q.symm)]
    rw [this]; exact h.2 i hi

/-- What the machine does with an operation's value. -/
theorem finish_sound {fr fr' : Fr} {F : Frame} {ops : Array Oper} {i : Nat} {rest : List Nat} {k : List AItem} {o : Oper} {a : AV} {v : Value} (h : FrR φ fr F) (ht : F.todo = .inRegion ops (i :: rest) :: k.map AItem.conc) (ho : ops[i]? = some o)
    (hp : fr.put o.dst a = some fr') (hv : VR φ a v) : FrR φ { fr' with todo := .ops ops rest :: k } (F.finish v) ∧ (F.finish v).mode = F.mode := by
  have hfin : F.finish v = { F with tmps := (match o.dst with | some d => F.tmps.setIfInBounds d v | none => F.tmps), todo := .inRegion ops rest :: k.map AItem.conc } := by
    unfold Frame.finish
    rw [ht]
    simp only [ho, Option.bind_some]
    cases o.dst <;> rfl
  rw [hfin]
  unfold Fr.put at hp
  cases hd : o.dst with
  | none =>
    rw [hd] at hp
    simp only [Option.some.injEq] at hp
    subst hp
    exact ⟨⟨h.fn, h.tmps, rfl, h.defers, h.round, h.kind⟩, rfl⟩
  | some d =>
    rw [hd] at hp
    simp only at hp
    cases hb : Nat.blt d fr.nt with
    | false => rw [hb] at hp; cases hp
    | true =>
      rw [hb] at hp
      simp only [cond_true, Option.some.injEq] at hp
      subst hp
      exact ⟨⟨h.fn, h.tmps.set hv, rfl, h.defers, h.round, h.kind⟩, rfl⟩

theorem put_keeps {fr fr' : Fr} {dst : Option Tmp} {a : AV} (hp : fr.put dst a = some fr') : fr'.fn = fr.fn ∧ fr'.nt = fr.nt ∧ fr'.todo = fr.todo ∧ fr'.defers = fr.defers ∧ fr'.round = fr.round ∧ fr'.dcall = fr.dcall ∧ fr'.rcv = fr.rcv ∧ fr'.recd = fr.recd := by
  unfold Fr.put at hp
  cases dst with
  | none => simp only [Option.some.injEq] at hp; subst hp; simp
  | some d =>
    simp only at hp
    cases hb : Nat.blt d fr.nt with
    | false => rw [hb] at hp; cases hp
    | true => rw [hb] at hp; simp only [cond_true, Option.some.injEq] at hp; subst hp; simp

/-! Steps of the machine. -/
theorem exec_eq {F : Frame} {cs : List Frame} {w : World} (hm : F.mode = .run) : stepG P true { frame := F, callers := cs, status := .running, dying := none } w = stepG.exec P true true F cs none w := by
  obtain ⟨fn, tmps, todo, defers, mode, kind, roundOf⟩ := F
  simp only at hm
  subst hm
  rfl

theorem exit_sound (id : Nat) : ∀ (k : List AItem), exitTo id (k.map AItem.conc) = (exitToA id k).map (·.map AItem.conc)
  | [] => rfl
  | i :: k => by
    cases i with
    | inBlock id' =>
      simp only [List.map_cons, AItem.conc, exitTo, exitToA]
      cases hb : Nat.beq id' id with
      | true =>
        have := Nat.eq_of_beq_eq_true hb
        simp [this]
      | false =>
        have := Nat.ne_of_beq_eq_false hb
        simp [this, exit_sound id k]
    | _ => simp only [List.map_cons, AItem.conc, exitTo, exitToA, exit_sound id k]
end
end AM
