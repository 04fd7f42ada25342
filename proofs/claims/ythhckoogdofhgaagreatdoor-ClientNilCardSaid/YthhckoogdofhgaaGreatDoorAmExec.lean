/-
  A lemma text: the abstract machine of the AmDef text reads as the model runs (part AmExec). Conditions: none; no premise beyond what each theorem states.
-/
import Derived.Test.YthhckoogdofhgaaGreatDoorAmOps2
namespace AM
open Go

section
variable {P : Program} {φ : Phi} {w w0 : World} {L0 : Nat} {H : T ABlk}

theorem firstCells_zero {size : Nat} {v : AV} {cs : List AV} {x : Ctx} {s s' : St} (hr : firstCellsA size 0 v x s = some (cs, s')) : cs = [] := by
  unfold firstCellsA at hr
  split at hr
  · rcases M.cond_iff.1 hr with ⟨_, t1⟩ | ⟨_, t1⟩
    · exact (M.fail_iff.1 t1).elim
    · rcases M.cond_iff.1 t1 with ⟨_, t2⟩ | ⟨hh, _⟩
      · exact (M.pure_iff.1 t2).1
      · cases hh
  · exact (M.pure_iff.1 hr).1
  · rename_i t
    have h1 := (M.of_iff.1 hr).1
    have e : Nat.ble 0 t.size = true := by simp
    rw [e, cond_true] at h1
    cases h1; rfl
  · exact (M.fail_iff.1 hr).elim

theorem copy_sound {ts : Array TypeId} {ty : TypeId} {args : List AV} {us : List Value} {x : Ctx} {s s' : St} {a : AV} (hr : copyA P ts args x s = some (a, s')) (h : Inv w0 L0 φ s.H w) (hL : L0 ≤ x.lock) (hv : VRL φ args us) :
    s'.nx = s.nx ∧ ∃ w' v, (Builtin.copy_ ts ty us.toArray).run P w = .ok v w' ∧ Inv w0 L0 φ s'.H w' ∧ VR φ a v := by
  unfold copyA at hr
  cases e0 : ts[0]? with
  | none => simp only [e0] at hr; exact (M.fail_iff.1 hr).elim
  | some dT =>
  cases args with
  | nil => simp only [e0] at hr; exact (M.fail_iff.1 hr).elim
  | cons da r =>
  cases r with
  | nil => simp only [e0] at hr; exact (M.fail_iff.1 hr).elim
  | cons sa r =>
  cases r with
  | cons _ _ => simp only [e0] at hr; exact (M.fail_iff.1 hr).elim
  | nil =>
  simp only [e0] at hr
  obtain ⟨dv, _, rfl, hdv, hv⟩ := hv.cons_out
  obtain ⟨sv, _, rfl, hsv, hv⟩ := hv.cons_out
  rw [hv.nil_inv]
  cases hu : P.underlying dT with
  | none => simp only [hu] at hr; exact (M.fail_iff.1 hr).elim
  | some d =>
  cases d with
  | slice e =>
    cases hsz : szT P e with
    | none => simp only [hu, hsz] at hr; exact (M.fail_iff.1 hr).elim
    | some size =>
    cases hls : lenA sa with
    | none => simp only [hu, hsz, hls] at hr; exact (M.fail_iff.1 hr).elim
    | some ls =>
    simp only [hu, hsz, hls] at hr
    have hlen := fun w : World => lenA_run (P := P) (w := w) hls hsv
    cases da with
    | nilSlice =>
      simp only at hr
      obtain ⟨rfl, rfl⟩ := M.pure_iff.1 hr
      simp only [VR] at hdv; subst hdv
      refine ⟨rfl, w, .int .i64 0, ?_, h, by simp only [VR]⟩
      have hf : (Builtin.firstCells size 0 sv).run P w = .ok #[] w := by
        unfold lenA at hls
        split at hls <;> first | (cases hls; done) | skip
        all_goals (simp only [VR] at hsv)
        · obtain ⟨l, b, c, _, rfl, _⟩ := hsv; simp [Builtin.firstCells, loadCells, loadCellsFrom]
        · subst hsv; simp [Builtin.firstCells]
        · subst hsv; simp only [Builtin.firstCells, Sem.run_pure]; simp
      have hmin : Nat.min ls 0 = 0 := Nat.min_zero ls
      simp [Builtin.copy_, e0, run_underlying hu, hlen, run_sizeOf' hsz, hf, goInt]
    | slice b off len lo ex esz =>
      simp only at hr
      obtain ⟨_, s1, r1, hq1⟩ := M.bind_iff.1 hr
      clear hr
      obtain ⟨hg, rfl⟩ := M.guard_iff.1 r1
      obtain rfl := Nat.eq_of_beq_eq_true hg
      obtain ⟨cs, s2, r2, hq2⟩ := M.bind_iff.1 hq1
      clear hq1
      obtain ⟨rfl, fu, hfu, hfv⟩ := firstCells_sound (P := P) r2 h hsv
      have hdv' := hdv
      simp only [VR] at hdv
      obtain ⟨l, ad, c, hl, rfl, q1, q2, q3, q4, q5⟩ := hdv
      have hff := hfu w rfl
      rcases M.cond_iff.1 hq2 with ⟨hk, hq3⟩ | ⟨hk, hq3⟩
      · obtain ⟨rfl, rfl⟩ := M.pure_iff.1 hq3
        have hk0 := Nat.eq_of_beq_eq_true hk
        have hnil : fu = #[] := by
          have hcs : cs = [] := by rw [hk0] at r2; exact firstCells_zero r2
          rw [hcs] at hfv
          exact Array.toList_eq_nil_iff.1 hfv.nil_inv
        subst hnil
        refine ⟨rfl, w, .int .i64 (Nat.min ls len : Nat), ?_, h, by simp only [VR]⟩
        simp only [Builtin.copy_, e0, List.getElem?_toArray, List.getElem?_cons_zero, List.getElem?_cons_succ, Sem.run_bind, run_underlying hu, Result.andThen_ok, hlen, run_sizeOf' hsz, hff, storeCells, Sem.run_pure, goInt]
      · have hk0 := Nat.ne_of_beq_eq_false hk
        obtain ⟨_, s3, r3, r4⟩ := M.bind_iff.1 hq3
        obtain ⟨rfl, rfl⟩ := M.pure_iff.1 r4
        have hpos : 0 < Nat.min ls len := Nat.pos_of_ne_zero hk0
        have hlp : 0 < len := Nat.lt_of_lt_of_le hpos (Nat.min_le_right ls len)
        have hade : ad = ⟨l.b, l.o + off, none⟩ := q4.resolve_left (by omega)
        obtain ⟨hnx, w', hst, hi2⟩ := storeCells_sound (P := P) r3 h hL hl hfv
        refine ⟨hnx, w', .int .i64 (Nat.min ls len : Nat), ?_, hi2, by simp only [VR]⟩
        subst hade
        simp only [Builtin.copy_, e0, List.getElem?_toArray, List.getElem?_cons_zero, List.getElem?_cons_succ, Sem.run_bind, run_underlying hu, Result.andThen_ok, hlen, run_sizeOf' hsz, hff, hst, Sem.run_pure, goInt]
    | _ => exact (M.fail_iff.1 hr).elim
  | _ => simp only [hu] at hr; exact (M.fail_iff.1 hr).elim

theorem clear_sound {ts : Array TypeId} {ty : TypeId} {args : List AV} {us : List Value} {x : Ctx} {s s' : St} {a : AV} (hr : clearA P ts args x s = some (a, s')) (h : Inv w0 L0 φ s.H w) (hL : L0 ≤ x.lock) (hv : VRL φ args us) :
    s'.nx = s.nx ∧ ∃ w' v, (Builtin.clear_ ts ty us.toArray).run P w = .ok v w' ∧ Inv w0 L0 φ s'.H w' ∧ VR φ a v := by
  unfold clearA at hr
  cases e0 : ts[0]? with
  | none => simp only [e0] at hr; exact (M.fail_iff.1 hr).elim
  | some dT =>
  cases args with
  | nil => simp only [e0] at hr; exact (M.fail_iff.1 hr).elim
  | cons da r =>
  cases r with
  | cons _ _ => simp only [e0] at hr; exact (M.fail_iff.1 hr).elim
  | nil =>
  simp only [e0] at hr
  obtain ⟨dv, _, rfl, hdv, hv⟩ := hv.cons_out
  rw [hv.nil_inv]
  cases hu : P.underlying dT with
  | none => simp only [hu] at hr; exact (M.fail_iff.1 hr).elim
  | some d =>
  cases d with
  | slice e =>
    cases da with
    | nilSlice =>
      simp only [hu] at hr
      obtain ⟨rfl, rfl⟩ := M.pure_iff.1 hr
      simp only [VR] at hdv; subst hdv
      refine ⟨rfl, w, .tuple #[], ?_, h, VR.undef⟩
      simp [Builtin.clear_, e0, run_underlying hu]
    | slice b off len lo ex esz =>
      cases hz : zeroT P e with
      | none => simp only [hu, hz] at hr; exact (M.fail_iff.1 hr).elim
      | some z =>
      simp only [hu, hz] at hr
      obtain ⟨i, zv, hi, hzv, hzr⟩ := zeroT_info (φ := φ) hz
      simp only [VR] at hdv
      obtain ⟨l, ad, c, hl, rfl, q1, q2, q3, q4, q5⟩ := hdv
      rcases M.cond_iff.1 hr with ⟨hk, hq⟩ | ⟨hk, hq⟩
      · obtain ⟨rfl, rfl⟩ := M.pure_iff.1 hq
        obtain rfl := Nat.eq_of_beq_eq_true hk
        refine ⟨rfl, w, .tuple #[], ?_, h, VR.undef⟩
        simp [Builtin.clear_, e0, run_underlying hu]
      · have hk0 := Nat.ne_of_beq_eq_false hk
        obtain ⟨_, s1, r1, r2⟩ := M.bind_iff.1 hq
        obtain ⟨rfl, rfl⟩ := M.pure_iff.1 r2
        have hade : ad = ⟨l.b, l.o + off, none⟩ := q4.resolve_left (by omega)
        have hzc : VRL φ (repL len z.cells) (Builtin.zeroCells zv.cells len).toList := by rw [zeroCells_toList]; exact hzr.cells.rep _
        obtain ⟨hnx, w', hst, hi2⟩ := storeCells_sound (P := P) r1 h hL hl hzc
        refine ⟨hnx, w', .tuple #[], ?_, hi2, VR.undef⟩
        subst hade
        obtain ⟨k, rfl⟩ : ∃ k, len = k + 1 := ⟨len - 1, by omega⟩
        simp only [Builtin.clear_, e0, List.getElem?_toArray, List.getElem?_cons_zero, Sem.run_bind, run_underlying hu, Result.andThen_ok, run_zero' hi hzv, hst, Sem.run_pure]
    | _ => simp only [hu] at hr; exact (M.fail_iff.1 hr).elim
  | _ => simp only [hu] at hr; exact (M.fail_iff.1 hr).elim

theorem cvInts_VRL : ∀ {args : List AV} {vs us : List Value}, cvInts args = some vs → VRL φ args us → us = vs
  | [], vs, us, h, hv => by simp [cvInts] at h; subst h; exact hv.nil_inv
  | a :: r, vs, us, h, hv => by
    cases a <;> simp only [cvInts] at h <;> try (cases h; done)
    cases hr : cvInts r with
    | none => rw [hr] at h; cases h
    | some rs =>
      rw [hr] at h; cases h
      obtain ⟨u, s, rfl, h1, h2⟩ := hv.cons_out
      simp only [VR] at h1
      subst h1
      rw [cvInts_VRL hr h2]

/-- What an operation comes to, in the world. -/
def DefR (φ : Phi) : ADef → Deferred → Prop
  | .call fn cap args, d => ∃ fn' cap', d.target = .fn fn' cap' ∧ FnR φ fn fn' ∧ VRL φ cap cap'.toList ∧ VRL φ args d.args.toList
  | .collected r, d => ∃ l, φ r = some l ∧ l.o = 0 ∧ d.target = .collected l.b ∧ d.args = #[]

def NextR (P : Program) (φ : Phi) (w : World) : ONext → Result Next → Prop
  | .value a, r => ∃ v, r = .ok (.value v) w ∧ VR φ a v
  | .skip, r => r = .ok .skip w
  | .panic a, r => ∃ v, r = .halt (.panic v) w ∧ VR φ a v
  | .enter f args, r => ∃ vs, r = .ok (.enter f vs) w ∧ VRL φ args vs.toList
  | .yield l args, r => ∃ b vs, φ l = some b ∧ b.o = 0 ∧ r = (Instr.yield b.b vs).run P w ∧ VRL φ args vs.toList
  | .defer d, r => ∃ d', r = .ok (.defer d') w ∧ DefR φ d d'
  | .recover, r => r = .ok .recover w

theorem builtin_sound {b : Builtin} {ts : Array TypeId} {ty : TypeId} {cs : Array Bool} {args : List AV} {us : List Value} {x : Ctx} {s s' : St} {r : ONext} (hr : builtinA P b ts ty args x s = some (r, s')) (h : Inv w0 L0 φ s.H w) (hf : Fresh φ s.nx s'.nx) (hL : L0 ≤ x.lock) (hv : VRL φ args us) :
    ∃ φ' w', Inv w0 L0 φ' s'.H w' ∧ Ext φ φ' s.nx s'.nx ∧ NextR P φ' w' r ((builtin b ts ty cs us.toArray).run P w) := by
  unfold builtinA at hr
  cases b <;> dsimp only at hr
  case append =>
    obtain ⟨a, s1, r1, r2⟩ := M.bind_iff.1 hr
    obtain ⟨rfl, rfl⟩ := M.pure_iff.1 r2
    obtain ⟨φ', w', v, e1, e2, e3, e4⟩ := append_sound (P := P) (ty := ty) r1 h hf hL hv
    exact ⟨φ', w', e2, e3, v, by simp only [builtin, Sem.run_bind, e1, Result.andThen_ok, Sem.run_pure], e4⟩
  case copy =>
    obtain ⟨a, s1, r1, r2⟩ := M.bind_iff.1 hr
    obtain ⟨rfl, rfl⟩ := M.pure_iff.1 r2
    obtain ⟨hnx, w', v, e1, e2, e4⟩ := copy_sound (P := P) (ty := ty) r1 h hL hv
    exact ⟨φ, w', e2, Ext.refl _ _ _, v, by simp only [builtin, Sem.run_bind, e1, Result.andThen_ok, Sem.run_pure], e4⟩
  case clear =>
    obtain ⟨a, s1, r1, r2⟩ := M.bind_iff.1 hr
    obtain ⟨rfl, rfl⟩ := M.pure_iff.1 r2
    obtain ⟨hnx, w', v, e1, e2, e4⟩ := clear_sound (P := P) (ty := ty) r1 h hL hv
    exact ⟨φ, w', e2, Ext.refl _ _ _, v, by simp only [builtin, Sem.run_bind, e1, Result.andThen_ok, Sem.run_pure], e4⟩
  case len =>
    cases e0 : ts[0]? with
    | none => simp only [e0] at hr; exact (M.fail_iff.1 hr).elim
    | some t =>
    cases args with
    | nil => simp only [e0] at hr; exact (M.fail_iff.1 hr).elim
    | cons da q =>
    cases q with
    | cons _ _ => simp only [e0] at hr; exact (M.fail_iff.1 hr).elim
    | nil =>
    simp only [e0] at hr
    obtain ⟨dv, _, rfl, hdv, hv⟩ := hv.cons_out
    rw [hv.nil_inv]
    cases hu : P.underlying t with
    | none => simp only [hu] at hr; exact (M.fail_iff.1 hr).elim
    | some d =>
    simp only [hu] at hr
    have fin : ∀ n : Int, (Builtin.len_ ts ty #[dv]).run P w = .ok (.int .i64 n) w → r = .value (.int .i64 n) → s' = s → ∃ φ' w', Inv w0 L0 φ' s'.H w' ∧ Ext φ φ' s.nx s'.nx ∧ NextR P φ' w' r ((builtin .len ts ty cs #[dv]).run P w) := by
      rintro n e1 rfl rfl
      exact ⟨φ, w, h, Ext.refl _ _ _, .int .i64 n, by simp only [builtin, Sem.run_bind, e1, Result.andThen_ok, Sem.run_pure], by simp only [VR]⟩
    cases d with
    | array n el =>
      simp only at hr
      obtain ⟨rfl, rfl⟩ := M.pure_iff.1 hr
      exact fin _ (by simp [Builtin.len_, e0, run_underlying hu, goInt]) rfl rfl
    | string =>
      cases da with
      | str t =>
        simp only at hr
        obtain ⟨rfl, rfl⟩ := M.pure_iff.1 hr
        simp only [VR] at hdv; subst hdv
        exact fin _ (by simp [Builtin.len_, e0, run_underlying hu, goInt]) rfl rfl
      | _ => exact (M.fail_iff.1 hr).elim
    | slice el =>
      cases da with
      | slice b off len lo ex esz =>
        simp only at hr
        obtain ⟨rfl, rfl⟩ := M.pure_iff.1 hr
        simp only [VR] at hdv
        obtain ⟨l, ad, c, hl, rfl, _⟩ := hdv
        exact fin _ (by simp [Builtin.len_, e0, run_underlying hu, goInt]) rfl rfl
      | nilSlice =>
        simp only at hr
        obtain ⟨rfl, rfl⟩ := M.pure_iff.1 hr
        simp only [VR] at hdv; subst hdv
        exact fin _ (by simp [Builtin.len_, e0, run_underlying hu, goInt]) rfl rfl
      | _ => exact (M.fail_iff.1 hr).elim
    | _ => exact (M.fail_iff.1 hr).elim
  case cap =>
    cases e0 : ts[0]? with
    | none => simp only [e0] at hr; exact (M.fail_iff.1 hr).elim
    | some t =>
    cases args with
    | nil => simp only [e0] at hr; exact (M.fail_iff.1 hr).elim
    | cons da q =>
    cases q with
    | cons _ _ => simp only [e0] at hr; exact (M.fail_iff.1 hr).elim
    | nil =>
    simp only [e0] at hr
    obtain ⟨dv, _, rfl, hdv, hv⟩ := hv.cons_out
    rw [hv.nil_inv]
    cases hu : P.underlying t with
    | none => simp only [hu] at hr; exact (M.fail_iff.1 hr).elim
    | some d =>
    simp only [hu] at hr
    have fin : ∀ n : Int, (Builtin.cap_ ts ty #[dv]).run P w = .ok (.int .i64 n) w → r = .value (.int .i64 n) → s' = s → ∃ φ' w', Inv w0 L0 φ' s'.H w' ∧ Ext φ φ' s.nx s'.nx ∧ NextR P φ' w' r ((builtin .cap ts ty cs #[dv]).run P w) := by
      rintro n e1 rfl rfl
      exact ⟨φ, w, h, Ext.refl _ _ _, .int .i64 n, by simp only [builtin, Sem.run_bind, e1, Result.andThen_ok, Sem.run_pure], by simp only [VR]⟩
    cases d with
    | slice el =>
      cases da with
      | slice b off len lo ex esz =>
        cases ex with
        | false => exact (M.fail_iff.1 hr).elim
        | true =>
          simp only at hr
          obtain ⟨rfl, rfl⟩ := M.pure_iff.1 hr
          simp only [VR] at hdv
          obtain ⟨l, ad, c, hl, rfl, _, _, hex, _⟩ := hdv
          obtain rfl := hex trivial
          exact fin _ (by simp [Builtin.cap_, e0, run_underlying hu, goInt]) rfl rfl
      | nilSlice =>
        simp only at hr
        obtain ⟨rfl, rfl⟩ := M.pure_iff.1 hr
        simp only [VR] at hdv; subst hdv
        exact fin _ (by simp [Builtin.cap_, e0, run_underlying hu, goInt]) rfl rfl
      | _ => exact (M.fail_iff.1 hr).elim
    | _ => exact (M.fail_iff.1 hr).elim
  case max =>
    cases hc : cvInts args with
    | none => simp only [hc] at hr; exact (M.fail_iff.1 hr).elim
    | some vs =>
    cases ho : ofSem (Builtin.max_ ts ty vs.toArray) with
    | none => simp only [hc, ho] at hr; exact (M.fail_iff.1 hr).elim
    | some a =>
    simp only [hc, ho] at hr
    obtain ⟨rfl, rfl⟩ := M.pure_iff.1 hr
    obtain rfl := cvInts_VRL hc hv
    obtain ⟨v, hv1, hv2⟩ := ofSem_run (P := P) (φ := φ) ho
    exact ⟨φ, w, h, Ext.refl _ _ _, v, by simp only [builtin, Sem.run_bind, hv1, Result.andThen_ok, Sem.run_pure], hv2⟩
  case min =>
    cases hc : cvInts args with
    | none => simp only [hc] at hr; exact (M.fail_iff.1 hr).elim
    | some vs =>
    cases ho : ofSem (Builtin.min_ ts ty vs.toArray) with
    | none => simp only [hc, ho] at hr; exact (M.fail_iff.1 hr).elim
    | some a =>
    simp only [hc, ho] at hr
    obtain ⟨rfl, rfl⟩ := M.pure_iff.1 hr
    obtain rfl := cvInts_VRL hc hv
    obtain ⟨v, hv1, hv2⟩ := ofSem_run (P := P) (φ := φ) ho
    exact ⟨φ, w, h, Ext.refl _ _ _, v, by simp only [builtin, Sem.run_bind, hv1, Result.andThen_ok, Sem.run_pure], hv2⟩
  case recover =>
    obtain ⟨rfl, rfl⟩ := M.pure_iff.1 hr
    exact ⟨φ, w, h, Ext.refl _ _ _, rfl⟩
  all_goals exact (M.fail_iff.1 hr).elim
end
end AM
