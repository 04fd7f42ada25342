/-
  A lemma text: the abstract machine of the AmDef text reads as the model runs (part AmOps). Conditions: none; no premise beyond what each theorem states.
-/
import Derived.Test.YthhckoogdofhgaaGreatDoorAmApp
import Derived.Laws.StructEq
namespace AM
open Go

section
variable {P : Program} {φ : Phi} {w w0 : World} {L0 : Nat} {H : T ABlk}

theorem part_sound {t : TypeId} {cs : List AV} {us : Array Value} {off : Nat} {a : AV} (hr : partA P t cs off = some a) (hv : VRL φ cs us.toList) :
    ∃ v, (∀ w, (part t us off).run P w = .ok v w) ∧ VR φ a v := by
  unfold partA at hr
  cases hag : isAggT P t with
  | none => simp only [hag] at hr; cases hr
  | some ag => cases ag with
    | true => cases hsz : szT P t with
      | none => simp only [hag, hsz] at hr; cases hr
      | some sz =>
        simp only [hag, hsz] at hr
        cases hs : sliceL cs off sz with
        | none => rw [hs] at hr; cases hr
        | some r =>
          rw [hs] at hr; cases hr
          obtain ⟨q1, rfl⟩ := sliceL_some hs
          refine ⟨.agg (us.extract off (off + sz)), fun w => ?_, ?_⟩
          · simp only [part, Sem.run_bind, run_isAgg' hag, Result.andThen_ok, if_true, run_sizeOf' hsz, Sem.run_pure]
          · simp only [VR]
            refine ⟨_, rfl, ?_⟩
            have := (hv.drop off).take sz
            simpa [Array.toList_extract, List.extract_eq_take_drop] using this
    | false =>
      simp only [hag] at hr
      obtain ⟨u, hu, hvu⟩ := hv.get off a hr
      have hu' : us[off]? = some u := by simpa using hu
      exact ⟨u, fun w => by simp only [part, Sem.run_bind, run_isAgg' hag, Result.andThen_ok, Bool.false_eq_true, if_false, hu', Sem.run_pure], hvu⟩

theorem eqFields_sound {d : Nat} {rec : TypeId → AV → AV → Option Bool} (hrec : ∀ t x y r xv yv, rec t x y = some r → VR φ x xv → VR φ y yv → ∀ w, (Op.equalIn d t xv yv).run P w = .ok r w) {xs ys : List AV} {us vs : Array Value}
    (hx : VRL φ xs us.toList) (hy : VRL φ ys vs.toList) : ∀ (fs : List Field) (r : Bool), eqFieldsA (partA P) rec xs ys fs = some r → ∀ w, (Op.eqFields d us vs fs).run P w = .ok r w
  | [], r, h, w => by simp only [eqFieldsA, Option.some.injEq] at h; subst h; simp [Op.eqFields]
  | f :: fs, r, h, w => by
    unfold eqFieldsA at h
    cases hn : f.name == "_" with
    | true => rw [hn] at h; cases h
    | false =>
      simp only [hn, cond_false] at h
      cases ha : partA P f.type xs f.offset with
      | none => simp only [ha] at h; cases h
      | some a =>
      cases hb : partA P f.type ys f.offset with
      | none => simp only [ha, hb] at h; cases h
      | some b =>
      simp only [ha, hb] at h
      obtain ⟨av, har, hav⟩ := part_sound ha hx
      obtain ⟨bv, hbr, hbv⟩ := part_sound hb hy
      have hne : f.name ≠ "_" := by simpa using hn
      cases hc : rec f.type a b with
      | none => simp only [hc] at h; cases h
      | some q =>
        have hq := hrec _ _ _ _ _ _ hc hav hbv
        simp only [Op.eqFields, hne, ne_eq, not_false_eq_true, if_true, Sem.run_bind, har, hbr, hq, Result.andThen_ok]
        cases q with
        | true =>
          simp only [hc] at h
          simpa using eqFields_sound hrec hx hy fs r h w
        | false =>
          simp only [hc, Option.some.injEq] at h
          subst h
          simp

theorem eqF_sound : ∀ (k d : Nat) (t : TypeId) (x y : AV) (r : Bool) (xv yv : Value), k ≤ d → eqF P k t x y = some r → VR φ x xv → VR φ y yv → ∀ w, (Op.equalIn d t xv yv).run P w = .ok r w
  | 0, _, _, _, _, _, _, _, _, h, _, _, _ => by simp [eqF] at h
  | k + 1, 0, _, _, _, _, _, _, hk, _, _, _, _ => by omega
  | k + 1, d + 1, t, x, y, r, xv, yv, hk, h, hx, hy, w => by
    unfold eqF at h
    cases hu : P.underlying t with
    | none => simp only [hu] at h; cases h
    | some ds =>
      simp only [hu] at h
      split at h
      · rename_i k0 k1 a k2 b e1
        cases e1
        simp only [VR] at hx hy
        subst hx; subst hy
        cases hd : decide (k1 = k2) with
        | false => rw [hd] at h; cases h
        | true =>
          simp only [hd, cond_true, Option.some.injEq] at h
          have := of_decide_eq_true hd
          subst h; subst this
          simp [Op.equalIn, run_underlying hu]
      · rename_i e1
        cases e1
        simp only [VR] at hx hy
        subst hx; subst hy
        simp only [Option.some.injEq] at h
        subst h
        simp [Op.equalIn, run_underlying hu]
      · rename_i fs xs ys e1
        cases e1
        cases hp : P.stoodInHeld t with
        | true => rw [hp] at h; cases h
        | false =>
          simp only [hp, cond_false] at h
          simp only [VR] at hx hy
          obtain ⟨us, rfl, hx⟩ := hx
          obtain ⟨vs, rfl, hy⟩ := hy
          have hfs : P.fieldsOf t = fs := by simp [Program.fieldsOf, hu]
          rw [run_equalIn_struct w d t us vs (by rw [hfs]; exact hu) hp, hfs]
          exact eqFields_sound (fun t' x' y' r' xv' yv' h' hx' hy' => eqF_sound k d t' x' y' r' xv' yv' (by omega) h' hx' hy') hx hy _ r h w
      · cases h

theorem ofSem_run {m : Sem Value} {a : AV} (h : ofSem m = some a) : ∃ v, (∀ w, m.run P w = .ok v w) ∧ VR φ a v := by
  unfold ofSem at h
  split at h
  · exact ⟨_, fun w => rfl, cvS_VR h⟩
  · cases h

theorem eqA_sound {t : TypeId} {x y : AV} {r : Bool} {xv yv : Value} (h : eqA P t x y = some r) (hx : VR φ x xv) (hy : VR φ y yv) : ∀ w, (Op.equal t xv yv).run P w = .ok r w := by
  intro w
  unfold eqA at h
  cases hu : P.underlying t with
  | none => simp only [hu] at h; cases h
  | some ds =>
    simp only [hu] at h
    obtain ⟨d, hd, h20⟩ : ∃ d, Op.maxDepth = d + 1 ∧ 20 ≤ d := ⟨9999, rfl, by omega⟩
    split at h <;> (try (cases h; done))
    all_goals (rename_i e1; first | (cases e1) | skip)
    all_goals (simp only [VR] at hx hy)
    case h_11 =>
      rename_i xs ys
      cases hg : P.eqGuardType P.depth t with
      | true => rw [hg] at h; cases h
      | false =>
        simp only [hg, cond_false] at h
        exact eqF_sound 20 Op.maxDepth t (.agg xs) (.agg ys) r xv yv (by rw [hd]; exact Nat.le_succ_of_le h20) h (by simp only [VR]; exact hx) (by simp only [VR]; exact hy) w
    all_goals (cases h)
    all_goals (try subst hx)
    all_goals (try subst hy)
    all_goals (try obtain ⟨l, hl, rfl⟩ := hx)
    all_goals (try obtain ⟨l, hl, rfl⟩ := hy)
    all_goals (try obtain ⟨l, hl, ad, c, rfl, _⟩ := hx)
    all_goals (try obtain ⟨l, hl, ad, c, rfl, _⟩ := hy)
    all_goals (try obtain ⟨g, us, vs, rfl, _⟩ := hx)
    all_goals (try obtain ⟨u, rfl, _⟩ := hx)
    all_goals (try obtain ⟨u, rfl, _⟩ := hy)
    all_goals (simp [Op.equal, hd, Op.equalIn, run_underlying hu])

/-- The guard on nil interface values lets these pass. -/
theorem guard_run {op : BinOp} {t : TypeId} {xo yo : Operand} {a b : Value} (h : (∀ cs, a ≠ .agg cs) ∧ (a ≠ .nilIface ∨ b ≠ .nilIface) ∨ (∃ us, a = .agg us) ∧ P.eqGuardType P.depth t = false ∨ (isConstO xo || isConstO yo) = true ∧ a = .nilIface ∧ b = .nilIface) (w : World) :
    (eqGuard op t xo yo a b).run P w = .ok () w := by
  unfold eqGuard
  cases op <;> simp only [Bool.not_true, Bool.not_false, if_true, if_false, Bool.false_eq_true, Sem.run_pure]
  all_goals
    rcases h with ⟨h1, h2⟩ | ⟨⟨us, rfl⟩, hg⟩ | ⟨hc, rfl, rfl⟩
    · cases a <;> cases b <;> first | rfl | (exact absurd rfl (h1 _)) | (simp at h2)
    · cases b <;> first | rfl | (simp [hg])
    · cases xo <;> cases yo <;> first | (simp [isConstO] at hc; done) | rfl

theorem binOp_sound {op : BinOp} {t : TypeId} {xo yo : Operand} {x y r : AV} {xv yv : Value} (h : binOpA P op t xo yo x y = some r) (hx : VR φ x xv) (hy : VR φ y yv) :
    ∃ v, (∀ w, (do eqGuard op t xo yo xv yv; binOp op t xv yv : Sem Value).run P w = .ok v w) ∧ VR φ r v := by
  have gp : ∀ a b : Value, (∀ cs, a ≠ .agg cs) → a ≠ .nilIface → ∀ w, (eqGuard op t xo yo a b).run P w = .ok () w := fun a b h1 h2 => guard_run (.inl ⟨h1, .inl h2⟩)
  unfold binOpA at h
  split at h
  · rename_i k a k' b
    simp only [VR] at hx hy
    subst hx; subst hy
    obtain ⟨v, hv, hr⟩ := ofSem_run (P := P) (φ := φ) h
    exact ⟨v, fun w => by simp only [Sem.run_bind, gp (.int k a) (.int k' b) (by simp) (by simp), Result.andThen_ok, hv], hr⟩
  · rename_i a b
    simp only [VR] at hx hy
    subst hx; subst hy
    obtain ⟨v, hv, hr⟩ := ofSem_run (P := P) (φ := φ) h
    exact ⟨v, fun w => by simp only [Sem.run_bind, gp (.string a) (.string b) (by simp) (by simp), Result.andThen_ok, hv], hr⟩
  · rename_i a b
    have gp' := gp (.bool a) (.bool b) (by simp) (by simp)
    simp only [VR] at hx hy
    subst hx; subst hy
    obtain ⟨d, hd⟩ : ∃ d, Op.maxDepth = d + 1 := ⟨9999, rfl⟩
    split at h
    · rename_i hu
      cases h
      refine ⟨.bool (a == b), fun w => ?_, by simp only [VR]⟩
      simp only [Sem.run_bind, gp', Result.andThen_ok, binOp, Op.equal, hd, Op.equalIn, run_underlying hu, Sem.run_pure]
    · rename_i hu
      cases h
      refine ⟨.bool (!(a == b)), fun w => ?_, by simp only [VR]⟩
      simp only [Sem.run_bind, gp', Result.andThen_ok, binOp, Op.equal, hd, Op.equalIn, run_underlying hu, Sem.run_pure]
    · cases h
  · simp only [VR] at hx hy
    subst hx; subst hy
    obtain ⟨d, hd⟩ : ∃ d, Op.maxDepth = d + 1 := ⟨9999, rfl⟩
    split at h
    · rename_i hu
      cases hc : (isConstO xo || isConstO yo) with
      | false => rw [hc] at h; cases h
      | true =>
        rw [hc] at h; cases h
        refine ⟨.bool true, fun w => ?_, by simp only [VR]⟩
        simp only [Sem.run_bind, guard_run (.inr (.inr ⟨hc, rfl, rfl⟩)), Result.andThen_ok, binOp, Op.equal, hd, Op.equalIn, run_underlying hu, Sem.run_pure]
    · rename_i hu
      cases hc : (isConstO xo || isConstO yo) with
      | false => rw [hc] at h; cases h
      | true =>
        rw [hc] at h; cases h
        refine ⟨.bool false, fun w => ?_, by simp only [VR]⟩
        simp only [Sem.run_bind, guard_run (.inr (.inr ⟨hc, rfl, rfl⟩)), Result.andThen_ok, binOp, Op.equal, hd, Op.equalIn, run_underlying hu, Sem.run_pure, Bool.not_true]
    · cases h
  · have key : ∀ b, eqA P t x y = some b → ((∀ w, (eqGuard op t xo yo xv yv).run P w = .ok () w) ∧ (∀ w, (Op.equal t xv yv).run P w = .ok b w) ∧ ((∀ k a, xv ≠ .int k a) ∧ (∀ k a, xv ≠ .float k a) ∧ (∀ k a b, xv ≠ .complex k a b) ∧ (∀ a, xv ≠ .string a) ∧ (∀ b, xv ≠ .bool b))) := by
      intro b hb
      refine ⟨fun w => guard_run ?_ w, eqA_sound hb hx hy, ?_⟩
      · unfold eqA at hb
        split at hb <;> (try (cases hb; done)) <;> simp only [VR] at hx hy
        case h_11 =>
          cases hg : P.eqGuardType P.depth t with
          | true => rw [hg] at hb; cases hb
          | false => obtain ⟨us, rfl, _⟩ := hx; exact .inr (.inl ⟨⟨us, rfl⟩, rfl⟩)
        case h_5 => obtain ⟨u, rfl, _⟩ := hy; subst hx; exact .inl ⟨by simp, .inr (by simp)⟩
        all_goals (first
          | (subst hx; exact .inl ⟨by simp, .inl (by simp)⟩)
          | (obtain ⟨l, hl, rfl⟩ := hx; exact .inl ⟨by simp, .inl (by simp)⟩)
          | (obtain ⟨l, hl, ad, c, rfl, _⟩ := hx; exact .inl ⟨by simp, .inl (by simp)⟩)
          | (obtain ⟨g, us, vs, rfl, _⟩ := hx; exact .inl ⟨by simp, .inl (by simp)⟩)
          | (obtain ⟨u, rfl, _⟩ := hx; exact .inl ⟨by simp, .inl (by simp)⟩)
          | skip)
      · unfold eqA at hb
        split at hb <;> (try (cases hb; done)) <;> simp only [VR] at hx hy
        all_goals (first
          | (subst hx; simp; done)
          | (obtain ⟨l, hl, rfl⟩ := hx; simp; done)
          | (obtain ⟨l, hl, ad, c, rfl, _⟩ := hx; simp; done)
          | (obtain ⟨g, us, vs, rfl, _⟩ := hx; simp; done)
          | (obtain ⟨u, rfl, _⟩ := hx; simp; done))
    split at h
    · cases hb : eqA P t x y with
      | none => rw [hb] at h; cases h
      | some b =>
        rw [hb] at h; cases h
        obtain ⟨k1, k2, k3, k4, k5, k6, k7⟩ := key b hb
        refine ⟨.bool b, fun w => ?_, by simp only [VR]⟩
        simp only [Sem.run_bind, k1, Result.andThen_ok]
        have e : binOp .eql t xv yv = (do pure (.bool (← Op.equal t xv yv)) : Sem Value) := by
          cases xv <;> first | rfl | (exact absurd rfl (k3 _ _)) | (exact absurd rfl (k4 _ _)) | (exact absurd rfl (k5 _ _ _)) | (exact absurd rfl (k6 _)) | (exact absurd rfl (k7 _))
        rw [e]
        simp only [Sem.run_bind, k2, Result.andThen_ok, Sem.run_pure]
    · cases hb : eqA P t x y with
      | none => rw [hb] at h; cases h
      | some b =>
        rw [hb] at h; cases h
        obtain ⟨k1, k2, k3, k4, k5, k6, k7⟩ := key b hb
        refine ⟨.bool (!b), fun w => ?_, by simp only [VR]⟩
        simp only [Sem.run_bind, k1, Result.andThen_ok]
        have e : binOp .neq t xv yv = (do pure (.bool (!(← Op.equal t xv yv))) : Sem Value) := by
          cases xv <;> first | rfl | (exact absurd rfl (k3 _ _)) | (exact absurd rfl (k4 _ _)) | (exact absurd rfl (k5 _ _ _)) | (exact absurd rfl (k6 _)) | (exact absurd rfl (k7 _))
        rw [e]
        simp only [Sem.run_bind, k2, Result.andThen_ok, Sem.run_pure]
    · cases h
end
end AM
