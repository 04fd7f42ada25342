/-
  A lemma text: the abstract machine of the AmDef text reads as the model runs (part AmOps2). Conditions: none; no premise beyond what each theorem states.
-/
import Derived.Test.YthhckoogdofhgaaGreatDoorAmOps
namespace AM
open Go

section
variable {P : Program} {φ : Phi} {w w0 : World} {L0 : Nat} {H : T ABlk}

def OptR (φ : Phi) : Option AV → Option Value → Prop
  | none, v => v = none
  | some a, v => ∃ u, v = some u ∧ VR φ a u

theorem bound_some {d n : Nat} {a : AV} {v : Value} (h : sliceBoundA d (some a) = some n) (hv : VR φ a v) : ∃ k i, v = .int k i ∧ 0 ≤ i ∧ i.toNat = n := by
  unfold sliceBoundA at h
  split at h
  · rename_i e; cases e
  · rename_i k i e
    cases e
    simp only [VR] at hv; subst hv
    cases hd : decide (0 ≤ i) with
    | false => rw [hd] at h; cases h
    | true => rw [hd] at h; cases h; exact ⟨k, i, rfl, of_decide_eq_true hd, rfl⟩
  · cases h

theorem bound_run {k : IntKind} {i : Int} {y : Nat} (code : BoundsCode) (h0 : 0 ≤ i) (h : i.toNat ≤ y) (w : World) : (Instr.sliceBound (.int k i) y code).run P w = .ok i.toNat w := by
  have : 0 ≤ i ∧ i ≤ (y : Int) := ⟨h0, by omega⟩
  simp [Instr.sliceBound, asIntOf, this]

theorem bounds_none {isSlice : Bool} {len cap l h : Nat} {lo hi : Option AV} {lo' hi' : Option Value} (hlo : OptR φ lo lo') (hhi : OptR φ hi hi') (eh : sliceBoundA len hi = some h) (el : sliceBoundA 0 lo = some l) (h1 : h ≤ cap) (h2 : l ≤ h) (w : World) :
    (Instr.sliceBounds isSlice len cap lo' hi' none).run P w = .ok (l, h, cap) w := by
  unfold Instr.sliceBounds
  cases hi with
  | none =>
    simp only [OptR] at hhi; subst hhi
    simp only [sliceBoundA, Option.some.injEq] at eh; subst eh
    cases lo with
    | none =>
      simp only [OptR] at hlo; subst hlo
      simp only [sliceBoundA, Option.some.injEq] at el; subst el
      simp
    | some a =>
      obtain ⟨u, rfl, hu⟩ := hlo
      obtain ⟨k, i, rfl, hi0, rfl⟩ := bound_some el hu
      simp [bound_run _ hi0 h2]
  | some b =>
    obtain ⟨u, rfl, hu⟩ := hhi
    obtain ⟨k, i, rfl, hi0, rfl⟩ := bound_some eh hu
    cases lo with
    | none =>
      simp only [OptR] at hlo; subst hlo
      simp only [sliceBoundA, Option.some.injEq] at el; subst el
      simp [bound_run _ hi0 h1]
    | some a =>
      obtain ⟨u, rfl, hu⟩ := hlo
      obtain ⟨k', j, rfl, hj0, rfl⟩ := bound_some el hu
      simp [bound_run _ hi0 h1, bound_run _ hj0 h2]

theorem bounds_max {isSlice : Bool} {len cap l h m : Nat} {lo : Option AV} {lo' : Option Value} {hi mx : AV} {hi' mx' : Value} (hlo : OptR φ lo lo') (hhi : VR φ hi hi') (hmx : VR φ mx mx') (em : sliceBoundA 0 (some mx) = some m) (eh : sliceBoundA 0 (some hi) = some h) (el : sliceBoundA 0 lo = some l) (h0 : m ≤ cap) (h1 : h ≤ m) (h2 : l ≤ h) (w : World) :
    (Instr.sliceBounds isSlice len cap lo' (some hi') (some mx')).run P w = .ok (l, h, m) w := by
  obtain ⟨k, i, rfl, hi0, rfl⟩ := bound_some eh hhi
  obtain ⟨k', j, rfl, hj0, rfl⟩ := bound_some em hmx
  unfold Instr.sliceBounds
  cases lo with
  | none =>
    simp only [OptR] at hlo; subst hlo
    simp only [sliceBoundA, Option.some.injEq] at el; subst el
    simp [bound_run _ hi0 h1, bound_run _ hj0 h0]
  | some a =>
    obtain ⟨u, rfl, hu⟩ := hlo
    obtain ⟨k'', q, rfl, hq0, rfl⟩ := bound_some el hu
    simp [bound_run _ hi0 h1, bound_run _ hj0 h0, bound_run _ hq0 h2]

theorem slice_sound {t : TypeId} {x r : AV} {xv : Value} {lo hi mx : Option AV} {lo' hi' mx' : Option Value} (h : sliceA P t x lo hi mx = some r) (hx : VR φ x xv) (hlo : OptR φ lo lo') (hhi : OptR φ hi hi') (hmx : OptR φ mx mx') :
    ∃ v, (∀ w, (Instr.sliceAt t xv lo' hi' mx').run P w = .ok v w) ∧ VR φ r v := by
  unfold sliceA at h
  cases hu : P.underlying t with
  | none => simp only [hu] at h; cases h
  | some d =>
  cases d with
  | slice e =>
    have hat : ∀ w, (Instr.sliceAt t xv lo' hi' mx').run P w = (Instr.slice t xv lo' hi' mx').run P w := fun w => by
      simp only [Instr.sliceAt, Sem.run_bind, run_underlying hu, Result.andThen_ok]
    cases hs : szT P e with
    | none => cases x <;> simp only [hu, hs] at h <;> cases h
    | some size =>
    cases x with
    | slice n off len lo0 ex esz =>
      simp only [hu, hs] at h
      cases hb : Nat.beq size esz with
      | false => rw [hb] at h; cases h
      | true =>
        simp only [hb, cond_true] at h
        obtain rfl := Nat.eq_of_beq_eq_true hb
        simp only [VR] at hx
        obtain ⟨l, ad, c, hl, rfl, q1, q2, q3, q4, q5⟩ := hx
        unfold sliceOfA at h
        cases mx with
        | none =>
          simp only [OptR] at hmx; subst hmx
          simp only at h
          cases eh : sliceBoundA len hi with
          | none => simp only [eh] at h; cases h
          | some hh =>
          cases el : sliceBoundA 0 lo with
          | none => simp only [eh, el] at h; cases h
          | some ll =>
          simp only [eh, el] at h
          cases hc : (Nat.ble hh lo0 && Nat.ble ll hh) with
          | false => rw [hc] at h; cases h
          | true =>
            simp only [hc, cond_true, Option.some.injEq] at h
            subst h
            simp only [Bool.and_eq_true, Nat.ble_eq] at hc
            obtain ⟨c1, c2⟩ := hc
            have hbr := bounds_none (P := P) (isSlice := true) (cap := c) hlo hhi eh el (by omega) c2
            refine ⟨.slice (some (if c = ll then ad else ad.add (ll * size))) (hh - ll) (c - ll), fun w => ?_, ?_⟩
            · rw [hat]
              simp only [Instr.slice, Sem.run_bind, run_underlying hu, Result.andThen_ok, hbr, run_sizeOf' hs, Sem.run_pure]
              split <;> simp_all
            · simp only [VR]
              refine ⟨l, _, c - ll, hl, rfl, by omega, by omega, fun e => by rw [q3 e], ?_, ?_⟩
              · by_cases hcl : c = ll
                · exact .inl (by omega)
                · rw [if_neg hcl]
                  have hne : (ex && Nat.beq lo0 ll) = false := by
                    cases ex with
                    | false => rfl
                    | true =>
                      have := q3 rfl
                      cases hb2 : Nat.beq lo0 ll with
                      | false => rfl
                      | true => exact absurd (by rw [this]; exact Nat.eq_of_beq_eq_true hb2) hcl
                  rw [hne, cond_false, q4.resolve_left (by omega), addr_add]
                  exact .inr (by congr 1; omega)
              · have hmul : ll * size + (c - ll) * size = c * size := by rw [← Nat.add_mul]; congr 1; omega
                have hle : ll * size ≤ c * size := Nat.mul_le_mul_right _ (by omega)
                cases hne : (ex && Nat.beq lo0 ll) with
                | false => simp only [cond_false]; omega
                | true =>
                  simp only [Bool.and_eq_true] at hne
                  have e1 := q3 hne.1
                  have e2 := Nat.eq_of_beq_eq_true hne.2
                  simp only [cond_true]
                  have : c - ll = 0 := by omega
                  rw [this]; omega
        | some mm =>
          obtain ⟨mv, rfl, hmv⟩ := hmx
          simp only at h
          cases em : sliceBoundA 0 (some mm) with
          | none => simp only [em] at h; cases h
          | some m =>
          cases hi with
          | none => simp only [em] at h; cases h
          | some hiv =>
          obtain ⟨hv', rfl, hhv⟩ := hhi
          cases eh : sliceBoundA 0 (some hiv) with
          | none => simp only [em, eh] at h; cases h
          | some hh =>
          cases el : sliceBoundA 0 lo with
          | none => simp only [em, eh, el] at h; cases h
          | some ll =>
          simp only [em, eh, el] at h
          cases hc : (Nat.ble m lo0 && Nat.ble hh m && Nat.ble ll hh) with
          | false => rw [hc] at h; cases h
          | true =>
            simp only [hc, cond_true, Option.some.injEq] at h
            subst h
            simp only [Bool.and_eq_true, Nat.ble_eq] at hc
            obtain ⟨⟨c0, c1⟩, c2⟩ := hc
            have hbr := bounds_max (P := P) (isSlice := true) (len := len) (cap := c) hlo hhv hmv em eh el (by omega) c1 c2
            refine ⟨.slice (some (if m = ll then ad else ad.add (ll * size))) (hh - ll) (m - ll), fun w => ?_, ?_⟩
            · rw [hat]
              simp only [Instr.slice, Sem.run_bind, run_underlying hu, Result.andThen_ok, hbr, run_sizeOf' hs, Sem.run_pure]
              split <;> simp_all
            · simp only [VR]
              refine ⟨l, _, m - ll, hl, rfl, by omega, Nat.le_refl _, fun _ => rfl, ?_, ?_⟩
              · by_cases hcl : m = ll
                · exact .inl (by omega)
                · rw [if_neg hcl]
                  have hne : Nat.beq m ll = false := by
                    cases hb2 : Nat.beq m ll with
                    | false => rfl
                    | true => exact absurd (Nat.eq_of_beq_eq_true hb2) hcl
                  rw [hne, cond_false, q4.resolve_left (by omega), addr_add]
                  exact .inr (by congr 1; omega)
              · have hmul : ll * size + (m - ll) * size = m * size := by rw [← Nat.add_mul]; congr 1; omega
                have hle : m * size ≤ c * size := Nat.mul_le_mul_right _ (by omega)
                have hle2 : ll * size ≤ m * size := Nat.mul_le_mul_right _ (by omega)
                cases hne : Nat.beq m ll with
                | false => simp only [cond_false]; omega
                | true =>
                  have e2 := Nat.eq_of_beq_eq_true hne
                  simp only [cond_true]
                  have : m - ll = 0 := by omega
                  rw [this]; omega
    | nilSlice =>
      simp only [hu, hs] at h
      simp only [VR] at hx; subst hx
      cases el : sliceBoundA 0 lo with
      | none => simp only [el] at h; cases h
      | some ll =>
      cases eh : sliceBoundA 0 hi with
      | none => simp only [el, eh] at h; cases ll <;> cases h
      | some hh =>
      cases ll with
      | succ _ => simp only [el, eh] at h; cases h
      | zero =>
      cases hh with
      | succ _ => simp only [el, eh] at h; cases h
      | zero =>
      cases mx with
      | none =>
        simp only [OptR] at hmx; subst hmx
        simp only [el, eh, Option.some.injEq] at h
        subst h
        have hbr := bounds_none (P := P) (isSlice := true) (cap := 0) hlo hhi eh el (Nat.le_refl _) (Nat.le_refl _)
        refine ⟨.slice none 0 0, fun w => ?_, by simp only [VR]⟩
        rw [hat]
        simp only [Instr.slice, Sem.run_bind, run_underlying hu, Result.andThen_ok, hbr, run_sizeOf' hs, Sem.run_pure]
        simp
      | some mm =>
        obtain ⟨mv, rfl, hmv⟩ := hmx
        simp only [el, eh] at h
        cases em : sliceBoundA 0 (some mm) with
        | none => simp only [em] at h; cases h
        | some m =>
        cases m with
        | succ _ => simp only [em] at h; cases h
        | zero =>
        cases hi with
        | none => simp only [em] at h; cases h
        | some hiv =>
        simp only [em, Option.some.injEq] at h
        subst h
        obtain ⟨hv', rfl, hhv⟩ := hhi
        have hbr := bounds_max (P := P) (isSlice := true) (len := 0) (cap := 0) hlo hhv hmv em eh el (Nat.le_refl _) (Nat.le_refl _) (Nat.le_refl _)
        refine ⟨.slice none 0 0, fun w => ?_, by simp only [VR]⟩
        rw [hat]
        simp only [Instr.slice, Sem.run_bind, run_underlying hu, Result.andThen_ok, hbr, run_sizeOf' hs, Sem.run_pure]
        simp
    | _ => simp only [hu] at h; cases h
  | _ => simp only [hu] at h; cases h
end
end AM
