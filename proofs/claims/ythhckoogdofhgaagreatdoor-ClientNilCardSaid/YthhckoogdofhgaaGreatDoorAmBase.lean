/-
  A lemma text: the abstract machine of the AmDef text reads as the model runs (part AmBase). Conditions: none; no premise beyond what each theorem states.
-/
import Derived.Test.YthhckoogdofhgaaGreatDoorAmDef
namespace AM
open Go

/-! The tree as a map. -/
theorem T.get_setF {α : Type} (a : Option α) : ∀ (f : Nat) (t : T α) (n m : Nat), n < f → (T.setF f t n a).get m = if m = n then a else t.get m := by
  intro f
  induction f with
  | zero => intro t n m h; omega
  | succ f ih =>
    intro t n m h
    cases t with
    | nil =>
      cases n with
      | zero => cases m with
        | zero => simp [T.setF, T.get]
        | succ m => simp [T.setF, T.get]
      | succ n =>
        have hq : n / 2 < f := by omega
        simp only [T.setF]
        cases hp : Nat.beq (n % 2) 0 with
        | true =>
          have hp' := Nat.eq_of_beq_eq_true hp
          simp only [cond_true]
          cases m with
          | zero => simp [T.get]
          | succ m =>
            simp only [T.get]
            cases hm : Nat.beq (m % 2) 0 with
            | true =>
              have hm' := Nat.eq_of_beq_eq_true hm
              simp only [cond_true, ih _ _ _ hq]
              by_cases e : m = n
              · simp [e]
              · rw [if_neg (by omega), if_neg (by omega)]; simp [T.get]
            | false =>
              simp only [cond_false]
              rw [if_neg]
              intro e
              obtain rfl : m = n := by omega
              rw [hp] at hm; cases hm
        | false =>
          simp only [cond_false]
          cases m with
          | zero => simp [T.get]
          | succ m =>
            simp only [T.get]
            cases hm : Nat.beq (m % 2) 0 with
            | false =>
              have hp' := Nat.ne_of_beq_eq_false hp
              have hm' := Nat.ne_of_beq_eq_false hm
              simp only [cond_false, ih _ _ _ hq]
              by_cases e : m = n
              · simp [e]
              · rw [if_neg (by omega), if_neg (by omega)]; simp [T.get]
            | true =>
              simp only [cond_true]
              rw [if_neg]
              intro e
              obtain rfl : m = n := by omega
              rw [hp] at hm; cases hm
    | node l v r =>
      cases n with
      | zero => cases m with
        | zero => simp [T.setF, T.get]
        | succ m => simp [T.setF, T.get]
      | succ n =>
        have hq : n / 2 < f := by omega
        simp only [T.setF]
        cases hp : Nat.beq (n % 2) 0 with
        | true =>
          have hp' := Nat.eq_of_beq_eq_true hp
          simp only [cond_true]
          cases m with
          | zero => simp [T.get]
          | succ m =>
            simp only [T.get]
            cases hm : Nat.beq (m % 2) 0 with
            | true =>
              have hm' := Nat.eq_of_beq_eq_true hm
              simp only [cond_true, ih _ _ _ hq]
              by_cases e : m = n
              · simp [e]
              · rw [if_neg (by omega), if_neg (by omega)]
            | false =>
              simp only [cond_false]
              rw [if_neg]
              intro e
              obtain rfl : m = n := by omega
              rw [hp] at hm; cases hm
        | false =>
          simp only [cond_false]
          cases m with
          | zero => simp [T.get]
          | succ m =>
            simp only [T.get]
            cases hm : Nat.beq (m % 2) 0 with
            | false =>
              have hp' := Nat.ne_of_beq_eq_false hp
              have hm' := Nat.ne_of_beq_eq_false hm
              simp only [cond_false, ih _ _ _ hq]
              by_cases e : m = n
              · simp [e]
              · rw [if_neg (by omega), if_neg (by omega)]
            | true =>
              simp only [cond_true]
              rw [if_neg]
              intro e
              obtain rfl : m = n := by omega
              rw [hp] at hm; cases hm

theorem T.get_set {α : Type} (t : T α) (n m : Nat) (a : Option α) : (t.set n a).get m = if m = n then a else t.get m :=
  T.get_setF a (n + 1) t n m (Nat.lt_succ_self n)

theorem T.get_set_self {α : Type} (t : T α) (n : Nat) (a : Option α) : (t.set n a).get n = a := by rw [T.get_set, if_pos rfl]
theorem T.get_set_ne {α : Type} (t : T α) {n m : Nat} (a : Option α) (h : m ≠ n) : (t.set n a).get m = t.get m := by rw [T.get_set, if_neg h]

/-! What a run of the monad says. -/
section
variable {α β : Type} {x : Ctx} {s s' : St}

theorem M.pure_iff {a r : α} : (M.pure a) x s = some (r, s') ↔ r = a ∧ s' = s := by
  simp only [M.pure, Option.some.injEq, Prod.mk.injEq]; constructor <;> (rintro ⟨rfl, rfl⟩; exact ⟨rfl, rfl⟩)
theorem M.bind_iff {m : M α} {f : α → M β} {r : β} : (m >>= f) x s = some (r, s') ↔ ∃ a s1, m x s = some (a, s1) ∧ f a x s1 = some (r, s') := by
  show M.bind m f x s = _ ↔ _
  unfold M.bind
  cases h : m x s with
  | none => simp
  | some q =>
    obtain ⟨a, s1⟩ := q
    constructor
    · intro h'; exact ⟨a, s1, rfl, h'⟩
    · rintro ⟨a', s1', h1, h2⟩; cases h1; exact h2
theorem M.fail_iff {r : α} : (M.fail : M α) x s = some (r, s') ↔ False := by simp [M.fail]
theorem M.of_iff {o : Option α} {r : α} : (M.of o) x s = some (r, s') ↔ o = some r ∧ s' = s := by
  cases o with
  | none => simp [M.of, M.fail]
  | some a => simp only [M.of, M.pure_iff, Option.some.injEq]; constructor <;> (rintro ⟨h, h'⟩; exact ⟨h.symm, h'⟩)
theorem M.guard_iff {b : Bool} {r : Unit} : (M.guard b) x s = some (r, s') ↔ b = true ∧ s' = s := by
  cases b <;> simp [M.guard, M.pure_iff, M.fail_iff]
theorem M.cond_iff {b : Bool} {m m' : M α} {q : Option (α × St)} : (bif b then m else m') x s = q ↔ (b = true ∧ m x s = q) ∨ (b = false ∧ m' x s = q) := by cases b <;> simp
theorem blt_eq (n m : Nat) : Nat.blt n m = decide (n < m) := by rw [Bool.eq_iff_iff]; simp [Nat.blt_eq]
theorem rd_iff {n : Nat} {r : ABlk} : rd n x s = some (r, s') ↔ x.canRead n = true ∧ n < s.nx ∧ s.H.get n = some r ∧ s' = s := by
  unfold rd
  rw [blt_eq]
  by_cases h : x.canRead n = true
  · by_cases h2 : n < s.nx
    · simp only [h, h2, decide_true, Bool.and_true, cond_true, true_and]
      cases s.H.get n with
      | none => simp
      | some v => simp only [Option.some.injEq, Prod.mk.injEq]; constructor <;> (rintro ⟨rfl, rfl⟩; exact ⟨rfl, rfl⟩)
    · simp [h2]
  · simp [h]
theorem wr_iff {n : Nat} {b : ABlk} {r : Unit} : wr n b x s = some (r, s') ↔ x.canWrite n = true ∧ n < s.nx ∧ (s.H.get n).isSome = true ∧ s' = { s with H := s.H.set n (some b) } := by
  unfold wr
  rw [blt_eq]
  by_cases h : x.canWrite n = true
  · by_cases h2 : n < s.nx
    · simp only [h, h2, decide_true, Bool.and_true, cond_true, true_and]
      cases s.H.get n with
      | none => simp
      | some v => simp only [Option.some.injEq, Prod.mk.injEq, Option.isSome_some, true_and]; constructor <;> (rintro rfl; rfl)
    · simp [h2]
  · simp [h]
theorem kill_iff {n : Nat} {r : Unit} : kill n x s = some (r, s') ↔ x.canWrite n = true ∧ n < s.nx ∧ (s.H.get n).isSome = true ∧ s' = { s with H := s.H.set n none } := by
  unfold kill
  rw [blt_eq]
  by_cases h : x.canWrite n = true
  · by_cases h2 : n < s.nx
    · simp only [h, h2, decide_true, Bool.and_true, cond_true, true_and]
      cases s.H.get n with
      | none => simp
      | some v => simp only [Option.some.injEq, Prod.mk.injEq, Option.isSome_some, true_and]; constructor <;> (rintro rfl; rfl)
    · simp [h2]
  · simp [h]
theorem nw_iff {b : ABlk} {r : Nat} : nw b x s = some (r, s') ↔ x.canRead s.nx = true ∧ r = s.nx ∧ s' = ⟨s.H.set s.nx (some b), s.nx + 1⟩ := by
  unfold nw
  cases h : x.canRead s.nx <;> simp
  constructor <;> (rintro ⟨rfl, rfl⟩; exact ⟨rfl, rfl⟩)
theorem getNx_iff {r : Nat} : getNx x s = some (r, s') ↔ r = s.nx ∧ s' = s := by
  unfold getNx; simp; constructor <;> (rintro ⟨rfl, rfl⟩; exact ⟨rfl, rfl⟩)
theorem under_iff {f : Ctx → Nat → Ctx} {m : M α} {r : α} : under f m x s = some (r, s') ↔ x.only = none ∧ m (f x s.nx) s = some (r, s') := by
  unfold under
  cases x.only <;> simp
end

end AM
