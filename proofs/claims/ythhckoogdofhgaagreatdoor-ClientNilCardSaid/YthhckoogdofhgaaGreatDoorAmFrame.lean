/-
  A lemma text: the abstract machine of the AmDef text reads as the model runs (part AmFrame). Conditions: none; no premise beyond what each theorem states.
-/
import Derived.Test.YthhckoogdofhgaaGreatDoorAmBase
namespace AM
open Go

/-- What a run may turn. -/
def Mod (x : Ctx) (s s1 : St) (n : Nat) : Prop := x.canRead n = true ∧ n < s1.nx ∧ (x.canWrite n = true ∨ s.nx ≤ n)

/-- A run hangs on what it can see alone, and turns what it may alone. -/
def FrameP {α : Type} (m : M α) : Prop := ∀ x s r s1, m x s = some (r, s1) → s.nx ≤ s1.nx ∧ (∀ n, ¬ Mod x s s1 n → s1.H.get n = s.H.get n) ∧
  ∀ s2 : St, s2.nx = s.nx → (∀ n, x.canRead n = true → n < s1.nx → s2.H.get n = s.H.get n) →
    ∃ s3, m x s2 = some (r, s3) ∧ s3.nx = s1.nx ∧ (∀ n, x.canRead n = true → n < s1.nx → s3.H.get n = s1.H.get n) ∧
      (∀ n, ¬ (x.canRead n = true ∧ n < s1.nx) → s3.H.get n = s2.H.get n)

theorem canWrite_canRead {x : Ctx} {n : Nat} (h : x.canWrite n = true) : x.canRead n = true := by
  unfold Ctx.canWrite at h; simp only [Bool.and_eq_true] at h; exact h.2

section
variable {α β : Type}

theorem FrameP.same {m : M α} (h : ∀ (x : Ctx) (s : St) (r : α) (s1 : St), m x s = some (r, s1) → s1 = s ∧ ∀ s2 : St, s2.nx = s.nx → (∀ n, x.canRead n = true → n < s.nx → s2.H.get n = s.H.get n) → m x s2 = some (r, s2)) : FrameP m := by
  intro x s r s1 hm
  obtain ⟨rfl, h2⟩ := h x s r s1 hm
  exact ⟨Nat.le_refl _, fun _ _ => rfl, fun s2 hn ha => ⟨s2, h2 s2 hn ha, hn, ha, fun _ _ => rfl⟩⟩

theorem FrameP.pure (a : α) : FrameP (M.pure a) := .same fun _ _ _ _ h => by
  obtain ⟨rfl, rfl⟩ := M.pure_iff.1 h
  exact ⟨rfl, fun s2 _ _ => rfl⟩
theorem FrameP.fail : FrameP (M.fail : M α) := fun _ _ _ _ h => (M.fail_iff.1 h).elim
theorem FrameP.of (o : Option α) : FrameP (M.of o) := by
  cases o with
  | none => exact FrameP.fail
  | some a => exact FrameP.pure a
theorem FrameP.guard (b : Bool) : FrameP (M.guard b) := by
  cases b with
  | false => exact FrameP.fail
  | true => exact FrameP.pure ()
theorem FrameP.getNx : FrameP getNx := .same fun _ _ _ _ h => by
  obtain ⟨rfl, rfl⟩ := getNx_iff.1 h
  exact ⟨rfl, fun s2 hn _ => by unfold AM.getNx; rw [hn]⟩
theorem FrameP.rd (n : Nat) : FrameP (rd n) := .same fun _ _ _ _ h => by
  obtain ⟨h1, h2, h3, rfl⟩ := rd_iff.1 h
  exact ⟨rfl, fun s2 hn ha => rd_iff.2 ⟨h1, by omega, by rw [ha n h1 h2]; exact h3, rfl⟩⟩
theorem FrameP.cond {b : Bool} {m m' : M α} (h : FrameP m) (h' : FrameP m') : FrameP (bif b then m else m') := by cases b <;> assumption

theorem FrameP.put (n : Nat) (o : Option ABlk) (m : M Unit) (hm : ∀ x s r s', m x s = some (r, s') ↔ x.canWrite n = true ∧ n < s.nx ∧ (s.H.get n).isSome = true ∧ s' = { s with H := s.H.set n o }) : FrameP m := by
  intro x s r s1 h
  obtain ⟨h1, h2, h3, rfl⟩ := (hm ..).1 h
  have hr := canWrite_canRead h1
  refine ⟨Nat.le_refl _, fun k hk => ?_, fun s2 hn ha => ?_⟩
  · exact T.get_set_ne _ _ fun e => hk (by subst e; exact ⟨hr, h2, .inl h1⟩)
  · refine ⟨{ s2 with H := s2.H.set n o }, (hm ..).2 ⟨h1, by omega, by rw [ha n hr h2]; exact h3, rfl⟩, hn, fun k hk hl => ?_, fun k hk => ?_⟩
    · show (s2.H.set n o).get k = (s.H.set n o).get k
      rw [T.get_set, T.get_set]; split
      · rfl
      · exact ha k hk hl
    · exact T.get_set_ne _ _ fun e => hk (by subst e; exact ⟨hr, h2⟩)
theorem FrameP.wr (n : Nat) (b : ABlk) : FrameP (wr n b) := .put n (some b) _ fun _ _ _ _ => wr_iff
theorem FrameP.kill (n : Nat) : FrameP (kill n) := .put n none _ fun _ _ _ _ => kill_iff
theorem FrameP.nw (b : ABlk) : FrameP (nw b) := by
  intro x s r s1 h
  obtain ⟨h1, rfl, rfl⟩ := nw_iff.1 h
  refine ⟨Nat.le_succ _, fun k hk => ?_, fun s2 hn ha => ?_⟩
  · refine T.get_set_ne _ _ fun e => hk ?_
    subst e; exact ⟨h1, Nat.lt_succ_self _, .inr (Nat.le_refl _)⟩
  · refine ⟨⟨s2.H.set s2.nx (some b), s2.nx + 1⟩, nw_iff.2 ⟨by rw [hn]; exact h1, hn.symm, rfl⟩, by simp [hn], fun k hk hl => ?_, fun k hk => ?_⟩
    · show (s2.H.set s2.nx (some b)).get k = (s.H.set s.nx (some b)).get k
      rw [T.get_set, T.get_set, hn]; split
      · rfl
      · exact ha k hk hl
    · refine T.get_set_ne _ _ fun e => hk ?_
      rw [e, hn]; exact ⟨h1, Nat.lt_succ_self _⟩

theorem FrameP.bind {m : M α} {f : α → M β} (h : FrameP m) (hf : ∀ a, FrameP (f a)) : FrameP (m >>= f) := by
  intro x s r s' hm
  obtain ⟨a, s1, h1, h2⟩ := M.bind_iff.1 hm
  obtain ⟨hle, hmod, hfr⟩ := h x s a s1 h1
  obtain ⟨hle', hmod', hfr'⟩ := hf a x s1 r s' h2
  refine ⟨Nat.le_trans hle hle', fun n hn => ?_, fun s2 hnx ha => ?_⟩
  · rw [hmod' n fun ⟨c, d, e⟩ => hn ⟨c, d, e.imp id (Nat.le_trans hle)⟩, hmod n fun ⟨c, d, e⟩ => hn ⟨c, Nat.lt_of_lt_of_le d hle', e⟩]
  · obtain ⟨s3, r3, n3, a3, b3⟩ := hfr s2 hnx fun n hn hl => ha n hn (Nat.lt_of_lt_of_le hl hle')
    obtain ⟨s4, r4, n4, a4, b4⟩ := hfr' s3 n3 fun n hn hl => by
      by_cases hk : n < s1.nx
      · exact a3 n hn hk
      · rw [b3 n fun h => hk h.2, ha n hn hl, hmod n fun ⟨_, d, _⟩ => hk d]
    exact ⟨s4, M.bind_iff.2 ⟨a, s3, r3, r4⟩, n4, a4, fun n hn => by
      rw [b4 n hn]
      by_cases hk : x.canRead n = true ∧ n < s1.nx
      · exact absurd ⟨hk.1, Nat.lt_of_lt_of_le hk.2 hle'⟩ hn
      · exact b3 n hk⟩

/-- A context that lets less. -/
theorem FrameP.under {f : Ctx → Nat → Ctx} {m : M α} (h : FrameP m) (hr : ∀ x nx n, x.only = none → (f x nx).canRead n = true → x.canRead n = true) (hw : ∀ x nx n, x.only = none → (f x nx).canWrite n = true → x.canWrite n = true ∨ nx ≤ n) : FrameP (under f m) := by
  intro x s r s1 hm
  obtain ⟨ho, hm⟩ := under_iff.1 hm
  obtain ⟨hle, hmod, hfr⟩ := h _ s r s1 hm
  have hmod' : ∀ n, ¬ ((f x s.nx).canRead n = true ∧ n < s1.nx) → s1.H.get n = s.H.get n := fun n hn => hmod n fun ⟨c, d, _⟩ => hn ⟨c, d⟩
  refine ⟨hle, fun n hn => hmod n fun ⟨c, d, e⟩ => hn ⟨hr _ _ _ ho c, d, ?_⟩, fun s2 hnx ha => ?_⟩
  · rcases e with e | e
    · exact hw _ _ _ ho e
    · exact .inr e
  · obtain ⟨s3, r3, n3, a3, b3⟩ := hfr s2 hnx fun n hn hl => ha n (hr _ _ _ ho hn) hl
    refine ⟨s3, under_iff.2 ⟨ho, by rw [hnx]; exact r3⟩, n3, fun n hn hl => ?_, fun n hn => b3 n fun hh => hn ⟨hr _ _ _ ho hh.1, hh.2⟩⟩
    by_cases hk : (f x s.nx).canRead n = true
    · exact a3 n hk hl
    · rw [b3 n fun h => hk h.1, ha n hn hl, hmod' n fun h => hk h.1]
end

section
variable (P : Program)

theorem frame_rdCells (n : Nat) : FrameP (rdCells n) := by
  unfold rdCells
  refine .bind (.rd n) fun b => ?_
  split
  · exact .pure _
  · exact .fail

theorem frame_loadVar (t : TypeId) (n off : Nat) : FrameP (loadVarA P t n off) := by
  unfold loadVarA
  refine .bind (frame_rdCells n) fun b => ?_
  repeat' (first | exact .pure _ | exact .fail | exact .of _ | split)

theorem frame_storeCells (n off : Nat) (cs : List AV) : FrameP (storeCellsA n off cs) := by
  unfold storeCellsA
  refine .bind (frame_rdCells n) fun b => ?_
  split
  refine .bind (.guard _) fun _ => ?_
  split
  · exact .wr _ _
  · exact .fail

theorem frame_storeVar (t : TypeId) (n off : Nat) (v : AV) : FrameP (storeVarA P t n off v) := by
  unfold storeVarA
  exact .bind (.of _) fun _ => .bind (.guard _) fun _ => frame_storeCells _ _ _

theorem frame_newVar (t : TypeId) (v : AV) : FrameP (newVarA t v) := by
  unfold newVarA
  exact .bind (.guard _) fun _ => .bind (.nw _) fun _ => .pure _

theorem frame_firstCells (size k : Nat) (v : AV) : FrameP (firstCellsA size k v) := by
  unfold firstCellsA
  split
  · refine .cond .fail (.cond (.pure _) (.bind (frame_rdCells _) fun b => ?_))
    split
    exact .of _
  · exact .pure _
  · exact .of _
  · exact .fail

theorem frame_appCells (zeros : Bool) (z : AV) (size n : Nat) (x : AV) : FrameP (appCells zeros z size n x) := .cond (.pure _) (frame_firstCells _ _ _)

theorem frame_appendTo (e : TypeId) (size bytes n : Nat) (new : List AV) (s : AV) : FrameP (appendTo e size bytes n new s) := by
  unfold appendTo
  split
  · exact .cond (.pure _) (.bind (.nw _) fun _ => .pure _)
  · refine .bind (.guard _) fun _ => .cond (.cond (.pure _) (.bind (frame_storeCells _ _ _) fun _ => .pure _)) (.cond ?_ ?_)
    · exact .bind (frame_firstCells _ _ _) fun _ => .bind (.nw _) fun _ => .pure _
    · refine .bind (frame_rdCells _) fun b => ?_
      split
      exact .bind (.of _) fun _ => .bind (.kill _) fun _ => .bind (.nw _) fun _ => .pure _
  · exact .fail

theorem frame_append (ts : Array TypeId) (args : List AV) : FrameP (appendA P ts args) := by
  unfold appendA
  split
  · split
    · split
      · exact .bind (.of _) fun _ => .bind (.guard _) fun _ => .bind (frame_appCells _ _ _ _ _) fun _ => .bind (.guard _) fun _ => frame_appendTo _ _ _ _ _ _
      · exact .fail
    · exact .fail
  · exact .fail

theorem frame_copy (ts : Array TypeId) (args : List AV) : FrameP (copyA P ts args) := by
  unfold copyA
  split
  · split
    · split
      · split
        · exact .pure _
        · exact .bind (.guard _) fun _ => .bind (frame_firstCells _ _ _) fun _ => .cond (.pure _) (.bind (frame_storeCells _ _ _) fun _ => .pure _)
        · exact .fail
      · exact .fail
    · exact .fail
  · exact .fail

theorem frame_clear (ts : Array TypeId) (args : List AV) : FrameP (clearA P ts args) := by
  unfold clearA
  split
  · split
    · split
      · exact .pure _
      · exact .cond (.pure _) (.bind (frame_storeCells _ _ _) fun _ => .pure _)
      · exact .fail
    · exact .fail
  · exact .fail

theorem frame_builtin (b : Builtin) (ts : Array TypeId) (t : TypeId) (args : List AV) : FrameP (builtinA P b ts t args) := by
  unfold builtinA
  split <;> dsimp only
  · exact .bind (frame_append _ _ _) fun _ => .pure _
  · exact .bind (frame_copy _ _ _) fun _ => .pure _
  · exact .bind (frame_clear _ _ _) fun _ => .pure _
  all_goals (repeat' (first | exact .pure _ | exact .fail | split))

theorem frame_exec (ρ : Operand → Option AV) (o : Oper) : FrameP (execA P ρ o) := by
  unfold execA
  split <;> dsimp only
  all_goals (repeat' (first | exact .pure _ | exact .fail | exact .of _ | exact .guard _ | exact frame_newVar _ _ | exact frame_loadVar _ _ _ _ | exact frame_storeVar _ _ _ _ _ | exact frame_builtin _ _ _ _ _ | exact .nw _ | (refine .bind ?_ fun _ => ?_) | (refine .cond ?_ ?_) | split))

theorem frame_opVal {rec : Goal → M GRes} (hr : ∀ g, FrameP (rec g)) (fr : Fr) (o : Oper) : FrameP (opVal P rec fr o) := by
  unfold opVal
  refine .bind (frame_exec _ _ _) fun _ => ?_
  repeat' (first | exact .pure _ | exact .fail | (refine .bind (hr _) fun _ => ?_) | split)

theorem frame_doOp {rec : Goal → M GRes} (hr : ∀ g, FrameP (rec g)) (fr : Fr) (o : Oper) : FrameP (doOp P rec fr o) := by
  unfold doOp
  dsimp only
  refine .bind (frame_exec _ _ _) fun _ => ?_
  repeat' (first | exact .pure _ | exact .fail | (refine .bind (hr _) fun _ => ?_) | (refine .cond ?_ ?_) | split)

theorem inForb_append (a b : List (Nat × Nat)) (n : Nat) : inForb (a ++ b) n = (inForb a n || inForb b n) := by
  induction a with
  | nil => simp [inForb]
  | cons h t ih => simp [inForb, ih, Bool.or_assoc]
theorem memN_append (a b : List Nat) (n : Nat) : memN (a ++ b) n = (memN a n || memN b n) := by
  induction a with
  | nil => simp [memN]
  | cons h t ih => simp [memN, ih, Bool.or_assoc]

theorem footCtx_read {q : Need} {full : Bool} {foot : Foot} {x : Ctx} {nx n : Nat} (ho : x.only = none) (h : (footCtx q full foot x nx).canRead n = true) : x.canRead n = true := by
  unfold Ctx.canRead at *
  rw [ho]
  cases foot <;> simp [footCtx, inForb_append] at h ⊢ <;> first | exact h.1.2 | exact h.2

theorem footCtx_write {q : Need} {full : Bool} {foot : Foot} {x : Ctx} {nx n : Nat} (ho : x.only = none) (h : (footCtx q full foot x nx).canWrite n = true) : x.canWrite n = true ∨ nx ≤ n := by
  have hr := footCtx_read ho (canWrite_canRead h)
  unfold Ctx.canWrite at h ⊢
  simp only [Bool.and_eq_true, hr, and_true] at h ⊢
  obtain ⟨⟨h1, h2⟩, _⟩ := h
  have hl : x.lock ≤ (footCtx q full foot x nx).lock := by
    cases foot <;> simp only [footCtx]
    · exact Nat.le_max_right _ _
    · exact Nat.le_max_right _ _
    · exact Nat.le_refl _
    · cases full
      · exact Nat.le_refl _
      · exact Nat.le_max_right _ _
  have hm : (!memN x.locks n) = true := by
    cases foot <;> simp only [footCtx] at h2
    · exact h2
    · exact h2
    · exact h2
    · rw [memN_append] at h2
      simp at h2 ⊢
      exact h2.2
  refine .inl ⟨?_, hm⟩
  simp only [Nat.ble_eq] at h1 ⊢; omega

theorem frame_drawnOps {rec : Goal → M GRes} (hr : ∀ g, FrameP (rec g)) (ops : Array Oper) (bef : Array Nat) : ∀ (l : List Nat) (ds : List Done) (fr : Fr), FrameP (drawnOps P rec ops bef l ds fr) := by
  intro l
  induction l with
  | nil => intro ds fr; exact .pure _
  | cons i rest ih =>
    intro ds fr
    unfold drawnOps
    split
    · exact .fail
    · refine .cond ?_ ?_
      · refine .bind (.of _) fun _ => .bind (.of _) fun _ => .bind .getNx fun _ => .bind (.under (frame_opVal P hr _ _) (fun _ _ _ ho h => footCtx_read ho h) (fun _ _ _ ho h => footCtx_write ho h)) fun _ => .bind .getNx fun _ => ?_
        split
        · exact ih _ _
        · exact .fail
      · split
        · exact ih _ _
        · exact .fail

theorem frame_drawn {rec : Goal → M GRes} (hr : ∀ g, FrameP (rec g)) (ops : Array Oper) (fr : Fr) : FrameP (drawn P rec ops fr) := by
  unfold drawn
  split
  · exact frame_drawnOps P hr _ _ _ _ _
  · exact .fail

theorem frame_results (fr : Fr) : ∀ l, FrameP (resultsA P fr l) := by
  intro l
  induction l with
  | nil => exact .pure _
  | cons r l ih =>
    cases r with
    | tmp t => exact .bind (.of _) fun _ => .bind ih fun _ => .pure _
    | cell a t =>
      unfold resultsA
      split
      · exact .bind (frame_loadVar _ _ _ _) fun _ => .bind ih fun _ => .pure _
      · exact .fail

theorem frame_result (fr : Fr) (fn : Func) : FrameP (resultA P fr fn) := by
  unfold resultA
  refine .bind (frame_results _ _ _) fun _ => ?_
  split <;> exact .pure _

theorem frame_leave {rec : Goal → M GRes} (hr : ∀ g, FrameP (rec g)) : ∀ ds u, FrameP (leaveA P rec ds u) := by
  intro ds
  induction ds with
  | nil => intro u; exact .pure _
  | cons d ds ih =>
    intro u
    cases d with
    | collected r =>
      unfold leaveA
      refine .bind (.rd _) fun _ => ?_
      split
      · exact .bind (.wr _ _) fun _ => ih _
      · exact .fail
    | call fn captured args =>
      cases fn with
      | func g =>
        unfold leaveA
        split
        · refine .cond .fail (.bind (hr _) fun _ => ?_)
          split
          · split
            · exact .bind (frame_result _ _ _) fun _ => ih _
            · exact .fail
          · exact .fail
        · exact .fail
      | _ => exact .fail

theorem frame_range {rec : Goal → M GRes} (hr : ∀ g, FrameP (rec g)) (fr : Fr) (g : FuncId) (c : List AV) (ps : Array Tmp) (a b : Code) (k : List AItem) : FrameP (rangeA P rec fr g c ps a b k) := by
  unfold rangeA
  repeat' (first | exact .pure _ | exact .fail | exact .of _ | exact .guard _ | exact .rd _ | exact .wr _ _ | exact .nw _ | (refine .bind (hr _) fun _ => ?_) | (refine .bind ?_ fun _ => ?_) | (refine .cond ?_ ?_) | split)

theorem frame_step {rec : Goal → M GRes} (hr : ∀ g, FrameP (rec g)) (fr : Fr) : FrameP (stepA P rec fr) := by
  unfold stepA
  dsimp only
  split
  all_goals (repeat' (first | exact .pure _ | exact .fail | exact .of _ | exact .guard _ | exact .rd _ | exact .wr _ _ | exact .nw _ | exact frame_doOp _ hr _ _ | exact frame_drawn _ hr _ _ | exact frame_range _ hr _ _ _ _ _ _ _ | (refine .bind (hr _) fun _ => ?_) | (refine .bind ?_ fun _ => ?_) | (refine .cond ?_ ?_) | split))

theorem frame_goal {rec : Goal → M GRes} (hr : ∀ g, FrameP (rec g)) (g : Goal) : FrameP (goalA P rec g) := by
  unfold goalA
  split
  · refine .bind (frame_step _ hr _) fun _ => ?_
    split
    · exact hr _
    · exact .pure _
  · split
    · refine .bind (hr _) fun _ => ?_
      split
      · refine .bind (frame_leave _ hr _ _) fun _ => ?_
        split
        · exact .bind (frame_result _ _ _) fun _ => .pure _
        · exact .pure _
      · refine .bind (frame_leave _ hr _ _) fun _ => ?_
        split
        · exact .bind (frame_result _ _ _) fun _ => .pure _
        · exact .pure _
      · exact .fail
    · exact .fail
  · refine .bind (.rd _) fun _ => ?_
    repeat' (first | exact .pure _ | exact .fail | exact .of _ | exact .rd _ | exact .wr _ _ | exact .guard _ | (refine .bind (hr _) fun _ => ?_) | (refine .bind ?_ fun _ => ?_) | split)

theorem frame_go : ∀ (n : Nat) (g : Goal), FrameP (go P n g) := by
  intro n
  induction n with
  | zero => intro g; exact .fail
  | succ n ih => intro g; exact frame_goal P ih g
end
end AM
