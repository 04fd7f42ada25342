/-
  A lemma text: the abstract machine of the AmDef text reads as the model runs (part AmOrd). Conditions: none; no premise beyond what each theorem states.
-/
import Derived.Orders
namespace AM
open Go

/-! The orders of a drawn region. -/

/-- k must be listed ahead of i, in every order. -/
inductive Reach (ops : Array Oper) : Nat → Nat → Prop
  | edge {i : Nat} {o : Oper} {e : Edge} : ops[i]? = some o → e ∈ o.after → Region.binds .any e = true → Reach ops i e.on
  | step {i k : Nat} {o : Oper} {e : Edge} : ops[i]? = some o → e ∈ o.after → Region.binds .any e = true → Reach ops e.on k → Reach ops i k

/-- An order that keeps to the edges of a mode. -/
def Keeps (md : Region.Mode) (ops : Array Oper) (l : List Nat) : Prop :=
  ∀ A i B, l = A ++ i :: B → ∀ o, ops[i]? = some o → ∀ e ∈ o.after, Region.binds md e = true → e.on ∈ A

theorem binds_any {md : Region.Mode} {e : Edge} (h : Region.binds .any e = true) : Region.binds md e = true := by
  unfold Region.binds at *
  cases he : e.ground with
  | textOnly _ => rw [he] at h; cases h
  | gcOnly _ => rw [he] at h; cases h
  | _ => rfl

theorem Keeps.reach {md : Region.Mode} {ops : Array Oper} {l : List Nat} (hk : Keeps md ops l) {i k : Nat} (hr : Reach ops i k) : ∀ A B, l = A ++ i :: B → k ∈ A := by
  induction hr with
  | edge ho he hb => intro A B hl; exact hk A _ B hl _ ho _ he (binds_any hb)
  | step ho he hb _ ih =>
    intro A B hl
    have hm := hk A _ B hl _ ho _ he (binds_any hb)
    obtain ⟨A1, A2, rfl⟩ := List.append_of_mem hm
    have := ih A1 (A2 ++ _ :: B) (by rw [hl]; simp; rfl)
    exact List.mem_append_left _ this

/-- The bits of 'before' are justified. -/
theorem before_reach (ops : Array Oper) {i k : Nat} (h : ((Region.before ops).getD i 0).testBit k = true) : Reach ops i k := by
  have key : ∀ (l : List Oper) (acc : Array Nat) (pre : List Oper), ops.toList = pre ++ l → acc.size = pre.length → (∀ i k, (acc.getD i 0).testBit k = true → Reach ops i k) →
      ∀ i k, ((l.foldl (fun acc o => acc.push (o.after.foldl (fun s e => if Region.binds .any e then s ||| 2 ^ e.on ||| acc.getD e.on 0 else s) 0)) acc).getD i 0).testBit k = true → Reach ops i k := by
    intro l
    induction l with
    | nil => intro acc pre _ _ h i k; exact h i k
    | cons o l ih =>
      intro acc pre hp hs hacc
      refine ih _ (pre ++ [o]) (by simp [hp]) (by simp [hs]) ?_
      intro i k hik
      have hoi : ops[pre.length]? = some o := by rw [← Array.getElem?_toList, hp]; simp
      by_cases hi : i = acc.size
      · subst hi
        have hg : (acc.push (o.after.foldl (fun s e => if Region.binds .any e then s ||| 2 ^ e.on ||| acc.getD e.on 0 else s) 0)).getD acc.size 0 = o.after.foldl (fun s e => if Region.binds .any e then s ||| 2 ^ e.on ||| acc.getD e.on 0 else s) 0 := by
          simp [Array.getD]
        rw [hg] at hik
        rw [← Array.foldl_toList] at hik
        have inner : ∀ (es : List Edge) (s : Nat), (∀ e ∈ es, e ∈ o.after) → (s.testBit k = true → Reach ops acc.size k) → (es.foldl (fun s e => if Region.binds .any e then s ||| 2 ^ e.on ||| acc.getD e.on 0 else s) s).testBit k = true → Reach ops acc.size k := by
          intro es
          induction es with
          | nil => intro s _ hs h; exact hs h
          | cons e es ihe =>
            intro s hmem hsr
            refine ihe _ (fun e' he' => hmem e' (List.mem_cons_of_mem _ he')) ?_
            intro hb
            dsimp only at hb
            by_cases hbd : Region.binds .any e = true
            · rw [if_pos hbd, Nat.testBit_or, Nat.testBit_or] at hb
              simp only [Bool.or_eq_true] at hb
              have hoi' : ops[acc.size]? = some o := by rw [hs]; exact hoi
              rcases hb with (hb | hb) | hb
              · exact hsr hb
              · rw [Nat.testBit_two_pow] at hb
                have : e.on = k := by simpa using hb
                subst this
                exact .edge hoi' (hmem e (by simp)) hbd
              · exact .step hoi' (hmem e (by simp)) hbd (hacc _ _ hb)
            · rw [if_neg hbd] at hb; exact hsr hb
        exact inner o.after.toList 0 (fun e he => by simpa using he) (by simp) hik
      · have hg : (acc.push (o.after.foldl (fun s e => if Region.binds .any e then s ||| 2 ^ e.on ||| acc.getD e.on 0 else s) 0)).getD i 0 = acc.getD i 0 := by
          simp only [Array.getD_eq_getD_getElem?, Array.getElem?_push, if_neg hi]
        rw [hg] at hik
        exact hacc i k hik
  unfold Region.before at h
  rw [← Array.foldl_toList] at h
  exact key ops.toList #[] [] (by simp) rfl (by simp) i k h

/-- The numbers not yet listed. -/
def unlisted (n : Nat) (listed : Array Bool) : List Nat := (List.range n).filter fun i => !listed.getD i true

theorem filter_lt {α : Type} {p q : α → Bool} : ∀ {l : List α} {a : α}, (∀ x ∈ l, q x = true → p x = true) → a ∈ l → p a = true → q a = false → (l.filter q).length < (l.filter p).length
  | x :: l, a, h, ha, hp, hq => by
    have hle : ∀ (l : List α), (∀ x ∈ l, q x = true → p x = true) → (l.filter q).length ≤ (l.filter p).length := by
      intro l
      induction l with
      | nil => intro _; simp
      | cons y l ih =>
        intro h
        have := ih fun x hx => h x (List.mem_cons_of_mem _ hx)
        simp only [List.filter_cons]
        cases hqy : q y with
        | true => rw [h y (by simp) hqy]; simpa using this
        | false => cases p y <;> simp <;> omega
    rcases List.mem_cons.1 ha with rfl | ha
    · simp only [List.filter_cons, hp, hq, if_true]
      have := hle l fun x hx => h x (List.mem_cons_of_mem _ hx)
      simp; omega
    · have := filter_lt (l := l) (fun x hx => h x (List.mem_cons_of_mem _ hx)) ha hp hq
      simp only [List.filter_cons]
      cases hqx : q x with
      | true => rw [h x (by simp) hqx]; simpa using this
      | false => cases p x <;> simp <;> omega

/-- What makes every order complete: the edges go down. -/
def Ranked (md : Region.Mode) (ops : Array Oper) : Prop := ∃ rank : Nat → Nat, ∀ i o, ops[i]? = some o → ∀ e ∈ o.after, Region.binds md e = true → rank e.on < rank i ∧ e.on < ops.size

theorem ready_some {md : Region.Mode} {ops : Array Oper} (hR : Ranked md ops) {listed : Array Bool} (hs : listed.size = ops.size) {i : Nat} (hi : i < ops.size) (hl : listed.getD i true = false) : ∃ j, j ∈ Region.ready md ops listed := by
  obtain ⟨rank, hR⟩ := hR
  have key : ∀ n i, rank i ≤ n → i < ops.size → listed.getD i true = false → ∃ j, j ∈ Region.ready md ops listed := by
    intro n
    induction n with
    | zero =>
      intro i hn hi hl
      refine ⟨i, mem_ready.2 ⟨hl, ops[i], by simp [hi], fun e he hb => ?_⟩⟩
      have := hR i ops[i] (by simp [hi]) e he hb
      omega
    | succ n ih =>
      intro i hn hi hl
      by_cases hall : ∀ e ∈ ops[i].after, Region.binds md e = true → listed.getD e.on false = true
      · exact ⟨i, mem_ready.2 ⟨hl, ops[i], by simp [hi], hall⟩⟩
      · simp only [Classical.not_forall] at hall
        obtain ⟨e, he, hb, hnl⟩ := hall
        obtain ⟨h1, h2⟩ := hR i ops[i] (by simp [hi]) e he hb
        refine ih e.on (by omega) h2 ?_
        have hlt : e.on < listed.size := by omega
        simp only [Array.getD, hlt, dif_pos] at hnl ⊢
        simpa using hnl
  exact key _ i (Nat.le_refl _) hi hl

theorem go_spec {md : Region.Mode} {ops : Array Oper} (hR : Ranked md ops) : ∀ (fuel t : Nat) (listed : Array Bool) (acc : List Nat), listed.size = ops.size → (unlisted ops.size listed).length ≤ fuel →
    acc.Nodup → (∀ i, i ∈ acc ↔ i < ops.size ∧ listed.getD i true = true) → Keeps md ops acc.reverse →
    (Region.linearise.go md ops fuel t listed acc).Nodup ∧ (∀ i, i ∈ Region.linearise.go md ops fuel t listed acc ↔ i < ops.size) ∧ Keeps md ops (Region.linearise.go md ops fuel t listed acc) := by
  intro fuel
  induction fuel with
  | zero =>
    intro t listed acc hs hf hn hm hk
    simp only [Region.linearise.go]
    have h0 : unlisted ops.size listed = [] := List.eq_nil_of_length_eq_zero (Nat.le_zero.1 hf)
    refine ⟨List.pairwise_reverse.2 (hn.imp Ne.symm), fun i => ?_, hk⟩
    rw [List.mem_reverse, hm]
    refine ⟨fun h => h.1, fun h => ⟨h, ?_⟩⟩
    cases hb : listed.getD i true with
    | true => rfl
    | false =>
      have : i ∈ unlisted ops.size listed := List.mem_filter.2 ⟨List.mem_range.2 h, by rw [hb]; rfl⟩
      rw [h0] at this; cases this
  | succ fuel ih =>
    intro t listed acc hs hf hn hm hk
    simp only [Region.linearise.go]
    change (match (Region.ready md ops listed)[t % (Region.ready md ops listed).length]? with
      | some i => Region.linearise.go md ops fuel (t / (Region.ready md ops listed).length) (listed.setIfInBounds i true) (i :: acc)
      | none => acc.reverse).Nodup ∧ (∀ i, i ∈ (match (Region.ready md ops listed)[t % (Region.ready md ops listed).length]? with
      | some i => Region.linearise.go md ops fuel (t / (Region.ready md ops listed).length) (listed.setIfInBounds i true) (i :: acc)
      | none => acc.reverse) ↔ i < ops.size) ∧ Keeps md ops (match (Region.ready md ops listed)[t % (Region.ready md ops listed).length]? with
      | some i => Region.linearise.go md ops fuel (t / (Region.ready md ops listed).length) (listed.setIfInBounds i true) (i :: acc)
      | none => acc.reverse)
    cases hi : (Region.ready md ops listed)[t % (Region.ready md ops listed).length]? with
    | none =>
      have hnil : Region.ready md ops listed = [] := by
        cases hr : Region.ready md ops listed with
        | nil => rfl
        | cons x xs =>
          rw [hr] at hi
          have hlt : t % (x :: xs).length < (x :: xs).length := Nat.mod_lt _ (by simp)
          rw [List.getElem?_eq_some_iff.2 ⟨hlt, rfl⟩] at hi
          cases hi
      simp only
      refine ⟨List.pairwise_reverse.2 (hn.imp Ne.symm), fun i => ?_, hk⟩
      rw [List.mem_reverse, hm]
      refine ⟨fun h => h.1, fun h => ⟨h, ?_⟩⟩
      cases hb : listed.getD i true with
      | true => rfl
      | false =>
        obtain ⟨j, hj⟩ := ready_some hR hs h hb
        rw [hnil] at hj; cases hj
    | some i =>
      simp only
      have hmem := List.mem_of_getElem? hi
      obtain ⟨hl, o, ho, hall⟩ := mem_ready.1 hmem
      have hlt : i < ops.size := (Array.getElem?_eq_some_iff.1 ho).1
      have hni : i ∉ acc := fun h => by have := ((hm i).1 h).2; rw [hl] at this; cases this
      have getset : ∀ j, (listed.setIfInBounds i true).getD j true = if j = i then true else listed.getD j true := by
        intro j
        by_cases e : j = i
        · subst e; rw [if_pos rfl]; simp [Array.getD, hs, hlt]
        · rw [if_neg e]; exact getD_set_ne true (fun q => e q.symm)
      refine ih _ _ (i :: acc) (by simpa using hs) ?_ (List.nodup_cons.2 ⟨hni, hn⟩) (fun j => ?_) ?_
      · have : (unlisted ops.size (listed.setIfInBounds i true)).length < (unlisted ops.size listed).length := by
          unfold unlisted
          refine filter_lt (a := i) (fun x _ hx => ?_) (List.mem_range.2 hlt) (by rw [hl]; rfl) (by rw [getset, if_pos rfl]; rfl)
          rw [getset] at hx
          by_cases e : x = i
          · rw [if_pos e] at hx; cases hx
          · rw [if_neg e] at hx; exact hx
        omega
      · rw [List.mem_cons, getset, hm]
        by_cases e : j = i
        · subst e; simp [hlt]
        · simp [e]
      · intro A x B hAB o' ho' e he hb
        rw [List.reverse_cons] at hAB
        rcases List.append_eq_append_iff.1 hAB with ⟨l, h1, h2⟩ | ⟨l, h1, h2⟩
        · cases l with
          | nil =>
            simp only [List.nil_append, List.cons.injEq, List.append_nil] at h1 h2
            obtain ⟨rfl, rfl⟩ := h2
            rw [h1]
            have := hall e (by rw [ho] at ho'; cases ho'; exact he) hb
            rw [List.mem_reverse, hm]
            have hlt' : e.on < listed.size := by
              rcases Nat.lt_or_ge e.on listed.size with h' | h'
              · exact h'
              · simp [Array.getD, Nat.not_lt.2 h'] at this
            refine ⟨by omega, ?_⟩
            simp only [Array.getD, hlt', dif_pos] at this ⊢
            exact this
          | cons y l =>
            simp only [List.cons_append, List.cons.injEq] at h2
            obtain ⟨_, h2⟩ := h2
            simp at h2
        · cases l with
          | nil =>
            simp only [List.nil_append, List.cons.injEq, List.append_nil] at h1 h2
            obtain ⟨rfl, _⟩ := h2
            rw [← h1]
            have := hall e (by rw [ho] at ho'; cases ho'; exact he) hb
            rw [List.mem_reverse, hm]
            have hlt' : e.on < listed.size := by
              rcases Nat.lt_or_ge e.on listed.size with h' | h'
              · exact h'
              · simp [Array.getD, Nat.not_lt.2 h'] at this
            refine ⟨by omega, ?_⟩
            simp only [Array.getD, hlt', dif_pos] at this ⊢
            exact this
          | cons y l =>
            simp only [List.cons_append, List.cons.injEq] at h2
            obtain ⟨rfl, rfl⟩ := h2
            exact hk A x l h1 o' ho' e he hb

theorem linearise_spec {md : Region.Mode} {ops : Array Oper} (hR : Ranked md ops) (t : Nat) :
    (Region.linearise md ops t).Nodup ∧ (∀ i, i ∈ Region.linearise md ops t ↔ i < ops.size) ∧ Keeps md ops (Region.linearise md ops t) := by
  unfold Region.linearise
  refine go_spec hR _ _ _ _ (by simp) ?_ (by simp) (fun i => ?_) ?_
  · have : (unlisted ops.size (Array.replicate ops.size false)).length ≤ (List.range ops.size).length := List.length_filter_le _ _
    simpa using this
  · by_cases h : i < ops.size
    · simp [Array.getD, h]
    · simp [h]
  · intro A i B h
    have : A ++ i :: B = [] := by simpa using h.symm
    simp at this
end AM
