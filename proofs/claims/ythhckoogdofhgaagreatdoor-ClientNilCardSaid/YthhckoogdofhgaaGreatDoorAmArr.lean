/-
  A lemma text: the abstract machine of the AmDef text reads as the model runs (part AmArr). Conditions: none; no premise beyond what each theorem states.
-/
import Derived.Test.YthhckoogdofhgaaGreatDoorAmMem
import Derived.Laws.Tables
namespace AM
open Go

theorem repL_length {α : Type} (l : List α) : ∀ n, (repL n l).length = n * l.length
  | 0 => by simp [repL]
  | n + 1 => by simp only [repL, List.length_append, repL_length l n, Nat.add_mul]; omega

theorem map_mod {α : Type} [Inhabited α] (z : List α) (m : Nat) (hm : z.length = m) : ∀ n, (List.range (n * m)).map (fun i => z[i % m]!) = repL n z
  | 0 => by simp [repL]
  | n + 1 => by
    have e : (n + 1) * m = m + n * m := by rw [Nat.add_mul]; omega
    rw [e, List.range_add, List.map_append, List.map_map, repL]
    congr 1
    · apply List.ext_getElem?
      intro j
      simp only [List.getElem?_map]
      by_cases hj : j < m
      · simp [hj, Nat.mod_eq_of_lt hj, List.getElem!_eq_getElem?_getD, hm]
      · simp [hj, List.getElem?_eq_none (by omega : z.length ≤ j)]
    · rw [← map_mod z m hm n]
      apply List.map_congr_left
      intro j _
      simp

theorem zeroCells_toList (z : Array Value) (n : Nat) : (Builtin.zeroCells z n).toList = repL n z.toList := by
  rw [← map_mod z.toList z.size (by simp) n]
  simp only [Builtin.zeroCells, Array.toList_map, Array.toList_range]
  apply List.map_congr_left
  intro j _
  simp [Array.getElem!_eq_getD, List.getElem!_eq_getElem?_getD]

theorem range_zero_toList (z : Array Value) (n : Nat) : ((Array.range (n * z.size)).map (z[· % z.size]!)).toList = repL n z.toList := zeroCells_toList z n

section
variable {φ : Phi}
theorem VRL.rep {a : List AV} {v : List Value} (h : VRL φ a v) : ∀ n, VRL φ (repL n a) (repL n v)
  | 0 => .nil
  | n + 1 => h.append (h.rep n)
end

theorem foldl_set {α : Type} (off : Nat) : ∀ (vs : List α) (i : Nat) (cells : Array α), off + i + vs.length ≤ cells.size →
    ((vs.zipIdx i).foldl (fun cs (x : α × Nat) => cs.setIfInBounds (off + x.2) x.1) cells).toList = cells.toList.take (off + i) ++ (vs ++ cells.toList.drop (off + i + vs.length))
  | [], i, cells, _ => by simp
  | v :: vs, i, cells, h => by
    simp only [List.zipIdx_cons, List.foldl_cons]
    simp only [List.length_cons] at h
    rw [foldl_set off vs (i + 1) _ (by simp; omega)]
    have hsz : cells.toList.length = cells.size := by simp
    apply List.ext_getElem?
    intro j
    simp only [Array.toList_setIfInBounds, List.getElem?_append, List.length_take, List.getElem?_take, List.getElem?_drop, List.length_set, List.getElem?_set, List.length_cons, List.getElem?_cons, hsz]
    have e1 : min (off + (i + 1)) cells.size = off + i + 1 := by omega
    have e2 : min (off + i) cells.size = off + i := by omega
    rw [e1, e2]
    by_cases a1 : j < off + i
    · simp only [show j < off + i + 1 from by omega, show j < off + (i + 1) from by omega, a1, if_true, show ¬ off + i = j from by omega, if_false]
    · by_cases a2 : j = off + i
      · subst a2
        simp only [show off + i < off + i + 1 from by omega, show off + i < off + (i + 1) from by omega, if_true, a1, if_false, Nat.sub_self, show off + i < cells.size from by omega, show (0 : Nat) < vs.length + 1 from by omega]
      · simp only [show ¬ j < off + i + 1 from by omega, a1, if_false, show ¬ j - (off + i) = 0 from by omega]
        have e3 : j - (off + i + 1) = j - (off + i) - 1 := by omega
        rw [e3]
        by_cases a3 : j - (off + i) - 1 < vs.length
        · simp only [a3, if_true, show j - (off + i) < vs.length + 1 from by omega]
        · simp only [a3, if_false, show ¬ j - (off + i) < vs.length + 1 from by omega, show ¬ off + i = off + (i + 1) + vs.length + (j - (off + i) - 1 - vs.length) from by omega]
          congr 1; omega

theorem fillA_length {place : Nat → Option (Nat × Nat)} : ∀ {ps : List (Nat × AV)} {cells cs : List AV}, fillA place cells ps = some cs → cs.length = cells.length
  | [], cells, cs, h => by simp only [fillA, Option.some.injEq] at h; rw [h]
  | (i, a) :: ps, cells, cs, h => by
    unfold fillA at h
    cases hpl : place i with
    | none => simp only [hpl] at h; cases h
    | some q =>
      obtain ⟨off, size⟩ := q
      simp only [hpl] at h
      cases hb : Nat.beq a.cells.length size with
      | false => rw [hb] at h; cases h
      | true =>
        simp only [hb, cond_true] at h
        cases hput : putL cells off a.cells with
        | none => simp only [hput] at h; cases h
        | some cells' =>
          simp only [hput] at h
          obtain ⟨hle, rfl⟩ := putL_some hput
          rw [fillA_length h]
          simp only [List.length_append, List.length_take, List.length_drop]
          omega

/-- Parts that read alike. -/
def PartsR (φ : Phi) (ps : List (Nat × AV)) (us : List (Nat × Value)) : Prop := ps.length = us.length ∧ ∀ (i : Nat) (p : Nat × AV) (u : Nat × Value), ps[i]? = some p → us[i]? = some u → p.1 = u.1 ∧ VR φ p.2 u.2

theorem PartsR.cons {φ : Phi} {p : Nat × AV} {u : Nat × Value} {ps : List (Nat × AV)} {us : List (Nat × Value)} (h : PartsR φ (p :: ps) (u :: us)) : p.1 = u.1 ∧ VR φ p.2 u.2 ∧ PartsR φ ps us :=
  ⟨(h.2 0 p u rfl rfl).1, (h.2 0 p u rfl rfl).2, by simpa using h.1, fun i q v hq hv => h.2 (i + 1) q v (by simpa using hq) (by simpa using hv)⟩

theorem fill_sound {φ : Phi} (place : Nat → Option (Nat × Nat)) : ∀ (ps : List (Nat × AV)) (us : List (Nat × Value)) (cells cs : List AV) (cv : Array Value), PartsR φ ps us → VRL φ cells cv.toList → fillA place cells ps = some cs →
    ∃ cv', Instr.fill place cv us = some cv' ∧ VRL φ cs cv'.toList
  | [], us, cells, cs, cv, hp, hv, h => by
    have : us = [] := List.length_eq_zero_iff.1 hp.1.symm
    subst this
    simp only [fillA, Option.some.injEq] at h
    subst h
    exact ⟨cv, rfl, hv⟩
  | (i, a) :: ps, us, cells, cs, cv, hp, hv, h => by
    cases us with
    | nil => exact absurd hp.1 (by simp)
    | cons u us =>
      obtain ⟨j, v⟩ := u
      obtain ⟨e, hr, hp'⟩ := hp.cons
      simp only at e hr
      subst e
      unfold fillA at h
      cases hpl : place i with
      | none => simp only [hpl] at h; cases h
      | some q =>
        obtain ⟨off, size⟩ := q
        simp only [hpl] at h
        cases hb : Nat.beq a.cells.length size with
        | false => rw [hb] at h; cases h
        | true =>
          simp only [hb, cond_true] at h
          cases hput : putL cells off a.cells with
          | none => simp only [hput] at h; cases h
          | some cells' =>
            simp only [hput] at h
            obtain ⟨hle, rfl⟩ := putL_some hput
            have hc := hr.cells
            have hl := hc.length
            have hl2 := hv.length
            have hbe := Nat.eq_of_beq_eq_true hb
            have hs : v.cells.size = size := by simpa [hbe] using hl
            have hsz : cv.size = cells.length := by simpa using hl2
            have hvc : v.cells.size = a.cells.length := by simpa using hl
            have hfold := foldl_set off v.cells.toList 0 cv (by simp; omega)
            simp only [Nat.add_zero] at hfold
            have := fill_sound place ps us _ cs (v.cells.toList.zipIdx.foldl (fun cs (x : Value × Nat) => cs.setIfInBounds (off + x.2) x.1) cv) hp' (by
              rw [hfold]
              have hd := hv.drop (off + a.cells.length)
              rw [← hl] at hd
              exact (hv.take off).append (hc.append (by rw [← hl]; exact hd))) h
            obtain ⟨cv', h1, h2⟩ := this
            refine ⟨cv', ?_, h2⟩
            unfold Instr.fill
            simp only [hpl]
            rw [if_neg (by simp [hs]; omega)]
            rw [← h1]
            congr 1
            rw [← Array.foldl_toList, Array.toList_zipIdx]
end AM
