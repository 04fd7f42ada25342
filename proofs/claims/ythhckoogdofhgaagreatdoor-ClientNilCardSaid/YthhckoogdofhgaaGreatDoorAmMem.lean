/-
  A lemma text: the abstract machine of the AmDef text reads as the model runs (part AmMem). Conditions: none; no premise beyond what each theorem states.
-/
import Derived.Test.YthhckoogdofhgaaGreatDoorAmRel
namespace AM
open Go

section
variable {P : Program}

theorem szT_info {t s : Nat} (h : szT P t = some s) : ∃ i, P.info? t = some i ∧ i.size = s := by
  unfold szT at h
  cases hi : P.info? t with
  | none => rw [hi] at h; cases h
  | some i => rw [hi] at h; exact ⟨i, rfl, by simpa using h⟩
theorem run_sizeOf' {t s : Nat} (h : szT P t = some s) (w : World) : (Go.sizeOf t).run P w = .ok s w := by
  obtain ⟨i, hi, rfl⟩ := szT_info h
  simp [Go.sizeOf, typeInfo, hi]
theorem run_bytes' {t s : Nat} (h : bytesT P t = some s) : ∃ i, P.info? t = some i ∧ i.bytes = s := by
  unfold bytesT at h
  cases hi : P.info? t with
  | none => rw [hi] at h; cases h
  | some i => rw [hi] at h; exact ⟨i, rfl, by simpa using h⟩
theorem zeroT_info {φ : Phi} {t : Nat} {z : AV} (h : zeroT P t = some z) : ∃ i v, P.info? t = some i ∧ i.zero = some v ∧ VR φ z v := by
  unfold zeroT at h
  split at h
  · rename_i i hi
    split at h
    · rename_i v hv
      exact ⟨i, v, hi, hv, cv_VR h⟩
    · cases h
  · cases h
theorem run_zero' {t : Nat} {i : TypeInfo} {v : Value} (h : P.info? t = some i) (hv : i.zero = some v) (w : World) : (zeroValue t).run P w = .ok v w := by
  simp [zeroValue, typeInfo, h, hv]
theorem run_isAgg' {t : Nat} {b : Bool} (h : isAggT P t = some b) (w : World) : (isAgg t).run P w = .ok b w := by
  unfold isAggT at h
  unfold isAgg
  split at h <;> first | (cases h; done) | skip
  all_goals (rename_i d hd; simp only [Sem.run_bind, run_underlying hd, Result.andThen_ok]; cases h)
  · rfl
  · rfl
  · rfl

/-! Cells of a block. -/
theorem cell_at {w : World} {b : Nat} {c : Array Value} {el : TypeId} {fz : Nat × Nat} (h : w.heap[b]? = some (.cells c el fz)) (i : Nat) : w.cell? ⟨b, i, none⟩ = c[i]? := by
  simp [World.cell?, h]
theorem addr_add (b o j : Nat) : (⟨b, o, none⟩ : Addr).add j = ⟨b, o + j, none⟩ := by
  unfold Addr.add; split
  · rename_i e; subst e; rfl
  · rfl
theorem load_list {w : World} {b : Nat} {c : Array Value} {el : TypeId} {fz : Nat × Nat} (h : w.heap[b]? = some (.cells c el fz)) {o n : Nat} (hn : o + n ≤ c.size) :
    (loadCells ⟨b, o, none⟩ n).run P w = .ok ((c.toList.drop o).take n).toArray w := by
  have hl : ((c.toList.drop o).take n).length = n := by simp; omega
  have := run_loadCells_list (P := P) w ⟨b, o, none⟩ ((c.toList.drop o).take n) (fun j v hj => by
    rw [addr_add, cell_at h]
    rw [List.getElem?_take] at hj
    split at hj
    · rw [List.getElem?_drop] at hj; simpa using hj
    · cases hj)
  rw [hl] at this
  exact this

theorem sliceL_some {vs cs : List AV} {off n : Nat} (h : sliceL vs off n = some cs) : off + n ≤ vs.length ∧ cs = (vs.drop off).take n := by
  unfold sliceL at h
  cases hb : Nat.ble (off + n) vs.length with
  | false => rw [hb] at h; cases h
  | true => rw [hb] at h; simp only [cond_true, Option.some.injEq] at h; exact ⟨by simpa using hb, h.symm⟩
theorem putL_some {vs cs r : List AV} {off : Nat} (h : putL vs off cs = some r) : off + cs.length ≤ vs.length ∧ r = vs.take off ++ (cs ++ vs.drop (off + cs.length)) := by
  unfold putL at h
  cases hb : Nat.ble (off + cs.length) vs.length with
  | false => rw [hb] at h; cases h
  | true => rw [hb] at h; simp only [cond_true, Option.some.injEq] at h; exact ⟨by simpa using hb, h.symm⟩

section
variable {φ : Phi} {w w0 : World} {L0 : Nat} {H : T ABlk}

theorem rdCells_iff {n : Nat} {x : Ctx} {s s' : St} {vs : List AV} {e : TypeId} : rdCells n x s = some ((vs, e), s') ↔ x.canRead n = true ∧ n < s.nx ∧ s.H.get n = some (.cells vs e) ∧ s' = s := by
  unfold rdCells
  rw [M.bind_iff]
  constructor
  · rintro ⟨b, s1, h1, h2⟩
    obtain ⟨c1, c2, c3, rfl⟩ := rd_iff.1 h1
    split at h2
    · obtain ⟨e', rfl⟩ := M.pure_iff.1 h2; cases e'; exact ⟨c1, c2, c3, rfl⟩
    · exact (M.fail_iff.1 h2).elim
  · rintro ⟨c1, c2, c3, rfl⟩
    exact ⟨_, s', rd_iff.2 ⟨c1, c2, c3, rfl⟩, M.pure_iff.2 ⟨rfl, rfl⟩⟩

/-- What a block's cells are. -/
theorem Inv.cells (h : Inv w0 L0 φ H w) {n : Nat} {vs : List AV} {e : TypeId} (hn : H.get n = some (.cells vs e)) :
    ∃ l c el fz, φ n = some l ∧ w.heap[l.b]? = some (.cells c el fz) ∧ (L0 ≤ n → fz = (0, 0)) ∧ c.size = l.size ∧ l.o + vs.length ≤ l.size ∧ VRL φ vs ((c.toList.drop l.o).take vs.length) := by
  obtain ⟨l, hl, c, el, fz, h1, h2, h3, h4, h5⟩ := h.blk n _ hn
  exact ⟨l, c, el, fz, hl, h1, h2, h3, h4, h5⟩

theorem drop_take_sub {α : Type} (l : List α) (o off n k : Nat) (h : off + n ≤ k) : ((((l.drop o).take k).drop off).take n) = (l.drop (o + off)).take n := by
  rw [List.drop_take, List.take_take, List.drop_drop]
  congr 1
  omega

/-- A part of a block's cells. -/
theorem Inv.part (h : Inv w0 L0 φ H w) {n : Nat} {vs : List AV} {e : TypeId} (hn : H.get n = some (.cells vs e)) {off k : Nat} {cs : List AV} (hs : sliceL vs off k = some cs) {l : Loc} (hl : φ n = some l) :
    ∃ us, (∀ w' : World, w'.heap = w.heap → (loadCells ⟨l.b, l.o + off, none⟩ k).run P w' = .ok us w') ∧ VRL φ cs us.toList := by
  obtain ⟨l', c, el, fz, hl', h1, _, h2, h3, h4⟩ := h.cells hn
  obtain rfl : l' = l := Option.some.inj (hl'.symm.trans hl)
  obtain ⟨h5, rfl⟩ := sliceL_some hs
  refine ⟨_, fun w' hw' => load_list (by rw [hw']; exact h1) (by omega), ?_⟩
  have := (h4.drop off).take k
  rw [drop_take_sub _ _ _ _ _ h5] at this
  exact this

theorem loadVar_sound {t : TypeId} {n off : Nat} {x : Ctx} {s s' : St} {a : AV} (hr : loadVarA P t n off x s = some (a, s')) (h : Inv w0 L0 φ s.H w) {l : Loc} (hl : φ n = some l) :
    s' = s ∧ ∃ v, (loadVar t ⟨l.b, l.o + off, none⟩).run P w = .ok v w ∧ VR φ a v := by
  unfold loadVarA at hr
  obtain ⟨⟨vs, e⟩, s1, h1, h2⟩ := M.bind_iff.1 hr
  obtain ⟨_, _, hb, rfl⟩ := rdCells_iff.1 h1
  cases hag : isAggT P t with
  | none => simp only [hag] at h2; exact (M.fail_iff.1 h2).elim
  | some ag => cases ag with
    | true => cases hsz : szT P t with
      | none => simp only [hag, hsz] at h2; exact (M.fail_iff.1 h2).elim
      | some sz => cases hcs : sliceL vs off sz with
        | none => simp only [hag, hsz, hcs] at h2; exact (M.fail_iff.1 h2).elim
        | some cs =>
          simp only [hag, hsz, hcs] at h2
          obtain ⟨rfl, rfl⟩ := M.pure_iff.1 h2
          obtain ⟨us, hu, hv⟩ := h.part (P := P) hb hcs hl
          refine ⟨rfl, .agg us, ?_, by simp only [VR]; exact ⟨us, rfl, hv⟩⟩
          simp only [loadVar, Sem.run_bind, run_isAgg' hag, Result.andThen_ok, if_true, run_sizeOf' hsz, hu w rfl, Sem.run_pure]
    | false =>
      simp only [hag] at h2
      obtain ⟨ho, rfl⟩ := M.of_iff.1 h2
      obtain ⟨l', c, el, fz, hl', c1, _, c2, c3, c4⟩ := h.cells hb
      obtain rfl : l' = l := Option.some.inj (hl'.symm.trans hl)
      obtain ⟨u, hu, hv⟩ := c4.get off a ho
      have hlt : off < vs.length := (List.getElem?_eq_some_iff.1 ho).1
      have hc : w.cell? ⟨l'.b, l'.o + off, none⟩ = some u := by
        rw [cell_at c1]
        rw [List.getElem?_take, if_pos hlt, List.getElem?_drop] at hu
        simpa using hu
      refine ⟨rfl, u, ?_, hv⟩
      simp only [loadVar, Sem.run_bind, run_isAgg' hag, Result.andThen_ok, Bool.false_eq_true, if_false, run_load, hc]

theorem canWrite_lock {x : Ctx} {n : Nat} (h : x.canWrite n = true) : x.lock ≤ n := by
  unfold Ctx.canWrite at h; simp only [Bool.and_eq_true, Nat.ble_eq] at h; exact h.1.1

/-- Cells are written. -/
theorem storeCells_sound {n off : Nat} {cs : List AV} {us : List Value} {x : Ctx} {s s' : St} {r : Unit} (hr : storeCellsA n off cs x s = some (r, s')) (h : Inv w0 L0 φ s.H w) (hL : L0 ≤ x.lock) {l : Loc} (hl : φ n = some l) (hv : VRL φ cs us) :
    s'.nx = s.nx ∧ ∃ w', (storeCells ⟨l.b, l.o + off, none⟩ us).run P w = .ok () w' ∧ Inv w0 L0 φ s'.H w' := by
  unfold storeCellsA at hr
  obtain ⟨⟨vs, e⟩, s1, h1, h2⟩ := M.bind_iff.1 hr
  obtain ⟨_, _, hb, rfl⟩ := rdCells_iff.1 h1
  simp only at h2
  obtain ⟨_, s2, h3, h4⟩ := M.bind_iff.1 h2
  obtain ⟨hsc, rfl⟩ := M.guard_iff.1 h3
  cases hp : putL vs off cs with
  | none => simp only [hp] at h4; exact (M.fail_iff.1 h4).elim
  | some vs' =>
    simp only [hp] at h4
    obtain ⟨hw1, hw2, _, rfl⟩ := wr_iff.1 h4
    obtain ⟨hp1, rfl⟩ := putL_some hp
    obtain ⟨l', c, el, fz, hl', c1, hfz, c2, c3, c4⟩ := h.cells hb
    obtain rfl : l' = l := Option.some.inj (hl'.symm.trans hl)
    obtain rfl := hfz (Nat.le_trans hL (canWrite_lock hw1))
    have hlen := hv.length
    have hst := run_storeCells_at P l'.b (l'.o + off) el us 0 c w c1 (by omega) (hv.scalar hsc)
    simp only [Nat.add_zero] at hst
    refine ⟨rfl, _, hst, h.write hb (Nat.le_trans hL (canWrite_lock hw1)) hl (fun k hk => setRow_other w l'.b k _ hk) (by simp [World.setRow]) rfl rfl ?_⟩
    refine ⟨_, el, _, setRow_heap w l'.b c _ el (0, 0) c1, fun _ => rfl, ?_, ?_, ?_⟩
    · simp only [List.size_toArray, List.length_append, List.length_take, List.length_drop, Array.length_toList]; omega
    · simp only [List.length_append, List.length_take, List.length_drop]; omega
    · have e1 : ((c.toList.take (l'.o + off) ++ us ++ c.toList.drop (l'.o + off + us.length)).drop l'.o).take (vs.take off ++ (cs ++ vs.drop (off + cs.length))).length
          = ((c.toList.drop l'.o).take vs.length).take off ++ (us ++ ((c.toList.drop l'.o).take vs.length).drop (off + cs.length)) := by
        have hlen2 : (vs.take off ++ (cs ++ vs.drop (off + cs.length))).length = vs.length := by
          simp only [List.length_append, List.length_take, List.length_drop]; omega
        rw [hlen2, hlen]
        apply List.ext_getElem?
        intro j
        simp only [List.getElem?_take, List.getElem?_drop, List.getElem?_append, List.length_append, List.length_take, List.length_drop, Array.length_toList, Array.getElem?_toList, hlen]
        have hm : min (l'.o + off) c.size = l'.o + off := by omega
        have hm2 : min off (min vs.length (c.size - l'.o)) = off := by omega
        rw [hm, hm2]
        by_cases a1 : j < vs.length
        · rw [if_pos a1]
          by_cases a2 : j < off
          · simp only [a1, a2, if_true, show l'.o + j < l'.o + off + cs.length from by omega, show l'.o + j < l'.o + off from by omega]
          · rw [if_neg a2]
            by_cases a3 : j - off < cs.length
            · rw [if_pos (by omega), if_neg (by omega), if_pos a3]
              congr 1; omega
            · rw [if_neg (by omega), if_neg a3, if_pos (by omega)]
              congr 1; omega
        · rw [if_neg a1, if_neg (by omega), if_neg (by omega), if_neg (by omega)]
      rw [List.toList_toArray, e1]
      have t1 := c4.take off
      have t2 := c4.drop (off + cs.length)
      exact t1.append (hv.append t2)

theorem storeVar_sound {t : TypeId} {n off : Nat} {a : AV} {v : Value} {x : Ctx} {s s' : St} {r : Unit} (hr : storeVarA P t n off a x s = some (r, s')) (h : Inv w0 L0 φ s.H w) (hL : L0 ≤ x.lock) {l : Loc} (hl : φ n = some l) (hv : VR φ a v) :
    s'.nx = s.nx ∧ ∃ w', (storeVar t ⟨l.b, l.o + off, none⟩ v).run P w = .ok () w' ∧ Inv w0 L0 φ s'.H w' := by
  unfold storeVarA at hr
  obtain ⟨sz, s1, h1, h2⟩ := M.bind_iff.1 hr
  obtain ⟨hsz, rfl⟩ := M.of_iff.1 h1
  obtain ⟨_, s2, h3, h4⟩ := M.bind_iff.1 h2
  obtain ⟨hg, rfl⟩ := M.guard_iff.1 h3
  have hlen := hv.cells.length
  have hsize : v.cells.size = sz := by
    have := Nat.eq_of_beq_eq_true hg
    simpa [this] using hlen
  obtain ⟨e, w', hst, hi⟩ := storeCells_sound (P := P) h4 h hL hl hv.cells
  refine ⟨e, w', ?_, hi⟩
  simp only [storeVar, Sem.run_bind, run_sizeOf' hsz, Result.andThen_ok, hsize, ne_eq, not_true_eq_false, if_false]
  simpa using hst

/-- New cells. -/
theorem new_sound {vs : List AV} {c : Array Value} {e el : TypeId} {x : Ctx} {s s' : St} {n : Nat} (hr : nw (.cells vs e) x s = some (n, s')) (h : Inv w0 L0 φ s.H w) (hf : Fresh φ s.nx s'.nx) (hL : vs.length ≤ c.size) (hv : VRL φ vs (c.toList.take vs.length)) :
    n = s.nx ∧ s'.nx = s.nx + 1 ∧ Inv w0 L0 (φ.put n ⟨w.heap.size, 0, c.size⟩) s'.H (w.alloc (.cells c el)) ∧ Ext φ (φ.put n ⟨w.heap.size, 0, c.size⟩) s.nx s'.nx := by
  obtain ⟨_, rfl, rfl⟩ := nw_iff.1 hr
  have hn : φ s.nx = none := hf s.nx (Nat.le_refl _) (Nat.lt_succ_self _)
  refine ⟨rfl, rfl, h.alloc hn _ _ _ ?_, Ext.put hn⟩
  exact ⟨c, el, _, heap_alloc_at w _, fun _ => rfl, rfl, by simpa using hL, by simpa using VRL.mono (Phi.le_put hn) _ _ hv⟩

theorem newVar_sound {t : TypeId} {a b : AV} {v : Value} {x : Ctx} {s s' : St} (hr : newVarA t a x s = some (b, s')) (h : Inv w0 L0 φ s.H w) (hf : Fresh φ s.nx s'.nx) (hv : VR φ a v) :
    ∃ φ' w' u, (newVar t v).run P w = .ok u w' ∧ Inv w0 L0 φ' s'.H w' ∧ Ext φ φ' s.nx s'.nx ∧ VR φ' b (.pointer (some u)) := by
  unfold newVarA at hr
  obtain ⟨_, s1, h1, h2⟩ := M.bind_iff.1 hr
  obtain ⟨hsc, rfl⟩ := M.guard_iff.1 h1
  obtain ⟨n, s2, h3, h4⟩ := M.bind_iff.1 h2
  obtain ⟨rfl, rfl⟩ := M.pure_iff.1 h4
  have hlen := hv.cells.length
  obtain ⟨rfl, hnx, hi, he⟩ := new_sound (c := v.cells) (el := t) h3 h hf (by simpa using Nat.le_of_eq hlen.symm) (by
    rw [List.take_of_length_le (by omega)]; exact hv.cells)
  refine ⟨_, _, ⟨w.heap.size, 0, none⟩, ?_, hi, he, ?_⟩
  · simp [newVar, newRow]
  · simp only [VR]; exact ⟨_, Phi.put_self _ _ _, by simp⟩
end
end
end AM
