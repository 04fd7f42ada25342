/-
  A lemma text: the abstract machine of the AmDef text reads as the model runs (part AmApp). Conditions: none; no premise beyond what each theorem states.
-/
import Derived.Test.YthhckoogdofhgaaGreatDoorAmArr
namespace AM
open Go

section
variable {P : Program} {φ : Phi} {w w0 : World} {L0 : Nat} {H : T ABlk}

theorem lenA_run {a : AV} {v : Value} {n : Nat} (h : lenA a = some n) (hv : VR φ a v) : (Builtin.lenOf v).run P w = .ok n w := by
  unfold lenA at h
  split at h <;> first | (cases h; done) | skip
  all_goals (cases h; simp only [VR] at hv)
  · obtain ⟨l, b, c, _, rfl, _⟩ := hv; rfl
  · subst hv; rfl
  · subst hv; rfl

theorem firstCells_sound {size k : Nat} {a : AV} {v : Value} {cs : List AV} {x : Ctx} {s s' : St} (hr : firstCellsA size k a x s = some (cs, s')) (h : Inv w0 L0 φ s.H w) (hv : VR φ a v) :
    s' = s ∧ ∃ us, (∀ w' : World, w'.heap = w.heap → (Builtin.firstCells size k v).run P w' = .ok us w') ∧ VRL φ cs us.toList := by
  unfold firstCellsA at hr
  split at hr
  · rename_i n off len lo ex esz
    simp only [VR] at hv
    obtain ⟨l, b, c, hl, rfl, h1, h2, h3, h4, h5⟩ := hv
    rcases M.cond_iff.1 hr with ⟨_, hr1⟩ | ⟨hg, hr1⟩
    · exact (M.fail_iff.1 hr1).elim
    · clear hr
      simp only [Bool.not_eq_false', Bool.and_eq_true, Nat.ble_eq, Nat.beq_eq] at hg
      obtain ⟨hkl, rfl⟩ := hg
      rcases M.cond_iff.1 hr1 with ⟨hk, hr2⟩ | ⟨hk, hr2⟩
      · obtain ⟨rfl, rfl⟩ := M.pure_iff.1 hr2
        obtain rfl := Nat.eq_of_beq_eq_true hk
        exact ⟨rfl, #[], fun _ _ => by simp [Builtin.firstCells, loadCells, loadCellsFrom], .nil⟩
      · have hk0 := Nat.ne_of_beq_eq_false hk
        obtain ⟨⟨vs, e⟩, s1, r1, r2⟩ := M.bind_iff.1 hr2
        obtain ⟨_, _, hb, rfl⟩ := rdCells_iff.1 r1
        obtain ⟨ho, rfl⟩ := M.of_iff.1 r2
        have ha : b = ⟨l.b, l.o + off, none⟩ := h4.resolve_left (by omega)
        obtain ⟨us, hu, hus⟩ := h.part (P := P) hb ho hl
        exact ⟨rfl, us, fun w' hw' => by simp only [Builtin.firstCells, ha, hu w' hw'], hus⟩
  · obtain ⟨rfl, rfl⟩ := M.pure_iff.1 hr
    simp only [VR] at hv; subst hv
    exact ⟨rfl, #[], fun _ _ => by simp [Builtin.firstCells], .nil⟩
  · rename_i t
    obtain ⟨ho, rfl⟩ := M.of_iff.1 hr
    simp only [VR] at hv; subst hv
    cases hb : Nat.ble k t.size with
    | false => rw [hb] at ho; cases ho
    | true =>
      simp only [hb, cond_true, Option.some.injEq] at ho
      subst ho
      refine ⟨rfl, (t.extract 0 k).data.map fun b => Value.int .u8 b.toNat, fun _ _ => by simp only [Builtin.firstCells, Sem.run_pure], ?_⟩
      have e : ((t.extract 0 k).data.map fun b => Value.int .u8 b.toNat).toList = (t.data.toList.take k).map fun b => Value.int .u8 b.toNat := by
        rw [Array.toList_map]
        congr 1
        rw [ByteArray.data_extract]; simp
      rw [e]
      generalize t.data.toList.take k = L
      induction L with
      | nil => exact .nil
      | cons b r ih => exact .cons (by simp only [VR]) ih
  · exact (M.fail_iff.1 hr).elim

theorem isIntD_match (xd : TypeDesc) : (match xd with | .int _ => true | _ => false) = isIntD xd := by cases xd <;> rfl

/-- What an append of zeros, or of a slice or a string, hangs on. -/
inductive AppSrc (P : Program) (w : World) (xd : TypeDesc) (xv zv : Value) (size bytes n : Nat) (new : Array Value) : Prop where
  | zeros (k : IntKind) (l : Int) (hd : xd = .int k) (hv : xv = .int .i64 l) (hw : IntKind.i64.wrap l = l) (h0 : ¬ l < 0) (hb : ¬ l * (bytes : Int) > 2 ^ 48) (hn : l.toNat = n) (hnew : new = Builtin.zeroCells zv.cells n) (hz : n * size = 0 → new = #[])
  | copy (hd : isIntD xd = false) (hl : ∀ w : World, (Builtin.lenOf xv).run P w = .ok n w) (hnew : ∀ w' : World, w'.heap = w.heap → (Builtin.firstCells size n xv).run P w' = .ok new w')

/-- An append runs as its parts say. -/
theorem append_run {sT xT ty e : TypeId} {ts : Array TypeId} {xd : TypeDesc} {i : TypeInfo} {zv : Value} {size bytes n : Nat} {base : Option Addr} {sLen sCap : Nat} {xv : Value} {new old : Array Value}
    (h0 : ts[0]? = some sT) (h1 : ts[1]? = some xT) (hu : P.underlying sT = some (.slice e)) (hx : P.underlying xT = some xd) (hi : P.info? e = some i) (hs : i.size = size) (hb : i.bytes = bytes) (hz : i.zero = some zv)
    (hsrc : AppSrc P w xd xv zv size bytes n new)
    (hold : ¬ sLen + n ≤ sCap → ∀ w' : World, w'.heap = w.heap → (Builtin.firstCells size sLen (.slice base sLen sCap)).run P w' = .ok old w')
    (h63 : ((sLen + n : Nat) : Int) ≤ 9223372036854775807) (hb1 : 1 ≤ bytes) (h48 : ¬ sLen + n ≤ sCap → Builtin.nextslicecap (sLen + n) sCap * bytes ≤ 281474976710656) :
    (Builtin.append_ ts ty #[.slice base sLen sCap, xv]).run P w =
      if sLen + n ≤ sCap then
        (match (generalizing := false) base with
         | some a => ((storeCells (a.add (sLen * size)) new.toList).run P w).andThen fun _ w' => .ok (.slice base (sLen + n) sCap) w'
         | none => .ok (.slice base (sLen + n) sCap) w)
      else .ok (.slice (some ⟨w.heap.size, 0, none⟩) (sLen + n) (grownCap w (sLen + n) sCap e)) (w.drew.alloc (.cells (old ++ new ++ Builtin.zeroCells zv.cells (grownCap w (sLen + n) sCap e - (sLen + n))) e)) := by
  subst hs; subst hb
  have hsz : ∀ w : World, (Go.sizeOf e).run P w = .ok i.size w := fun w => by simp [Go.sizeOf, typeInfo, hi]
  have hti : ∀ w : World, (typeInfo e).run P w = .ok i w := fun w => by simp [typeInfo, hi]
  have hzr : ∀ w : World, (zeroValue e).run P w = .ok zv w := run_zero' hi hz
  have hA : ¬ ((sLen + n : Nat) : Int) > IntKind.i64.max := by
    have : IntKind.i64.max = 9223372036854775807 := by decide
    omega
  have hB : ¬ sLen + n ≤ sCap → ¬ Builtin.nextslicecap (sLen + n) sCap * i.bytes > 2 ^ 48 := fun h => by have := h48 h; omega
  unfold Builtin.append_
  simp only [h0, h1, List.getElem?_toArray, List.getElem?_cons_zero, List.getElem?_cons_succ, Sem.run_bind, run_underlying hu, run_underlying hx, Result.andThen_ok, hsz]
  cases hsrc with
  | zeros k l hd hv hw hneg hbig hn hnew hz0 =>
    subst hd; subst hv
    simp only [Sem.run_bind, Sem.run_pure, Result.andThen_ok, if_true, asInt, asIntOf, hw, hneg, if_false, hti, hbig, hn, Bool.not_true, Bool.false_eq_true]
    have happ : ∀ w : World, ((if n * i.size = 0 then Pure.pure #[] else do Pure.pure (Builtin.zeroCells (← zeroValue e).cells n) : Sem (Array Value)).run P w) = .ok new w := fun w => by
      by_cases h : n * i.size = 0
      · simp only [h, if_true, Sem.run_pure, hz0 h]
      · simp only [h, if_false, Sem.run_bind, hzr, Result.andThen_ok, Sem.run_pure, hnew]
    by_cases hroom : sLen + n ≤ sCap
    · simp only [hroom, if_true]
      cases base with
      | none => simp only [Sem.run_bind, happ, Result.andThen_ok, Sem.run_pure]
      | some a => simp only [Sem.run_bind, happ, Result.andThen_ok, Sem.run_pure]
    · simp only [hroom, if_false, Sem.run_bind, hA, false_and, hti, Result.andThen_ok, hB hroom, run_choose, Question.forced, Bool.false_eq_true, run_askRoom, happ, hold hroom w.drew rfl, World.drew_eq, Sem.run_pure, hzr, newRow, run_newObj, grownCap, World.alloc_eq]
      rfl
  | copy hd hl hnew =>
    clear hx
    cases xd
    case int k => simp [isIntD] at hd
    all_goals
      simp only [Sem.run_bind, Sem.run_pure, Result.andThen_ok, Bool.false_eq_true, if_false, hl, Bool.not_false, if_true]
      by_cases hroom : sLen + n ≤ sCap
      · simp only [hroom, if_true]
        cases base with
        | none => simp only [Sem.run_bind, hnew w rfl, Result.andThen_ok, Sem.run_pure]
        | some a => simp only [Sem.run_bind, hnew w rfl, Result.andThen_ok, Sem.run_pure]
      · simp only [hroom, if_false, Sem.run_bind, hA, false_and, hti, Result.andThen_ok, hB hroom, run_choose, Question.forced, Bool.false_eq_true, run_askRoom, hnew w.drew rfl, hold hroom w.drew rfl, World.drew_eq, Sem.run_pure, hzr, newRow, run_newObj, grownCap, World.alloc_eq]
        rfl

theorem roomy_le {n : Nat} (h : roomy n = true) : n ≤ 2 ^ 40 := by simpa only [roomy, Nat.ble_eq] using h

theorem src_of {xd : TypeDesc} {x0 z : AV} {xv zv : Value} {size bytes n : Nat} {cs : List AV} {x : Ctx} {s s' : St} (hcount : appCount (isIntD xd) x0 = some n) (hroom : roomy (n * bytes) = true) (h1 : 1 ≤ bytes)
    (hr : appCells (isIntD xd) z size n x0 x s = some (cs, s')) (hlen : cs.length = n * size) (h : Inv w0 L0 φ s.H w) (hz : VR φ z zv) (hv : VR φ x0 xv) :
    s' = s ∧ ∃ us : Array Value, VRL φ cs us.toList ∧ AppSrc P w xd xv zv size bytes n us := by
  cases hx : isIntD xd with
  | true =>
    rw [hx] at hcount hr
    obtain ⟨k, rfl⟩ : ∃ k, xd = .int k := by
      unfold isIntD at hx; split at hx
      · exact ⟨_, rfl⟩
      · cases hx
    simp only [appCount, cond_true] at hcount
    simp only [appCells, cond_true] at hr
    obtain ⟨rfl, rfl⟩ := M.pure_iff.1 hr
    split at hcount
    · rename_i l
      cases hd : decide (0 ≤ l) with
      | false => simp only [hd, cond_false] at hcount; cases hcount
      | true =>
        simp only [hd, cond_true, Option.some.injEq] at hcount
        have h0 : 0 ≤ l := of_decide_eq_true hd
        subst hcount
        simp only [VR] at hv; subst hv
        have hle := roomy_le hroom
        have hl40 : l.toNat ≤ 2 ^ 40 := Nat.le_trans (Nat.le_mul_of_pos_right _ h1) hle
        have e1 : (l.toNat : Int) = l := Int.toNat_of_nonneg h0
        have hw : IntKind.i64.wrap l = l := by
          simp [IntKind.wrap, IntKind.bits, IntKind.signed]
          omega
        have hbig : ¬ (l * (bytes : Int) > 2 ^ 48) := by
          rw [← e1]
          have : ((l.toNat * bytes : Nat) : Int) ≤ ((2 ^ 40 : Nat) : Int) := Int.ofNat_le.2 hle
          rw [Int.natCast_mul] at this
          omega
        have hzc : VRL φ (repL l.toNat z.cells) (Builtin.zeroCells zv.cells l.toNat).toList := by
          rw [zeroCells_toList]; exact hz.cells.rep _
        refine ⟨rfl, _, hzc, .zeros k l rfl rfl hw (by omega) hbig rfl rfl fun h => ?_⟩
        have := hzc.length
        rw [hlen, h] at this
        exact Array.toList_eq_nil_iff.1 (List.length_eq_zero_iff.1 this)
    · cases hcount
  | false =>
    rw [hx] at hcount hr
    simp only [appCount, cond_false] at hcount
    simp only [appCells, cond_false] at hr
    obtain ⟨rfl, us, hu, hus⟩ := firstCells_sound (P := P) hr h hv
    exact ⟨rfl, us, hus, .copy hx (fun w => lenA_run hcount hv) hu⟩

theorem firstCells_len {size k n off len lo esz : Nat} {ex : Bool} {cs : List AV} {x : Ctx} {s s' : St} (hr : firstCellsA size k (.slice n off len lo ex esz) x s = some (cs, s')) : cs.length = k * size := by
  unfold firstCellsA at hr
  rcases M.cond_iff.1 hr with ⟨_, hr1⟩ | ⟨_, hr1⟩
  · exact (M.fail_iff.1 hr1).elim
  · rcases M.cond_iff.1 hr1 with ⟨hk, hr2⟩ | ⟨_, hr2⟩
    · obtain ⟨rfl, _⟩ := M.pure_iff.1 hr2
      rw [Nat.eq_of_beq_eq_true hk]; simp
    · obtain ⟨⟨vs, e⟩, s1, _, r2⟩ := M.bind_iff.1 hr2
      obtain ⟨ho, _⟩ := M.of_iff.1 r2
      obtain ⟨q1, rfl⟩ := sliceL_some ho
      simp; omega

theorem append_sound {ts : Array TypeId} {ty : TypeId} {args : List AV} {us : List Value} {x : Ctx} {s s' : St} {a : AV} (hr : appendA P ts args x s = some (a, s')) (h : Inv w0 L0 φ s.H w) (hf : Fresh φ s.nx s'.nx) (hL : L0 ≤ x.lock) (hv : VRL φ args us) :
    ∃ φ' w' v, (Builtin.append_ ts ty us.toArray).run P w = .ok v w' ∧ Inv w0 L0 φ' s'.H w' ∧ Ext φ φ' s.nx s'.nx ∧ VR φ' a v := by
  unfold appendA at hr
  cases e0 : ts[0]? with
  | none => simp only [e0] at hr; exact (M.fail_iff.1 hr).elim
  | some sT =>
  cases e1 : ts[1]? with
  | none => simp only [e0, e1] at hr; exact (M.fail_iff.1 hr).elim
  | some xT =>
  cases args with
  | nil => simp only [e0, e1] at hr; exact (M.fail_iff.1 hr).elim
  | cons sa r =>
  cases r with
  | nil => simp only [e0, e1] at hr; exact (M.fail_iff.1 hr).elim
  | cons xa r =>
  cases r with
  | cons _ _ => simp only [e0, e1] at hr; exact (M.fail_iff.1 hr).elim
  | nil =>
  simp only [e0, e1] at hr
  obtain ⟨sv, _, rfl, hsv, hv⟩ := hv.cons_out
  obtain ⟨xv, _, rfl, hxv, hv⟩ := hv.cons_out
  rw [hv.nil_inv]
  cases hu : P.underlying sT with
  | none => simp only [hu] at hr; exact (M.fail_iff.1 hr).elim
  | some d =>
  cases d with
  | slice e =>
    cases hx : P.underlying xT with
    | none => simp only [hu, hx] at hr; exact (M.fail_iff.1 hr).elim
    | some xd =>
    cases hsz : szT P e with
    | none => simp only [hu, hx, hsz] at hr; exact (M.fail_iff.1 hr).elim
    | some size =>
    cases hby : bytesT P e with
    | none => simp only [hu, hx, hsz, hby] at hr; exact (M.fail_iff.1 hr).elim
    | some bytes =>
    cases hz : zeroT P e with
    | none => simp only [hu, hx, hsz, hby, hz] at hr; exact (M.fail_iff.1 hr).elim
    | some z =>
    simp only [hu, hx, hsz, hby, hz] at hr
    obtain ⟨n, s1, r1, hq1⟩ := M.bind_iff.1 hr
    clear hr
    obtain ⟨hcount, rfl⟩ := M.of_iff.1 r1
    clear r1
    obtain ⟨_, s2, r2, hq2⟩ := M.bind_iff.1 hq1
    clear hq1
    obtain ⟨hg, rfl⟩ := M.guard_iff.1 r2
    clear r2
    simp only [Bool.and_eq_true, Nat.ble_eq, Nat.beq_eq] at hg
    obtain ⟨⟨⟨hg1, hg2⟩, hgz⟩, hg3⟩ := hg
    obtain ⟨new, s3, r3, hq3⟩ := M.bind_iff.1 hq2
    clear hq2
    obtain ⟨_, s4, r4, hq4⟩ := M.bind_iff.1 hq3
    clear hq3
    obtain ⟨hg4, rfl⟩ := M.guard_iff.1 r4
    clear r4
    simp only [Bool.and_eq_true, Nat.beq_eq] at hg4
    obtain ⟨hsc, hnl⟩ := hg4
    obtain ⟨i, hi, his⟩ := szT_info hsz
    obtain ⟨i', hi', hib⟩ := run_bytes' hby
    obtain rfl : i' = i := Option.some.inj (hi'.symm.trans hi)
    obtain ⟨i'', zv, hi'', hzv, hzr⟩ := zeroT_info (φ := φ) hz
    obtain rfl : i'' = i' := Option.some.inj (hi''.symm.trans hi)
    obtain ⟨rfl, nu, hnu, hsrc⟩ := src_of (P := P) (size := size) hcount hg3 hg2 r3 hnl h hzr hxv
    have hnle := roomy_le hg3
    have hn40 : n ≤ 2 ^ 40 := Nat.le_trans (Nat.le_mul_of_pos_right _ hg2) hnle
    have hnul := hnu.length
    have hnuz : nu.size = new.length := by simpa using hnul
    have hzl := hzr.cells.length
    have hgsize : ∀ k, (Builtin.zeroCells zv.cells k).size = k * zv.cells.size := size_zeroCells zv.cells
    unfold appendTo at hq4
    cases sa with
    | nilSlice =>
      simp only [VR] at hsv; subst hsv
      simp only at hq4
      have run := append_run (P := P) (w := w) (ty := ty) (base := none) (sLen := 0) (sCap := 0) (old := #[]) e0 e1 hu hx hi his hib hzv hsrc (fun _ w' _ => by simp [Builtin.firstCells]) (by omega) hg2 (fun hh => growslice_fits (by omega) (by simp only [Nat.zero_add]; omega))
      simp only [Nat.zero_add] at run
      rcases M.cond_iff.1 hq4 with ⟨hn0, hr1⟩ | ⟨hn0, hr1⟩
      · obtain ⟨rfl, rfl⟩ := M.pure_iff.1 hr1
        obtain rfl := Nat.eq_of_beq_eq_true hn0
        exact ⟨φ, w, _, by rw [run, if_pos (Nat.le_refl _)], h, Ext.refl _ _ _, by simp only [VR]⟩
      · have hn0' := Nat.ne_of_beq_eq_false hn0
        rw [if_neg (by omega)] at run
        obtain ⟨b, s5, r5, r6⟩ := M.bind_iff.1 hr1
        obtain ⟨rfl, rfl⟩ := M.pure_iff.1 r6
        have hge := grownCap_ge w n 0 e
        have hw := h.heap_eq (w' := w.drew) rfl rfl rfl
        obtain ⟨rfl, hnx, hi2, he2⟩ := new_sound (c := #[] ++ nu ++ Builtin.zeroCells zv.cells (grownCap w n 0 e - n)) (el := e) r5 hw hf (by simp only [Array.size_append]; omega) (by
          have : (#[] ++ nu ++ Builtin.zeroCells zv.cells (grownCap w n 0 e - n)).toList.take new.length = nu.toList := by
            simp only [Array.empty_append, Array.toList_append]
            rw [← hnul]; exact List.take_left
          rw [this]; exact hnu)
        refine ⟨_, _, _, run, hi2, he2, ?_⟩
        simp only [VR]
        refine ⟨_, _, _, Phi.put_self _ _ _, rfl, Nat.le_refl _, hge, by simp, .inr rfl, ?_⟩
        simp only [Array.empty_append, Array.size_append, hgsize]
        have hzc : zv.cells.size = size := by simpa [hgz] using hzl
        have hns : nu.size = n * size := by simpa [hnl] using hnul
        rw [hzc, hns, ← Nat.add_mul]
        rw [show n + (grownCap w n 0 e - n) = grownCap w n 0 e from by omega]; simp
    | slice b off len lo ex esz =>
      simp only [VR] at hsv
      obtain ⟨l, ad, c, hl, rfl, hlo, hc, hex, had, hext⟩ := hsv
      simp only at hq4
      obtain ⟨_, s5, r5, hq5⟩ := M.bind_iff.1 hq4
      clear hq4
      obtain ⟨hg5, rfl⟩ := M.guard_iff.1 r5
      clear r5
      simp only [Bool.and_eq_true, Nat.beq_eq] at hg5
      obtain ⟨⟨rfl, hg6⟩, hg7⟩ := hg5
      have hr6 := roomy_le hg6
      have hr7 := roomy_le hg7
      have hln : len + n ≤ 2 ^ 40 := Nat.le_trans (Nat.le_mul_of_pos_right _ hg2) hr6
      have hzc : zv.cells.size = size := by simpa [hgz] using hzl
      have hns : nu.size = n * size := by simpa [hnl] using hnul
      have hfit : ¬ len + n ≤ c → Builtin.nextslicecap (len + n) c * bytes ≤ 281474976710656 := fun hh => growslice_fits (by omega) (by omega)
      rcases M.cond_iff.1 hq5 with ⟨hin, hq6⟩ | ⟨hin, hq6⟩
      · have hin' : len + n ≤ lo := by simpa using hin
        have run := append_run (P := P) (w := w) (ty := ty) (base := some ad) (sLen := len) (sCap := c) (old := #[]) e0 e1 hu hx hi his hib hzv hsrc (fun hh => absurd (by omega) hh) (by omega) hg2 hfit
        rw [if_pos (by omega)] at run
        rcases M.cond_iff.1 hq6 with ⟨hn0, hq7⟩ | ⟨hn0, hq7⟩
        · obtain ⟨rfl, rfl⟩ := M.pure_iff.1 hq7
          obtain rfl := Nat.eq_of_beq_eq_true hn0
          have hnu0 : nu = #[] := Array.eq_empty_of_size_eq_zero (by omega)
          subst hnu0
          refine ⟨φ, w, .slice (some ad) len c, ?_, h, Ext.refl _ _ _, ?_⟩
          · rw [run]; simp [storeCells]
          · simp only [VR]; exact ⟨l, ad, c, hl, rfl, hlo, hc, hex, had, hext⟩
        · have hn0' := Nat.ne_of_beq_eq_false hn0
          obtain ⟨_, s6, r6, r7⟩ := M.bind_iff.1 hq7
          obtain ⟨rfl, rfl⟩ := M.pure_iff.1 r7
          have hade : ad = ⟨l.b, l.o + off, none⟩ := had.resolve_left (by omega)
          obtain ⟨hnx, w', hst, hi2⟩ := storeCells_sound (P := P) r6 h hL hl hnu
          refine ⟨φ, w', .slice (some ad) (len + n) c, ?_, hi2, Ext.refl _ _ _, ?_⟩
          · rw [← Nat.add_assoc] at hst
            rw [run, hade]; simp only [addr_add, hst, Result.andThen_ok]
          · simp only [VR]; exact ⟨l, ad, c, hl, rfl, hin', hc, hex, had, hext⟩
      · have hin' : ¬ len + n ≤ lo := fun hh => by rw [Nat.ble_eq_true_of_le hh] at hin; cases hin
        rcases M.cond_iff.1 hq6 with ⟨hexx, hq7⟩ | ⟨hexx, hq7⟩
        · have hcl := hex hexx
          obtain ⟨old, s6, r6, r7⟩ := M.bind_iff.1 hq7
          obtain ⟨rfl, ou, hou, hov⟩ := firstCells_sound (P := P) (v := .slice (some ad) len c) r6 h (by simp only [VR]; exact ⟨l, ad, c, hl, rfl, hlo, hc, hex, had, hext⟩)
          obtain ⟨b2, s7, r8, r9⟩ := M.bind_iff.1 r7
          obtain ⟨rfl, rfl⟩ := M.pure_iff.1 r9
          have run := append_run (P := P) (w := w) (ty := ty) (base := some ad) (sLen := len) (sCap := c) (old := ou) e0 e1 hu hx hi his hib hzv hsrc (fun _ w' hw' => hou w' hw') (by omega) hg2 hfit
          rw [if_neg (by omega)] at run
          have hge := grownCap_ge w (len + n) c e
          have hw := h.heap_eq (w' := w.drew) rfl rfl rfl
          have houl := hov.length
          obtain ⟨rfl, hnx, hi2, he2⟩ := new_sound (c := ou ++ nu ++ Builtin.zeroCells zv.cells (grownCap w (len + n) c e - (len + n))) (el := e) r8 hw hf (by simp only [Array.size_append, List.length_append]; simp only [Array.length_toList] at houl; omega) (by
            have : (ou ++ nu ++ Builtin.zeroCells zv.cells (grownCap w (len + n) c e - (len + n))).toList.take (old ++ new).length = ou.toList ++ nu.toList := by
              simp only [Array.toList_append]
              rw [List.length_append, ← houl, ← hnul, ← List.length_append]; exact List.take_left
            rw [this]; exact hov.append hnu)
          refine ⟨_, _, _, run, hi2, he2, ?_⟩
          simp only [VR]
          refine ⟨_, _, _, Phi.put_self _ _ _, rfl, Nat.le_refl _, hge, by simp, .inr rfl, ?_⟩
          have hol : ou.size = len * size := by
            have := firstCells_len r6
            simpa [this] using houl
          simp only [Array.size_append, hgsize, hzc, hns, hol, ← Nat.add_mul]
          rw [show len + n + (grownCap w (len + n) c e - (len + n)) = grownCap w (len + n) c e from by omega]; simp
        · obtain ⟨⟨vs, ee⟩, s6, r6, hq8⟩ := M.bind_iff.1 hq7
          clear hq7
          obtain ⟨_, _, hb, rfl⟩ := rdCells_iff.1 r6
          obtain ⟨old, s7, r7, hq9⟩ := M.bind_iff.1 hq8
          clear hq8
          obtain ⟨hold, rfl⟩ := M.of_iff.1 r7
          obtain ⟨_, s8, r8, hq10⟩ := M.bind_iff.1 hq9
          clear hq9
          obtain ⟨hw1, hw2, _, rfl⟩ := kill_iff.1 r8
          obtain ⟨b2, s9, r9, r10⟩ := M.bind_iff.1 hq10
          clear hq10
          obtain ⟨rfl, rfl⟩ := M.pure_iff.1 r10
          have hoL : old.length = len * size := by
            obtain ⟨q1, rfl⟩ := sliceL_some hold
            rw [List.length_take, List.length_drop]
            exact Nat.min_eq_left (Nat.le_sub_of_add_le (by rw [Nat.add_comm]; exact q1))
          by_cases hroom : len + n ≤ c
          · -- in place: the new name takes the block over
            have run := append_run (P := P) (w := w) (ty := ty) (base := some ad) (sLen := len) (sCap := c) (old := #[]) e0 e1 hu hx hi his hib hzv hsrc (fun hh => absurd hroom hh) (by omega) hg2 hfit
            rw [if_pos hroom] at run
            have hade : ad = ⟨l.b, l.o + off, none⟩ := had.resolve_left (by omega)
            obtain ⟨l', cc, el, fz, hl', c1, hfz, c2, c3, c4⟩ := h.cells hb
            obtain rfl : l' = l := Option.some.inj (hl'.symm.trans hl)
            obtain rfl := hfz (Nat.le_trans hL (canWrite_lock hw1))
            have hcs : (len + n) * size ≤ c * size := Nat.mul_le_mul_right _ hroom
            rw [Nat.add_mul] at hcs
            have hst := run_storeCells_at P l'.b (l'.o + off + len * size) el nu.toList 0 cc w c1 (by simp only [Array.length_toList, hns]; omega) (hnu.scalar hsc)
            simp only [Nat.add_zero] at hst
            obtain ⟨row, hrow⟩ : ∃ r : Array Value, r = (cc.toList.take (l'.o + off + len * size) ++ nu.toList ++ cc.toList.drop (l'.o + off + len * size + nu.toList.length)).toArray := ⟨_, rfl⟩
            rw [← hrow] at hst
            obtain ⟨_, rfl, rfl⟩ := nw_iff.1 r9
            have hfn : φ s7.nx = none := hf s7.nx (Nat.le_refl _) (Nat.lt_succ_self _)
            refine ⟨φ.put s7.nx ⟨l'.b, l'.o + off, l'.size⟩, w.setRow l'.b row, .slice (some ad) (len + n) c, ?_, h.take hb (Nat.le_trans hL (canWrite_lock hw1)) hl hfn (l' := ⟨l'.b, l'.o + off, l'.size⟩) rfl (fun k hk => setRow_other w l'.b k _ hk) (by simp [World.setRow]) rfl rfl ?_, Ext.put hfn, ?_⟩
            · rw [run, hade]; simp only [addr_add, hst, Result.andThen_ok]
            · refine ⟨_, el, _, setRow_heap w l'.b cc _ el (0, 0) c1, fun _ => rfl, ?_, ?_, VRL.mono (Phi.le_put hfn) _ _ ?_⟩
              · rw [hrow]; simp only [List.size_toArray, List.length_append, List.length_take, List.length_drop, Array.length_toList, hns]; omega
              · simp only [List.length_append, hoL, hnl]; omega
              · obtain ⟨q1, rfl⟩ := sliceL_some hold
                have t1 := (c4.drop off).take (len * size)
                rw [drop_take_sub _ _ _ _ _ q1] at t1
                have e1 : ((cc.toList.take (l'.o + off + len * size) ++ nu.toList ++ cc.toList.drop (l'.o + off + len * size + nu.toList.length)).drop (l'.o + off)).take ((vs.drop off).take (len * size) ++ new).length = (cc.toList.drop (l'.o + off)).take (len * size) ++ nu.toList := by
                  rw [List.length_append, hoL, ← hnul, List.append_assoc, List.drop_append_of_le_length (by simp; omega), List.drop_take]
                  have e2 : l'.o + off + len * size - (l'.o + off) = len * size := by omega
                  rw [e2, ← List.append_assoc]
                  have e3 : ((cc.toList.drop (l'.o + off)).take (len * size) ++ nu.toList).length = len * size + nu.toList.length := by
                    simp only [List.length_append, List.length_take, List.length_drop, Array.length_toList]; omega
                  rw [← e3]; exact List.take_left
                rw [hrow, List.toList_toArray, e1]
                exact t1.append hnu
            · simp only [VR]
              refine ⟨_, ad, c, Phi.put_self _ _ _, rfl, Nat.le_refl _, hroom, by simp, .inr (by rw [hade]; simp), by simpa using hext⟩
          · have run := fun (ou : Array Value) hou => append_run (P := P) (w := w) (ty := ty) (base := some ad) (sLen := len) (sCap := c) (old := ou) e0 e1 hu hx hi his hib hzv hsrc hou (by omega) hg2 hfit
            obtain ⟨ou, hou, hov⟩ : ∃ ou : Array Value, (∀ w' : World, w'.heap = w.heap → (Builtin.firstCells size len (.slice (some ad) len c)).run P w' = .ok ou w') ∧ VRL φ old ou.toList := by
              by_cases hl0 : len = 0
              · subst hl0
                refine ⟨#[], fun w' _ => by simp [Builtin.firstCells, loadCells, loadCellsFrom], ?_⟩
                have : old = [] := List.length_eq_zero_iff.1 (by omega)
                subst this; exact .nil
              · have hade : ad = ⟨l.b, l.o + off, none⟩ := had.resolve_left (by omega)
                obtain ⟨us, hu', hus⟩ := h.part (P := P) hb hold hl
                exact ⟨us, fun w' hw' => by simp only [Builtin.firstCells, hade, hu' w' hw'], hus⟩
            have run := run ou (fun _ w' hw' => hou w' hw')
            rw [if_neg hroom] at run
            have hge := grownCap_ge w (len + n) c e
            have hw := (h.kill b).heap_eq (w' := w.drew) rfl rfl rfl
            have houl := hov.length
            obtain ⟨rfl, hnx, hi2, he2⟩ := new_sound (c := ou ++ nu ++ Builtin.zeroCells zv.cells (grownCap w (len + n) c e - (len + n))) (el := e) r9 hw hf (by simp only [Array.size_append, List.length_append]; simp only [Array.length_toList] at houl; omega) (by
              have : (ou ++ nu ++ Builtin.zeroCells zv.cells (grownCap w (len + n) c e - (len + n))).toList.take (old ++ new).length = ou.toList ++ nu.toList := by
                simp only [Array.toList_append]
                rw [List.length_append, ← houl, ← hnul, ← List.length_append]; exact List.take_left
              rw [this]; exact hov.append hnu)
            refine ⟨_, _, _, run, hi2, he2, ?_⟩
            simp only [VR]
            refine ⟨_, _, _, Phi.put_self _ _ _, rfl, Nat.le_refl _, hge, by simp, .inr rfl, ?_⟩
            have hol : ou.size = len * size := by simpa [hoL] using houl
            simp only [Array.size_append, hgsize, hzc, hns, hol, ← Nat.add_mul]
            rw [show len + n + (grownCap w (len + n) c e - (len + n)) = grownCap w (len + n) c e from by omega]; simp
    | _ => exact (M.fail_iff.1 hq4).elim
  | _ => simp only [hu] at hr; exact (M.fail_iff.1 hr).elim
end
end AM
