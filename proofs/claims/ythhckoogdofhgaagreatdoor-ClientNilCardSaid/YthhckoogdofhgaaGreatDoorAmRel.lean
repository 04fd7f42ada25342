/-
  A lemma text: the abstract machine of the AmDef text reads as the model runs (part AmRel). Conditions: none; no premise beyond what each theorem states.
-/
import Derived.Test.YthhckoogdofhgaaGreatDoorAmFrame
import Derived.Calls
import Derived.Laws.AppendOwn
import Derived.Laws.CopyRow
namespace AM
open Go

structure Loc where
  b : Nat
  o : Nat
  size : Nat

/-- Where the names lie. -/
def Phi : Type := Nat → Option Loc

def FnR (φ : Phi) : Fn → Fn → Prop
  | .yield n, g => ∃ l, φ n = some l ∧ l.o = 0 ∧ g = .yield l.b
  | .func f, g => g = .func f
  | .method s, g => g = .method s
  | .methodOf t s, g => g = .methodOf t s
  | .via t p f b, g => g = .via t p f b

mutual
def VR (φ : Phi) : AV → Value → Prop
  | .bool b, v => v = .bool b
  | .int k n, v => v = .int k n
  | .str s, v => v = .string s
  | .null, v => v = .pointer none
  | .ptr n off, v => ∃ l, φ n = some l ∧ v = .pointer (some ⟨l.b, l.o + off, none⟩)
  | .slice n off len lo ex esz, v => ∃ l a c, φ n = some l ∧ v = .slice (some a) len c ∧ len ≤ lo ∧ lo ≤ c ∧ (ex = true → c = lo) ∧ (c = 0 ∨ a = ⟨l.b, l.o + off, none⟩) ∧ l.o + off + c * esz ≤ l.size
  | .nilSlice, v => v = .slice none 0 0
  | .func f xs ys, v => ∃ g us vs, v = .func g us vs ∧ FnR φ f g ∧ VRL φ xs us.toList ∧ VRL φ ys vs.toList
  | .nilFunc, v => v = .nilFunc
  | .iface t a, v => ∃ u, v = .iface t u ∧ VR φ a u
  | .nilIface, v => v = .nilIface
  | .agg cs, v => ∃ us, v = .agg us ∧ VRL φ cs us.toList
  | .tuple cs, v => ∃ us, v = .tuple us ∧ VRL φ cs us.toList
def VRL (φ : Phi) : List AV → List Value → Prop
  | [], l => l = []
  | a :: r, l => ∃ v s, l = v :: s ∧ VR φ a v ∧ VRL φ r s
end

def Phi.le (φ φ' : Phi) : Prop := ∀ n l, φ n = some l → φ' n = some l
theorem Phi.le.refl (φ : Phi) : φ.le φ := fun _ _ h => h
theorem Phi.le.trans {a b c : Phi} (h : a.le b) (h' : b.le c) : a.le c := fun n l e => h' n l (h n l e)

section
variable {φ φ' : Phi}

theorem FnR.mono (h : φ.le φ') {f g : Fn} (hr : FnR φ f g) : FnR φ' f g := by
  cases f <;> simp only [FnR] at hr ⊢
  case yield n => obtain ⟨l, h1, h2, h3⟩ := hr; exact ⟨l, h _ _ h1, h2, h3⟩
  all_goals exact hr

mutual
theorem VR.mono (h : φ.le φ') : ∀ (a : AV) (v : Value), VR φ a v → VR φ' a v
  | .bool _, _, hr | .int _ _, _, hr | .str _, _, hr | .null, _, hr | .nilSlice, _, hr | .nilFunc, _, hr | .nilIface, _, hr => by simpa only [VR] using hr
  | .ptr n off, v, hr => by
    simp only [VR] at hr ⊢
    obtain ⟨l, h1, h2⟩ := hr; exact ⟨l, h _ _ h1, h2⟩
  | .slice n off len lo ex esz, v, hr => by
    simp only [VR] at hr ⊢
    obtain ⟨l, a, c, h1, h2⟩ := hr; exact ⟨l, a, c, h _ _ h1, h2⟩
  | .func f xs ys, v, hr => by
    simp only [VR] at hr ⊢
    obtain ⟨g, us, vs, h1, h2, h3, h4⟩ := hr
    exact ⟨g, us, vs, h1, h2.mono h, VRL.mono h _ _ h3, VRL.mono h _ _ h4⟩
  | .iface t a, v, hr => by
    simp only [VR] at hr ⊢
    obtain ⟨u, h1, h2⟩ := hr; exact ⟨u, h1, VR.mono h _ _ h2⟩
  | .agg cs, v, hr => by
    simp only [VR] at hr ⊢
    obtain ⟨u, h1, h2⟩ := hr; exact ⟨u, h1, VRL.mono h _ _ h2⟩
  | .tuple cs, v, hr => by
    simp only [VR] at hr ⊢
    obtain ⟨u, h1, h2⟩ := hr; exact ⟨u, h1, VRL.mono h _ _ h2⟩
theorem VRL.mono (h : φ.le φ') : ∀ (a : List AV) (v : List Value), VRL φ a v → VRL φ' a v
  | [], v, hr => by simpa only [VRL] using hr
  | a :: r, v, hr => by
    simp only [VRL] at hr ⊢
    obtain ⟨u, s, h1, h2, h3⟩ := hr; exact ⟨u, s, h1, VR.mono h _ _ h2, VRL.mono h _ _ h3⟩
end

theorem VRL.nil : VRL φ [] [] := by simp [VRL]
theorem VRL.cons {a : AV} {r : List AV} {v : Value} {s : List Value} (h : VR φ a v) (h' : VRL φ r s) : VRL φ (a :: r) (v :: s) := by
  simp only [VRL]; exact ⟨v, s, rfl, h, h'⟩
theorem VRL.cons_inv {a : AV} {r : List AV} {v : Value} {s : List Value} (h : VRL φ (a :: r) (v :: s)) : VR φ a v ∧ VRL φ r s := by
  simp only [VRL] at h
  obtain ⟨u, t, e, h1, h2⟩ := h; cases e; exact ⟨h1, h2⟩
theorem VRL.nil_inv {s : List Value} (h : VRL φ [] s) : s = [] := by simpa [VRL] using h
theorem VRL.cons_out {a : AV} {r : List AV} {l : List Value} (h : VRL φ (a :: r) l) : ∃ v s, l = v :: s ∧ VR φ a v ∧ VRL φ r s := by simpa only [VRL] using h

theorem VRL.length : ∀ {a : List AV} {v : List Value}, VRL φ a v → v.length = a.length
  | [], v, h => by rw [h.nil_inv]; rfl
  | a :: r, v, h => by
    obtain ⟨u, s, rfl, _, h2⟩ := h.cons_out
    simp [h2.length]
theorem VRL.get : ∀ {a : List AV} {v : List Value}, VRL φ a v → ∀ (i : Nat) (x : AV), a[i]? = some x → ∃ u, v[i]? = some u ∧ VR φ x u
  | [], v, h, i, x, hx => by simp at hx
  | a :: r, v, h, i, x, hx => by
    obtain ⟨u, s, rfl, h1, h2⟩ := h.cons_out
    cases i with
    | zero => simp at hx; subst hx; exact ⟨u, rfl, h1⟩
    | succ i => simpa using h2.get i x (by simpa using hx)
theorem VRL.append : ∀ {a b : List AV} {v u : List Value}, VRL φ a v → VRL φ b u → VRL φ (a ++ b) (v ++ u)
  | [], b, v, u, h, h' => by rw [h.nil_inv]; exact h'
  | a :: r, b, v, u, h, h' => by
    obtain ⟨x, s, rfl, h1, h2⟩ := h.cons_out
    exact .cons h1 (h2.append h')
theorem VRL.take : ∀ {a : List AV} {v : List Value} (k : Nat), VRL φ a v → VRL φ (a.take k) (v.take k)
  | _, _, 0, _ => by simpa using VRL.nil
  | [], v, k + 1, h => by rw [h.nil_inv]; simpa using VRL.nil
  | a :: r, v, k + 1, h => by
    obtain ⟨x, s, rfl, h1, h2⟩ := h.cons_out
    exact .cons h1 (h2.take k)
theorem VRL.drop : ∀ {a : List AV} {v : List Value} (k : Nat), VRL φ a v → VRL φ (a.drop k) (v.drop k)
  | _, _, 0, h => by simpa using h
  | [], v, k + 1, h => by rw [h.nil_inv]; simpa using VRL.nil
  | a :: r, v, k + 1, h => by
    obtain ⟨x, s, rfl, h1, h2⟩ := h.cons_out
    exact h2.drop k

theorem VR.undef : VR φ .undef Go.undef := by
  simp only [AV.undef, Go.undef, VR]; exact ⟨#[], rfl, VRL.nil⟩

/-- A plain constant is itself. -/
theorem cvS_VR {v : Value} {a : AV} (h : cvS v = some a) : VR φ a v := by
  unfold cvS at h
  split at h <;> (cases h <;> simp only [VR])
theorem cvL_VR : ∀ {l : List Value} {as : List AV}, cvL l = some as → VRL φ as l
  | [], as, h => by simp [cvL] at h; subst h; exact .nil
  | v :: r, as, h => by
    unfold cvL at h
    split at h
    · rename_i a as' h1 h2
      cases h
      exact .cons (cvS_VR h1) (cvL_VR h2)
    · cases h
theorem cv_VR {v : Value} {a : AV} (h : cv v = some a) : VR φ a v := by
  unfold cv at h
  split at h
  · rename_i cs
    cases h1 : cvL cs.toList with
    | none => rw [h1] at h; cases h
    | some as =>
      rw [h1] at h; cases h
      simp only [VR]; exact ⟨cs, rfl, cvL_VR h1⟩
  · exact cvS_VR h

theorem VR.cells {a : AV} {v : Value} (h : VR φ a v) : VRL φ a.cells v.cells.toList := by
  cases a <;> simp only [VR] at h
  case agg cs => obtain ⟨us, rfl, h⟩ := h; exact h
  case iface t a => obtain ⟨u, rfl, h⟩ := h; exact .cons (by simp only [VR]; exact ⟨u, rfl, h⟩) .nil
  case tuple cs => obtain ⟨us, rfl, h⟩ := h; exact .cons (by simp only [VR]; exact ⟨us, rfl, h⟩) .nil
  all_goals (first
    | (subst h; exact .cons (by simp only [VR]) .nil)
    | (obtain ⟨l, h1, rfl⟩ := h; exact .cons (by simp only [VR]; exact ⟨l, h1, rfl⟩) .nil)
    | (obtain ⟨l, a, c, h1, rfl, h2⟩ := h; exact .cons (by simp only [VR]; exact ⟨l, a, c, h1, rfl, h2⟩) .nil)
    | (obtain ⟨g, us, vs, rfl, h2⟩ := h; exact .cons (by simp only [VR]; exact ⟨g, us, vs, rfl, h2⟩) .nil))

theorem VR.scalar {a : AV} {v : Value} (h : VR φ a v) (hs : a.scalar = true) : v.oneCell' = true := by
  cases a <;> simp only [VR] at h <;> simp only [AV.scalar] at hs
  case agg => cases hs
  case tuple => cases hs
  case iface t a => obtain ⟨u, rfl, h⟩ := h; rfl
  all_goals (first
    | (subst h; rfl)
    | (obtain ⟨l, h1, rfl⟩ := h; rfl)
    | (obtain ⟨l, a, c, h1, rfl, h2⟩ := h; rfl)
    | (obtain ⟨g, us, vs, rfl, h2⟩ := h; rfl))
theorem VRL.scalar : ∀ {a : List AV} {v : List Value}, VRL φ a v → allScalar a = true → ∀ u ∈ v, u.oneCell' = true
  | [], v, h, _, u, hu => by rw [h.nil_inv] at hu; cases hu
  | a :: r, v, h, hs, u, hu => by
    obtain ⟨x, s, rfl, h1, h2⟩ := h.cons_out
    simp only [allScalar, Bool.and_eq_true] at hs
    rcases List.mem_cons.1 hu with rfl | hu
    · exact h1.scalar hs.1
    · exact h2.scalar hs.2 u hu
end

/-- A frame's slots. -/
def TR (φ : Phi) (nt : Nat) (t : T AV) (a : Array Value) : Prop := a.size = nt ∧ ∀ i, i < nt → VR φ ((t.get i).getD .undef) (a.getD i Go.undef)

theorem TR.mono {φ φ' : Phi} (h : φ.le φ') {nt : Nat} {t : T AV} {a : Array Value} (hr : TR φ nt t a) : TR φ' nt t a := ⟨hr.1, fun i hi => VR.mono h _ _ (hr.2 i hi)⟩

def BlkR (own : Prop) (φ : Phi) (w : World) (l : Loc) : ABlk → Prop
  | .cells vs _ => ∃ c el fz, w.heap[l.b]? = some (.cells c el fz) ∧ (own → fz = (0, 0)) ∧ c.size = l.size ∧ l.o + vs.length ≤ l.size ∧ VRL φ vs ((c.toList.drop l.o).take vs.length)
  | .loop st pend fn tmps nt ps a b d => l.o = 0 ∧ ∃ tm ld, w.heap[l.b]? = some (.loop { state := st, pending := pend, fn := fn, tmps := tm, params := ps.toArray, assign := a, body := b, defers := ld }) ∧ (∃ x, φ d = some x ∧ x.b = ld ∧ x.o = 0) ∧ TR φ nt tmps tm
  | .deferred taken => l.o = 0 ∧ w.heap[l.b]? = some (.deferred (if taken then none else some []))

theorem BlkR.weak {own : Prop} {φ : Phi} {w : World} {l : Loc} {b : ABlk} (hr : BlkR True φ w l b) : BlkR own φ w l b := by
  cases b with
  | cells vs e => obtain ⟨c, el, fz, h1, h2, h3⟩ := hr; exact ⟨c, el, fz, h1, fun _ => h2 trivial, h3⟩
  | _ => exact hr

theorem BlkR.mono {own : Prop} {φ φ' : Phi} (h : φ.le φ') {w w' : World} {l : Loc} {b : ABlk} (hw : w'.heap[l.b]? = w.heap[l.b]?) (hr : BlkR own φ w l b) : BlkR own φ' w' l b := by
  cases b with
  | cells vs e =>
    obtain ⟨c, el, fz, h1, h2, h3, h4, h5⟩ := hr
    exact ⟨c, el, fz, hw.trans h1, h2, h3, h4, VRL.mono h _ _ h5⟩
  | loop st pend fn tmps nt ps a b d =>
    obtain ⟨h0, tm, ld, h1, ⟨x, h2, h3, h3'⟩, h4⟩ := hr
    exact ⟨h0, tm, ld, hw.trans h1, ⟨x, h _ _ h2, h3, h3'⟩, h4.mono h⟩
  | deferred taken => exact ⟨hr.1, hw.trans hr.2⟩

/-- The abstract heap tells of the world; whatever lay ahead of it lies as it lay. -/
structure Inv (w0 : World) (L0 : Nat) (φ : Phi) (H : T ABlk) (w : World) : Prop where
  blk : ∀ n b, H.get n = some b → ∃ l, φ n = some l ∧ BlkR (L0 ≤ n) φ w l b
  inj : ∀ n m b b' l l', H.get n = some b → H.get m = some b' → φ n = some l → φ m = some l' → l.b = l'.b → n = m
  low : ∀ n l, φ n = some l → L0 ≤ n → w0.heap.size ≤ l.b
  old : ∀ k : Nat, k < w0.heap.size → w.heap[k]? = w0.heap[k]?
  size : w0.heap.size ≤ w.heap.size
  inb : ∀ n l, φ n = some l → l.b < w.heap.size
  os : w.os = w0.os
  out : w.output = w0.output
  fz : ∀ (k : Nat) (c : Array Value) (el : TypeId) (f : Nat × Nat), w0.heap.size ≤ k → w.heap[k]? = some (.cells c el f) → f = (0, 0)

theorem BlkR.fz {φ : Phi} {w : World} {l : Loc} {b : ABlk} (hr : BlkR True φ w l b) (c : Array Value) (el : TypeId) (f : Nat × Nat) (h : w.heap[l.b]? = some (.cells c el f)) : f = (0, 0) := by
  cases b with
  | cells vs e => obtain ⟨c', el', fz, h1, h2, h3⟩ := hr; rw [h1] at h; cases h; exact h2 trivial
  | loop st pend fn tmps nt ps a b d => obtain ⟨h0, tm, ld, h1, _⟩ := hr; rw [h1] at h; cases h
  | deferred taken => rw [hr.2] at h; cases h

section
variable {w0 : World} {L0 : Nat} {φ φ' : Phi} {H H' : T ABlk} {w w' : World}

theorem Inv.change (h : Inv w0 L0 φ H w) (hle : φ.le φ')
    (keep : ∀ n b, H'.get n = some b → (H.get n = some b ∧ ∀ l, φ n = some l → w'.heap[l.b]? = w.heap[l.b]?) ∨
      (∃ l, φ' n = some l ∧ BlkR True φ' w' l b ∧ ∀ m b' l', m ≠ n → H'.get m = some b' → φ' m = some l' → l'.b ≠ l.b))
    (low : ∀ n l, φ' n = some l → L0 ≤ n → w0.heap.size ≤ l.b) (old : ∀ k : Nat, k < w0.heap.size → w'.heap[k]? = w.heap[k]?)
    (size : w.heap.size ≤ w'.heap.size) (inb : ∀ n l, φ' n = some l → l.b < w'.heap.size) (os : w'.os = w.os) (out : w'.output = w.output)
    (fz : ∀ (k : Nat) (c : Array Value) (el : TypeId) (f : Nat × Nat), w0.heap.size ≤ k → w'.heap[k]? = some (.cells c el f) → f = (0, 0)) : Inv w0 L0 φ' H' w' where
  fz := fz
  blk n b hb := by
    rcases keep n b hb with ⟨h1, h2⟩ | ⟨l, h1, h2, _⟩
    · obtain ⟨l, e, hr⟩ := h.blk n b h1
      exact ⟨l, hle _ _ e, hr.mono hle (h2 l e)⟩
    · exact ⟨l, h1, h2.weak⟩
  inj n m b b' l l' hn hm en em hbb := by
    by_cases hnm : n = m
    · exact hnm
    · rcases keep n b hn with ⟨h1, _⟩ | ⟨k, k1, _, k3⟩
      · rcases keep m b' hm with ⟨h2, _⟩ | ⟨k, k1, _, k3⟩
        · obtain ⟨x, ex, _⟩ := h.blk n b h1
          obtain ⟨y, ey, _⟩ := h.blk m b' h2
          have e1 : x = l := Option.some.inj ((hle _ _ ex).symm.trans en)
          have e2 : y = l' := Option.some.inj ((hle _ _ ey).symm.trans em)
          subst e1; subst e2
          exact h.inj n m b b' x y h1 h2 ex ey hbb
        · have e : k = l' := Option.some.inj (k1.symm.trans em)
          subst e
          exact absurd hbb (k3 n b l hnm hn en)
      · have e : k = l := Option.some.inj (k1.symm.trans en)
        subst e
        exact absurd hbb.symm (k3 m b' l' (fun e => hnm e.symm) hm em)
  low := low
  old k hk := (old k hk).trans (h.old k hk)
  size := Nat.le_trans h.size size
  inb := inb
  os := os.trans h.os
  out := out.trans h.out

/-- Draws turn nothing of it. -/
theorem Inv.heap_eq (h : Inv w0 L0 φ H w) (e : w'.heap = w.heap) (os : w'.os = w.os) (out : w'.output = w.output) : Inv w0 L0 φ H w' :=
  h.change (Phi.le.refl φ) (fun n b hb => .inl ⟨hb, fun _ _ => by rw [e]⟩) h.low (fun _ _ => by rw [e]) (by rw [e]; exact Nat.le_refl _) (fun n l hl => by rw [e]; exact h.inb n l hl) os out (fun k c el f hk hh => h.fz k c el f hk (by rw [← e]; exact hh))

def Phi.put (φ : Phi) (n : Nat) (l : Loc) : Phi := fun m => if m = n then some l else φ m
theorem Phi.put_self (φ : Phi) (n : Nat) (l : Loc) : φ.put n l n = some l := if_pos rfl
theorem Phi.le_put {φ : Phi} {n : Nat} {l : Loc} (h : φ n = none) : φ.le (φ.put n l) := fun m x hx => by
  unfold Phi.put
  rw [if_neg (fun e => by rw [e, h] at hx; cases hx)]
  exact hx

/-- A run reaches a later map: new names alone, and those from a to b. -/
def Ext (φ φ' : Phi) (a b : Nat) : Prop := φ.le φ' ∧ ∀ n, φ' n ≠ φ n → a ≤ n ∧ n < b
theorem Ext.refl (φ : Phi) (a b : Nat) : Ext φ φ a b := ⟨Phi.le.refl φ, fun _ h => absurd rfl h⟩
theorem Ext.trans {φ φ' φ'' : Phi} {a b c d e : Nat} (h : Ext φ φ' a b) (h' : Ext φ' φ'' c d) (h1 : e ≤ a) (h2 : e ≤ c) {f : Nat} (h3 : b ≤ f) (h4 : d ≤ f) : Ext φ φ'' e f :=
  ⟨h.1.trans h'.1, fun n hn => by
    by_cases e1 : φ' n = φ n
    · obtain ⟨x, y⟩ := h'.2 n (by rw [e1]; exact hn); omega
    · obtain ⟨x, y⟩ := h.2 n e1; omega⟩
theorem Ext.put {φ : Phi} {n : Nat} {l : Loc} (h : φ n = none) : Ext φ (φ.put n l) n (n + 1) := ⟨Phi.le_put h, fun m hm => by
  unfold Phi.put at hm
  by_cases e : m = n
  · omega
  · rw [if_neg e] at hm; exact absurd rfl hm⟩

def Fresh (φ : Phi) (a b : Nat) : Prop := ∀ n, a ≤ n → n < b → φ n = none
theorem Fresh.sub {φ : Phi} {a b c d : Nat} (h : Fresh φ a b) (h1 : a ≤ c) (h2 : d ≤ b) : Fresh φ c d := fun n hn hl => h n (by omega) (by omega)
theorem Fresh.ext {φ φ' : Phi} {a b c d : Nat} (h : Fresh φ c d) (he : Ext φ φ' a b) (hd : b ≤ c ∨ d ≤ a) : Fresh φ' c d := fun n hn hl => by
  by_cases e : φ' n = φ n
  · rw [e]; exact h n hn hl
  · have := he.2 n e; omega

theorem heap_alloc_at (w : World) (o : Obj) : (w.alloc o).heap[w.heap.size]? = some o := by simp only [World.alloc]; exact Array.getElem?_push_size
theorem heap_alloc_lt (w : World) (o : Obj) {k : Nat} (h : k < w.heap.size) : (w.alloc o).heap[k]? = w.heap[k]? := by
  simp only [World.alloc]; rw [Array.getElem?_push, if_neg (by omega)]

/-- A new block. -/
theorem Inv.alloc (h : Inv w0 L0 φ H w) {n : Nat} (hn : φ n = none) (o : Obj) (b : ABlk) (sz : Nat)
    (hb : BlkR True (φ.put n ⟨w.heap.size, 0, sz⟩) (w.alloc o) ⟨w.heap.size, 0, sz⟩ b) : Inv w0 L0 (φ.put n ⟨w.heap.size, 0, sz⟩) (H.set n (some b)) (w.alloc o) := by
  have put_ne : ∀ m, m ≠ n → (φ.put n ⟨w.heap.size, 0, sz⟩) m = φ m := fun m hm => if_neg hm
  refine h.change (Phi.le_put hn) (fun m b' hm => ?_) (fun m l hm hL => ?_) (fun k hk => heap_alloc_lt w o (Nat.lt_of_lt_of_le hk h.size)) (by simp) (fun m l hm => ?_) rfl rfl (fun k c el f hk hh => ?_)
  · by_cases e : m = n
    · subst e
      rw [T.get_set_self] at hm; cases hm
      refine .inr ⟨_, Phi.put_self _ _ _, hb, fun k b' l' hk hk' hl' => ?_⟩
      rw [put_ne k hk] at hl'
      have := h.inb k l' hl'
      show l'.b ≠ w.heap.size
      omega
    · rw [T.get_set_ne _ _ e] at hm
      exact .inl ⟨hm, fun l hl => heap_alloc_lt w o (h.inb m l hl)⟩
  · by_cases e : m = n
    · subst e; rw [Phi.put_self] at hm; cases hm; exact h.size
    · rw [put_ne m e] at hm; exact h.low m l hm hL
  · by_cases e : m = n
    · subst e; rw [Phi.put_self] at hm; cases hm; simp
    · rw [put_ne m e] at hm; have := h.inb m l hm; simp; omega
  · rcases Nat.lt_trichotomy k w.heap.size with hlt | rfl | hgt
    · rw [heap_alloc_lt w o hlt] at hh; exact h.fz k c el f hk hh
    · exact hb.fz c el f hh
    · rw [Array.getElem?_eq_none (by simp; omega)] at hh; cases hh

/-- One block is written. -/
theorem Inv.write (h : Inv w0 L0 φ H w) {n : Nat} {b0 b : ABlk} {l : Loc} (hn : H.get n = some b0) (hL : L0 ≤ n) (hl : φ n = some l)
    (hheap : ∀ k : Nat, k ≠ l.b → w'.heap[k]? = w.heap[k]?) (hsize : w'.heap.size = w.heap.size) (os : w'.os = w.os) (out : w'.output = w.output)
    (hb : BlkR True φ w' l b) : Inv w0 L0 φ (H.set n (some b)) w' := by
  have hlow := h.low n l hl hL
  refine h.change (Phi.le.refl φ) (fun m b' hm => ?_) h.low (fun k hk => hheap k (by omega)) (by omega) (fun m l' hm => by rw [hsize]; exact h.inb m l' hm) os out (fun k c el f hk hh => by
    by_cases ek : k = l.b
    · subst ek; exact hb.fz c el f hh
    · rw [hheap k ek] at hh; exact h.fz k c el f hk hh)
  by_cases e : m = n
  · subst e
    rw [T.get_set_self] at hm; cases hm
    refine .inr ⟨l, hl, hb, fun k b' l' hk hk' hl' e => hk ?_⟩
    rw [T.get_set_ne _ _ hk] at hk'
    exact h.inj k m b' b0 l' l hk' hn hl' hl e
  · rw [T.get_set_ne _ _ e] at hm
    refine .inl ⟨hm, fun l' hl' => hheap _ fun e' => e ?_⟩
    exact h.inj m n b' b0 l' l hm hn hl' hl e'

/-- A name dies. -/
theorem Inv.kill (h : Inv w0 L0 φ H w) (n : Nat) : Inv w0 L0 φ (H.set n none) w :=
  h.change (Phi.le.refl φ) (fun m b hm => by
    by_cases e : m = n
    · subst e; rw [T.get_set_self] at hm; cases hm
    · rw [T.get_set_ne _ _ e] at hm; exact .inl ⟨hm, fun _ _ => rfl⟩) h.low (fun _ _ => rfl) (Nat.le_refl _) h.inb rfl rfl h.fz

/-- A new name takes over a block whose name died, and writes it. -/
theorem Inv.take (h : Inv w0 L0 φ H w) {n m : Nat} {b0 b : ABlk} {l l' : Loc} (hn : H.get n = some b0) (hL : L0 ≤ n) (hl : φ n = some l) (hm : φ m = none) (hb' : l'.b = l.b)
    (hheap : ∀ k : Nat, k ≠ l.b → w'.heap[k]? = w.heap[k]?) (hsize : w'.heap.size = w.heap.size) (os : w'.os = w.os) (out : w'.output = w.output)
    (hb : BlkR True (φ.put m l') w' l' b) : Inv w0 L0 (φ.put m l') ((H.set n none).set m (some b)) w' := by
  have hlow := h.low n l hl hL
  have hnm : n ≠ m := fun e => by rw [← e, hl] at hm; cases hm
  have put_ne : ∀ k, k ≠ m → (φ.put m l') k = φ k := fun k hk => if_neg hk
  refine h.change (Phi.le_put hm) (fun k b' hk => ?_) (fun k x hk hLk => ?_) (fun k hk => hheap k (by omega)) (by omega) (fun k x hk => ?_) os out (fun k c el f hk hh => by
    by_cases ek : k = l.b
    · rw [ek, ← hb'] at hh; exact hb.fz c el f hh
    · rw [hheap k ek] at hh; exact h.fz k c el f hk hh)
  · by_cases e : k = m
    · subst e
      rw [T.get_set_self] at hk; cases hk
      refine .inr ⟨l', Phi.put_self _ _ _, hb, fun j b' x hj hj' hx e => ?_⟩
      rw [T.get_set_ne _ _ hj] at hj'
      rw [put_ne j hj] at hx
      by_cases ej : j = n
      · subst ej; rw [T.get_set_self] at hj'; cases hj'
      · rw [T.get_set_ne _ _ ej] at hj'
        exact ej (h.inj j n b' b0 x l hj' hn hx hl (e.trans hb'))
    · rw [T.get_set_ne _ _ e] at hk
      by_cases ej : k = n
      · subst ej; rw [T.get_set_self] at hk; cases hk
      · rw [T.get_set_ne _ _ ej] at hk
        exact .inl ⟨hk, fun x hx => hheap _ fun e' => ej (h.inj k n b' b0 x l hk hn hx hl e')⟩
  · by_cases e : k = m
    · subst e; rw [Phi.put_self] at hk; cases hk; rw [hb']; exact hlow
    · rw [put_ne k e] at hk; exact h.low k x hk hLk
  · by_cases e : k = m
    · subst e; rw [Phi.put_self] at hk; cases hk; rw [hb', hsize]; exact h.inb n l hl
    · rw [put_ne k e] at hk; rw [hsize]; exact h.inb k x hk
end
end AM
