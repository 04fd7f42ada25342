/-
  An abstract machine for closed runs of Go programs in the model: its definition. (part AmDef). Conditions: none; no premise beyond what each theorem states.
-/
import GoSem.Step
namespace AM
open Go

/-! A finite map from numbers, as a binary tree. -/
inductive T (α : Type) where
  | nil
  | node (l : T α) (v : Option α) (r : T α)

def T.get {α : Type} : T α → Nat → Option α
  | .nil, _ => none
  | .node _ v _, 0 => v
  | .node l _ r, m + 1 => bif Nat.beq (m % 2) 0 then l.get (m / 2) else r.get (m / 2)

def T.setF {α : Type} : Nat → T α → Nat → Option α → T α
  | 0, t, _, _ => t
  | _ + 1, .nil, 0, a => .node .nil a .nil
  | f + 1, .nil, m + 1, a => bif Nat.beq (m % 2) 0 then .node (T.setF f .nil (m / 2) a) none .nil else .node .nil none (T.setF f .nil (m / 2) a)
  | _ + 1, .node l _ r, 0, a => .node l a r
  | f + 1, .node l v r, m + 1, a => bif Nat.beq (m % 2) 0 then .node (T.setF f l (m / 2) a) v r else .node l v (T.setF f r (m / 2) a)

def T.set {α : Type} (t : T α) (n : Nat) (a : Option α) : T α := T.setF (n + 1) t n a

/-- Values: addresses bear names of blocks; a slice knows a lower bound of its capacity, and whether that is exact. -/
inductive AV where
  | bool (b : Bool)
  | int (k : IntKind) (n : Int)
  | str (s : ByteArray)
  | ptr (n off : Nat)
  | null
  | slice (n off len lo : Nat) (exact : Bool) (esz : Nat)
  | nilSlice
  | func (fn : Fn) (first captured : List AV)
  | nilFunc
  | iface (t : TypeId) (v : AV)
  | nilIface
  | agg (cs : List AV)
  | tuple (vs : List AV)

def AV.undef : AV := .tuple []

def AV.cells : AV → List AV
  | .agg cs => cs
  | v => [v]

def AV.scalar : AV → Bool
  | .agg _ | .tuple _ => false
  | _ => true

/-- A plain constant. -/
def cvS : Value → Option AV
  | .bool b => some (.bool b)
  | .int k n => some (.int k n)
  | .string s => some (.str s)
  | .pointer none => some .null
  | .slice none 0 0 => some .nilSlice
  | .nilFunc => some .nilFunc
  | .nilIface => some .nilIface
  | _ => none

def cvL : List Value → Option (List AV)
  | [] => some []
  | v :: r => match cvS v, cvL r with
    | some a, some as => some (a :: as)
    | _, _ => none

def cv : Value → Option AV
  | .agg cs => (cvL cs.toList).map .agg
  | v => cvS v

inductive ADef where
  | call (fn : Fn) (captured : List AV) (args : List AV)
  | collected (r : Nat)

inductive ABlk where
  | cells (vs : List AV) (e : TypeId)
  | loop (st : LoopState) (pending : Option Code) (fn : FuncId) (tmps : T AV) (nt : Nat) (params : List Tmp) (assign body : Code) (defers : Nat)
  | deferred (taken : Bool)

structure St where
  H : T ABlk
  nx : Nat

structure Ctx where
  lock : Nat
  locks : List Nat
  forb : List (Nat × Nat)
  only : Option (List Nat × Nat)

def Ctx.at (n : Nat) : Ctx := ⟨n, [], [], none⟩

def inForb : List (Nat × Nat) → Nat → Bool
  | [], _ => false
  | (a, b) :: r, n => (Nat.ble a n && Nat.blt n b) || inForb r n

def memN : List Nat → Nat → Bool
  | [], _ => false
  | a :: r, n => Nat.beq a n || memN r n

def Ctx.canRead (x : Ctx) (n : Nat) : Bool := !inForb x.forb n && (match x.only with | none => true | some (l, c) => memN l n || Nat.ble c n)
def Ctx.canWrite (x : Ctx) (n : Nat) : Bool := Nat.ble x.lock n && !memN x.locks n && x.canRead n

def M (α : Type) : Type := Ctx → St → Option (α × St)

def M.pure {α : Type} (a : α) : M α := fun _ s => some (a, s)
def M.bind {α β : Type} (m : M α) (f : α → M β) : M β := fun x s => match m x s with
  | some (a, s') => f a x s'
  | none => none
instance : Monad M where
  pure := M.pure
  bind := M.bind
def M.fail {α : Type} : M α := fun _ _ => none
def M.of {α : Type} : Option α → M α
  | some a => M.pure a
  | none => M.fail
def M.guard (b : Bool) : M Unit := bif b then M.pure () else M.fail

def rd (n : Nat) : M ABlk := fun x s => bif x.canRead n && Nat.blt n s.nx then (match s.H.get n with | some b => some (b, s) | none => none) else none
def wr (n : Nat) (b : ABlk) : M Unit := fun x s => bif x.canWrite n && Nat.blt n s.nx then (match s.H.get n with | some _ => some ((), { s with H := s.H.set n (some b) }) | none => none) else none
def kill (n : Nat) : M Unit := fun x s => bif x.canWrite n && Nat.blt n s.nx then (match s.H.get n with | some _ => some ((), { s with H := s.H.set n none }) | none => none) else none
def nw (b : ABlk) : M Nat := fun x s => bif x.canRead s.nx then some (s.nx, ⟨s.H.set s.nx (some b), s.nx + 1⟩) else none
def getNx : M Nat := fun _ s => some (s.nx, s)

def rdCells (n : Nat) : M (List AV × TypeId) := do
  match ← rd n with
  | .cells vs e => M.pure (vs, e)
  | _ => M.fail

section
variable (P : Program)

def szT (t : TypeId) : Option Nat := (P.info? t).map (·.size)
def bytesT (t : TypeId) : Option Nat := (P.info? t).map (·.bytes)
def zeroT (t : TypeId) : Option AV := match P.info? t with
  | some i => match i.zero with
    | some v => cv v
    | none => none
  | none => none
def isAggT (t : TypeId) : Option Bool := match P.underlying t with
  | some (.struct _) => some true
  | some (.array _ _) => some true
  | some _ => some false
  | none => none

def sliceL (vs : List AV) (off n : Nat) : Option (List AV) := bif Nat.ble (off + n) vs.length then some ((vs.drop off).take n) else none

def loadVarA (t : TypeId) (n off : Nat) : M AV := do
  let (vs, _) ← rdCells n
  match isAggT P t, szT P t with
  | some true, some s => match sliceL vs off s with
    | some cs => M.pure (.agg cs)
    | none => M.fail
  | some false, _ => M.of vs[off]?
  | _, _ => M.fail

def putL (vs : List AV) (off : Nat) (cs : List AV) : Option (List AV) :=
  bif Nat.ble (off + cs.length) vs.length then some (vs.take off ++ (cs ++ vs.drop (off + cs.length))) else none

def allScalar : List AV → Bool
  | [] => true
  | v :: r => v.scalar && allScalar r

def storeCellsA (n off : Nat) (cs : List AV) : M Unit := do
  let (vs, e) ← rdCells n
  M.guard (allScalar cs)
  match putL vs off cs with
  | some vs' => wr n (.cells vs' e)
  | none => M.fail

def storeVarA (t : TypeId) (n off : Nat) (v : AV) : M Unit := do
  let s ← M.of (szT P t)
  M.guard (Nat.beq v.cells.length s)
  storeCellsA n off v.cells

def newVarA (t : TypeId) (v : AV) : M AV := do
  M.guard (allScalar v.cells)
  let n ← nw (.cells v.cells t)
  M.pure (.ptr n 0)

def partA (t : TypeId) (cs : List AV) (off : Nat) : Option AV :=
  match isAggT P t, szT P t with
  | some true, some s => (sliceL cs off s).map .agg
  | some false, _ => cs[off]?
  | _, _ => none

def fillA (place : Nat → Option (Nat × Nat)) (cells : List AV) : List (Nat × AV) → Option (List AV)
  | [] => some cells
  | (i, v) :: rest =>
    match place i with
    | none => none
    | some (off, size) =>
      bif Nat.beq v.cells.length size then
        match putL cells off v.cells with
        | some cs => fillA place cs rest
        | none => none
      else none

def repL {α : Type} : Nat → List α → List α
  | 0, _ => []
  | n + 1, l => l ++ repL n l

/-- What an operation comes to. -/
inductive ONext where
  | value (v : AV)
  | skip
  | panic (v : AV)
  | enter (f : FuncId) (args : List AV)
  | yield (l : Nat) (args : List AV)
  | defer (d : ADef)
  | recover

def asIntA : AV → Option Int
  | .int _ n => some n
  | _ => none

def ofSem : Sem Value → Option AV
  | .pure v => cvS v
  | _ => none

def eqFieldsA (part : TypeId → List AV → Nat → Option AV) (rec : TypeId → AV → AV → Option Bool) (xs ys : List AV) : List Field → Option Bool
  | [] => some true
  | f :: fs => bif f.name == "_" then none else
    match part f.type xs f.offset, part f.type ys f.offset with
    | some a, some b => match rec f.type a b with
      | some true => eqFieldsA part rec xs ys fs
      | some false => some false
      | none => none
    | _, _ => none

/-- Equality of numbers, bools, and of structs of such. -/
def eqF : Nat → TypeId → AV → AV → Option Bool
  | 0, _, _, _ => none
  | d + 1, t, x, y => match P.underlying t, x, y with
    | some (.int _), .int k a, .int k' b => bif decide (k = k') then some (a == b) else none
    | some .bool, .bool a, .bool b => some (a == b)
    | some (.struct fs), .agg xs, .agg ys => bif P.stoodInHeld t then none else eqFieldsA (partA P) (eqF d) xs ys fs.toList
    | _, _, _ => none

def eqA (t : TypeId) (x y : AV) : Option Bool := match P.underlying t, x, y with
  | some (.pointer _), .null, .null => some true
  | some (.pointer _), .ptr _ _, .null => some false
  | some (.pointer _), .null, .ptr _ _ => some false
  | some (.interface _), .iface _ _, .nilIface => some false
  | some (.interface _), .nilIface, .iface _ _ => some false
  | some (.slice _), .nilSlice, .nilSlice => some true
  | some (.slice _), .nilSlice, .slice _ _ _ _ _ _ => some false
  | some (.slice _), .slice _ _ _ _ _ _, .nilSlice => some false
  | some (.func _ _ _), .func _ _ _, .nilFunc => some false
  | some (.func _ _ _), .nilFunc, .nilFunc => some true
  | some (.struct _), .agg xs, .agg ys => bif P.eqGuardType P.depth t then none else eqF P 20 t (.agg xs) (.agg ys)
  | _, _, _ => none

def isConstO : Operand → Bool
  | .const _ => true
  | _ => false

def binOpA (op : BinOp) (t : TypeId) (xo yo : Operand) (x y : AV) : Option AV :=
  match x, y with
  | .int k a, .int k' b => ofSem (binOp op t (.int k a) (.int k' b))
  | .str a, .str b => ofSem (binOp op t (.string a) (.string b))
  | .bool a, .bool b => match op, P.underlying t with
    | .eql, some .bool => some (.bool (a == b))
    | .neq, some .bool => some (.bool (!(a == b)))
    | _, _ => none
  | .nilIface, .nilIface => match op, P.underlying t with
    | .eql, some (.interface _) => bif isConstO xo || isConstO yo then some (.bool true) else none
    | .neq, some (.interface _) => bif isConstO xo || isConstO yo then some (.bool false) else none
    | _, _ => none
  | x, y => match op with
    | .eql => (eqA P t x y).map .bool
    | .neq => (eqA P t x y).map fun b => .bool (!b)
    | _ => none

def sliceBoundA (d : Nat) : Option AV → Option Nat
  | none => some d
  | some (.int _ n) => bif decide (0 ≤ n) then some n.toNat else none
  | some _ => none

/-- x[low:high:max] of a slice of elements of so many cells. -/
def sliceOfA (size : Nat) (n off len lo : Nat) (exact : Bool) (low high max : Option AV) : Option AV :=
  match max with
  | some _ =>
    match sliceBoundA 0 max, high, sliceBoundA 0 high, sliceBoundA 0 low with
    | some m, some _, some h, some l =>
      bif Nat.ble m lo && Nat.ble h m && Nat.ble l h then some (.slice n (bif Nat.beq m l then off else off + l * size) (h - l) (m - l) true size) else none
    | _, _, _, _ => none
  | none =>
    match sliceBoundA len high, sliceBoundA 0 low with
    | some h, some l =>
      bif Nat.ble h lo && Nat.ble l h then some (.slice n (bif exact && Nat.beq lo l then off else off + l * size) (h - l) (lo - l) exact size) else none
    | _, _ => none

def sliceA (t : TypeId) (x : AV) (low high max : Option AV) : Option AV :=
  match P.underlying t, x with
  | some (.slice e), .slice b off len lo exact esz => match szT P e with
    | some size => bif Nat.beq size esz then sliceOfA size b off len lo exact low high max else none
    | none => none
  | some (.slice e), .nilSlice => match szT P e with
    | some _ => match sliceBoundA 0 low, sliceBoundA 0 high, max with
      | some 0, some 0, none => some .nilSlice
      | some 0, some 0, some mx => match sliceBoundA 0 (some mx), high with
        | some 0, some _ => some .nilSlice
        | _, _ => none
      | _, _, _ => none
    | none => none
  | _, _ => none

def lenA : AV → Option Nat
  | .slice _ _ len _ _ _ => some len
  | .nilSlice => some 0
  | .str s => some s.size
  | _ => none

/-- The first k elements' cells. -/
def firstCellsA (size k : Nat) : AV → M (List AV)
  | .slice n off len _ _ esz => do
    bif !(Nat.ble k len && Nat.beq size esz) then M.fail else bif Nat.beq k 0 then M.pure [] else do
      let (vs, _) ← rdCells n
      M.of (sliceL vs off (k * size))
  | .nilSlice => M.pure []
  | .str s => M.of (bif Nat.ble k s.size then some ((s.data.toList.take k).map fun b => .int .u8 b.toNat) else none)
  | _ => M.fail

def roomy (n : Nat) : Bool := Nat.ble n (2 ^ 40)

def isIntD : TypeDesc → Bool
  | .int _ => true
  | _ => false

def appCount (zeros : Bool) (x : AV) : Option Nat := bif zeros then (match x with
    | .int .i64 l => bif decide (0 ≤ l) then some l.toNat else none
    | _ => none) else lenA x

def appCells (zeros : Bool) (z : AV) (size n : Nat) (x : AV) : M (List AV) := bif zeros then M.pure (repL n z.cells) else firstCellsA size n x

def appendTo (e : TypeId) (size bytes n : Nat) (new : List AV) : AV → M AV
  | .nilSlice => bif Nat.beq n 0 then M.pure .nilSlice else do
      let b ← nw (.cells new e)
      M.pure (.slice b 0 n n false size)
  | .slice b off len lo exact esz => do
    M.guard (Nat.beq size esz && roomy ((len + n) * bytes) && roomy ((lo + 1) * bytes))
    bif Nat.ble (len + n) lo then
      bif Nat.beq n 0 then M.pure (.slice b off len lo exact esz) else do
        storeCellsA b (off + len * size) new
        M.pure (.slice b off (len + n) lo exact size)
    else bif exact then do
      let old ← firstCellsA size len (.slice b off len lo exact esz)
      let b' ← nw (.cells (old ++ new) e)
      M.pure (.slice b' 0 (len + n) (len + n) false size)
    else do
      let (vs, _) ← rdCells b
      let old ← M.of (sliceL vs off (len * size))
      kill b
      let b' ← nw (.cells (old ++ new) e)
      M.pure (.slice b' 0 (len + n) (len + n) false size)
  | _ => M.fail

def appendA (argTypes : Array TypeId) (args : List AV) : M AV := do
  match argTypes[0]?, argTypes[1]?, args with
  | some sT, some xT, [s, x] =>
    match P.underlying sT, P.underlying xT with
    | some (.slice e), some xd =>
      match szT P e, bytesT P e, zeroT P e with
      | some size, some bytes, some z => do
        let n ← M.of (appCount (isIntD xd) x)
        M.guard (Nat.ble 1 size && Nat.ble 1 bytes && Nat.beq z.cells.length size && roomy (n * bytes))
        let new ← appCells (isIntD xd) z size n x
        M.guard (allScalar new && Nat.beq new.length (n * size))
        appendTo e size bytes n new s
      | _, _, _ => M.fail
    | _, _ => M.fail
  | _, _, _ => M.fail

def copyA (argTypes : Array TypeId) (args : List AV) : M AV := do
  match argTypes[0]?, args with
  | some dT, [d, s] =>
    match P.underlying dT with
    | some (.slice e) =>
      match szT P e, lenA s with
      | some size, some ls =>
        match d with
        | .nilSlice => M.pure (.int .i64 0)
        | .slice b off len _ _ esz => do
          let k := Nat.min ls len
          M.guard (Nat.beq size esz)
          let cs ← firstCellsA size k s
          bif Nat.beq k 0 then M.pure (.int .i64 k) else do
            storeCellsA b off cs
            M.pure (.int .i64 k)
        | _ => M.fail
      | _, _ => M.fail
    | _ => M.fail
  | _, _ => M.fail

def clearA (argTypes : Array TypeId) (args : List AV) : M AV := do
  match argTypes[0]?, args with
  | some t, [d] =>
    match P.underlying t with
    | some (.slice e) =>
      match zeroT P e, d with
      | _, .nilSlice => M.pure .undef
      | some z, .slice b off len _ _ _ => do
        bif Nat.beq len 0 then M.pure .undef else do
          storeCellsA b off (repL len z.cells)
          M.pure .undef
      | _, _ => M.fail
    | _ => M.fail
  | _, _ => M.fail

def cvInts : List AV → Option (List Value)
  | [] => some []
  | .int k n :: r => (cvInts r).map (.int k n :: ·)
  | _ => none

def builtinA (b : Builtin) (argTypes : Array TypeId) (type : TypeId) (args : List AV) : M ONext :=
  let v (m : M AV) : M ONext := do M.pure (.value (← m))
  match b with
  | .append => v (appendA P argTypes args)
  | .copy => v (copyA P argTypes args)
  | .clear => v (clearA P argTypes args)
  | .len => match argTypes[0]?, args with
    | some t, [x] => match P.underlying t, x with
      | some (.array n _), _ => M.pure (.value (.int .i64 n))
      | some .string, .str s => M.pure (.value (.int .i64 s.size))
      | some (.slice _), .slice _ _ len _ _ _ => M.pure (.value (.int .i64 len))
      | some (.slice _), .nilSlice => M.pure (.value (.int .i64 0))
      | _, _ => M.fail
    | _, _ => M.fail
  | .cap => match argTypes[0]?, args with
    | some t, [x] => match P.underlying t, x with
      | some (.slice _), .slice _ _ _ lo true _ => M.pure (.value (.int .i64 lo))
      | some (.slice _), .nilSlice => M.pure (.value (.int .i64 0))
      | _, _ => M.fail
    | _, _ => M.fail
  | .max => match cvInts args with
    | some vs => match ofSem (Builtin.max_ argTypes type vs.toArray) with
      | some r => M.pure (.value r)
      | none => M.fail
    | none => M.fail
  | .min => match cvInts args with
    | some vs => match ofSem (Builtin.min_ argTypes type vs.toArray) with
      | some r => M.pure (.value r)
      | none => M.fail
    | none => M.fail
  | .recover => M.pure .recover
  | _ => M.fail

/-- A Go function that has a body. -/
def bodyOf (f : FuncId) : Option (Func × Code) := match P.funcs[f]? with
  | some fn => match fn.body with
    | some c => some (fn, c)
    | none => none
  | none => none

def placesT (t : TypeId) : Option (Nat → Option (Nat × Nat)) := match P.underlying t with
  | some (.array _ e) => match P.info? e with
    | some ie => some (fun i => some (i * ie.size, ie.size))
    | none => none
  | some (.struct fields) => match fields.toList.mapM (fun f => (P.info? f.type).map fun i => (f.offset, i.size)) with
    | some places => some (fun i => places.toArray[i]?)
    | none => none
  | _ => none

def partsA (ρ : Operand → Option AV) : List (Nat × Operand) → Option (List (Nat × AV))
  | [] => some []
  | (i, x) :: r => match ρ x, partsA ρ r with
    | some a, some as => some ((i, a) :: as)
    | _, _ => none

def argsA (ρ : Operand → Option AV) : List Operand → Option (List AV)
  | [] => some []
  | x :: r => match ρ x, argsA ρ r with
    | some a, some as => some (a :: as)
    | _, _ => none

def optA (ρ : Operand → Option AV) : Option Operand → Option (Option AV)
  | none => some none
  | some y => match ρ y with
    | some b => some (some b)
    | none => none

def execA (ρ : Operand → Option AV) (o : Oper) : M ONext := do
  let v (a : Option AV) : M ONext := match a with
    | some a => M.pure (.value a)
    | none => M.fail
  match o.op with
  | .move x | .assign x => v (ρ x)
  | .pick c a b => match ρ c with
    | some (.bool c) => v (bif c then ρ a else ρ b)
    | _ => M.fail
  | .alloc e => match zeroT P e with
    | some z => do M.pure (.value (← newVarA e z))
    | none => M.fail
  | .box e x => match ρ x with
    | some a => do M.pure (.value (← newVarA e a))
    | none => M.fail
  | .build t parts => do
    let ps ← M.of (partsA ρ parts.toList)
    let z ← M.of (zeroT P t)
    let pl ← M.of (placesT P t)
    v ((fillA pl z.cells ps).map .agg)
  | .buildSlice t len parts => do
    let ps ← M.of (partsA ρ parts.toList)
    match P.underlying t with
    | some (.slice e) => match szT P e, zeroT P e with
      | some s, some z => do
        M.guard (Nat.ble 1 s && Nat.beq z.cells.length s && Nat.ble (len * s) (2 ^ 24))
        let cs ← M.of (fillA (fun i => some (i * s, s)) (repL len z.cells) ps)
        M.guard (allScalar cs)
        let b ← nw (.cells cs e)
        M.pure (.value (.slice b 0 len len true s))
      | _, _ => M.fail
    | _ => M.fail
  | .load t a => match ρ a with
    | some (.ptr n off) => do M.pure (.value (← loadVarA P t n off))
    | _ => M.fail
  | .store t a x => match ρ a, ρ x with
    | some (.ptr n off), some w => do
      storeVarA P t n off w
      M.pure .skip
    | _, _ => M.fail
  | .nilCheck x => match ρ x with
    | some .null | some .nilIface | some .nilFunc => M.fail
    | some (.func (.method _) _ _) => M.fail
    | some a => M.pure (.value a)
    | none => M.fail
  | .binOp op t x y _ => match ρ x, ρ y with
    | some a, some b => v (binOpA P op t x y a b)
    | _, _ => M.fail
  | .unOp op _ x => match ρ x with
    | some (.int k n) => v (ofSem (Op.unary op (.int k n)))
    | some (.bool b) => v (ofSem (Op.unary op (.bool b)))
    | _ => M.fail
  | .convert s d x => match P.underlying s, P.underlying d, ρ x with
    | some (.int _), some (.int k), some (.int _ n) => v (some (.int k (k.wrap n)))
    | _, _, _ => M.fail
  | .makeInterface t x => match P.underlying t, ρ x with
    | some (.interface _), _ => M.fail
    | some _, some a => v (some (.iface t a))
    | _, _ => M.fail
  | .makeFunc fn first captured => do
    let fs ← M.of (argsA ρ first.toList)
    let cs ← M.of (argsA ρ captured.toList)
    M.guard (match fn with | .yield _ => false | _ => true)
    v (some (.func fn fs cs))
  | .makeSlice t l c => match P.underlying t, ρ l, ρ c with
    | some (.slice e), some (.int .i64 l), some (.int .i64 c) => match szT P e, bytesT P e, zeroT P e with
      | some s, some bytes, some z => do
        M.guard (decide (0 ≤ l) && decide (l ≤ c) && Nat.ble 1 s && Nat.beq z.cells.length s && roomy (c.toNat * bytes) && allScalar z.cells && Nat.ble 1 bytes)
        let b ← nw (.cells (repL c.toNat z.cells) e)
        M.pure (.value (.slice b 0 l.toNat c.toNat true s))
      | _, _, _ => M.fail
    | _, _, _ => M.fail
  | .slice t x lo hi mx => match ρ x, optA ρ lo, optA ρ hi, optA ρ mx with
    | some a, some l, some h, some m => v (sliceA P t a l h m)
    | _, _, _, _ => M.fail
  | .fieldAddr s x f => match P.underlying s, ρ x with
    | some (.struct fs), some (.ptr n off) => match fs[f]? with
      | some fd => match szT P fd.type with
        | some (_ + 1) => v (some (.ptr n (off + fd.offset)))
        | _ => M.fail
      | none => M.fail
    | _, _ => M.fail
  | .field t x f => match P.underlying t, ρ x with
    | some (.struct fs), some (.agg cs) => match fs[f]? with
      | some fd => v (partA P fd.type cs fd.offset)
      | none => M.fail
    | _, _ => M.fail
  | .indexAddr t x ix => match P.underlying t, ρ x, ρ ix with
    | some (.array len e), some (.ptr n off), some (.int _ i) => match szT P e with
      | some s => bif decide (0 ≤ i) && decide (i < len) then v (some (.ptr n (off + i.toNat * s))) else M.fail
      | none => M.fail
    | some (.slice e), some (.slice n off len _ _ esz), some (.int _ i) => match szT P e with
      | some s => bif Nat.beq s esz && decide (0 ≤ i) && decide (i < len) then v (some (.ptr n (off + i.toNat * s))) else M.fail
      | none => M.fail
    | _, _, _ => M.fail
  | .index t x ix => match P.underlying t, ρ x, ρ ix with
    | some (.array len e), some (.agg cs), some (.int _ i) => match szT P e with
      | some s => bif decide (0 ≤ i) && decide (i < len) then v (partA P e cs (i.toNat * s)) else M.fail
      | none => M.fail
    | some .string, some (.str s), some (.int _ i) => bif decide (0 ≤ i) then (match s.data.toList[i.toNat]? with | some b => v (some (.int .u8 b.toNat)) | none => M.fail) else M.fail
    | _, _, _ => M.fail
  | .typeAssert x _ asserted commaOk => match P.underlying asserted, ρ x with
    | some (.interface _), _ => M.fail
    | some _, some (.iface t a) => bif Nat.beq t asserted then v (some (bif commaOk then .tuple [a, .bool true] else a))
      else (bif commaOk then (match zeroT P asserted with | some z => v (some (.tuple [z, .bool false])) | none => M.fail) else M.fail)
    | _, _ => M.fail
  | .extract t i => match ρ t with
    | some (.tuple vs) => v vs[i]?
    | _ => M.fail
  | .call c => do
    let args ← M.of (argsA ρ c.args.toList)
    match c.callee with
    | .builtin b => builtinA P b c.argTypes o.type args
    | .value f => match ρ f with
      | some (.func (.func g) first captured) => match bodyOf P g with
        | some (fn, _) => bif fn.name == "runtime.NumGoroutine" then M.fail else M.pure (.enter g ((first ++ args) ++ captured))
        | none => M.fail
      | some (.func (.yield l) first _) => M.pure (.yield l (first ++ args))
      | _ => M.fail
    | _ => M.fail
  | .defer c => do
    let args ← M.of (argsA ρ c.args.toList)
    match c.callee with
    | .value f => match ρ f with
      | some (.func fn first captured) => M.pure (.defer (.call fn captured (first ++ args)))
      | _ => M.fail
    | _ => M.fail
  | .panic x => match ρ x with
    | some (.iface t a) => M.pure (.panic (.iface t a))
    | _ => M.fail
  | _ => M.fail

/-- What is left to do in a frame. -/
inductive AItem where
  | code (c : Code)
  | inBlock (id : Nat)
  | inLoop (c : Code)
  | inScope (c : Code)
  | ops (all : Array Oper) (rest : List Nat)
  | beginRound

structure Fr where
  fn : FuncId
  nt : Nat
  tmps : T AV
  todo : List AItem
  defers : List ADef
  round : Option Nat
  /-- of a deferred call: is it one, and the value that is panicking ahead of it -/
  dcall : Bool
  rcv : Option AV
  recd : Bool

def Fr.eval (fr : Fr) : Operand → Option AV
  | .tmp t => bif Nat.blt t fr.nt then some ((fr.tmps.get t).getD .undef) else none
  | .const v => cv v
  | .global g => bif Nat.blt g P.globals.size then some (.ptr g 0) else none
  | .func f => some (.func (.func f) [] [])

def Fr.put (fr : Fr) (dst : Option Tmp) (v : AV) : Option Fr := match dst with
  | none => some fr
  | some d => bif Nat.blt d fr.nt then some { fr with tmps := fr.tmps.set d (some v) } else none

inductive Leave where
  | ret
  | panic (v : AV)
  | jump (j : Option Code)

inductive Goal where
  | exec (fr : Fr)
  | call (f : FuncId) (args : List AV)
  | yield (l : Nat) (args : List AV)

inductive GRes where
  | left (l : Leave) (fr : Fr)
  | done (v : AV)
  | panicked (v : AV)

def yieldedA (ops : Array Oper) (fr : Fr) (j : Nat) : Option Bool := match ops[j]? with
  | some o => match o.dst with
    | some d => bif Nat.blt d fr.nt then (match (fr.tmps.get d).getD .undef with
      | .bool b => some b
      | _ => none) else none
    | none => none
  | none => none

def wantedA (ops : Array Oper) (fr : Fr) (o : Oper) : Bool := match o.guard with
  | none => true
  | some (j, want) => match yieldedA ops fr j with
    | some b => b == want
    | none => false

def exitToA (id : Nat) : List AItem → Option (List AItem)
  | .inBlock id' :: k => bif Nat.beq id' id then some k else exitToA id k
  | _ :: k => exitToA id k
  | [] => none

inductive SRes where
  | cont (fr : Fr)
  | left (l : Leave) (fr : Fr)

/-- One operation. -/
def doOp (rec : Goal → M GRes) (fr : Fr) (o : Oper) : M SRes := do
  let put (fr : Fr) (v : AV) : M SRes := match fr.put o.dst v with
    | some fr' => M.pure (.cont fr')
    | none => M.fail
  match ← execA P (fr.eval P) o with
  | .value v => put fr v
  | .skip => put fr .undef
  | .panic v => M.pure (.left (.panic v) fr)
  | .enter f args => match ← rec (.call f args) with
    | .done v => put fr v
    | .panicked v => M.pure (.left (.panic v) fr)
    | _ => M.fail
  | .yield l args => match ← rec (.yield l args) with
    | .done v => put fr v
    | .panicked v => M.pure (.left (.panic v) fr)
    | _ => M.fail
  | .defer d => match fr.round with
    | none => put { fr with defers := d :: fr.defers } .undef
    | some _ => M.fail
  | .recover => bif fr.dcall && (match fr.round with | none => true | some _ => false) then (match fr.rcv with
    | some v => put { fr with rcv := none, recd := true } v
    | none => put fr .nilIface) else M.fail

/-! A region whose order is drawn: it is run in the order of the text; each operation sees and writes no more than what keeps every order alike. -/
inductive Foot where
  | none
  | load (n : Nat)
  | store (n : Nat)
  | call

def touches : Op → Bool
  | .load _ _ | .store _ _ _ => true
  | .call c => match c.callee with
    | .builtin .len | .builtin .cap | .builtin .max | .builtin .min => false
    | _ => true
  | _ => false

def footOf (fr : Fr) (o : Oper) : Option Foot := match o.op with
  | .load _ a => match fr.eval P a with | some (.ptr n _) => some (.load n) | _ => none
  | .store _ a _ => match fr.eval P a with | some (.ptr n _) => some (.store n) | _ => none
  | .call c => match c.callee with
    | .builtin .len | .builtin .cap | .builtin .max | .builtin .min => some .none
    | .builtin .recover => none
    | _ => some .call
  | .defer _ | .panic _ => none
  | _ => some .none

structure Done where
  i : Nat
  lo : Nat
  hi : Nat
  foot : Foot

def ordered (bef : Array Nat) (i j : Nat) : Bool := Nat.testBit (bef.getD j 0) i

/-- Is a later operation, which is not ordered behind i, one that touches memory? -/
def laterTouch (ops : Array Oper) (bef : Array Nat) (i : Nat) : List Nat → Bool
  | [] => false
  | j :: r => (!ordered bef i j && (match ops[j]? with | some o => touches o.op | none => false)) || laterTouch ops bef i r

structure Need where
  forb : List (Nat × Nat)
  locks : List Nat
  full : Bool

def need (bef : Array Nat) (i : Nat) (foot : Foot) : List Done → Option Need
  | [] => some ⟨[], [], false⟩
  | d :: r => match need bef i foot r with
    | none => none
    | some q =>
      bif ordered bef d.i i then some q else
      let q := { q with forb := (d.lo, d.hi) :: q.forb }
      match foot, d.foot with
      | .none, _ | _, .none => some q
      | .load _, .load _ | .load _, .call => some q
      | .load n, .store m | .store n, .load m | .store n, .store m => bif Nat.beq n m then none else some q
      | .store _, .call | .call, .store _ => none
      | .call, .load m => some { q with locks := m :: q.locks }
      | .call, .call => some { q with full := true }

def opVal (rec : Goal → M GRes) (fr : Fr) (o : Oper) : M AV := do
  match ← execA P (fr.eval P) o with
  | .value v => M.pure v
  | .skip => M.pure .undef
  | .enter f args => match ← rec (.call f args) with
    | .done v => M.pure v
    | _ => M.fail
  | .yield l args => match ← rec (.yield l args) with
    | .done v => M.pure v
    | _ => M.fail
  | _ => M.fail

def footCtx (q : Need) (full : Bool) (foot : Foot) (x : Ctx) (nx : Nat) : Ctx := match foot with
  | .none => ⟨Nat.max nx x.lock, x.locks, q.forb ++ x.forb, some ([], nx)⟩
  | .load a => ⟨Nat.max nx x.lock, x.locks, q.forb ++ x.forb, some ([a], nx)⟩
  | .store a => ⟨x.lock, x.locks, q.forb ++ x.forb, some ([a], nx)⟩
  | .call => ⟨bif full then Nat.max nx x.lock else x.lock, q.locks ++ x.locks, q.forb ++ x.forb, none⟩

def under (f : Ctx → Nat → Ctx) {α : Type} (m : M α) : M α := fun x s => match x.only with
  | none => m (f x s.nx) s
  | some _ => none

def drawnOps (rec : Goal → M GRes) (ops : Array Oper) (bef : Array Nat) : List Nat → List Done → Fr → M Fr
  | [], _, fr => M.pure fr
  | i :: rest, ds, fr => match ops[i]? with
    | none => M.fail
    | some o =>
      bif wantedA ops fr o then do
        let foot ← M.of (footOf P fr o)
        let q ← M.of (need bef i foot ds)
        let full := q.full || (match foot with | .call => laterTouch ops bef i rest | _ => false)
        let lo ← getNx
        let v ← under (footCtx q full foot) (opVal P rec fr o)
        let hi ← getNx
        match fr.put o.dst v with
        | some fr' => drawnOps rec ops bef rest (⟨i, lo, hi, foot⟩ :: ds) fr'
        | none => M.fail
      else match fr.put o.dst .undef with
        | some fr' => drawnOps rec ops bef rest ds fr'
        | none => M.fail

def callish : Op → Bool
  | .load _ _ | .store _ _ _ => false
  | op => touches op

def findOp (ops : Array Oper) (bef : Array Nat) (done : Nat) (calls : Bool) : List Nat → Option Nat
  | [] => none
  | i :: r => bif !(Nat.testBit done i) && Nat.beq (Nat.land (bef.getD i 0) done) (bef.getD i 0) && (calls || !(match ops[i]? with | some o => callish o.op | none => false)) then some i else findOp ops bef done calls r

/-- An order of a drawn region's operations: calls as late as may be. -/
def greedy (ops : Array Oper) (bef : Array Nat) : Nat → Nat → List Nat
  | 0, _ => []
  | f + 1, done => match findOp ops bef done false (List.range ops.size) with
    | some i => i :: greedy ops bef f (Nat.lor done (2 ^ i))
    | none => match findOp ops bef done true (List.range ops.size) with
      | some i => i :: greedy ops bef f (Nat.lor done (2 ^ i))
      | none => []

/-- Each number once, each behind those that it hangs on. -/
def linOk (bef : Array Nat) (n : Nat) : Nat → List Nat → Bool
  | _, [] => true
  | done, i :: r => Nat.blt i n && !(Nat.testBit done i) && Nat.beq (Nat.land (bef.getD i 0) done) (bef.getD i 0) && linOk bef n (Nat.lor done (2 ^ i)) r

/-- Do the edges of a mode go down? -/
def rankedOk (md : Region.Mode) (ops : Array Oper) (rank : Nat → Nat) : Bool :=
  (List.range ops.size).all fun i => match ops[i]? with
    | some o => o.after.toList.all fun e => !Region.binds md e || (Nat.blt (rank e.on) (rank i) && Nat.blt e.on ops.size)
    | none => true

def posIn : List Nat → Nat → Nat
  | [], _ => 0
  | a :: r, n => bif Nat.beq a n then 0 else posIn r n + 1

def namesTmp (t : Tmp) : List Operand → Bool
  | [] => false
  | .tmp u :: r => Nat.beq u t || namesTmp t r
  | _ :: r => namesTmp t r

def dstIs (t : Tmp) : Option Oper → Bool
  | some o => match o.dst with
    | some d => Nat.beq d t
    | none => false
  | none => false

/-- Does an operation see or write t? -/
def usesT (ops : Array Oper) (o : Oper) (t : Tmp) : Bool :=
  dstIs t (some o) || namesTmp t o.op.operands.toList || (match o.guard with | some (j, _) => dstIs t ops[j]? | none => false)

/-- Operations that are not ordered have no temporary in common that one of them writes. -/
def tmpsOk (ops : Array Oper) (bef : Array Nat) : Bool :=
  (List.range ops.size).all fun k => match ops[k]? with
    | some o => match o.dst with
      | some d => (List.range ops.size).all fun i => Nat.beq k i || ordered bef k i || ordered bef i k || (match ops[i]? with | some q => !usesT ops q d | none => true)
      | none => true
    | none => true

/-- The order in which a drawn region is run here, if every order of the model is complete. -/
def plan (ops : Array Oper) : Option (List Nat) :=
  let bef := Region.before ops
  let l := greedy ops bef ops.size 0
  bif (List.range ops.size).all (fun i => memN l i) && linOk bef ops.size 0 l && rankedOk .any ops (fun i => i) &&
    (!Region.departs ops || (rankedOk .text ops (fun i => i) && (let g := Region.linearise .gc ops 0; rankedOk .gc ops (posIn g)))) && tmpsOk ops bef
  then some l else none

def drawn (rec : Goal → M GRes) (ops : Array Oper) (fr : Fr) : M Fr :=
  match plan ops with
  | some l => drawnOps P rec ops (Region.before ops) l [] fr
  | none => M.fail

def enterFr (f : FuncId) (fn : Func) (c : Code) (args : List AV) : Fr :=
  { fn := f, nt := Nat.max args.length fn.ntmps, tmps := (args.zipIdx).foldl (fun t (a, i) => t.set i (some a)) .nil, todo := [.code c], defers := [], round := none, dcall := false, rcv := none, recd := false }

def resultsA (fr : Fr) : List ResultVar → M (List AV)
  | [] => M.pure []
  | .tmp t :: r => do
    let a ← M.of (fr.eval P (.tmp t))
    let as ← resultsA fr r
    M.pure (a :: as)
  | .cell a t :: r => match fr.eval P (.tmp a) with
    | some (.ptr n off) => do
      let v ← loadVarA P t n off
      let as ← resultsA fr r
      M.pure (v :: as)
    | _ => M.fail

def resultA (fr : Fr) (fn : Func) : M AV := do
  match ← resultsA P fr fn.results.toList with
  | [v] => M.pure v
  | vs => M.pure (.tuple vs)

/-- The deferred calls of a frame that leaves; what panics, if anything. -/
def leaveA (rec : Goal → M GRes) : List ADef → Option AV → M (Option AV)
  | [], u => M.pure u
  | .collected r :: ds, u => do
    match ← rd r with
    | .deferred false => do
      wr r (.deferred true)
      leaveA rec ds u
    | _ => M.fail
  | .call (.func g) captured args :: ds, u => match bodyOf P g with
    | some (fn, c) => bif fn.name == "runtime.NumGoroutine" then M.fail else do
      match ← rec (.exec { enterFr g fn c (args ++ captured) with dcall := true, rcv := u }) with
      | .left .ret fr => match fr.defers with
        | [] => do
          let _ ← resultA P fr fn
          leaveA rec ds (bif fr.recd then none else u)
        | _ => M.fail
      | _ => M.fail
    | none => M.fail
  | _, _ => M.fail

def rangeA (rec : Goal → M GRes) (fr : Fr) (g : FuncId) (captured : List AV) (params : Array Tmp) (assign body : Code) (k : List AItem) : M SRes := do
  let b ← M.of (bodyOf P g)
  M.guard (!(b.1.name == "runtime.NumGoroutine"))
  let (d, mark) ← (match fr.round with
    | none => do
      let r ← nw (.deferred false)
      M.pure (r, [ADef.collected r])
    | some l => do
      match ← rd l with
      | .loop _ _ _ _ _ _ _ _ d => M.pure (d, [])
      | _ => M.fail : M (Nat × List ADef))
  let l ← nw (.loop .ready none fr.fn fr.tmps fr.nt params.toList assign body d)
  match ← rec (.call g (.func (.yield l) [] [] :: captured)) with
  | .done _ => match ← rd l with
    | .loop st pending f t nt ps a b d => match st with
      | .busy => M.fail
      | _ => do
        wr l (.loop .exhausted pending f t nt ps a b d)
        M.pure (.cont { fr with todo := (match pending with | some c => [.code c] | none => []) ++ k, defers := mark ++ fr.defers })
    | _ => M.fail
  | .panicked v => M.pure (.left (.panic v) { fr with defers := mark ++ fr.defers })
  | _ => M.fail

def stepA (rec : Goal → M GRes) (fr : Fr) : M SRes :=
  let to (k : List AItem) : M SRes := M.pure (.cont { fr with todo := k })
  let leave (j : Option Code) : M SRes := match fr.round with
    | none => match j with
      | none | some .ret => M.pure (.left .ret fr)
      | _ => M.fail
    | some _ => M.pure (.left (.jump j) fr)
  match fr.todo with
  | [] => leave none
  | .code .ret :: _ => leave (some .ret)
  | .code .skip :: k | .code (.label _) :: k | .inBlock _ :: k | .inScope _ :: k => to k
  | .code (.seq a b) :: k => to (.code a :: .code b :: k)
  | .code (.cond c thn els) :: k => match fr.eval P c with
    | some (.bool b) => to (.code (bif b then thn else els) :: k)
    | _ => M.fail
  | .code (.block id body) :: k => to (.code body :: .inBlock id :: k)
  | .code (.loop body) :: k | .inLoop body :: k => to (.code body :: .inLoop body :: k)
  | .code (.scope body) :: k => to (.code body :: .inScope body :: k)
  | .code (.exit id) :: k => match exitToA id k with
    | some k' => to k'
    | none => leave (some (.exit id))
  | .code (.region _ ops false) :: k => to (.ops ops (List.range ops.size) :: k)
  | .code (.region _ ops true) :: k => do
    let fr' ← drawn P rec ops { fr with todo := k }
    M.pure (.cont fr')
  | .ops _ [] :: k => to k
  | .ops ops (i :: rest) :: k => match ops[i]? with
    | none => M.fail
    | some o => bif wantedA ops fr o then doOp P rec { fr with todo := .ops ops rest :: k } o
      else match fr.put o.dst .undef with
        | some fr' => M.pure (.cont { fr' with todo := .ops ops rest :: k })
        | none => M.fail
  | .code (.rangeFunc f params assign body) :: k => match fr.eval P f with
    | some (.func (.func g) [] captured) => rangeA P rec fr g captured params assign body k
    | _ => M.fail
  | .beginRound :: k => match fr.round with
    | some l => do
      match ← rd l with
      | .loop .ready pending f t nt ps a b d => do
        wr l (.loop .busy pending f t nt ps a b d)
        to k
      | _ => M.fail
    | none => M.fail
  | _ => M.fail

def zipPut : List Tmp → List AV → Nat → T AV → Option (T AV)
  | [], [], _, t => some t
  | p :: ps, a :: as, nt, t => bif Nat.blt p nt then zipPut ps as nt (t.set p (some a)) else none
  | _, _, _, _ => none

def goalA (rec : Goal → M GRes) : Goal → M GRes
  | .exec fr => do
    match ← stepA P rec fr with
    | .cont fr' => rec (.exec fr')
    | .left l fr' => M.pure (.left l fr')
  | .call f args => match bodyOf P f with
    | some (fn, c) => do
      match ← rec (.exec (enterFr f fn c args)) with
      | .left .ret fr => do
        match ← leaveA P rec fr.defers none with
        | none => do M.pure (.done (← resultA P fr fn))
        | some v => M.pure (.panicked v)
      | .left (.panic v) fr => do
        match ← leaveA P rec fr.defers (some v) with
        | none => do M.pure (.done (← resultA P fr fn))
        | some v => M.pure (.panicked v)
      | _ => M.fail
    | none => M.fail
  | .yield l args => do
    match ← rd l with
    | .loop _ _ f t nt ps a b _ => match zipPut ps args nt t with
      | some t' => do
        let _ ← M.of (bodyOf P f)
        match ← rec (.exec { fn := f, nt := nt, tmps := t', todo := [.code a, .beginRound, .code b], defers := [], round := some l, dcall := false, rcv := none, recd := false }) with
        | .left (.jump j) fr => do
          M.guard (match fr.defers with | [] => true | _ => false)
          match ← rd l with
          | .loop _ _ f t nt ps a b d => do
            wr l (.loop (match j with | none => .ready | some _ => .done) j f t nt ps a b d)
            M.pure (.done (.bool (match j with | none => true | some _ => false)))
          | _ => M.fail
        | .left (.panic v) fr => do
          M.guard (match fr.defers with | [] => true | _ => false)
          M.pure (.panicked v)
        | _ => M.fail
      | none => M.fail
    | _ => M.fail

def go : Nat → Goal → M GRes
  | 0, _ => M.fail
  | n + 1, g => goalA P (go n) g

end
end AM
