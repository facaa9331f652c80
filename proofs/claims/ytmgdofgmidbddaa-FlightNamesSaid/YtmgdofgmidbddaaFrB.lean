/- An abstract evaluator of the model's code (definitions only). -/
import Derived.Test.YtmgdofgmidbddaaFrA
namespace Go.Ull

/-- Some numbers, and what follows. -/
def ints : Nat → List AV → Option (List Int × List AV)
  | 0, cs => some ([], cs)
  | n + 1, .int .i64 a :: cs =>
    match ints n cs with
    | some (l, r) => some (a :: l, r)
    | none => none
  | _ + 1, _ => none

/-- What an element's cells are cells of. -/
def dec (t : ElT) (cs : List AV) : Option (El t) :=
  match t with
  | .num => match ints 1 cs with | some ([a], []) => some a | _ => none
  | .span => match ints 2 cs with | some ([a, b], []) => some (⟨a, b⟩ : Span) | _ => none
  | .big => match cs with | [.bool n, .int .u64 h, .int .u64 l] => some (⟨n, h, l⟩ : Big) | _ => none
  | .w => match cs with | [.int .i64 h, .int .u64 l] => some (⟨h, l⟩ : W) | _ => none
  | .box => match ints 6 cs with | some ([a, b, c, d, e, f], []) => some (⟨⟨a, b⟩, ⟨c, d⟩, ⟨e, f⟩⟩ : Box) | _ => none
  | .point => match ints 3 cs with | some ([a, b, c], []) => some (⟨a, ⟨b, c⟩⟩ : Point) | _ => none
  | .arc => match ints 12 cs with
    | some ([a, b, c, d, e, f, g, h, i, j, k, l], ps :: r) => (match lstOf .point ps, ints 2 r with
      | some ps, some ([m, n], []) => some (⟨a, b, ⟨c, d⟩, ⟨e, f⟩, ⟨⟨g, h⟩, ⟨i, j⟩, ⟨k, l⟩⟩, ps, ⟨m, n⟩⟩ : Arc)
      | _, _ => none)
    | _ => none
  | .state => match ints 15 cs with
    | some ([a, b, c, d, e, f, g, h, i, j, k, l, m, n, o], []) => some (⟨a, ⟨⟨b, c⟩, ⟨d, e⟩, ⟨f, g⟩⟩, ⟨⟨h, i⟩, ⟨j, k⟩, ⟨l, m⟩⟩, ⟨n, o⟩⟩ : State)
    | _ => none
  | .tube => match ints 16 cs with
    | some ([a, a', b, c, d, e, f, g, h, i, j, k, l, m, n, o], []) => some (⟨a, a', ⟨⟨b, c⟩, ⟨d, e⟩, ⟨f, g⟩⟩, ⟨⟨h, i⟩, ⟨j, k⟩, ⟨l, m⟩⟩, ⟨n, o⟩⟩ : Tube)
    | _ => none
  | .radio => match ints 15 cs with
    | some ([a, b, c, d, e, f, g, h, i, j, k, l, m, n, o], []) => some (⟨a, ⟨⟨b, c⟩, ⟨d, e⟩, ⟨f, g⟩⟩, ⟨⟨h, i⟩, ⟨j, k⟩, ⟨l, m⟩⟩, ⟨n, o⟩⟩ : Radio)
    | _ => none
  | .knob => match ints 4 cs with | some ([a, b, c, d], []) => some (⟨⟨a, b⟩, ⟨c, d⟩⟩ : Knob) | _ => none
  | .part => match ints 12 cs with
    | some ([a, b, c, d, e, f, g, h, i, j, k, l], ps :: r) => (match lstOf .point ps, ints 6 r with
      | some ps, some ([m, n, q, r, s, t], []) => some (⟨⟨a, b, ⟨c, d⟩, ⟨e, f⟩, ⟨⟨g, h⟩, ⟨i, j⟩, ⟨k, l⟩⟩, ps, ⟨m, n⟩⟩, ⟨q, r⟩, ⟨s, t⟩⟩ : Part)
      | _, _ => none)
    | _ => none
  | .slot => match ints 2 cs with | some ([a, b], []) => some (⟨a, b⟩ : Slot) | _ => none
  | .update => match ints 7 cs with
    | some ([a, b, c, d, e, f, g], l :: r) => (match lstOf .radio l, r with
      | some l, [] => some (⟨a, ⟨⟨b, c⟩, ⟨d, e⟩, ⟨f, g⟩⟩, l⟩ : Update)
      | _, _ => none)
    | _ => none
  | .report => match ints 17 cs with
    | some ([p, q, a, b, c, d, e, f, g, h, i, j, k, l, m, n, o], []) => some (⟨p, q, ⟨a, ⟨⟨b, c⟩, ⟨d, e⟩, ⟨f, g⟩⟩, ⟨⟨h, i⟩, ⟨j, k⟩, ⟨l, m⟩⟩, ⟨n, o⟩⟩⟩ : Report)
    | _ => none
  | .lesson => match cs with | [.int .i64 a, .int .i64 b, .bool c, .int .i64 d] => some (⟨⟨a, b⟩, c, d⟩ : Lesson) | _ => none
  | .pair => match ints 4 cs with | some ([a, b, c, d], []) => some ((⟨a, b⟩, ⟨c, d⟩) : Span × Span) | _ => none
  | .num2 => match ints 2 cs with | some ([a, b], []) => some ((a, b) : Int × Int) | _ => none
  | .spans => match cs with | [l] => lstOf .span l | _ => none

inductive Blk where
  | dead
  | box (cs : List AV) (ro : Bool)
  | vec (ver : Nat) (t : ElT) (xs : List (El t))
  deriving Inhabited

structure St where
  tm : List AV
  hp : List Blk

/-- Types, as far as the evaluator looks at them. A field: its offset, its size, whether it is an aggregate. -/
inductive Ty where
  | int (k : IntKind)
  | bool
  | ptr
  | func
  | iface
  | slice (t : ElT)
  | struct (fs : List (Nat × Nat × Bool)) (zero : List AV)
  | arr (n size : Nat) (agg : Bool) (el : Option ElT) (zero : List AV)
  | other
  deriving Inhabited

@[reducible] def Ty.zero : Ty → AV
  | .int k => .int k 0
  | .bool => .bool false
  | .ptr => .nilp
  | .func => .nilfn
  | .iface => .niliface
  | .slice _ => .nils
  | .struct _ z => .agg z
  | .arr _ _ _ _ z => .agg z
  | .other => .undef

@[reducible] def Ty.agg : Ty → Option Nat
  | .struct _ z => some z.length
  | .arr _ _ _ _ z => some z.length
  | _ => none

@[reducible] def Ty.size : Ty → Nat
  | .struct _ z => z.length
  | .arr _ _ _ _ z => z.length
  | _ => 1

/-- A function that is known by its contract: what it makes of its arguments and of the blocks that they lead to. -/
abbrev Entry := ∀ (ρ : Type), List AV → List Blk → (AV → List Blk → Option ρ) → Option ρ

/-- How a piece of code is left. -/
inductive AX where
  | normal | exit (id : Nat) | ret
  deriving DecidableEq

abbrev PEntry := ∀ (ρ : Type), St → (AX → St → Option ρ) → Option ρ

structure Tab where
  ty : List (Nat × Ty)
  call : List (Nat × Entry)
  vecs : List (Nat × ElT) := []
  share : List Nat := []
  fuel : Nat := 0
  piece : List (Nat × PEntry) := []
  keep : List Nat := []
  m : Nat := 0
  eqs : List (Nat × List Bool) := []
  norm : Option (List Bool × Nat) := none
  ro : List Nat := []
  grow : List (Nat × ElT) := []
  frz : List Nat := []

def look {α : Type _} (l : List (Nat × α)) (i : Nat) : Option α :=
  match l with
  | [] => none
  | (j, a) :: r => cond (Nat.beq i j) (some a) (look r i)

def Tab.tyOf (T : Tab) (t : Nat) : Ty := (look T.ty t).getD .other

def Tab.known (T : Tab) (t : Nat) : Bool := match T.tyOf t with | .other => false | _ => true

def ofVal (v : Value) : AV :=
  match v with
  | .bool b => .bool b
  | .int k n => .int k n
  | .slice a n c => (match a with | none => cond (Nat.beq n 0 && Nat.beq c 0) .nils .undef | some _ => .undef)
  | .pointer a => (match a with | none => .nilp | some _ => .undef)
  | .nilFunc => .nilfn
  | .nilIface => .niliface
  | .func f a b => cond (Nat.beq a.size 0 && Nat.beq b.size 0) (.fn f [] []) .undef
  | _ => .undef

def St.eval (σ : St) : Operand → AV
  | .tmp t => (σ.tm[t]?).getD .undef
  | .const v => ofVal v
  | .global _ => .undef
  | .func f => .fn (.func f) [] []

def cellsOf : AV → Option (List AV)
  | .agg cs => some cs
  | .undef => none
  | v => some [v]

def splice (cs : List AV) (o : Nat) (xs : List AV) : List AV := cs.take o ++ (xs ++ cs.drop (o + xs.length))

def arrIdx {ρ : Type} (i : Int) (k : Nat → Option ρ) : Nat → Nat → Option ρ
  | 0, _ => none
  | n + 1, j => cond (decide (i = (j : Int))) (k j) (arrIdx i k n (j + 1))

/-- An element of a list, by a number of Go's. -/
def idx {α : Type} (xs : List α) (i : Int) : Option α := cond (decide (0 ≤ i)) (xs[i.toNat]?) none

/-- Are cells the same? Those of the kinds (numbers: true, bools: false). -/
def eqCells : List Bool → List AV → List AV → Option Bool
  | [], [], [] => some true
  | true :: ks, .int k a :: r, .int k' b :: s => cond (decide (k = k')) (match eqCells ks r s with | some e => some (a == b && e) | none => none) none
  | false :: ks, .bool a :: r, .bool b :: s => match eqCells ks r s with | some e => some (a == b && e) | none => none
  | _, _, _ => none

/-- Bits. -/
@[reducible] def bAnd (b : Nat) (x y : Int) : Int := ((BitVec.ofInt b x &&& BitVec.ofInt b y).toNat : Int)
@[reducible] def bOr (b : Nat) (x y : Int) : Int := ((BitVec.ofInt b x ||| BitVec.ofInt b y).toNat : Int)
@[reducible] def bXor (b : Nat) (x y : Int) : Int := ((BitVec.ofInt b x ^^^ BitVec.ofInt b y).toNat : Int)
@[reducible] def bAndNot (b : Nat) (x y : Int) : Int := ((BitVec.ofInt b x &&& ~~~ BitVec.ofInt b y).toNat : Int)
@[reducible] def lenI {α : Type} (xs : List α) : Int := (xs.length : Int)

def intBin (op : BinOp) (ka : IntKind) (x y : Int) {ρ : Type} (k : AV → Option ρ) : Option ρ :=
  match op with
  | .add => k (.int ka (ka.wrap (x + y)))
  | .sub => k (.int ka (ka.wrap (x - y)))
  | .mul => k (.int ka (ka.wrap (x * y)))
  | .quo => cond (decide (y = 0)) none (k (.int ka (ka.wrap (x.tdiv y))))
  | .rem => cond (decide (y = 0)) none (k (.int ka (x.tmod y)))
  | .and => k (.int ka (ka.wrap (bAnd ka.bits x y)))
  | .or => k (.int ka (ka.wrap (bOr ka.bits x y)))
  | .xor => k (.int ka (ka.wrap (bXor ka.bits x y)))
  | .andNot => k (.int ka (ka.wrap (bAndNot ka.bits x y)))
  | .eql => k (.bool (x == y))
  | .neq => k (.bool (x != y))
  | .lss => k (.bool (decide (x < y)))
  | .leq => k (.bool (decide (x ≤ y)))
  | .gtr => k (.bool (decide (x > y)))
  | .geq => k (.bool (decide (x ≥ y)))
  | _ => none

def binEv (ty : Ty) (op : BinOp) (a b : AV) {ρ : Type} (k : AV → Option ρ) : Option ρ :=
  match a, b with
  | .int ka x, .int kb y =>
    (match op with
     | .shl => cond (decide (y < 0)) none (k (.int ka (ka.wrap (x * 2 ^ (min y.toNat ka.bits)))))
     | .shr => cond (decide (y < 0)) none (k (.int ka (x.fdiv (2 ^ (min y.toNat ka.bits)))))
     | op => cond (decide (ka = kb)) (intBin op ka x y k) none)
  | .bool x, .bool y => (match ty, op with | .bool, .eql => k (.bool (x == y)) | .bool, .neq => k (.bool (!(x == y))) | _, _ => none)
  | _, _ => none

def eqEv (ks : List Bool) (op : BinOp) (xs ys : List AV) {ρ : Type} (k : AV → Option ρ) : Option ρ :=
  match op, eqCells ks xs ys with
  | .eql, some e => k (.bool e)
  | .neq, some e => k (.bool (!e))
  | _, _ => none

def unEv (op : UnOp) (a : AV) {ρ : Type} (k : AV → Option ρ) : Option ρ :=
  match op, a with
  | .neg, .int ka n => k (.int ka (ka.wrap (0 - n)))
  | .not, .bool b => k (.bool !b)
  | .xor, .int ka n => k (.int ka (ka.wrap (BitVec.ofInt ka.bits (if ka.signed then -1 else ka.max) ^^^ BitVec.ofInt ka.bits n).toNat))
  | _, _ => none

/-- Parts laid into cells. -/
def fillEv (place : Nat → Option (Nat × Nat)) (cells : List AV) : List (Nat × AV) → Option (List AV)
  | [] => some cells
  | (i, v) :: rest =>
    match place i, cellsOf v with
    | some (off, size), some cs =>
      cond (Nat.beq cs.length size && Nat.ble (off + cs.length) cells.length) (fillEv place (splice cells off cs) rest) none
    | _, _ => none

def chunk : (fuel n : Nat) → List AV → List (List AV)
  | 0, _, _ => []
  | _ + 1, _, [] => []
  | f + 1, n, c :: cs => ((c :: cs).take n) :: chunk f n ((c :: cs).drop n)

def decAll (t : ElT) : List (List AV) → Option (List (El t))
  | [] => some []
  | c :: cs => match dec t c, decAll t cs with
    | some x, some xs => some (x :: xs)
    | _, _ => none

def partC (agg : Bool) (size : Nat) (cs : List AV) : Option AV :=
  cond agg (cond (Nat.ble size cs.length) (some (.agg (cs.take size))) none) (cs[0]?)

/-- What stands at a place, read as a type. -/
def loadT (ty : Ty) (cs : List AV) : Option AV :=
  match ty with
  | .other => none
  | ty => partC ty.agg.isSome ty.size cs

mutual
/-- The blocks that a value leads to. -/
def AV.ids : AV → List Nat
  | .agg cs => idsL cs
  | .tuple cs => idsL cs
  | .eptr cs => idsL cs
  | .fn _ a b => idsL a ++ idsL b
  | .iface _ v => v.ids
  | .ptr b _ => [b]
  | .gro b _ => [b]
  | .bsl b _ _ => [b]
  | _ => []
def idsL : List AV → List Nat
  | [] => []
  | c :: cs => c.ids ++ idsL cs
end

mutual
/-- Other numbers for the blocks; growable slices that are not the newest are forgotten. -/
def AV.ren (hp : List Blk) (f nv : Nat → Nat) : AV → AV
  | .agg cs => .agg (renL hp f nv cs)
  | .tuple cs => .tuple (renL hp f nv cs)
  | .eptr cs => .eptr (renL hp f nv cs)
  | .fn g a b => .fn g (renL hp f nv a) (renL hp f nv b)
  | .iface t v => .iface t (v.ren hp f nv)
  | .ptr b o => .ptr (f b) o
  | .bsl b n t => .bsl (f b) n t
  | .gro b n => match hp[b]? with | some (.vec c _ _) => cond (Nat.beq n c) (.gro (f b) (nv b)) .undef | _ => .undef
  | v => v
def renL (hp : List Blk) (f nv : Nat → Nat) : List AV → List AV
  | [] => []
  | c :: cs => c.ren hp f nv :: renL hp f nv cs
end

mutual
/-- Growable slices as lists. -/
def AV.snap (hp : List Blk) : AV → AV
  | .agg cs => .agg (snapL hp cs)
  | .tuple cs => .tuple (snapL hp cs)
  | .iface t v => .iface t (v.snap hp)
  | .fn f a b => .fn f (snapL hp a) (snapL hp b)
  | .ptr b o => match hp[b]? with | some (.box cs true) => cond (idsL cs).isEmpty (.eptr (cs.drop o)) (.ptr b o) | _ => .ptr b o
  | .gro b n => match hp[b]? with | some (.vec c t xs) => cond (Nat.beq n c) (.lst t xs) .undef | _ => .undef
  | v => v
def snapL (hp : List Blk) : List AV → List AV
  | [] => []
  | c :: cs => c.snap hp :: snapL hp cs
end

def dedup : List Nat → List Nat
  | [] => []
  | i :: r => let r' := dedup r; cond (r'.contains i) r' (i :: r')

def posOf (l : List Nat) (i : Nat) : Nat :=
  match l with
  | [] => 0
  | j :: r => cond (Nat.beq i j) 0 (posOf r i + 1)

def updHp (hp : List Blk) : List (Nat × Blk) → List Blk
  | [] => hp
  | (i, b) :: r => updHp (hp.set i b) r

/-- May a value stand in a cell? -/
def storable : AV → Bool
  | .undef | .agg _ | .tuple _ => false
  | _ => true

def srcOf (t : ElT) : AV → Option (List (El t))
  | .lst t' xs => if h : t' = t then some (h ▸ xs) else none
  | .nils => some []
  | _ => none

def lenEv (hp : List Blk) : AV → Option Int
  | .lst _ xs => some (lenI xs)
  | .nils => some 0
  | .bsl _ n _ => some (n : Int)
  | .gro b n => match hp[b]? with | some (.vec c _ xs) => cond (Nat.beq n c) (some (lenI xs)) none | _ => none
  | _ => none

def maxEv : Int → List AV → Option Int
  | m, [] => some m
  | m, .int .i64 n :: r => maxEv (if n > m then n else m) r
  | _, _ => none
def minEv : Int → List AV → Option Int
  | m, [] => some m
  | m, .int .i64 n :: r => minEv (if n < m then n else m) r
  | _, _ => none

/-- Is there surely room for so many elements? -/
def room {ρ : Type} (n : Nat) (k : Option ρ) : Option ρ := cond (Nat.ble n 4294967296) k none

def builtinEv (tys : Nat → Ty) (ts : List Nat) (b : Builtin) (σ : St) (args : List AV) {ρ : Type} (k : AV → List Nat → List (Nat × Blk) → Option ρ) : Option ρ :=
  match b, args with
  | .len, [v] => match ts with
    | [t] => match tys t, lenEv σ.hp v with | .slice _, some n => k (i64 n) v.ids [] | _, _ => none
    | _ => none
  | .max, .int .i64 n :: r => match maxEv n r with | some m => k (i64 m) [] [] | none => none
  | .min, .int .i64 n :: r => match minEv n r with | some m => k (i64 m) [] [] | none => none
  | .append, [.gro b n, src] =>
    match ts with
    | [t1, t2] =>
      cond (Nat.beq t1 t2) (match tys t1, σ.hp[b]? with
      | .slice t', some (.vec c t xs) => cond (decide (t' = t) && Nat.beq n c) (match srcOf t src with
        | some ys => room (xs.length + ys.length) (k (.gro b (c + 1)) [b] [(b, .vec (c + 1) t (xs ++ ys))])
        | none => none) none
      | _, _ => none) none
    | _ => none
  | _, _ => none

def Blk.ids : Blk → List Nat
  | .box cs _ => idsL cs
  | _ => []

def Blk.ren (hp : List Blk) (f nv : Nat → Nat) (i : Nat) : Blk → Blk
  | .box cs r => .box (renL hp f nv cs) r
  | .vec _ t xs => .vec (nv i) t xs
  | .dead => .dead

def idsH (hp : List Blk) : List Nat → List Nat
  | [] => []
  | i :: is => (match hp[i]? with | some k => k.ids | none => []) ++ idsH hp is

/-- The blocks that a call is given. -/
def lent (hp : List Blk) (f nv : Nat → Nat) : List Nat → List Blk
  | [] => []
  | i :: is => ((hp[i]?).getD .dead).ren hp f nv i :: lent hp f nv is

/-- The blocks that a call hands back. -/
def back (bs : List Blk) (f nv : Nat → Nat) : Nat → List Nat → List (Nat × Blk)
  | _, [] => []
  | j, i :: is => (i, ((bs[j]?).getD .dead).ren bs f nv j) :: back bs f nv (j + 1) is

def verOf (hp : List Blk) (i : Nat) : Nat := match hp[i]? with | some (.vec c _ _) => c | _ => 0

def callEv (T : Tab) (σ : St) (f : AV) (args : List AV) {ρ : Type} (k : AV → List Nat → List (Nat × Blk) → Option ρ) : Option ρ :=
  match f with
  | .fn (.func g) first cap =>
    match look T.call g with
    | some E =>
      let raw := first ++ args ++ cap
      let all := cond (T.keep.contains g) raw (snapL σ.hp raw)
      let is0 := idsL all
      let is := dedup (is0 ++ idsH σ.hp is0)
      cond (((idsH σ.hp is).all fun i => is.contains i) && (is.all fun i => Nat.blt i σ.hp.length))
        (E ρ (renL σ.hp (posOf is) (fun _ => 0) all) (lent σ.hp (posOf is) (fun _ => 0) is) fun v bs' =>
          cond (Nat.beq bs'.length is.length && ((v.ids.all fun i => Nat.blt i is.length) && ((bs'.flatMap Blk.ids).all fun i => Nat.blt i is.length)))
            (k (v.ren bs' (fun i => (is[i]?).getD 0) (fun j => verOf σ.hp ((is[j]?).getD 0) + 1)) (idsL raw ++ is)
              (back bs' (fun i => (is[i]?).getD 0) (fun j => verOf σ.hp ((is[j]?).getD 0) + 1) 0 is)) none) none
    | none => none
  | _ => none

/-- Does an operation begin a growable slice (a nil that is laid into a temporary which the table names)? -/
def vecAt (T : Tab) (o : Oper) : Option ElT :=
  match o.op with
  | .assign (.const (.slice none 0 0)) => o.dst.bind (look T.vecs)
  | _ => none

/-- Is a box never written? -/
def Tab.isRo (T : Tab) (o : Oper) : Bool := match o.dst with | some d => T.ro.contains d | none => false

/-- Is a slice that was made written no more from here on? -/
def Tab.isFrz (T : Tab) (o : Oper) : Bool := match o.dst with | some d => T.frz.contains d | none => false

/-- Is an operation a call of slices.Grow? -/
def growAt (T : Tab) (o : Oper) : Option ElT :=
  match o.op with
  | .call c => match c.callee with
    | .value (.func g) => look T.grow g
    | _ => none
  | _ => none

/-- Is a block's number unused? -/
def freshB (T : Tab) (σ : St) (slot : Nat) {ρ : Type} (k : Option ρ) : Option ρ :=
  cond (Nat.ble T.m slot) (match σ.hp[slot]? with | some .dead => k | _ => none) none

def opEv (T : Tab) (o : Oper) (σ : St) (slot : Nat) {ρ : Type} (k : AV → List Nat → List (Nat × Blk) → Option ρ) : Option ρ :=
  let ρ' := σ.eval
  match o.op with
  | .move x =>
    (match T.isFrz o, ρ' x with
     | true, .bsl b n e => (match σ.hp[b]? with
       | some (.box cs _) => cond (Nat.ble T.m b && Nat.beq cs.length (n * sz e)) (match decAll e (chunk n (sz e) cs) with | some xs => k (.lst e xs) [b] [(b, .box cs true)] | none => none) none
       | _ => none)
     | _, v => k v [] [])
  | .assign x =>
    (match vecAt T o with
     | some t => freshB T σ slot (k (.gro slot 0) [slot] [(slot, .vec 0 t [])])
     | none => k (ρ' x) [] [])
  | .pick c a b => match ρ' c with | .bool v => cond v (k (ρ' a) [] []) (k (ρ' b) [] []) | _ => none
  | .alloc t => match cellsOf (T.tyOf t).zero with | some cs => freshB T σ slot (k (.ptr slot 0) [slot] [(slot, .box cs false)]) | none => none
  | .box _ x => match cellsOf (ρ' x) with | some cs => freshB T σ slot (k (.ptr slot 0) [slot] [(slot, .box cs (T.isRo o))]) | none => none
  | .build t ps =>
    (match T.tyOf t with
     | .struct fs z => match fillEv (fun i => (fs[i]?).map fun f => (f.1, f.2.1)) z (ps.toList.map fun p => (p.1, ρ' p.2)) with | some cs => k (.agg cs) [] [] | none => none
     | .arr _ s _ _ z => match fillEv (fun i => some (i * s, s)) z (ps.toList.map fun p => (p.1, ρ' p.2)) with | some cs => k (.agg cs) [] [] | none => none
     | _ => none)
  | .buildSlice t n ps =>
    (match T.tyOf t with
     | .slice e => cond (Nat.beq n 0) (match ps.toList with | [] => k .nils [] [] | _ => none)
       (cond (Nat.ble (n * sz e) 16777216) (match fillEv (fun i => some (i * sz e, sz e)) (List.replicate (n * sz e) .undef) (ps.toList.map fun p => (p.1, ρ' p.2)) with
       | some cs => match decAll e (chunk n (sz e) cs) with | some xs => k (.lst e xs) [] [] | none => none
       | none => none) none)
     | _ => none)
  | .makeSlice t x y =>
    (match T.tyOf t, ρ' x, ρ' y with
     | .slice e, .int .i64 n, .int .i64 m => cond (decide (n = m) && (decide (1 ≤ n) && decide (n ≤ 65536)))
        (freshB T σ slot (cond (T.isFrz o)
          (match decAll e (chunk n.toNat (sz e) (List.replicate n.toNat (zeroE e)).flatten) with | some xs => k (.lst e xs) [slot] [(slot, .box (List.replicate n.toNat (zeroE e)).flatten true)] | none => none)
          (k (.bsl slot n.toNat e) [slot] [(slot, .box (List.replicate n.toNat (zeroE e)).flatten false)]))) none
     | _, _, _ => none)
  | .sliceToArrayPointer t x =>
    (match T.tyOf t, ρ' x with
     | .arr n s _ (some e) _, .lst e' xs => cond (decide (e = e') && (Nat.beq s (sz e) && (Nat.ble n xs.length && !Nat.beq n 0))) (k (.eptr ((xs.take n).map (enc e')).flatten) [] []) none
     | _, _ => none)
  | .load t a =>
    (match ρ' a with
     | .ptr b off => match σ.hp[b]? with
       | some (.box cs _) => (match loadT (T.tyOf t) (cs.drop off) with | some v => k v [b] [] | none => none)
       | _ => none
     | .eptr cs => (match loadT (T.tyOf t) cs with | some v => k v [] [] | none => none)
     | _ => none)
  | .store t a x =>
    cond (T.known t) (match ρ' a, cellsOf (ρ' x) with
     | .ptr b off, some xs => match σ.hp[b]? with
       | some (.box cs false) =>
         cond (Nat.beq xs.length (T.tyOf t).size && (Nat.ble (off + xs.length) cs.length && xs.all storable)) (k (.tuple []) [b] [(b, .box (splice cs off xs) false)]) none
       | _ => none
     | _, _ => none) none
  | .nilCheck x => match ρ' x with | .ptr b off => k (.ptr b off) [] [] | .eptr cs => k (.eptr cs) [] [] | .fn (.func f) a b => k (.fn (.func f) a b) [] [] | _ => none
  | .binOp op t x y _ =>
    (match ρ' x, ρ' y with
     | .agg xs, .agg ys => (match look T.eqs t with | some ks => eqEv ks op xs ys fun v => k v [] [] | none => none)
     | u, v => binEv (T.tyOf t) op u v fun v => k v [] [])
  | .unOp op _ x => unEv op (ρ' x) fun v => k v [] []
  | .convert src dst x => cond (T.known src) (match T.tyOf dst, ρ' x with | .int kd, .int _ n => k (.int kd (kd.wrap n)) [] [] | _, _ => none) none
  | .makeFunc f a b => k (.fn f (a.toList.map ρ') (b.toList.map ρ')) [] []
  | .fieldAddr t x f =>
    (match T.tyOf t, ρ' x with
     | .struct fs _, .ptr b off => match fs[f]? with | some (d, s, _) => cond (Nat.beq s 0) none (k (.ptr b (off + d)) [] []) | none => none
     | .struct fs _, .eptr cs => match fs[f]? with | some (d, s, _) => cond (Nat.beq s 0) none (k (.eptr (cs.drop d)) [] []) | none => none
     | _, _ => none)
  | .field t x f =>
    (match T.tyOf t, ρ' x with
     | .struct fs _, .agg cs => match fs[f]? with
       | some (d, s, g) => (match partC g s (cs.drop d) with | some v => k v [] [] | none => none)
       | none => none
     | _, _ => none)
  | .indexAddr t x i =>
    (match T.tyOf t, ρ' x, ρ' i with
     | .arr n s _ _ _, .ptr b off, .int _ j => arrIdx j (fun m => k (.ptr b (off + m * s)) [] []) n 0
     | .arr n s _ _ _, .eptr cs, .int _ j => arrIdx j (fun m => k (.eptr (cs.drop (m * s))) [] []) n 0
     | .slice e, .lst e' xs, .int _ j => cond (decide (e = e')) ((idx xs j).bind fun x => k (.eptr (enc e' x)) [] []) none
     | .slice e, .bsl b n e', .int _ j => cond (decide (e = e')) (arrIdx j (fun m => k (.ptr b (m * sz e)) [] []) n 0) none
     | .slice e, .gro b n, .int _ j => match σ.hp[b]? with
       | some (.vec c e' xs) => cond (decide (e = e') && Nat.beq n c) ((idx xs j).bind fun x => k (.eptr (enc e' x)) [b] []) none
       | _ => none
     | _, _, _ => none)
  | .index t x i =>
    (match T.tyOf t, ρ' x, ρ' i with
     | .arr n s g _ _, .agg cs, .int _ j => arrIdx j (fun m => match partC g s (cs.drop (m * s)) with | some v => k v [] [] | none => none) n 0
     | _, _, _ => none)
  | .slice t x lo hi none =>
    (match T.tyOf t, ρ' x, lo.map ρ', hi.map ρ' with
     | .arr n s _ (some e) _, .ptr b off, l, h => match σ.hp[b]? with
       | some (.box cs r) =>
         (match l.getD (i64 0), h.getD (i64 n) with
          | .int _ l, .int _ h => cond (decide (0 ≤ l) && (decide (l ≤ h) && (decide (h ≤ (n : Int)) && (Nat.ble (off + n * s) cs.length && Nat.ble T.m b))))
              (match decAll e (chunk n s (((cs.drop off).take (h.toNat * s)).drop (l.toNat * s))) with | some xs => cond (Nat.beq s (sz e)) (cond r (k (.lst e xs) [b] []) (k (.lst e xs) [b] [(b, .box cs true)])) none | none => none) none
          | _, _ => none)
       | _ => none
     | .slice e, .lst e' xs, some (.int _ l), none => cond (decide (e = e') && (decide (0 ≤ l) && decide (l ≤ lenI xs))) (k (.lst e' (xs.drop l.toNat)) [] []) none
     | _, _, _, _ => none)
  | .extract t i => match ρ' t with | .tuple vs => (match vs[i]? with | some v => k v [] [] | none => none) | _ => none
  | .makeInterface t x => match T.tyOf t with | .iface => none | .other => none | _ => k (.iface t (ρ' x)) [] []
  | .call c =>
    (match c.callee with
     | .builtin b => builtinEv T.tyOf c.argTypes.toList b σ (c.args.toList.map ρ') k
     | .value f =>
       (match growAt T o with
        | some t => match c.args.toList with
          | [.const (.slice none 0 0), y] => match ρ' y with
            | .int .i64 n => cond (decide (0 ≤ n) && decide (n ≤ 4294967296)) (freshB T σ slot (k (.gro slot 0) [slot] [(slot, .vec 0 t [])])) none
            | _ => none
          | _ => none
        | none => callEv T σ (ρ' f) (c.args.toList.map ρ') k)
     | .invoke _ _ => none)
  | _ => none

/-- Does an operation make a block that has a number of its own? -/
def allocs (T : Tab) (o : Oper) : Bool :=
  match o.op with
  | .alloc _ | .box _ _ | .makeSlice _ _ _ => true
  | _ => (vecAt T o).isSome || (growAt T o).isSome

def St.put (σ : St) (d : Option Nat) (v : AV) : St :=
  match d with
  | some d => { σ with tm := σ.tm.set d v }
  | none => σ

/-- A value that is a number gets a name of its own, where the table wants it. -/
def bindInt {ρ : Type} (n : Int) (k : Int → Option ρ) : Option ρ := k n

def shareEv (T : Tab) (o : Oper) (v : AV) {ρ : Type} (k : AV → Option ρ) : Option ρ :=
  match o.dst with
  | some d => cond (T.share.contains d) (match v with | .int kd n => bindInt n fun m => k (.int kd m) | v => k v) (k v)
  | none => k v

def guardEv (all : List Oper) (o : Oper) (σ : St) {ρ : Type} (yes no : St → Option ρ) : Option ρ :=
  match o.guard with
  | none => yes σ
  | some (j, want) =>
    match (all[j]?).bind (·.dst) with
    | none => none
    | some d =>
      match σ.tm[d]? with
      | some (.bool v) =>
        cond want (cond v (yes (σ.put (some d) (.bool true))) (no (σ.put (some d) (.bool false))))
          (cond v (no (σ.put (some d) (.bool true))) (yes (σ.put (some d) (.bool false))))
      | some (.tuple []) => no σ
      | _ => none

/-- What an operation makes of a state. -/
def St.app (σ : St) (d : Option Nat) (v : AV) (ups : List (Nat × Blk)) : St := { σ with hp := updHp σ.hp ups }.put d v

def evOps (T : Tab) (all : List Oper) {ρ : Type} : List Oper → Nat → St → List (List Nat × List Nat) → (St → List (List Nat × List Nat) → Option ρ) → Option ρ
  | [], _, σ, fps, k => k σ fps
  | o :: rest, slot, σ, fps, k =>
    let slot' := cond (allocs T o) (slot + 1) slot
    guardEv all o σ
      (fun σ => opEv T o σ slot fun v fp ups => shareEv T o v fun v =>
        evOps T all rest slot' (σ.app o.dst v ups) ((fp, ups.map (·.1)) :: fps) k)
      (fun σ => evOps T all rest slot' (σ.put o.dst (.tuple [])) (([], []) :: fps) k)

def nAllocs (T : Tab) (ops : List Oper) : Nat := (ops.filter (allocs T)).length

def looksAt (ops : List Oper) (o : Oper) : List Nat :=
  (o.op.operands.toList.filterMap fun | .tmp t => some t | _ => none) ++
  (match o.guard with
   | some (g, _) => ((ops[g]?).bind (·.dst)).toList
   | none => [])

def disjoint (a b : List Nat) : Bool := a.all fun i => !b.contains i

def apart (ops : List Oper) (x y : Oper) (fx fy : List Nat × List Nat) : Bool :=
  (match x.dst with
   | some d => !(looksAt ops y).contains d && (match y.dst with | some d' => !Nat.beq d d' | none => true)
   | none => true) &&
  ((match y.dst with
   | some d => !(looksAt ops x).contains d
   | none => true) &&
  (disjoint fx.2 fy.1 && (disjoint fy.2 fx.1 && disjoint fx.2 fy.2)))

/-- Does an operation wait for another, directly or through others? -/
def reachB (ops : List Oper) : Nat → Nat → Nat → Bool
  | 0, _, _ => false
  | f + 1, y, x => match ops[x]? with
    | some o => o.after.toList.any fun e => Region.binds .any e && (Nat.beq e.on y || (Nat.blt y e.on && reachB ops f y e.on))
    | none => false

/-- Every two operations of which the second does not wait for the first are apart. -/
def apartAll (ops : List Oper) : List (Oper × (List Nat × List Nat) × Nat) → Bool
  | [] => true
  | (x, fx, i) :: rest => (rest.all fun (y, fy, j) => (y.after.toList.any fun e => Nat.beq e.on i && Region.binds .any e) || (apart ops x y fx fy || reachB ops 6 i j)) && apartAll ops rest

def zip3 : List Oper → List (List Nat × List Nat) → Nat → List (Oper × (List Nat × List Nat) × Nat)
  | o :: os, f :: fs, i => (o, f, i) :: zip3 os fs (i + 1)
  | _, _, _ => []

/-- Every operation waits for earlier ones alone. -/
def ordAll : List Oper → Nat → Bool
  | [], _ => true
  | o :: os, i => (o.after.toList.all fun e => !Region.binds .any e || Nat.blt e.on i) && ordAll os (i + 1)

def evRegion (T : Tab) (ops : List Oper) (draw : Bool) (σ : St) {ρ : Type} (k : St → Option ρ) : Option ρ :=
  evOps T ops ops σ.hp.length { σ with hp := σ.hp ++ List.replicate (nAllocs T ops) .dead } [] fun σ' fps =>
    cond draw (cond (apartAll ops (zip3 ops fps.reverse 0) && ordAll ops 0) (k σ') none) (k σ')

/-- Only some temporaries are kept. -/
def maskL : List Bool → List AV → List AV
  | true :: fs, v :: vs => v :: maskL fs vs
  | false :: fs, _ :: vs => .undef :: maskL fs vs
  | [], _ :: vs => .undef :: maskL [] vs
  | _, [] => []

/-- Only some temporaries and the first blocks are kept; growable slices start afresh. -/
def normEv (m : Nat) (fl : List Bool) (n : Nat) (σ : St) : Option St :=
  let tm := maskL fl σ.tm
  cond (Nat.ble m n && (Nat.ble n σ.hp.length && ((idsL tm).all (fun i => Nat.blt i n) && (idsH σ.hp (List.range n)).all (fun i => Nat.blt i n))))
    (some { tm := renL σ.hp (fun i => i) (fun _ => 0) tm, hp := lent σ.hp (fun i => i) (fun _ => 0) (List.range n) }) none

def normO (m : Nat) (nf : Option (List Bool × Nat)) (σ : St) : Option St :=
  match nf with
  | none => some σ
  | some (fl, n) => normEv m fl n σ

def loopEv {ρ : Type} (m : Nat) (nf : Option (List Bool × Nat)) (body : St → (AX → St → Option ρ) → Option ρ) : Nat → St → (AX → St → Option ρ) → Option ρ
  | 0, _, _ => none
  | n + 1, σ, k => (normO m nf σ).bind fun σ => body σ fun x σ' => match x with | .normal => loopEv m nf body n σ' k | x => k x σ'

/-- The number of a piece: of a block, or of the region that an 'if' begins with. -/
def keyOf : Code → Option Nat
  | .block id _ => some (2 * id + 1)
  | .seq (.region id _ _) _ => some (2 * id)
  | _ => none

def ev (T : Tab) {ρ : Type} : Code → St → (AX → St → Option ρ) → Option ρ
  | .skip, σ, k => k .normal σ
  | .label _, σ, k => k .normal σ
  | .region _ ops draw, σ, k => evRegion T ops.toList draw σ fun σ' => k .normal σ'
  | .seq a b, σ, k =>
    match (keyOf (.seq a b)).bind (look T.piece) with
    | some E => E ρ σ k
    | none => ev T a σ fun x σ' => match x with | .normal => ev T b σ' k | x => k x σ'
  | .cond c a b, σ, k => match σ.eval c with | .bool v => cond v (ev T a σ k) (ev T b σ k) | _ => none
  | .block id c, σ, k =>
    match look T.piece (2 * id + 1) with
    | some E => E ρ σ k
    | none => ev T c σ fun x σ' => match x with | .exit j => cond (Nat.beq j id) (k .normal σ') (k (.exit j) σ') | x => k x σ'
  | .loop c, σ, k => loopEv T.m T.norm (ev T c) T.fuel σ k
  | .exit id, σ, k => k (.exit id) σ
  | .scope c, σ, k => ev T c σ k
  | .ret, σ, k => k .ret σ
  | _, _, _ => none

def resEv (T : Tab) (σ : St) : ResultVar → Option AV
  | .tmp t => σ.tm[t]?
  | .cell a t =>
    match σ.tm[a]? with
    | some (.ptr b off) => match σ.hp[b]? with
      | some (.box cs _) => loadT (T.tyOf t) (cs.drop off)
      | _ => none
    | _ => none

def resAll (T : Tab) (σ : St) : List ResultVar → Option (List AV)
  | [] => some []
  | r :: rs => match resEv T σ r, resAll T σ rs with
    | some v, some vs => some (v :: vs)
    | _, _ => none

def resOf : List AV → AV
  | [v] => v
  | vs => .tuple vs

/-- A function, run: what it hands back, and the blocks that its arguments led to. -/
def runF (T : Tab) (body : Code) (results : List ResultVar) (ntmps : Nat) (args : List AV) (bs : List Blk) {ρ : Type} (k : AV → List Blk → Option ρ) : Option ρ :=
  cond (Nat.beq bs.length T.m)
    (ev T body { tm := args ++ List.replicate (ntmps - args.length) (.tuple []), hp := bs } fun x σ =>
      match x with
      | .exit _ => none
      | _ => (resAll T σ results).bind fun vs =>
        (normEv T.m [true] T.m { tm := [(resOf vs).snap (List.replicate T.m .dead ++ σ.hp.drop T.m)], hp := σ.hp }).bind fun σ' =>
        match σ'.tm with
        | [v] => k v σ'.hp
        | _ => none) none

/-- All parts of a code. -/
def subs : Code → List Code
  | .seq a b => .seq a b :: (subs a ++ subs b)
  | .cond o a b => .cond o a b :: (subs a ++ subs b)
  | .block i a => .block i a :: subs a
  | .loop a => .loop a :: subs a
  | .scope a => .scope a :: subs a
  | c => [c]

def hasKey (i : Nat) (c : Code) : Bool := match keyOf c with | some j => Nat.beq i j | none => false

def found (i : Nat) (c : Code) : List Code := (subs c).filter (hasKey i)

/-- The piece with a number. -/
def pieceAt (i : Nat) (c : Code) : Code := (found i c).headD .skip

end Go.Ull
