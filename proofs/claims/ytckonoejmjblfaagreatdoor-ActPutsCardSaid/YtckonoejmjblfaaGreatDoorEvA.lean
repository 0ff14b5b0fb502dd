/- A plain evaluator of Go's code over data, without memory: its definitions. -/
import Derived.WalkKit
import Derived.Below
import Derived.Orders
import Derived.LoopN
import Derived.Laws.AppendOwn
import Derived.Laws.BytesArg
import Derived.Laws.Slices
import Derived.Laws.Rows
import Derived.Lib.ConvBytes
import Derived.Tactics
set_option linter.unusedVariables false
namespace Go.Proofs.YtckonoejmjblfaaGreatDoor.Ev
open Go Go.RowKit

/-- A closed datum of one cell. -/
inductive D where
  | int (k : IntKind) (n : Int)
  | bool (b : Bool)
  | str (s : List UInt8)
  | sl (xs : List (List D))
deriving Inhabited

/-- What one cell of a running call holds. -/
inductive W where
  | d (x : D)
  | full (xs : List (List D))          -- a slice whose capacity is its length (nil too)
  | app (k : Nat) (xs : List (List D)) -- a slice that may be appended to while token k bears its length
  | box (k off : Nat)                  -- a pointer into variable k of this call
  | glo (o off : Nat)                  -- a pointer into an object that calls share
  | ref (cs : List D)                  -- a pointer to cells that nobody writes
  | fn (f : Nat) (caps : List Nat)     -- a function, and the objects that it has captured
  | bsl (k off n : Nat)                -- a slice of variable k of this call
  | gsl (o off n m z : Nat)            -- a slice in an object that calls share: n elements of z cells each, with room for m
  | row (cs : List (Option D)) (n z : Nat) -- a slice just made of its n elements of z cells each (none: an empty slice without room); its capacity is its length
  | nil                                -- the nil pointer
  | un                                 -- nothing is known
deriving Inhabited

inductive C where
  | w (x : W)
  | agg (xs : List W)
deriving Inhabited

inductive V where
  | c (x : C)
  | tup (xs : List C)
deriving Inhabited

/-- Token: how many elements, the element's type and cells. -/
structure Tok where
  n : Nat
  e : TypeId
  sz : Nat

structure St where
  sl : List V
  bx : List (Nat × List W)
  tk : List (Nat × Tok)
  gl : List (List W)
  /-- Shared objects below are only read. -/
  ro : Nat
  /-- Iterators over texts: the text, the place. -/
  it : List (Nat × (List UInt8 × Nat)) := []

inductive Ex where
  | normal
  | exit (id : Nat)
  | ret

structure Cfg where
  ro : Nat → Bool            -- functions that only read what calls share
  esc : Nat → Nat → Bool     -- variables (function, slot) that calls share
  frz : Nat → Nat → Bool     -- parameters (function, slot) that nobody writes
  keep : Nat → Nat → List Nat   -- (function, first region of the loop's body): slots that live on at the loop's head
  res : Nat → List Nat       -- (function): slots of its results
  loads : Nat → Nat → List Nat -- (function, region): slots that point to variables of the call and that such a region loads from
  lazy : Nat → Nat → Bool    -- (function, region): drawn, with stores that no other operation waits for
  ful : Nat → Bool           -- functions to which a slice whose capacity is its length goes as one
  shr : Nat → Nat → Bool     -- (function, slot): what is appended to nothing here is an object that calls share
  iter : Nat → List W → Option (Nat × List (List C)) := fun _ _ => none -- (function, the cells that it has captured): what it hands to yield, so many values at a time

abbrev V.un : V := .c (.w .un)
/-- What is left of an operation that was passed over. -/
abbrev V.no : V := .tup []
abbrev V.d (x : D) : V := .c (.w (.d x))
abbrev V.int (k : IntKind) (n : Int) : V := .c (.w (.d (.int k n)))
abbrev V.bool (b : Bool) : V := .c (.w (.d (.bool b)))
abbrev V.str (s : List UInt8) : V := .c (.w (.d (.str s)))

def look {α : Type} : List (Nat × α) → Nat → Option α
  | [], _ => none
  | (k, x) :: r, i => if k = i then some x else look r i
def upd {α : Type} : List (Nat × α) → Nat → α → List (Nat × α)
  | [], i, y => [(i, y)]
  | (k, x) :: r, i, y => if k = i then (i, y) :: r else (k, x) :: upd r i y

def St.put (s : St) (dst : Option Nat) (v : V) : St :=
  match dst with
  | some t => { s with sl := s.sl.set t v }
  | none => s
def St.get (s : St) (t : Nat) : V := s.sl.getD t V.un

def chunk {α : Type} (sz : Nat) : Nat → List α → List (List α)
  | 0, _ => []
  | n + 1, cs => cs.take sz :: chunk sz n (cs.drop sz)
/-- A cell of a row. -/
def orE : Option D → D
  | some d => d
  | none => .sl []
def orW : Option D → W
  | some d => .d d
  | none => .full []
/-- A cell as a closed datum. -/
def W.close : W → Option D
  | .d x => some x
  | .full xs => some (.sl xs)
  | .app _ xs => some (.sl xs)
  | .row cs n z => some (.sl (chunk z n (cs.map orE)))
  | _ => none
def closes : List W → Option (List D)
  | [] => some []
  | x :: r => (W.close x).bind fun a => (closes r).map fun b => a :: b
/-- What may leave a call. -/
def W.expo : W → Option W
  | .app _ xs => some (.d (.sl xs))
  | .full xs => some (.d (.sl xs))
  | .row cs n z => some (.d (.sl (chunk z n (cs.map orE))))
  | .d x => some (.d x)
  | .glo o i => some (.glo o i)
  | .gsl o i n m z => some (.gsl o i n m z)
  | .ref cs => some (.ref cs)
  | .fn f cs => some (.fn f cs)
  | .nil => some .nil
  | _ => none
def expos : List W → Option (List W)
  | [] => some []
  | x :: r => (W.expo x).bind fun a => (expos r).map fun b => a :: b
/-- What may lie in a new variable that calls share: a slice whose capacity is its length stays one. -/
def W.lodge : W → Option W
  | .full xs => some (.full xs)
  | x => W.expo x
def lodges : List W → Option (List W)
  | [] => some []
  | x :: r => (W.lodge x).bind fun a => (lodges r).map fun b => a :: b
def C.expo : C → Option C
  | .w x => (W.expo x).map .w
  | .agg xs => (expos xs).map .agg
def expoCs : List C → Option (List C)
  | [] => some []
  | x :: r => (C.expo x).bind fun a => (expoCs r).map fun b => a :: b
/-- The same, but that a slice whose capacity is its length stays one. -/
def C.expoF : C → Option C
  | .w (.full xs) => some (.w (.full xs))
  | x => C.expo x
def expoFs : List C → Option (List C)
  | [] => some []
  | x :: r => (C.expoF x).bind fun a => (expoFs r).map fun b => a :: b
def W.known : W → Bool
  | .un => false
  | _ => true
def C.known : C → Bool
  | .w x => x.known
  | .agg xs => xs.all W.known
def V.comp : V → Option C
  | .c x => if x.known then some x else none
  | .tup _ => none
def comps : List V → Option (List C)
  | [] => some []
  | x :: r => (V.comp x).bind fun a => (comps r).map fun b => a :: b
def C.cells : C → List W
  | .w x => [x]
  | .agg xs => xs

/-! constants -/
def constW : Value → Option W
  | .int k n => some (.d (.int k n))
  | .bool b => some (.d (.bool b))
  | .string s => if s.size ≤ maxLen then some (.d (.str s.data.toList)) else none
  | .pointer none => some .nil
  | .slice none 0 0 => some (.full [])
  | _ => none
def constWs : List Value → Option (List W)
  | [] => some []
  | x :: r => (constW x).bind fun a => (constWs r).map fun b => a :: b
def constC : Value → Option C
  | .agg cs => (constWs cs.toList).map .agg
  | .tuple _ => none
  | v => (constW v).map .w

def constV : Value → Option V
  | .nilFunc => some V.un
  | v => (constC v).map .c
def St.ev (s : St) : Operand → Option V
  | .tmp t => some (s.get t)
  | .const v => constV v
  | .func f => some (.c (.w (.fn f [])))
  | .global _ => none

def St.evs (s : St) : List Operand → Option (List V)
  | [] => some []
  | x :: r => (s.ev x).bind fun a => (s.evs r).map fun b => a :: b

/-! types -/
def aggD : TypeDesc → Bool
  | .struct _ => true
  | .array _ _ => true
  | _ => false
section
variable (P : Program)
def szOf (t : TypeId) : Option Nat := (P.info? t).map (·.size)
def byOf (t : TypeId) : Option Nat := (P.info? t).map (·.bytes)
def isAggT (t : TypeId) : Option Bool := (P.underlying t).map aggD
/-- Cells as a value of a type. -/
def pack (t : TypeId) (cs : List W) : Option C :=
  (isAggT P t).bind fun
    | true => some (.agg cs)
    | false => match cs with | [x] => some (.w x) | _ => none
def zeroC (t : TypeId) : Option C := (P.info? t).bind fun i => i.zero.bind constC

/-- Cells from place off on, n of them. -/
def cut {α : Type} (cs : List α) (off n : Nat) : Option (List α) := if off + n ≤ cs.length then some ((cs.drop off).take n) else none
def paste {α : Type} (cs : List α) (off : Nat) (new : List α) : Option (List α) := if off + new.length ≤ cs.length then some (cs.take off ++ new ++ cs.drop (off + new.length)) else none

def St.cellsAt (s : St) (x : W) (n : Nat) : Option (List W) :=
  match x with
  | .ref cs => (cut cs 0 n).map (List.map .d)
  | .box k off => (look s.bx k).bind fun cs => cut cs off n
  | .glo o off => (s.gl[o]?).bind fun cs => cut cs off n
  | _ => none
def St.loadC (s : St) (t : TypeId) (v : V) : Option C :=
  match v with
  | .c (.w x) => (szOf P t).bind fun n => (s.cellsAt x n).bind (pack P t)
  | _ => none

def W.move (x : W) (off : Nat) : Option W :=
  match x with
  | .ref cs => some (.ref (cs.drop off))
  | .box k o => some (.box k (o + off))
  | .glo o i => some (.glo o (i + off))
  | _ => none
/-- A slice's elements. -/
def W.elems : W → Option (List (List D))
  | .d (.sl xs) => some xs
  | .full xs => some xs
  | .app _ xs => some xs
  | .row cs n z => some (chunk z n (cs.map orE))
  | _ => none

def fillW (place : Nat → Option (Nat × Nat)) (cs : List W) : List (Nat × C) → Option (List W)
  | [] => some cs
  | (i, v) :: r => (place i).bind fun p => if v.cells.length = p.2 then (paste cs p.1 v.cells).bind fun cs' => fillW place cs' r else none
def partsOf (s : St) : List (Nat × Operand) → Option (List (Nat × C))
  | [] => some []
  | (i, x) :: r => (s.ev x).bind fun v => (V.comp v).bind fun c => (partsOf s r).map fun b => (i, c) :: b
def repeatW : Nat → List W → List W
  | 0, _ => []
  | n + 1, z => z ++ repeatW n z
def placesA (P : Program) : List Field → Option (List (Nat × Nat))
  | [] => some []
  | f :: r => (szOf P f.type).bind fun n => (placesA P r).map fun b => (f.offset, n) :: b

/-! operators -/
def intOp (op : BinOp) (k : IntKind) (x y : Int) : Option D :=
  match op with
  | .add => some (.int k (k.wrap (x + y)))
  | .sub => some (.int k (k.wrap (x - y)))
  | .mul => some (.int k (k.wrap (x * y)))
  | .quo => if y = 0 then none else some (.int k (k.wrap (x.tdiv y)))
  | .rem => if y = 0 then none else some (.int k (x.tmod y))
  | .and => some (.int k (k.wrap (BitVec.ofInt k.bits x &&& BitVec.ofInt k.bits y).toNat))
  | .or => some (.int k (k.wrap (BitVec.ofInt k.bits x ||| BitVec.ofInt k.bits y).toNat))
  | .xor => some (.int k (k.wrap (BitVec.ofInt k.bits x ^^^ BitVec.ofInt k.bits y).toNat))
  | .andNot => some (.int k (k.wrap (BitVec.ofInt k.bits x &&& ~~~ BitVec.ofInt k.bits y).toNat))
  | .eql => some (.bool (x == y))
  | .neq => some (.bool (x != y))
  | .lss => some (.bool (decide (x < y)))
  | .leq => some (.bool (decide (x ≤ y)))
  | .gtr => some (.bool (decide (x > y)))
  | .geq => some (.bool (decide (x ≥ y)))
  | _ => none
def shiftOp (op : BinOp) (k : IntKind) (x y : Int) : Option D :=
  if y < 0 then none else
  match op with
  | .shl => some (.int k (k.wrap (x * 2 ^ (min y.toNat k.bits))))
  | .shr => some (.int k (x.fdiv (2 ^ (min y.toNat k.bits))))
  | _ => none
def strOp (op : BinOp) (x y : List UInt8) : Option D :=
  match op with
  | .add => if x.length + y.length ≤ maxLen then some (.str (x ++ y)) else none
  | .eql => some (.bool (x == y))
  | .neq => some (.bool (!(x == y)))
  | .lss => some (.bool (Op.bytesLess x y))
  | .leq => some (.bool (Op.bytesLess x y || x == y))
  | .gtr => some (.bool (!(Op.bytesLess x y || x == y)))
  | .geq => some (.bool (!Op.bytesLess x y))
  | _ => none
/-- Values of a type held against each other, by the type's fields. -/
def eqVal (P : Program) : Nat → TypeId → List D → List D → Option Bool
  | 0, _, _, _ => none
  | n + 1, t, xs, ys =>
    match P.underlying t with
    | some (.struct fs) => if P.stoodInHeld t then none else go n xs ys fs.toList
    | some (.array len e) => (szOf P e).bind fun z => goA n e z xs ys (List.range len)
    | some .bool => match xs, ys with | [.bool x], [.bool y] => some (x == y) | _, _ => none
    | some (.int _) => match xs, ys with | [.int k x], [.int k' y] => if k = k' then some (x == y) else none | _, _ => none
    | some .string => match xs, ys with | [.str x], [.str y] => some (x == y) | _, _ => none
    | _ => none
where
  go (n : Nat) (xs ys : List D) : List Field → Option Bool
    | [] => some true
    | f :: r => if f.name = "_" then none else (szOf P f.type).bind fun z => (cut xs f.offset z).bind fun a => (cut ys f.offset z).bind fun b =>
        (eqVal P n f.type a b).bind fun q => if q then go n xs ys r else some false
  goA (n : Nat) (e : TypeId) (z : Nat) (xs ys : List D) : List Nat → Option Bool
    | [] => some true
    | i :: r => (cut xs (i * z) z).bind fun a => (cut ys (i * z) z).bind fun b => (eqVal P n e a b).bind fun q => if q then goA n e z xs ys r else some false

def isNilW : W → Option Bool
  | .nil => some true
  | .glo _ _ => some false
  | .box _ _ => some false
  | _ => none
def eqOp (P : Program) (op : BinOp) (t : TypeId) (x y : C) : Option D :=
  match op with
  | .eql => (eqB x y).map .bool
  | .neq => (eqB x y).map fun b => .bool (!b)
  | _ => none
where
  eqB : C → C → Option Bool
    | .w (.d (.bool a)), .w (.d (.bool b)) => match P.underlying t with | some .bool => some (a == b) | _ => none
    | .w x, .w .nil => match P.underlying t with | some (.pointer _) => isNilW x | _ => none
    | .w .nil, .w y => match P.underlying t with | some (.pointer _) => isNilW y | _ => none
    | .agg xs, .agg ys => if P.eqGuardType P.depth t || !(isAggT P t == some true) then none else (closes xs).bind fun a => (closes ys).bind fun b => eqVal P 8 t a b
    | _, _ => none
def binA (P : Program) (op : BinOp) (t : TypeId) (x y : V) : Option V :=
  match x, y with
  | .c (.w (.d (.int k a))), .c (.w (.d (.int k' b))) =>
    match op with
    | .shl | .shr => (shiftOp op k a b).map V.d
    | _ => if k = k' then (intOp op k a b).map V.d else none
  | .c (.w (.d (.str a))), .c (.w (.d (.str b))) => (strOp op a b).map V.d
  | .c x, .c y => (eqOp P op t x y).map V.d
  | _, _ => none
def unA (op : UnOp) (x : V) : Option V :=
  match op, x with
  | .neg, .c (.w (.d (.int k n))) => some (V.int k (k.wrap (0 - n)))
  | .not, .c (.w (.d (.bool b))) => some (V.bool (!b))
  | _, _ => none
def byteD (b : UInt8) : List D := [.int .u8 b.toNat]
def byteOf : List D → Option UInt8
  | [.int .u8 n] => if 0 ≤ n ∧ n < 256 then some (UInt8.ofNat n.toNat) else none
  | _ => none
def bytesOf : List (List D) → Option (List UInt8)
  | [] => some []
  | x :: r => (byteOf x).bind fun a => (bytesOf r).map fun b => a :: b
def convA (P : Program) (s : St) (src dst : TypeId) (x : V) : Option V :=
  match P.underlying src, P.underlying dst, x with
  | some _, some (.int k), .c (.w (.d (.int _ n))) => some (V.int k (k.wrap n))
  | some _, some .string, .c (.w (.d (.str s))) => some (V.str s)
  | some _, some (.slice e), .c (.w (.d (.str s))) =>
    match P.underlying e with
    | some (.int .u8) => if s.length ≤ maxLen then some (V.d (.sl (s.map byteD))) else none
    | _ => none
  | some (.slice e), some .string, .c (.w x) =>
    match P.underlying e with
    | some (.int .u8) => match x with
      | .bsl k off n => (look s.bx k).bind fun cs => (cut cs off n).bind fun cs => (closes cs).bind fun ds => (bytesOf (ds.map fun d => [d])).map V.str
      | x => (W.elems x).bind fun xs => (bytesOf xs).map V.str
    | _ => none
  | _, _, _ => none

def intOfV : V → Option Int
  | .c (.w (.d (.int _ n))) => some n
  | _ => none
def boundV (s : St) (o : Option Operand) (dflt top : Nat) : Option Nat :=
  match o with
  | none => some dflt
  | some x => (s.ev x).bind fun v => (intOfV v).bind fun i => if 0 ≤ i ∧ i ≤ top then some i.toNat else none

def sliceA (P : Program) (s : St) (t : TypeId) (x : V) (lo hi : Option Operand) : Option V :=
  match P.underlying t, x with
  | some .string, .c (.w (.d (.str l))) =>
    (boundV s hi l.length l.length).bind fun h => (boundV s lo 0 h).map fun b => V.str ((l.take h).drop b)
  | some (.slice e), .c (.w (.gsl o off n m z)) =>
    (szOf P e).bind fun z' => if z' = z then
      (boundV s hi n m).bind fun h => (boundV s lo 0 h).map fun b => if b = m then V.d (.sl []) else .c (.w (.gsl o (off + b * z) (h - b) (m - b) z)) else none
  | some (.slice e), .c (.w x) =>
    (W.elems x).bind fun xs => (szOf P e).bind fun z => if xs.all (fun y => y.length == z) then
      (boundV s hi xs.length xs.length).bind fun h => (boundV s lo 0 h).map fun b => V.d (.sl ((xs.take h).drop b)) else none
  | some (.array m e), .c (.w (.ref cs)) =>
    (szOf P e).bind fun z => if cs.length = m * z ∧ m ≤ 65536 then
      (boundV s hi m m).bind fun h => (boundV s lo 0 h).map fun b => V.d (.sl (((chunk z m cs).take h).drop b)) else none
  | some (.array m e), .c (.w (.box k off)) =>
    (szOf P e).bind fun z => if m ≤ 65536 then
      (boundV s hi m m).bind fun h => (boundV s lo 0 h).map fun b => .c (.w (.bsl k (off + b * z) (h - b))) else none
  | _, _ => none

def indexAddrA (P : Program) (t : TypeId) (x i : V) : Option V :=
  (intOfV i).bind fun i =>
  match P.underlying t, x with
  | some (.array len e), .c (.w x) => (szOf P e).bind fun z => if 0 ≤ i ∧ i < len then (match x with | .box _ _ | .glo _ _ | .ref _ => (W.move x (i.toNat * z)).map fun y => .c (.w y) | _ => none) else none
  | some (.slice e), .c (.w (.gsl o off n m z)) => (szOf P e).bind fun z' => if z' = z ∧ 0 ≤ i ∧ i < n then some (.c (.w (.glo o (off + i.toNat * z)))) else none
  | some (.slice e), .c (.w x) => (W.elems x).bind fun xs => (szOf P e).bind fun z =>
      if 0 ≤ i ∧ i < xs.length then (xs[i.toNat]?).bind fun y => if y.length = z then some (.c (.w (.ref y))) else none else none
  | _, _ => none
def indexA (P : Program) (t : TypeId) (x i : V) : Option V :=
  (intOfV i).bind fun i =>
  match P.underlying t, x with
  | some .string, .c (.w (.d (.str l))) => if 0 ≤ i ∧ i < l.length then (l[i.toNat]?).map fun b => V.int .u8 b.toNat else none
  | some (.array len e), .c (.agg cs) => (szOf P e).bind fun z => if 0 ≤ i ∧ i < len then (cut cs (i.toNat * z) z).bind fun y => (pack P e y).map .c else none
  | _, _ => none
def fieldA (P : Program) (t : TypeId) (x : V) (j : Nat) : Option V :=
  match P.underlying t, x with
  | some (.struct fs), .c (.agg cs) => (fs[j]?).bind fun f => (szOf P f.type).bind fun z => (cut cs f.offset z).bind fun y => (pack P f.type y).map .c
  | _, _ => none
def fieldAddrA (P : Program) (t : TypeId) (x : V) (j : Nat) : Option V :=
  match P.underlying t, x with
  | some (.struct fs), .c (.w x) => (fs[j]?).bind fun f => (szOf P f.type).bind fun z => if z = 0 then none else (W.move x f.offset).map fun y => .c (.w y)
  | _, _ => none
def lenA (P : Program) (t : TypeId) (x : V) : Option V :=
  match P.underlying t, x with
  | some .string, .c (.w (.d (.str l))) => some (V.int .i64 l.length)
  | some (.array n _), _ => some (V.int .i64 n)
  | some (.slice _), .c (.w (.gsl _ _ n _ _)) => some (V.int .i64 n)
  | some (.slice _), .c (.w x) => (W.elems x).map fun xs => V.int .i64 xs.length
  | _, _ => none
/-- The lesser, the greater of two. -/
def lessA (less : Bool) (x y : V) : Option V :=
  match x, y with
  | .c (.w (.d (.int k a))), .c (.w (.d (.int k' b))) => if k = k' then some (V.int k (if less then (if b < a then b else a) else (if b > a then b else a))) else none
  | _, _ => none
/-- A slice cut to nothing. -/
def emptyA (P : Program) (s : St) (t : TypeId) (x : V) (hi mx : Option Operand) : Option V :=
  match P.underlying t, x, hi, mx with
  | some (.slice e), .c (.w x), some h, some m => (szOf P e).bind fun _ => (match x with | .gsl .. => some () | x => (W.elems x).map fun _ => ()).bind fun _ =>
      (s.ev h).bind fun a => (intOfV a).bind fun a => (s.ev m).bind fun b => (intOfV b).bind fun b => if a = 0 ∧ b = 0 then some (.c (.w (.full []))) else none
  | _, _, _, _ => none
def buildA (P : Program) (s : St) (t : TypeId) (parts : List (Nat × Operand)) : Option V :=
  (zeroC P t).bind fun z => (partsOf s parts).bind fun ps =>
  match P.underlying t with
  | some (.struct fs) => (placesA P fs.toList).bind fun pl => (fillW (fun i => pl[i]?) z.cells ps).map fun cs => .c (.agg cs)
  | some (.array _ e) => (szOf P e).bind fun n => (fillW (fun i => some (i * n, n)) z.cells ps).map fun cs => .c (.agg cs)
  | _ => none
/-- A row's cells, if one of them is an empty slice without room. -/
def bareW : W → Bool
  | .full [] => true
  | _ => false
def rowCells : List W → List D → List (Option D)
  | w :: ws, d :: ds => (if bareW w then none else some d) :: rowCells ws ds
  | _, _ => []
def rowW (ws : List W) (n z : Nat) (ds : List D) : W := if ws.any bareW then .row (rowCells ws ds) n z else .full (chunk z n ds)
def buildSliceA (P : Program) (s : St) (t : TypeId) (len : Nat) (parts : List (Nat × Operand)) : Option V :=
  match P.underlying t with
  | some (.slice e) => (szOf P e).bind fun n => (zeroC P e).bind fun z => (partsOf s parts).bind fun ps =>
      if z.cells.length = n ∧ 0 < n ∧ len * n ≤ 65536 then
        (fillW (fun i => some (i * n, n)) (repeatW len z.cells) ps).bind fun cs => (closes cs).map fun ds => .c (.w (rowW cs len n ds))
      else none
  | _ => none
def extractA (x : V) (i : Nat) : Option V :=
  match x with
  | .tup xs => (xs[i]?).map .c
  | _ => none
def nilCheckA (x : V) : Option V :=
  match x with
  | .c (.w (.box k o)) => some (.c (.w (.box k o)))
  | .c (.w (.glo k o)) => some (.c (.w (.glo k o)))
  | .c (.w (.ref cs)) => some (.c (.w (.ref cs)))
  | _ => none
def fnCaps : List V → Option (List Nat)
  | [] => some []
  | .c (.w (.glo o 0)) :: r => (fnCaps r).map fun b => o :: b
  | _ => none

/-- What an operation that turns nothing comes to. -/
def calmA (P : Program) (s : St) (o : Op) : Option V :=
  match o with
  | .move x | .assign x => s.ev x
  | .pick c a b => (s.ev c).bind fun | .c (.w (.d (.bool q))) => if q then s.ev a else s.ev b | _ => none
  | .build t parts => buildA P s t parts.toList
  | .buildSlice t len parts => buildSliceA P s t len parts.toList
  | .load t a => (s.ev a).bind fun v => (s.loadC P t v).map .c
  | .nilCheck x => (s.ev x).bind nilCheckA
  | .binOp op t x y _ => (s.ev x).bind fun a => (s.ev y).bind fun b => binA P op t a b
  | .unOp op _ x => (s.ev x).bind fun a => unA op a
  | .convert src dst x => (s.ev x).bind fun a => convA P s src dst a
  | .slice t x lo hi none => (s.ev x).bind fun a => sliceA P s t a lo hi
  | .slice t x none hi mx => (s.ev x).bind fun a => emptyA P s t a hi mx
  | .fieldAddr t x j => (s.ev x).bind fun a => fieldAddrA P t a j
  | .field t x j => (s.ev x).bind fun a => fieldA P t a j
  | .indexAddr t x i => (s.ev x).bind fun a => (s.ev i).bind fun b => indexAddrA P t a b
  | .index t x i => (s.ev x).bind fun a => (s.ev i).bind fun b => indexA P t a b
  | .extract t i => (s.ev t).bind fun a => extractA a i
  | .makeFunc (.func f) first caps => if first.size = 0 then (s.evs caps.toList).bind fun vs => (fnCaps vs).map fun cs => .c (.w (.fn f cs)) else none
  | .call { callee := .builtin .len, args := args, argTypes := ts } =>
    match args.toList, ts.toList with
    | [x], [t] => (s.ev x).bind fun a => lenA P t a
    | _, _ => none
  | .call { callee := .builtin .min, args := args, argTypes := _ } =>
    match args.toList with
    | [x, y] => (s.ev x).bind fun a => (s.ev y).bind fun b => lessA true a b
    | _ => none
  | .call { callee := .builtin .max, args := args, argTypes := _ } =>
    match args.toList with
    | [x, y] => (s.ev x).bind fun a => (s.ev y).bind fun b => lessA false a b
    | _ => none
  | _ => none

/-- How many elements. -/
def W.count : W → Option Nat
  | .gsl _ _ n _ _ => some n
  | x => (W.elems x).map List.length
/-- A slice's cells in a row. -/
def St.rowOf (s : St) (z : Nat) (x : W) : Option (List W) :=
  match x with
  | .gsl o off n _ z' => if z' = z then (s.gl[o]?).bind fun cs => cut cs off (n * z) else none
  | .row cs n z' => if z' = z then some (cs.map orW) else none
  | x => (W.elems x).bind fun xs => if xs.all (fun u => u.length == z) then some (xs.flatten.map W.d) else none
/-- A slice is made. -/
def makeA (P : Program) (s : St) (dst : Option Nat) (t : TypeId) (l c : Int) : Option St :=
  match P.underlying t with
  | some (.slice e) => (szOf P e).bind fun z => (byOf P e).bind fun nb => (zeroC P e).bind fun zc =>
    if zc.cells.length = z ∧ 0 < z ∧ 0 ≤ l ∧ l ≤ c ∧ c.toNat * nb ≤ 140737488355328 ∧ c.toNat ≤ maxLen then
      if c = 0 then some (s.put dst (.c (.w (.full []))))
      else (expos zc.cells).map fun zs => { (s.put dst (.c (.w (.gsl s.gl.length 0 l.toNat c.toNat z)))) with gl := s.gl ++ [repeatW c.toNat zs] }
    else none
  | _ => none
def copyA (P : Program) (s : St) (dst : Option Nat) (t : TypeId) (x y : V) : Option St :=
  match P.underlying t, x, y with
  | some (.slice e), .c (.w x), .c (.w y) => (szOf P e).bind fun z => (W.count y).bind fun k => (s.rowOf z y).bind fun row =>
    match x with
    | .gsl o off n _ z' => if z' = z ∧ s.ro ≤ o then (s.gl[o]?).bind fun cs => (expos (row.take (min k n * z))).bind fun new => (paste cs off new).map fun cs' =>
        { (s.put dst (V.int .i64 (min k n : Nat))) with gl := s.gl.set o cs' } else none
    | x => (W.elems x).bind fun xs => if xs.length = 0 then some (s.put dst (V.int .i64 0)) else none
  | _, _, _ => none
def clearA (P : Program) (s : St) (dst : Option Nat) (t : TypeId) (x : V) : Option St :=
  match P.underlying t, x with
  | some (.slice e), .c (.w x) => (szOf P e).bind fun z => (zeroC P e).bind fun zc => (expos zc.cells).bind fun zs => if zs.length = z then
    match x with
    | .gsl o off n _ z' => if z' = z ∧ s.ro ≤ o then (s.gl[o]?).bind fun cs => (paste cs off (repeatW n zs)).map fun cs' => { (s.put dst V.no) with gl := s.gl.set o cs' } else none
    | x => (W.elems x).bind fun xs => if xs.length = 0 then some (s.put dst V.no) else none
    else none
  | _, _ => none
/-- Nothing is appended. -/
def appendZ (P : Program) (s : St) (d : Nat) (t : TypeId) (x y : W) : Option St :=
  match P.underlying t with
  | some (.slice e) => (szOf P e).bind fun _ => (W.count x).bind fun _ => some (s.put (some d) (.c (.w x)))
  | _ => none
/-- What is appended to lies among what calls share; behind it, nobody looks at what it was appended to. -/
def appendG (P : Program) (s : St) (dst : Option Nat) (t : TypeId) (x y : W) : Option St :=
  match P.underlying t with
  | some (.slice e) =>
    (szOf P e).bind fun z => (byOf P e).bind fun nb => (zeroC P e).bind fun zc => (W.count x).bind fun n => (W.count y).bind fun k => (s.rowOf z y).bind fun row => (lodges row).bind fun new =>
    if zc.cells.length = z ∧ 0 < z ∧ 0 < k ∧ (n + k) * nb ≤ 140737488355328 ∧ n + k ≤ maxLen then
      match x with
      | .full xs => if xs.all (fun u => u.length == z) then some { (s.put dst (.c (.w (.gsl s.gl.length 0 (n + k) (n + k) z)))) with gl := s.gl ++ [xs.flatten.map W.d ++ new] } else none
      | .gsl o off _ m z' => if z' = z ∧ s.ro ≤ o then (s.gl[o]?).bind fun cs =>
          if n + k ≤ m then (paste cs (off + n * z) new).map fun cs' => { (s.put dst (.c (.w (.gsl o off (n + k) m z)))) with gl := s.gl.set o cs' }
          else if off = 0 ∧ 0 < cs.length ∧ n * z ≤ cs.length then some { (s.put dst (.c (.w (.gsl s.gl.length 0 (n + k) (n + k) z)))) with gl := s.gl.set o [] ++ [cs.take (n * z) ++ new] }
          else none
        else none
      | _ => none
    else none
  | _ => none

def St.storeW (s : St) (x : W) (new : List W) : Option St :=
  match x with
  | .box k off => (look s.bx k).bind fun cs => (paste cs off new).map fun cs' => { s with bx := upd s.bx k cs' }
  | .glo o off => if o < s.ro then none else (s.gl[o]?).bind fun cs => (expos new).bind fun new' => (paste cs off new').map fun cs' => { s with gl := s.gl.set o cs' }
  | _ => none

def appendA (P : Program) (s : St) (dst : Option Nat) (t : TypeId) (x y : V) : Option St :=
  match P.underlying t, dst, x, y with
  | some (.slice e), some d, .c (.w x), .c (.w y) =>
    (szOf P e).bind fun z => (byOf P e).bind fun nb => (zeroC P e).bind fun zc => (W.elems x).bind fun xs => (W.elems y).bind fun ys =>
    if zc.cells.length = z ∧ 0 < z ∧ xs.all (fun u => u.length == z) ∧ ys.all (fun u => u.length == z) ∧ (xs.length + ys.length) * nb ≤ 140737488355328 ∧ xs.length + ys.length ≤ maxLen ∧ 0 < ys.length then
      match x with
      | .full _ => match look s.tk d with
        | none => some { (s.put dst (.c (.w (.app d (xs ++ ys))))) with tk := upd s.tk d ⟨xs.length + ys.length, e, z⟩ }
        | some _ => none
      | .app k _ => match look s.tk k with
        | some tok => if tok.n = xs.length ∧ tok.e = e ∧ tok.sz = z then some { (s.put dst (.c (.w (.app k (xs ++ ys))))) with tk := upd s.tk k ⟨xs.length + ys.length, e, z⟩ } else none
        | none => none
      | _ => none
    else none
  | _, _, _, _ => none

def appendM (P : Program) (cfg : Cfg) (fid : Nat) (s : St) (d : Nat) (t : TypeId) (x y : V) : Option St :=
  match x, y with
  | .c (.w (.gsl o off n m z)), .c (.w y) => if (W.count y).getD 1 = 0 then appendZ P s d t (.gsl o off n m z) y else appendG P s (some d) t (.gsl o off n m z) y
  | .c (.w x), .c (.w y) => if (W.count y).getD 1 = 0 then appendZ P s d t x y else if cfg.shr fid d then appendG P s (some d) t x y else appendA P s (some d) t (.c (.w x)) (.c (.w y))
  | _, _ => none

abbrev Caller := Nat → List C → Nat → List (List W) → Option (V × List (List W))

def callA (cfg : Cfg) (call : Caller) (s : St) (dst : Option Nat) (f : Nat) (caps : List Nat) (args : List V) : Option St :=
  (comps args).bind fun cs => (if cfg.ful f then expoFs cs else expoCs cs).bind fun cs =>
  let all := cs ++ caps.map fun o => C.w (.glo o 0)
  if cfg.ro f then (call f all s.gl.length s.gl).bind fun r => if r.2.length = s.gl.length then some (s.put dst r.1) else none
  else (call f all s.ro s.gl).map fun r => { (s.put dst r.1) with gl := r.2 }

/-- One operation. -/
def opA (P : Program) (cfg : Cfg) (fid : Nat) (call : Caller) (s : St) (o : Oper) : Option St :=
  match o.op with
  | .alloc e => (zeroC P e).bind fun z => o.dst.bind fun d =>
    if cfg.esc fid d then (lodges z.cells).map fun cs => { (s.put o.dst (.c (.w (.glo s.gl.length 0)))) with gl := s.gl ++ [cs] }
    else match look s.bx d, look s.it d with
      | none, none => some { (s.put o.dst (.c (.w (.box d 0)))) with bx := upd s.bx d z.cells }
      | _, _ => none
  | .range t x => o.dst.bind fun d => (s.ev x).bind fun v => match P.underlying t, v, look s.bx d, look s.it d with
    | some .string, .c (.w (.d (.str l))), none, none => some { (s.put o.dst (.c (.w (.box d 0)))) with it := upd s.it d (l, 0) }
    | _, _, _, _ => none
  | .next x true => (s.ev x).bind fun
    | .c (.w (.box k 0)) => (look s.it k).bind fun p =>
      if p.2 < p.1.length then some { (s.put o.dst (.tup [.w (.d (.bool true)), .w (.d (.int .i64 p.2)), .w (.d (.int .i32 (Utf8.decode ⟨p.1.toArray⟩ p.2).1))])) with it := upd s.it k (p.1, p.2 + (Utf8.decode ⟨p.1.toArray⟩ p.2).2) }
      else some (s.put o.dst (.tup [.w (.d (.bool false))]))
    | _ => none
  | .box _ x => (s.ev x).bind fun v => (V.comp v).bind fun c => o.dst.bind fun d =>
    if cfg.frz fid d then (closes c.cells).map fun ds => s.put o.dst (.c (.w (.ref ds))) else
    if cfg.esc fid d then (lodges c.cells).map fun cs => { (s.put o.dst (.c (.w (.glo s.gl.length 0)))) with gl := s.gl ++ [cs] }
    else match look s.bx d, look s.it d with
      | none, none => some { (s.put o.dst (.c (.w (.box d 0)))) with bx := upd s.bx d c.cells }
      | _, _ => none
  | .store t a x => (s.ev a).bind fun
    | .c (.w p) => (s.ev x).bind fun v => (V.comp v).bind fun c => (szOf P t).bind fun n => if c.cells.length = n then (s.storeW p c.cells).map fun s => s.put o.dst V.un else none
    | _ => none
  | .call { callee := .builtin .append, args := args, argTypes := ts } =>
    match args.toList, ts.toList with
    | [x, y], [t, t'] => if t = t' then (s.ev x).bind fun a => (s.ev y).bind fun b => o.dst.bind fun d => appendM P cfg fid s d t a b else none
    | _, _ => none
  | .makeSlice t l c => (s.ev l).bind fun l => (intOfV l).bind fun l => (s.ev c).bind fun c => (intOfV c).bind fun c => makeA P s o.dst t l c
  | .call { callee := .builtin .copy, args := args, argTypes := ts } =>
    match args.toList, ts.toList with
    | [x, y], t :: _ => (s.ev x).bind fun a => (s.ev y).bind fun b => copyA P s o.dst t a b
    | _, _ => none
  | .call { callee := .builtin .clear, args := args, argTypes := ts } =>
    match args.toList, ts.toList with
    | [x], [t] => (s.ev x).bind fun a => clearA P s o.dst t a
    | _, _ => none
  | .call { callee := .value g, args := args, argTypes := _ } =>
    (s.ev g).bind fun
    | .c (.w (.fn f caps)) => (s.evs args.toList).bind fun vs => callA cfg call s o.dst f caps vs
    | _ => none
  | op => (calmA P s op).map fun v => s.put o.dst v

def wantedA (s : St) (ops : List Oper) (o : Oper) : Option Bool :=
  match o.guard with
  | none => some true
  | some (j, want) => ((ops[j]?).bind (·.dst)).bind fun d => match s.get d with
    | .c (.w (.d (.bool b))) => some (b == want)
    | .tup [] => some false
    | _ => none

def stepA (P : Program) (cfg : Cfg) (fid : Nat) (call : Caller) (ops : List Oper) (s : St) (o : Oper) : Option St :=
  (wantedA s ops o).bind fun
    | true => opA P cfg fid call s o
    | false => some (s.put o.dst V.no)
def opsA (P : Program) (cfg : Cfg) (fid : Nat) (call : Caller) (ops : List Oper) : List Oper → St → Option St
  | [], s => some s
  | o :: r, s => (stepA P cfg fid call ops s o).bind (opsA P cfg fid call ops r)

/-! Are data the same? -/
mutual
def D.eqb : D → D → Bool
  | .int k n, .int k' n' => decide (k = k') && decide (n = n')
  | .bool a, .bool b => a == b
  | .str a, .str b => a == b
  | .sl xs, .sl ys => eqbLL xs ys
  | _, _ => false
def eqbL : List D → List D → Bool
  | [], [] => true
  | x :: xs, y :: ys => D.eqb x y && eqbL xs ys
  | _, _ => false
def eqbLL : List (List D) → List (List D) → Bool
  | [], [] => true
  | x :: xs, y :: ys => eqbL x y && eqbLL xs ys
  | _, _ => false
end
def eqbO : List (Option D) → List (Option D) → Bool
  | [], [] => true
  | some x :: xs, some y :: ys => D.eqb x y && eqbO xs ys
  | none :: xs, none :: ys => eqbO xs ys
  | _, _ => false
def W.eqb : W → W → Bool
  | .d x, .d y => D.eqb x y
  | .full xs, .full ys => eqbLL xs ys
  | .app k xs, .app k' ys => k == k' && eqbLL xs ys
  | .box k o, .box k' o' => k == k' && o == o'
  | .glo k o, .glo k' o' => k == k' && o == o'
  | .ref cs, .ref cs' => eqbL cs cs'
  | .fn f cs, .fn f' cs' => f == f' && cs == cs'
  | .bsl k o n, .bsl k' o' n' => k == k' && (o == o' && n == n')
  | .gsl o f n m z, .gsl o' f' n' m' z' => o == o' && (f == f' && (n == n' && (m == m' && z == z')))
  | .row cs n z, .row cs' n' z' => eqbO cs cs' && (n == n' && z == z')
  | .nil, .nil => true
  | .un, .un => true
  | _, _ => false
def eqbWs : List W → List W → Bool
  | [], [] => true
  | x :: xs, y :: ys => W.eqb x y && eqbWs xs ys
  | _, _ => false
def eqbG : Option (List W) → Option (List W) → Bool
  | none, none => true
  | some a, some b => eqbWs a b
  | _, _ => false
/-- Calls that leave object o as it is. -/
def keepC (o : Nat) (call : Caller) : Caller := fun f args ro gl => (call f args ro gl).bind fun r => if eqbG r.2[o]? gl[o]? then some r else none
/-- Which object such a region's calls leave as it is: its slot is told among the loads by 300000 and more. -/
def heldO (s : St) (lo : List Nat) : Option Nat := (lo.find? fun a => decide (300000 ≤ a)).bind fun a => match s.get (a - 300000) with
  | .c (.w (.glo o _)) => some o
  | _ => none
def holdC (s : St) (lo : List Nat) (call : Caller) : Caller := match heldO s lo with
  | some o => keepC o call
  | none => call
def heldK (s : St) (lo : List Nat) : List Nat := match heldO s lo with
  | some o => [o + 400000]
  | none => []
/-- Which variables a region's stores write. -/
def lazyKs (s : St) : List Oper → Option (List Nat)
  | [] => some []
  | o :: r => match o.op with
    | .store _ (.tmp a) _ => match s.get a with
      | .c (.w (.box k _)) => (lazyKs s r).map (k :: ·)
      | _ => none
    | _ => lazyKs s r
/-- An operation doesn't look at these. -/
def lazyOp (ks : List Nat) (s : St) (op : Op) : Bool :=
  match op with
  | .load _ x => match s.ev x with
    | some (.c (.w (.box k _))) => !ks.contains k
    | some (.c (.w (.glo o _))) => match x with
      | .tmp a => !ks.contains (a + 100000) && (!ks.contains (a + 200000) || ks.contains (o + 400000))
      | _ => true
    | _ => match x with
      | .tmp a => !ks.contains (a + 100000)
      | _ => true
  | .convert _ _ x => match s.ev x with
    | some (.c (.w (.bsl k _ _))) => !ks.contains k
    | _ => true
  | _ => true
def opsL (P : Program) (cfg : Cfg) (fid : Nat) (call : Caller) (ks : List Nat) (ops : List Oper) : List Oper → St → Option St
  | [], s => some s
  | o :: r, s => if lazyOp ks s o.op then (stepA P cfg fid call ops s o).bind (opsL P cfg fid call ks ops r) else none

/-- An operation that looks at no memory. -/
def pureOp : Op → Bool
  | .move _ | .assign _ | .pick .. | .build .. | .buildSlice .. | .nilCheck _ | .binOp .. | .unOp .. | .slice .. | .fieldAddr .. | .field .. | .indexAddr .. | .index .. | .extract .. => true
  | .call { callee := .builtin .len, .. } => true
  | _ => false
/-- An operation that looks at nothing that is shared. -/
def glfree (lo : List Nat) (o : Op) : Bool := pureOp o || match o with
  | .load _ (.tmp a) => lo.contains a && decide (a < 100000)
  | _ => false
/-- A load that is seen, when its turn has come, to be from a variable of the call: such slots are told among the loads by 100000 and more. -/
def dynLd (lo : List Nat) : Op → Bool
  | .load _ (.tmp a) => lo.contains (a + 100000) && decide (a < 100000)
  | _ => false
def dynOf (lo : List Nat) : List Nat := lo.filter fun a => decide (100000 ≤ a) && decide (a < 400000)
/-- A load that is seen, when its turn has come, to be from an object that no call of the region touches: told by 200000 and more. -/
def heldLd (lo : List Nat) : Op → Bool
  | .load _ (.tmp a) => lo.contains (a + 200000) && decide (a < 100000)
  | _ => false
def callF : Op → Bool
  | .call { callee := .value (.func _), .. } => true
  | _ => false
def callOp : Op → Bool
  | .call { callee := .value (.func _), .. } => true
  | .call { callee := .builtin .copy, .. } => true
  | _ => false
def loadsOk (s : St) (lo : List Nat) : Bool := lo.all fun a => decide (100000 ≤ a) || match s.get a with
  | .c (.w (.box _ _)) => true
  | _ => false

/-- The first region of some code. -/
def firstId : Code → Nat
  | .region id _ _ => id
  | .seq a _ => firstId a
  | .cond _ a _ => firstId a
  | .block _ b => firstId b
  | .loop b => firstId b
  | .scope b => firstId b
  | .rangeFunc _ _ a _ => firstId a
  | _ => 0

/-- What is forgotten at a loop's head. -/
def W.hav (keep : List Nat) : W → W
  | .app k xs => if keep.contains k then .app k xs else .d (.sl xs)
  | .box k o => if keep.contains k then .box k o else .un
  | .bsl k o n => if keep.contains k then .bsl k o n else .un
  | x => x
def C.hav (keep : List Nat) : C → C
  | .w x => .w (x.hav keep)
  | .agg xs => .agg (xs.map (W.hav keep))
def V.hav (keep : List Nat) : V → V
  | .c x => .c (x.hav keep)
  | .tup _ => V.un
def havSl (keep : List Nat) : Nat → List V → List V
  | _, [] => []
  | i, v :: r => (if keep.contains i then v.hav keep else V.un) :: havSl keep (i + 1) r
def St.hav (keep : List Nat) (s : St) : St :=
  { s with sl := havSl keep 0 s.sl, bx := (s.bx.filter fun p => keep.contains p.1).map (fun p => (p.1, p.2.map (W.hav keep))), tk := s.tk.filter (fun p => keep.contains p.1), it := s.it.filter fun p => keep.contains p.1 }

def iter (f : St → Option (Ex × St)) (h : St → St) : Nat → St → Option (Ex × St)
  | 0, _ => none
  | n + 1, s => (f (h s)).bind fun
    | (.normal, s') => iter f h n s'
    | r => some r

/-- A loop: what is forgotten at its end. -/
def exitHav (keep res : List Nat) : Ex × St → Ex × St
  | (.exit i, s) => (.exit i, s.hav keep)
  | (.ret, s) => (.ret, s.hav res)
  | r => r
def loopA (f : St → Option (Ex × St)) (keep res : List Nat) (n : Nat) (s : St) : Option (Ex × St) := (iter f (St.hav keep) n s).map (exitHav keep res)

/-- A slice that is made of its elements, and written later: it lies among what calls share. -/
def buildG (P : Program) (s : St) (d : Nat) (t : TypeId) (len : Nat) (parts : List (Nat × Operand)) : Option St :=
  match P.underlying t with
  | some (.slice e) => (szOf P e).bind fun n => (zeroC P e).bind fun z => (partsOf s parts).bind fun ps =>
      if z.cells.length = n ∧ 0 < n ∧ 0 < len ∧ len * n ≤ 65536 then
        (fillW (fun i => some (i * n, n)) (repeatW len z.cells) ps).bind fun ws => (expos ws).map fun cs => { (s.put (some d) (.c (.w (.gsl s.gl.length 0 len len n)))) with gl := s.gl ++ [cs] }
      else none
  | _ => none
/-- A region that begins so. -/
def litOf (cfg : Cfg) (fid : Nat) : List Oper → Option (Nat × TypeId × Nat × List (Nat × Operand) × List Oper)
  | [] => none
  | o :: r => match o.dst, o.op, o.guard with
    | some d, .buildSlice t len parts, none => if cfg.shr fid d then some (d, t, len, parts.toList, r) else none
    | _, _, _ => none

/-- A region's order doesn't matter: see Draw. -/
def calmOp (cfg : Cfg) : Op → Bool
  | .move _ | .assign _ | .pick .. | .build .. | .buildSlice .. | .load .. | .nilCheck _ | .binOp .. | .unOp .. | .convert .. | .slice .. | .fieldAddr .. | .field .. | .indexAddr .. | .index .. | .extract .. => true
  | .call { callee := .builtin .len, .. } => true
  | .call { callee := .value (.func f), .. } => cfg.ro f
  | _ => false
/-- What waits for operation i. -/
def behind (ops : Array Oper) (i : Nat) : Array Bool :=
  ops.foldl (fun R o => R.push (o.after.any fun e => Region.binds .any e && (e.on == i || R.getD e.on false))) #[]
def freeG (ci : Oper → Bool) (q : Oper → Oper → Bool) (ops : Array Oper) (listed : Array Bool) (i : Nat) (R : Array Bool) : Bool :=
  match ops[i]? with
  | none => false
  | some oi => ci oi && (List.range ops.size).all fun j => match ops[j]? with
      | some oj => if R.getD j false then !listed.getD j true && oj.after.any fun e => Region.binds .any e && (e.on == i || R.getD e.on false) else j == i || listed.getD j true || (oi.apart ops oj && q oi oj)
      | none => true
def freeA (cfg : Cfg) (ops : Array Oper) (listed : Array Bool) (i : Nat) : Bool := freeG (fun o => calmOp cfg o.op) (fun _ o => calmOp cfg o.op) ops listed i (behind ops i)
def lexA (cfg : Cfg) (ops : Array Oper) : Nat → Nat → Array Bool → Bool
  | 0, _, listed => (Region.ready .any ops listed).isEmpty
  | n + 1, k, listed => (Region.ready .any ops listed == [k] || ((Region.ready .any ops listed).contains k && freeA cfg ops listed k)) && lexA cfg ops n (k + 1) (listed.setIfInBounds k true)
def drawOk (cfg : Cfg) (ops : Array Oper) : Bool := lexA cfg ops ops.size 0 (Array.replicate ops.size false)

/-- The same, with stores. -/
def storeOp : Oper → Bool
  | { dst := none, op := .store _ (.tmp _) _, .. } => true
  | _ => false
def pairOk (cfg : Cfg) (lo : List Nat) (oi oj : Oper) : Bool :=
  (calmOp cfg oi.op && (calmOp cfg oj.op || storeOp oj)) || (calmOp cfg oi.op && (glfree lo oi.op || dynLd lo oi.op) && callOp oj.op) || (callOp oi.op && calmOp cfg oj.op && glfree lo oj.op) || (calmOp cfg oi.op && heldLd lo oi.op && callF oj.op)
def freeL (cfg : Cfg) (lo : List Nat) (ops : Array Oper) (listed : Array Bool) (i : Nat) : Bool := freeG (fun o => calmOp cfg o.op || callOp o.op) (pairOk cfg lo) ops listed i (behind ops i)
def lexL (cfg : Cfg) (lo : List Nat) (ops : Array Oper) : Nat → Nat → Array Bool → Bool
  | 0, _, listed => (Region.ready .any ops listed).isEmpty
  | n + 1, k, listed => (Region.ready .any ops listed == [k] || ((Region.ready .any ops listed).contains k && freeL cfg lo ops listed k)) && lexL cfg lo ops n (k + 1) (listed.setIfInBounds k true)
def loadsApart (lo : List Nat) (ops : Array Oper) : Bool := ops.toList.all fun o => lo.all fun a => o.dst != some a
/-- No operation makes a store's address. -/
def storesApart (ops : Array Oper) : Bool := ops.toList.all fun o => match o.op with
  | .store _ (.tmp a) _ => ops.toList.all fun o' => o'.dst != some a
  | _ => true
def drawOkL (cfg : Cfg) (lo : List Nat) (ops : Array Oper) : Bool := storesApart ops && loadsApart lo ops && lexL cfg lo ops ops.size 0 (Array.replicate ops.size false)
/-- No loop over a function. -/
def noR : Code → Bool
  | .seq a b => noR a && noR b
  | .cond _ a b => noR a && noR b
  | .block _ b => noR b
  | .loop b => noR b
  | .rangeFunc .. => false
  | _ => true
/-- What is looked at once for all. -/
def codeOk (cfg : Cfg) (fid : Nat) : Code → Bool
  | .region id ops draw => draw == false || (litOf cfg fid ops.toList).isNone && (if cfg.lazy fid id then drawOkL cfg (cfg.loads fid id) ops else drawOk cfg ops)
  | .seq a b => codeOk cfg fid a && codeOk cfg fid b
  | .cond _ a b => codeOk cfg fid a && codeOk cfg fid b
  | .block _ b => codeOk cfg fid b
  | .loop b => codeOk cfg fid b
  | .rangeFunc _ _ a b => codeOk cfg fid a && codeOk cfg fid b && noR a && noR b
  | _ => true
def fnOk (cfg : Cfg) (fid : Nat) (fn : Func) : Bool := fn.name != "runtime.NumGoroutine" && (fn.body.map (codeOk cfg fid)).getD false

/-- What means the same to each call. -/
def W.free : W → Bool
  | .d _ => true
  | .full _ => true
  | .glo _ _ => true
  | .gsl .. => true
  | .ref _ => true
  | .fn _ _ => true
  | .nil => true
  | _ => false
/-- What of a slot a round of a loop over a function sees. -/
def V.calmed : V → V
  | .c (.w x) => if x.free then .c (.w x) else V.un
  | .c (.agg xs) => if xs.all W.free then .c (.agg xs) else V.un
  | .tup _ => V.un
def setPs : List Nat → List C → List V → List V
  | p :: ps, c :: cs, sl => setPs ps cs (sl.set p (.c c))
  | _, _, sl => sl
/-- What slices.Backward hands out, of aggregates. -/
def backA (xs : List (List D)) : Nat → List (List C)
  | 0 => []
  | k + 1 => [.w (.d (.int .i64 k)), .agg ((xs[k]?.getD []).map .d)] :: backA xs k
def iterBack (z : Nat) : List W → Option (Nat × List (List C))
  | [x] => (W.elems x).bind fun xs => if xs.all (fun u => u.length == z) then some (2, backA xs xs.length) else none
  | _ => none
/-- The iterator; it is used up. -/
def iterA (cfg : Cfg) (s : St) (g : Operand) (m : Nat) : Option (List (List C) × St) :=
  (s.ev g).bind fun
    | .c (.w (.fn f [o])) => (s.gl[o]?).bind fun cs => (cfg.iter f cs).bind fun p => if cs.isEmpty = false ∧ s.ro ≤ o ∧ p.1 = m then some (p.2, { s with gl := s.gl.set o [] }) else none
    | _ => none
def roundA (evA evB : St → Option (Ex × St)) (ps : List Nat) (s : St) (gl : List (List W)) (y : List C) : Option (Ex × List (List W)) :=
  (evA { sl := setPs ps y (s.sl.map V.calmed), bx := [], tk := [], gl := gl, ro := s.ro, it := [] }).bind fun
    | (.normal, s1) => (evB s1).map fun r => (r.1, r.2.gl)
    | _ => none
def rangeA (R : List (List W) → List C → Option (Ex × List (List W))) : List (List C) → List (List W) → Option (Ex × List (List W))
  | [], gl => some (.normal, gl)
  | y :: r, gl => (R gl y).bind fun
    | (.normal, gl') => rangeA R r gl'
    | q => some q

def evC (P : Program) (cfg : Cfg) (fid : Nat) (call : Caller) (n : Nat) : Code → St → Option (Ex × St)
  | .skip, s => some (.normal, s)
  | .region id ops _, s => (match litOf cfg fid ops.toList with
    | some (d, t, len, parts, r) => (buildG P s d t len parts).bind fun s => opsA P cfg fid call ops.toList r s
    | none => if cfg.lazy fid id then if loadsOk s (cfg.loads fid id) then (lazyKs s ops.toList).bind fun ks => if ks.all (fun k => decide (k < 400000)) then opsL P cfg fid (holdC s (cfg.loads fid id) call) (ks ++ dynOf (cfg.loads fid id) ++ heldK s (cfg.loads fid id)) ops.toList ops.toList s else none else none else opsA P cfg fid call ops.toList ops.toList s).map fun s => (.normal, s)
  | .seq a b, s => (evC P cfg fid call n a s).bind fun
    | (.normal, s') => evC P cfg fid call n b s'
    | r => some r
  | .cond c a b, s => (s.ev c).bind fun
    | .c (.w (.d (.bool q))) => if q then evC P cfg fid call n a s else evC P cfg fid call n b s
    | _ => none
  | .block id b, s => (evC P cfg fid call n b s).map fun
    | (.exit i, s') => if i = id then (.normal, s') else (.exit i, s')
    | r => r
  | .loop b, s => loopA (evC P cfg fid call n b) (cfg.keep fid (firstId b)) (cfg.res fid) n s
  | .exit id, s => some (.exit id, s)
  | .ret, s => some (.ret, s)
  | .rangeFunc g ps assign body, s => (iterA cfg s g ps.size).bind fun p => (rangeA (roundA (evC P cfg fid call n assign) (evC P cfg fid call n body) ps.toList p.2) p.1 p.2.gl).map fun r => (r.1, { p.2 with gl := r.2 })
  | _, _ => none

def resA (P : Program) (s : St) : List ResultVar → Option (List C)
  | [] => some []
  | .tmp t :: r => (V.comp (s.get t)).bind fun a => (resA P s r).map fun b => a :: b
  | .cell a t :: r => (s.loadC P t (s.get a)).bind fun a => (resA P s r).map fun b => a :: b
def packRes : List C → V
  | [x] => .c x
  | xs => .tup xs

def initA (fn : Func) (args : List C) (ro : Nat) (gl : List (List W)) : St :=
  { sl := args.map .c ++ List.replicate (fn.ntmps - args.length) V.un, bx := [], tk := [], gl, ro }
/-- A value mentions objects below n alone. -/
def W.below (n : Nat) : W → Bool
  | .glo o _ => decide (o < n)
  | .gsl o _ _ _ _ => decide (o < n)
  | .fn _ caps => caps.all fun o => decide (o < n)
  | _ => true
def C.below (n : Nat) : C → Bool
  | .w x => x.below n
  | .agg xs => xs.all (W.below n)
def mapO {α β : Type} (f : α → Option β) : List α → Option (List β)
  | [] => some []
  | x :: r => (f x).bind fun a => (mapO f r).map fun b => a :: b
/-- What nobody will write any more, as a closed datum; n: how deep slices may lie in slices. -/
def W.shut (gl : List (List W)) (b : Nat) : Nat → W → Option D
  | 0, x => W.close x
  | n + 1, x => match x with
    | .gsl o off k _ z => if b ≤ o ∧ k * z ≤ maxLen then (gl[o]?).bind fun cs => (cut cs off (k * z)).bind fun ws => (mapO (W.shut gl b n) ws).map fun ds => .sl (chunk z k ds) else none
    | x => W.close x
def W.settle (gl : List (List W)) (b : Nat) (x : W) : Option W :=
  match x with
  | .gsl o _ _ _ _ => if o < b then some x else (W.shut gl b 3 x).map .d
  | x => some x
def settles (gl : List (List W)) (b : Nat) : List W → Option (List W)
  | [] => some []
  | x :: r => (W.settle gl b x).bind fun a => (settles gl b r).map fun b => a :: b
def C.settle (gl : List (List W)) (b : Nat) : C → Option C
  | .w x => (W.settle gl b x).map .w
  | .agg xs => (settles gl b xs).map .agg
def settleCs (gl : List (List W)) (b : Nat) : List C → Option (List C)
  | [] => some []
  | x :: r => (C.settle gl b x).bind fun a => (settleCs gl b r).map fun b => a :: b
/-- A function that only reads what is shared drops what it has shared itself. -/
def endA (P : Program) (fn : Func) (only : Bool) (gl : List (List W)) : Ex × St → Option (V × List (List W))
  | (.exit _, _) => none
  | (_, s) => (resA P s fn.results.toList).bind fun cs => (expoCs cs).bind fun cs => if only then (settleCs s.gl gl.length cs).bind fun cs => (if cs.all (C.below gl.length) then some (packRes cs, gl) else none) else some (packRes cs, s.gl)
def bodyA (P : Program) (cfg : Cfg) (fid : Nat) (call : Caller) (n : Nat) (fn : Func) (args : List C) (ro : Nat) (gl : List (List W)) : Option (V × List (List W)) :=
  fn.body.bind fun c => (evC P cfg fid call n c (initA fn args (if cfg.ro fid then gl.length else ro) gl)).bind (endA P fn (cfg.ro fid) gl)
/-- What a call comes to: in a number of rounds; ext: functions whose answers are known otherwise. -/
def evF (P : Program) (cfg : Cfg) (ext : Nat → Option Caller) : Nat → Caller
  | 0, _, _, _, _ => none
  | n + 1, f, args, ro, gl =>
    match ext f with
    | some g => g f args ro gl
    | none => (P.funcs[f]?).bind fun fn => if fnOk cfg f fn then bodyA P cfg f (evF P cfg ext n) n fn args ro gl else none
end
end Go.Proofs.YtckonoejmjblfaaGreatDoor.Ev
