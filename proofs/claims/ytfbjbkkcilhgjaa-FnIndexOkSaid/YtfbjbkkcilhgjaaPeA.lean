/- The evaluator: pure values, a small heap of rows and boxes, compact code, and what it comes to. -/
import Derived.Orders
import Derived.Below
import Derived.Tactics
import Derived.KernelRfl
namespace Go.Proofs.Ytfbjbkkcilhgjaa.PE
open Go.RowKit

/-- A value as the evaluator sees it. 'sl': a slice that nobody writes any more, as the list of its elements, each a list of cells. -/
inductive V where
  | undef
  | int (k : IntKind) (n : Int)
  | bool (b : Bool)
  | str (s : ByteArray)
  | sl (clip : Bool) (sz : Nat) (xs : List (List V))
  | agg (cs : List V)
  | ref (id st off len : Nat) (clip : Bool)
  | ptr (id st el off : Nat)
  | fp (cs : List V)
  | clo (f : Nat) (caps : List V)
  | tup (vs : List V)
  | nsl (sz : Nat) (xs : List (List V))
  deriving Inhabited

/-- A block of the heap: a row of elements that may grow and be written, the same when it is written no more, a variable's cells, or none. -/
inductive Blk where
  | rows (st sz : Nat) (cont : List (List V))
  | frz (st sz : Nat) (cont : List (List V))
  | box (cells : List V)
  | dead
  | nest (st sz : Nat) (cont : List (List V))
  deriving Inhabited

abbrev Heap := List Blk
abbrev Env := List (Nat × V)

def get : Env → Nat → V
  | [], _ => .undef
  | (s, v) :: r, t => match s == t with
    | true => v
    | false => get r t

/-- An operand. -/
inductive X where
  | t (n : Nat)
  | k (v : V)
  deriving Inhabited

def X.ev (e : Env) : X → V
  | .t n => get e n
  | .k v => v

inductive Cv where
  | int (k : IntKind)
  | str
  | toStr
  | toBytes
  deriving Inhabited

/-- The kinds of a struct's parts, flat, as '==' goes through them. -/
inductive Sk where
  | int | bool | str
  deriving Inhabited

inductive Op where
  | mov (x : X)
  | nilrow (sz : Nat)
  | pick (c a b : X)
  | alloc (zero : List V)
  | box (x : X)
  | build (zero : List V) (parts : List (Nat × Nat × X))
  | mksl (row : Bool) (sz : Nat) (parts : List X)
  | load (agg : Bool) (sz : Nat) (x : X)
  | store (sz : Nat) (p x : X)
  | nilchk (x : X)
  | bin (op : BinOp) (x y : X)
  | eqs (neg : Bool) (ks : List Sk) (x y : X)
  | eqb (neg : Bool) (x y : X)
  | un (op : UnOp) (x : X)
  | conv (c : Cv) (x : X)
  | mkclo (f : Nat) (caps : List X)
  | mk (sz : Nat) (zero : List V) (n : X)
  | slc (str : Bool) (sz : Nat) (x : X) (lo hi mx : Option X)
  | faddr (off sz : Nat) (x : X)
  | fld (agg : Bool) (off sz : Nat) (x : X)
  | iaddr (sz : Nat) (x i : X)
  | idx (x i : X)
  | ext (x : X) (i : Nat)
  | len (str : Bool) (x : X)
  | cap (x : X)
  | app (sz : Nat) (x y : X)
  | apps (x y : X)
  | mm (max : Bool) (x : X) (ys : List X)
  | call (f : Nat) (args : List X) (sh keep : Bool)
  | callv (f : X) (args : List X) (keep : Bool)
  | bad
  | nilnest (sz : Nat)
  | mkn (sz : Nat) (zero : List V) (n : X)
  | mkns (sz : Nat) (parts : List X)
  | clr (sz : Nat) (zero : List V) (x : X)
  | appn (sz : Nat) (x y : X)
  | callx (m f : Nat) (args : List X)
  | callvx (f : X) (args : List X)
  deriving Inhabited

structure I where
  d : Option Nat
  g : Option (Nat × Bool)
  op : Op
  /-- in a region of open order: how many of its writing operations are done at least, and at most, when this one is -/
  lo : Nat := 0
  hi : Nat := 0
  wr : Bool := false
  /-- slots that are read as they were ahead of the region -/
  old : List Nat := []
  deriving Inhabited

inductive C where
  | skip
  | seg (draw : Bool) (is : List I)
  | seq (a b : C)
  | cond (c : X) (a b : C)
  | block (id : Nat) (c : C)
  | loop (live out : List Nat) (c : C)
  | loopk (live out : List Nat) (c : C)
  | exit (id : Nat)
  | ret
  | prep (p : Nat × Nat × Nat) (c : C)
  | cutTo (live : List Nat) (c : C)
  | frzc (t : Nat) (c : C)
  | clone (t0 t3 t4 t5 t6 t7 d sz : Nat)
  | bad
  deriving Inhabited

structure F where
  n : Nat
  res : List (Bool × Nat × Nat × Bool)
  body : C
  deriving Inhabited

/-! ### cells -/
def cellsOf : V → Option (List V)
  | .agg cs => some cs
  | .undef => none
  | .tup _ => none
  | v => some [v]

def ofCells (agg : Bool) (cs : List V) : Option V :=
  if agg then some (.agg cs) else match cs with
    | [c] => some c
    | _ => none

def sub (cs : List V) (off sz : Nat) : Option (List V) := if off + sz ≤ cs.length then some ((cs.drop off).take sz) else none

def put (cs : List V) (off : Nat) (ys : List V) : Option (List V) :=
  if off + ys.length ≤ cs.length then some (cs.take off ++ (ys ++ cs.drop (off + ys.length))) else none

/-- A cell, with a row told as a list. -/
def pureC (h : Heap) : V → Option V
  | .int k n => some (.int k n)
  | .bool b => some (.bool b)
  | .str s => some (.str s)
  | .sl c sz xs => some (.sl c sz xs)
  | .ref id st off len clip => match h[id]? with
    | some (.rows st' sz cont) => if st' = st then some (.sl clip sz ((cont.drop off).take len)) else none
    | some (.frz st' sz cont) => if st' = st then some (.sl clip sz ((cont.drop off).take len)) else none
    | _ => none
  | _ => none

def refC : V → List Nat
  | .ref id _ _ _ _ => [id]
  | _ => []

def frz1 (h : Heap) (id : Nat) : Heap := match h[id]? with
  | some (.rows st sz cont) => h.set id (.frz st sz cont)
  | _ => h

def frzs (h : Heap) : List Nat → Heap
  | [] => h
  | id :: r => frzs (frz1 h id) r

/-- Cells made pure: nobody writes any more what they lead to. -/
def pures (h : Heap) : List V → Option (List V)
  | [] => some []
  | c :: r => match pureC h c, pures h r with
    | some c', some r' => some (c' :: r')
    | _, _ => none

def refs : List V → List Nat
  | [] => []
  | c :: r => refC c ++ refs r

/-- What an element's value comes to as an element of a row. -/
def elemOf (h : Heap) (sz : Nat) (v : V) : Option (List V) := match cellsOf v with
  | some cs => if cs.length = sz then pures h cs else none
  | none => none

def refsV (v : V) : List Nat := match cellsOf v with
  | some cs => refs cs
  | none => []

/-! ### handles above a number -/
def hiN (n : Nat) : V → Bool
  | .ref id _ _ _ _ => decide (id < n)
  | _ => true
def hi0 (n : Nat) : V → Bool
  | .ref id _ _ _ _ => decide (id < n)
  | .nsl _ xs => xs.all fun x => x.all (hiN n)
  | .ptr id _ _ _ => decide (id < n)
  | .clo _ _ => false
  | .agg _ => false
  | .tup _ => false
  | .undef => false
  | _ => true

def hiC (n : Nat) : V → Bool
  | .clo _ cs => cs.all (hi0 n)
  | v => hi0 n v

def hiA (n : Nat) : V → Bool
  | .agg cs => cs.all (hiC n)
  | v => hiC n v

def hiT (n : Nat) : V → Bool
  | .tup vs => vs.all (hiA n)
  | .undef => true
  | v => hiA n v

def hiB (n : Nat) : Blk → Bool
  | .box cs => cs.all (hiC n)
  | .nest _ _ cont => cont.all fun x => x.all (hiN n)
  | _ => true

def hiH (n : Nat) (h : Heap) : Bool := h.all (hiB n)
def hiE (n : Nat) (e : Env) : Bool := e.all fun p => hiT n p.2

/-! ### operations -/
def small : Nat := 4294967296

def asInt : V → Option Int
  | .int _ n => some n
  | _ => none

def bins (op : BinOp) (x y : V) : Option V := match x, y with
  | .int k a, .int k' b =>
    match op with
    | .shl => if b < 0 then none else some (.int k (k.wrap (a * 2 ^ (min b.toNat k.bits))))
    | .shr => if b < 0 then none else some (.int k (a.fdiv (2 ^ (min b.toNat k.bits))))
    | _ => if k = k' then (match op with
      | .add => some (.int k (k.wrap (a + b)))
      | .sub => some (.int k (k.wrap (a - b)))
      | .mul => some (.int k (k.wrap (a * b)))
      | .quo => if b = 0 then none else some (.int k (k.wrap (a.tdiv b)))
      | .rem => if b = 0 then none else some (.int k (a.tmod b))
      | .and => some (.int k (k.wrap (BitVec.ofInt k.bits a &&& BitVec.ofInt k.bits b).toNat))
      | .or => some (.int k (k.wrap (BitVec.ofInt k.bits a ||| BitVec.ofInt k.bits b).toNat))
      | .xor => some (.int k (k.wrap (BitVec.ofInt k.bits a ^^^ BitVec.ofInt k.bits b).toNat))
      | .eql => some (.bool (decide (a = b)))
      | .neq => some (.bool (!decide (a = b)))
      | .lss => some (.bool (decide (a < b)))
      | .leq => some (.bool (decide (a ≤ b)))
      | .gtr => some (.bool (decide (b < a)))
      | .geq => some (.bool (decide (b ≤ a)))
      | _ => none) else none
  | .str a, .str b => match op with
    | .add => if a.size + b.size < small then some (.str (a ++ b)) else none
    | .eql => some (.bool (a.toList == b.toList))
    | .neq => some (.bool (!(a.toList == b.toList)))
    | .lss => some (.bool (Op.bytesLess a.toList b.toList))
    | .leq => some (.bool (Op.bytesLess a.toList b.toList || a.toList == b.toList))
    | .gtr => some (.bool (!(Op.bytesLess a.toList b.toList || a.toList == b.toList)))
    | .geq => some (.bool (!Op.bytesLess a.toList b.toList))
    | _ => none
  | _, _ => none

/-- '==' of two lists of scalar cells. -/
def eqCell : Sk → V → V → Option Bool
  | .int, .int k a, .int k' b => if k = k' then some (decide (a = b)) else none
  | .bool, .bool a, .bool b => some (a == b)
  | .str, .str a, .str b => some (decide (a = b))
  | _, _, _ => none
def eqCells : List Sk → List V → List V → Option Bool
  | [], [], [] => some true
  | k :: ks, x :: xs, y :: ys => match eqCell k x y, eqCells ks xs ys with
    | some b, some r => some (b && r)
    | _, _ => none
  | _, _, _ => none

def uns (op : UnOp) (x : V) : Option V := match op, x with
  | .neg, .int k n => some (.int k (k.wrap (0 - n)))
  | .not, .bool b => some (.bool (!b))
  | _, _ => none

def bytesOf : List (List V) → Option (List UInt8)
  | [] => some []
  | [.int .u8 n] :: r => (bytesOf r).map fun l => UInt8.ofNat n.toNat :: l
  | _ => none

def cellsOfBytes (l : List UInt8) : List (List V) := l.map fun b => [V.int .u8 b.toNat]

/-- The list that a slice's value stands for. -/
def listOf (h : Heap) : V → Option (List (List V))
  | .sl _ _ xs => some xs
  | .ref id st off len _ => match h[id]? with
    | some (.rows st' _ cont) => if st' = st then some ((cont.drop off).take len) else none
    | some (.frz st' _ cont) => if st' = st then some ((cont.drop off).take len) else none
    | _ => none
  | _ => none

def lenOf : V → Option Nat
  | .nsl _ xs => some xs.length
  | .sl _ _ xs => some xs.length
  | .ref _ _ _ len _ => some len
  | _ => none

def fills : List V → List (Nat × Nat × V) → Option (List V)
  | cells, [] => some cells
  | cells, (off, sz, v) :: r => match cellsOf v with
    | some cs => if cs.length = sz then (match put cells off cs with
      | some cells' => fills cells' r
      | none => none) else none
    | none => none

def elemsOf (h : Heap) (sz : Nat) : List V → Option (List (List V))
  | [] => some []
  | v :: r => match elemOf h sz v, elemsOf h sz r with
    | some x, some xs => some (x :: xs)
    | _, _ => none

def mmax (x : Int) : List V → IntKind → Option Int
  | [], _ => some x
  | .int k y :: r, k0 => if k = k0 then mmax (if y > x then y else x) r k0 else none
  | _, _ => none
def mmin (x : Int) : List V → IntKind → Option Int
  | [], _ => some x
  | .int k y :: r, k0 => if k = k0 then mmin (if y < x then y else x) r k0 else none
  | _, _ => none

/-- append: the elements ys to the slice x. -/
def appendTo (h : Heap) (sz : Nat) (x : V) (ys : List (List V)) : Option (V × Heap) := match x with
  | .sl clip sz' xs => match ys with
    | [] => some (.sl clip sz' xs, h)
    | _ :: _ => if clip && decide (sz' = sz) && decide (xs.length + ys.length < small) then some (.ref h.length 0 0 (xs.length + ys.length) false, h ++ [.rows 0 sz (xs ++ ys)]) else none
  | .ref id st off len clip => match h[id]? with
    | some (.rows st' sz' cont) =>
      if st' = st ∧ sz' = sz ∧ len + ys.length < small then
        (if clip then (match ys with
          | [] => some (.ref id st off len clip, h)
          | _ :: _ => some (.ref h.length 0 0 (len + ys.length) false, h ++ [.rows 0 sz ((cont.drop off).take len ++ ys)]))
        else if off = 0 ∧ len = cont.length then some (.ref id (st + ys.length) 0 (len + ys.length) false, h.set id (.rows (st + ys.length) sz (cont ++ ys)))
        else (match ys with
          | [] => some (.ref id st off len clip, h)
          | _ :: _ => some (.ref id (st + 1) 0 (len + ys.length) false, h.set id (.rows (st + 1) sz ((cont.drop off).take len ++ ys)))))
      else none
    | _ => none
  | _ => none

def loInt (e : Env) : Option X → Option Int
  | none => some 0
  | some l => asInt (l.ev e)
def hiInt (e : Env) : Option X → Option (Option Int)
  | none => some none
  | some r => (asInt (r.ev e)).map some

/-- The size of a row's elements, if the handle is the last one. -/
def szOf (h : Heap) (id st : Nat) : Option Nat := match h[id]? with
  | some (.rows st' sz _) => if st' = st then some sz else none
  | some (.frz st' sz _) => if st' = st then some sz else none
  | some (.nest st' sz _) => if st' = st then some sz else none
  | _ => none

/-- Cells that a row of rows may have. -/
def okN : V → Bool
  | .int _ _ => true
  | .bool _ => true
  | .str _ => true
  | .sl _ _ _ => true
  | .ref _ _ _ _ _ => true
  | _ => false
def elemN (sz : Nat) (v : V) : Option (List V) := match cellsOf v with
  | some cs => if cs.length = sz ∧ cs.all okN = true then some cs else none
  | none => none
def elemsN (sz : Nat) : List V → Option (List (List V))
  | [] => some []
  | v :: r => match elemN sz v, elemsN sz r with
    | some x, some xs => some (x :: xs)
    | _, _ => none
/-- What is appended to a row of rows. -/
def listN (sz : Nat) : V → Option (List (List V))
  | .nsl sz' xs => if sz' = sz then some xs else none
  | .sl _ sz' xs => if sz' = sz then some xs else none
  | _ => none
def appendN (h : Heap) (sz : Nat) (x : V) (ys : List (List V)) : Option (V × Heap) := match x with
  | .sl clip sz' xs => match ys with
    | [] => some (.sl clip sz' xs, h)
    | _ :: _ => if clip && decide (sz' = sz) && decide (xs.length + ys.length < small) then some (.ref h.length 0 0 (xs.length + ys.length) false, h ++ [.nest 0 sz (xs ++ ys)]) else none
  | .ref id st off len clip => match h[id]? with
    | some (.nest st' sz' cont) =>
      if st' = st ∧ sz' = sz ∧ off = 0 ∧ len = cont.length ∧ len + ys.length < small then
        (match ys with
          | [] => some (.ref id st off len clip, h)
          | _ :: _ => if clip then some (.ref h.length 0 0 (len + ys.length) false, h ++ [.nest 0 sz (cont ++ ys)])
            else some (.ref id (st + ys.length) 0 (len + ys.length) false, h.set id (.nest (st + ys.length) sz (cont ++ ys))))
      else none
    | _ => none
  | _ => none

def elSz (h : Heap) : V → Option Nat
  | .sl _ sz _ => some sz
  | .ref id st _ _ _ => szOf h id st
  | _ => none

def evOp (e : Env) (h : Heap) : Op → Option (V × Heap)
  | .mov x => some (x.ev e, h)
  | .nilrow sz => some (.ref h.length 0 0 0 false, h ++ [.rows 0 sz []])
  | .pick c a b => match c.ev e with
    | .bool t => some (if t then a.ev e else b.ev e, h)
    | _ => none
  | .alloc zero => some (.ptr h.length 0 0 0, h ++ [.box zero])
  | .box x => match cellsOf (x.ev e) with
    | some cs => some (.ptr h.length 0 0 0, h ++ [.box cs])
    | none => none
  | .build zero parts => match fills zero (parts.map fun p => (p.1, p.2.1, p.2.2.ev e)) with
    | some cs => some (.agg cs, h)
    | none => none
  | .mksl row sz parts => match elemsOf h sz (parts.map (X.ev e)) with
    | some xs =>
      if row then some (.ref (frzs h (parts.flatMap fun x => refsV (x.ev e))).length 0 0 parts.length false, frzs h (parts.flatMap fun x => refsV (x.ev e)) ++ [.rows 0 sz xs])
      else some (.sl true sz xs, frzs h (parts.flatMap fun x => refsV (x.ev e)))
    | none => none
  | .load agg sz x => match x.ev e with
    | .fp cs => if cs.length = sz then (ofCells agg cs).map fun v => (v, h) else none
    | .ptr id st el off => match h[id]? with
      | some (.rows st' _ cont) => if st' = st then (match cont[el]? with
        | some cs => (match sub cs off sz with
          | some ys => (ofCells agg ys).map fun v => (v, h)
          | none => none)
        | none => none) else none
      | some (.box cs) => (match sub cs off sz with
        | some ys => (ofCells agg ys).map fun v => (v, h)
        | none => none)
      | some (.nest st' _ cont) => if st' = st then (match cont[el]? with
        | some cs => (match sub cs off sz with
          | some ys => (ofCells agg ys).map fun v => (v, h)
          | none => none)
        | none => none) else none
      | _ => none
    | _ => none
  | .store sz p x => match p.ev e, cellsOf (x.ev e) with
    | .ptr id st el off, some ys => if ys.length = sz then (match h[id]? with
      | some (.rows st' sz' cont) => if st' = st then (match cont[el]?, pures h ys with
        | some cs, some ys' => (match put cs off ys', (refs ys).contains id with
          | some cs', false => some (.undef, (frzs h (refs ys)).set id (.rows st' sz' (cont.set el cs')))
          | _, _ => none)
        | _, _ => none) else none
      | some (.box cs) => (match put cs off ys with
        | some cs' => some (.undef, h.set id (.box cs'))
        | none => none)
      | some (.nest st' sz' cont) => if st' = st then (match cont[el]? with
        | some cs => (match put cs off ys, ys.all okN with
          | some cs', true => some (.undef, h.set id (.nest st' sz' (cont.set el cs')))
          | _, _ => none)
        | none => none) else none
      | _ => none) else none
    | _, _ => none
  | .nilchk x => match x.ev e with
    | .ptr id st el off => some (.ptr id st el off, h)
    | .fp cs => some (.fp cs, h)
    | .clo f cs => some (.clo f cs, h)
    | _ => none
  | .bin op x y => (bins op (x.ev e) (y.ev e)).map fun v => (v, h)
  | .eqs neg ks x y => match x.ev e, y.ev e with
    | .agg xs, .agg ys => (eqCells ks xs ys).map fun b => (.bool (if neg then !b else b), h)
    | _, _ => none
  | .eqb neg x y => match x.ev e, y.ev e with
    | .bool a, .bool b => some (.bool (if neg then !(a == b) else a == b), h)
    | _, _ => none
  | .un op x => (uns op (x.ev e)).map fun v => (v, h)
  | .conv c x => match c, x.ev e with
    | .int k, .int _ n => some (.int k (k.wrap n), h)
    | .str, .str s => some (.str s, h)
    | .toBytes, .str s => some (.sl false 1 (cellsOfBytes s.data.toList), h)
    | .toStr, v => match listOf h v with
      | some xs => (bytesOf xs).map fun l => (.str ⟨l.toArray⟩, h)
      | none => none
    | _, _ => none
  | .mkclo f caps => if (caps.map (X.ev e)).all (hi0 h.length) then some (.clo f (caps.map (X.ev e)), h) else none
  | .mk sz zero n => match n.ev e with
    | .int .i64 m => if 0 ≤ m ∧ m < small ∧ zero.length = sz then some (.ref h.length 0 0 m.toNat true, h ++ [.rows 0 sz (List.replicate m.toNat zero)]) else none
    | _ => none
  | .slc str sz x lo hi mx =>
    match loInt e lo, hiInt e hi, hiInt e mx with
    | some l, some r, some m => if m.isSome && r.isNone then none else (match x.ev e with
      | .str s => if str = true ∧ m = none ∧ 0 ≤ l ∧ l ≤ r.getD s.size ∧ r.getD s.size ≤ s.size then some (.str (s.extract l.toNat (r.getD s.size).toNat), h) else none
      | .sl clip sz' xs =>
        if str = false ∧ sz' = sz ∧ 0 ≤ l ∧ l ≤ r.getD xs.length ∧ r.getD xs.length ≤ xs.length ∧ (m = none ∨ m = some (r.getD xs.length)) then
          some (.sl (m.isSome || (clip && decide (r.getD xs.length = xs.length))) sz ((xs.drop l.toNat).take ((r.getD xs.length).toNat - l.toNat)), h)
        else none
      | .ref id st off len clip =>
        if str = false ∧ szOf h id st = some sz ∧ 0 ≤ l ∧ l ≤ r.getD len ∧ r.getD len ≤ len ∧ (m = none ∨ m = some (r.getD len)) then
          some (.ref id st (off + l.toNat) ((r.getD len).toNat - l.toNat) (m.isSome || (clip && decide (r.getD len = len))), h)
        else none
      | _ => none)
    | _, _, _ => none
  | .faddr off sz x => match x.ev e with
    | .ptr id st el o => some (.ptr id st el (o + off), h)
    | .fp cs => (sub cs off sz).map fun ys => (.fp ys, h)
    | _ => none
  | .fld agg off sz x => match x.ev e with
    | .agg cs => match sub cs off sz with
      | some ys => (ofCells agg ys).map fun v => (v, h)
      | none => none
    | _ => none
  | .iaddr sz x i => match asInt (i.ev e) with
    | some n => if 0 ≤ n then (match x.ev e with
      | .sl _ _ xs => match xs[n.toNat]? with
        | some cs => if cs.length = sz then some (.fp cs, h) else none
        | none => none
      | .ref id st off len _ => if n.toNat < len then (match h[id]? with
        | some (.rows st' sz' _) => if st' = st ∧ sz' = sz then some (.ptr id st (off + n.toNat) 0, h) else none
        | some (.nest st' sz' _) => if st' = st ∧ sz' = sz then some (.ptr id st (off + n.toNat) 0, h) else none
        | some (.frz st' sz' cont) => if st' = st ∧ sz' = sz then (match cont[off + n.toNat]? with
          | some cs => if cs.length = sz then some (.fp cs, h) else none
          | none => none) else none
        | _ => none) else none
      | _ => none) else none
    | none => none
  | .idx x i => match x.ev e, asInt (i.ev e) with
    | .str s, some n => if 0 ≤ n then (match s.data.toList[n.toNat]? with
      | some b => some (.int .u8 b.toNat, h)
      | none => none) else none
    | _, _ => none
  | .ext x i => match x.ev e with
    | .tup vs => (vs[i]?).map fun v => (v, h)
    | _ => none
  | .len str x => match str, x.ev e with
    | true, .str s => some (.int .i64 s.size, h)
    | true, _ => none
    | false, v => (lenOf v).map fun (n : Nat) => (V.int .i64 (n : Int), h)
  | .cap x => match x.ev e with
    | .sl true _ xs => some (.int .i64 xs.length, h)
    | .ref _ _ _ len true => some (.int .i64 len, h)
    | _ => none
  | .app sz x y => match listOf h (y.ev e) with
    | some ys => if elSz h (y.ev e) = some sz then appendTo h sz (x.ev e) ys else none
    | none => none
  | .apps x y => match y.ev e with
    | .str s => appendTo h 1 (x.ev e) (cellsOfBytes s.data.toList)
    | _ => none
  | .mm max x ys => match x.ev e with
    | .int k n => (if max then mmax n (ys.map (X.ev e)) k else mmin n (ys.map (X.ev e)) k).map fun m => (.int k m, h)
    | _ => none
  | .call _ _ _ _ => none
  | .callv _ _ _ => none
  | .bad => none
  | .nilnest sz => some (.ref h.length 0 0 0 false, h ++ [.nest 0 sz []])
  | .mkn sz zero n => match n.ev e with
    | .int .i64 m => if 0 ≤ m ∧ m < small ∧ zero.length = sz then some (.ref h.length 0 0 m.toNat true, h ++ [.nest 0 sz (List.replicate m.toNat zero)]) else none
    | _ => none
  | .mkns sz parts => match elemsN sz (parts.map (X.ev e)) with
    | some xs => some (.nsl sz xs, h)
    | none => none
  | .appn sz x y => match listN sz (y.ev e) with
    | some ys => appendN h sz (x.ev e) ys
    | none => none
  | .clr sz zero x => match x.ev e with
    | .sl _ _ [] => some (.tup [], h)
    | .ref id st off len _ => if len = 0 then some (.tup [], h) else match h[id]? with
      | some (.rows st' sz' cont) => if st' = st ∧ sz' = sz ∧ zero.length = sz then some (.tup [], h.set id (.rows st sz (cont.take off ++ (List.replicate len zero ++ cont.drop (off + len))))) else none
      | _ => none
    | _ => none
  | .callx _ _ _ => none
  | .callvx _ _ => none
end Go.Proofs.Ytfbjbkkcilhgjaa.PE
