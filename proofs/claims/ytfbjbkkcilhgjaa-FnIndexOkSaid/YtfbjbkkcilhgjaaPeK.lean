/- The evaluator of code: calls, runs of operations, branches and loops. -/
import Derived.Test.YtfbjbkkcilhgjaaPeA
namespace Go.Proofs.Ytfbjbkkcilhgjaa.PE

/-- How a piece of code ends. -/
inductive Ex where
  | norm
  | exit (id : Nat)
  | ret
  deriving Inhabited

abbrev Run := Nat → List V → Heap → Option (List V × Heap)

/-! ### calls -/
def pureA (h : Heap) : V → Option V
  | .agg cs => (pures h cs).map .agg
  | v => pureC h v
def pureAs (h : Heap) : List V → Option (List V)
  | [] => some []
  | v :: r => match pureA h v, pureAs h r with
    | some v', some r' => some (v' :: r')
    | _, _ => none
def refsA : V → List Nat
  | .agg cs => refs cs
  | v => refC v
def refsAs (vs : List V) : List Nat := vs.flatMap refsA

/-! ### told to the bottom -/
def mapO {α β : Type} (f : α → Option β) : List α → Option (List β)
  | [] => some []
  | x :: r => match f x, mapO f r with
    | some y, some ys => some (y :: ys)
    | _, _ => none
/-- A cell, with a row of rows told as a list, to the bottom. -/
def pureD (h : Heap) : Nat → V → Option V
  | _, .int k n => some (.int k n)
  | _, .bool b => some (.bool b)
  | _, .str s => some (.str s)
  | _, .sl c sz xs => some (.sl c sz xs)
  | f + 1, .ref id st off len clip => match h[id]? with
    | some (.rows st' sz cont) => if st' = st then some (.sl clip sz ((cont.drop off).take len)) else none
    | some (.frz st' sz cont) => if st' = st then some (.sl clip sz ((cont.drop off).take len)) else none
    | some (.nest st' sz cont) => if st' = st then (mapO (mapO (pureD h f)) ((cont.drop off).take len)).map (.sl clip sz) else none
    | _ => none
  | _, _ => none
def deepest : Nat := 6
def pureDA (h : Heap) : V → Option V
  | .agg cs => (mapO (pureD h deepest) cs).map .agg
  | v => pureD h deepest v
def pureDAs (h : Heap) (vs : List V) : Option (List V) := mapO (pureDA h) vs
/-- Results, told as values: as they lie, or to the bottom. -/
def OrD (x : Option (List V)) (h : Heap) (rs : List V) : Option (List V) := match x with
  | some r => some r
  | none => pureDAs h rs
def pureRs (h : Heap) (rs : List V) : Option (List V) := OrD (pureAs h rs) h rs

def scalar : V → Bool
  | .int _ _ => true
  | .bool _ => true
  | .str _ => true
  | _ => false
def scalarA : V → Bool
  | .agg cs => cs.all scalar
  | v => scalar v

def oneOf : List V → V
  | [v] => v
  | vs => .tup vs

/-- A call that is handed values alone: it has a heap of its own, and what it makes comes back written no more, or as a new row. -/
def callP (run : Run) (h : Heap) (f : Nat) (args : List V) (keep : Bool) : Option (V × Heap) := match pureAs h args with
  | none => none
  | some args' => match run f args' [] with
    | none => none
    | some (rs, hc) =>
      if keep then (match rs with
        | .ref id st off len clip :: ss => (match hc[id]? with
          | some (.rows st' sz cont) => if st' = st ∧ ss.all scalar = true then some (oneOf (.ref h.length 0 0 len clip :: ss), frzs h (refsAs args) ++ [.rows 0 sz ((cont.drop off).take len)]) else none
          | _ => none)
        | .sl true sz [] :: ss => if ss.all scalar = true then some (oneOf (.ref h.length 0 0 0 false :: ss), h ++ [.rows 0 sz []]) else none
        | _ => none)
      else (match pureRs hc rs with
        | some rs' => some (oneOf rs', if rs'.all scalarA then h else frzs h (refsAs args))
        | none => none)

/-- A result of a call that shares the heap: as it is, if it leads to what was there; else written no more. -/
def resC (n0 : Nat) (h1 : Heap) (v : V) : Option V := if hiC n0 v then some v else pureC h1 v
def resCs (n0 : Nat) (h1 : Heap) : List V → Option (List V)
  | [] => some []
  | v :: r => match resC n0 h1 v, resCs n0 h1 r with
    | some v', some r' => some (v' :: r')
    | _, _ => none
def resA (n0 : Nat) (h1 : Heap) : V → Option V
  | .agg cs => (resCs n0 h1 cs).map .agg
  | v => resC n0 h1 v
def resAs (n0 : Nat) (h1 : Heap) : List V → Option (List V)
  | [] => some []
  | v :: r => match resA n0 h1 v, resAs n0 h1 r with
    | some v', some r' => some (v' :: r')
    | _, _ => none

/-- A call that shares the heap: what it writes is written, and what it makes for itself is forgotten. -/
def callS (run : Run) (h : Heap) (f : Nat) (args : List V) (keep : Bool) : Option (V × Heap) := match run f args h with
  | none => none
  | some (rs, h1) =>
    if hiH h.length (h1.take h.length) then
      (if keep then (match rs with
        | .ref id st off len clip :: ss => if ss.all scalar = true then (if id < h.length then some (oneOf (.ref id st off len clip :: ss), h1.take h.length) else (match h1[id]? with
          | some (.rows st' sz cont) => if st' = st then some (oneOf (.ref h.length 0 0 len clip :: ss), h1.take h.length ++ [.rows 0 sz ((cont.drop off).take len)]) else none
          | _ => none)) else none
        | .sl true sz [] :: ss => if ss.all scalar = true then some (oneOf (.ref h.length 0 0 0 false :: ss), h1.take h.length ++ [.rows 0 sz []]) else none
        | [.ptr id 0 0 0] => (match h1[id]? with
          | some (.box cs) => if cs.all (hiC h.length) && decide (h.length ≤ id) then some (.ptr h.length 0 0 0, h1.take h.length ++ [.box cs]) else none
          | _ => none)
        | _ => none)
      else (match resAs h.length h1 rs with
        | some rs' => some (oneOf rs', h1.take h.length)
        | none => none))
    else none

/-! ### calls whose results are memory of their own -/
def isNil : List (List V) → Bool
  | [] => true
  | _ :: _ => false
/-- Cells that lead to no memory but the heap's own. -/
def freshC : V → Bool
  | .int _ _ => true
  | .bool _ => true
  | .str _ => true
  | .sl _ _ xs => isNil xs
  | .ref _ _ _ _ _ => true
  | _ => false
def freshA : V → Bool
  | .agg cs => cs.all freshC
  | v => freshC v
def clean : Blk → Blk
  | .rows st sz cont => if cont.all (fun x => x.all freshC) then .rows st sz cont else .dead
  | .nest st sz cont => if cont.all (fun x => x.all freshC) then .nest st sz cont else .dead
  | _ => .dead
def shC (n : Nat) : V → V
  | .ref id st off len clip => .ref (id + n) st off len clip
  | v => v
def shA (n : Nat) : V → V
  | .agg cs => .agg (cs.map (shC n))
  | v => shC n v
def shB (n : Nat) : Blk → Blk
  | .nest st sz cont => .nest st sz (cont.map fun x => x.map (shC n))
  | b => b
/-- What a call made, behind the heap that it was called from. -/
def movedH (n : Nat) (hc : Heap) : Heap := hc.map fun b => shB n (clean b)
def BackO (rs : List V) (hc h : Heap) : Option (V × Heap) :=
  if rs.all scalarA then some (oneOf rs, h) else if rs.all freshA then some (oneOf (rs.map (shA h.length)), h ++ movedH h.length hc) else none
def callO (run : Run) (h : Heap) (f : Nat) (args : List V) : Option (V × Heap) := match pureDAs h args with
  | none => none
  | some args' => match run f args' [] with
    | some (rs, hc) => BackO rs hc h
    | none => none
/-- Cells that lead nowhere but to memory that nobody writes. -/
def flatC : V → Bool
  | .int _ _ => true
  | .bool _ => true
  | .str _ => true
  | .sl _ _ _ => true
  | _ => false
/-- What is left of a block behind a call that may hand out the others. -/
def deadB : Blk → Blk
  | .box cs => if cs.all flatC then .box cs else .dead
  | _ => .dead
/-- A call behind which none of the heap's blocks is used any more, but boxes of flat cells. -/
def callD (run : Run) (h : Heap) (f : Nat) (args : List V) : Option (V × Heap) := match pureDAs h args with
  | none => none
  | some args' => match run f args' [] with
    | some (rs, hc) => (match pureRs hc rs with
      | some rs' => some (oneOf rs', h.map deadB)
      | none => none)
    | none => none
def resOk : V → Bool
  | .tup _ => false
  | .undef => false
  | _ => true
/-- A call that shares the heap, and all of it is kept. -/
def callK (run : Run) (h : Heap) (f : Nat) (args : List V) : Option (V × Heap) := match run f args h with
  | some (rs, h1) => if rs.all resOk then some (oneOf rs, h1) else none
  | none => none
def callX (run : Run) (h : Heap) (m f : Nat) (args : List V) : Option (V × Heap) := match m with
  | 0 => callO run h f args
  | 1 => callD run h f args
  | _ => callK run h f args

/-! ### one operation of a run -/
def updE (e : Env) (d : Option Nat) (v : V) : Env := match d with
  | some t => (t, v) :: e
  | none => e

def evGo (run : Run) (e : Env) (h : Heap) : Op → Option (V × Heap)
  | .call f args sh keep => if sh then callS run h f (args.map (X.ev e)) keep else callP run h f (args.map (X.ev e)) keep
  | .callv fx args keep => match fx.ev e with
    | .clo g caps => callS run h g (args.map (X.ev e) ++ caps) keep
    | _ => none
  | .callx m f args => callX run h m f (args.map (X.ev e))
  | .callvx fx args => match fx.ev e with
    | .clo g caps => callK run h g (args.map (X.ev e) ++ caps)
    | _ => none
  | op => evOp e h op

/-- Is it done at all? -/
def wants (e : Env) (g : Option (Nat × Bool)) : Option Bool := match g with
  | none => some true
  | some (t, b) => match get e t with
    | .bool b' => some (b' == b)
    | .tup vs => if vs.length = 0 then some false else none
    | _ => none

def evI (run : Run) (i : I) (e : Env) (h : Heap) : Option (Env × Heap) := match wants e i.g with
  | some true => match evGo run e h i.op with
    | some (v, h') => some (updE e i.d v, h')
    | none => none
  | some false => some (updE e i.d (.tup []), h)
  | none => none

def evIs (run : Run) : List I → Env → Heap → Option (Env × Heap)
  | [], e, h => some (e, h)
  | i :: r, e, h => match evI run i e h with
    | some (e', h') => evIs run r e' h'
    | none => none

/-! ### code -/
def cutE (live : List Nat) (e : Env) : Env := live.map fun t => (t, get e t)

def cut (live : List Nat) (n0 : Nat) (e : Env) (h : Heap) : Option (Env × Heap) :=
  if hiE n0 (cutE live e) && hiH n0 (h.take n0) then some (cutE live e, h.take n0) else some (cutE live e, h)

def leave (out : List Nat) (n0 : Nat) (e : Env) (h : Heap) : Env × Heap :=
  if hiE n0 (cutE out e) && hiH n0 (h.take n0) then (cutE out e, h.take n0) else (cutE out e, h)

def iter (body : Env → Heap → Option (Ex × Env × Heap)) (live out : List Nat) (n0 : Nat) : Nat → Env → Heap → Option (Ex × Env × Heap)
  | 0, _, _ => none
  | k + 1, e, h => match cut live n0 e h with
    | none => none
    | some (e0, h0) => match body e0 h0 with
      | none => none
      | some (.norm, e1, h1) => iter body live out n0 k e1 h1
      | some (ex, e1, h1) => some (ex, leave out n0 e1 h1)

/-- A loop behind whose rounds all of the heap is kept. -/
def iterk (body : Env → Heap → Option (Ex × Env × Heap)) (live out : List Nat) : Nat → Env → Heap → Option (Ex × Env × Heap)
  | 0, _, _ => none
  | k + 1, e, h => match body (cutE live e) h with
    | none => none
    | some (.norm, e1, h1) => iterk body live out k e1 h1
    | some (ex, e1, h1) => some (ex, cutE out e1, h1)

def rounds : Nat := 1099511627776

def prepH (e : Env) (h : Heap) (p : Nat × Nat × Nat) : Option Heap := match get e p.1 with
  | .ptr id 0 0 0 => match h[id]? with
    | some (.box cells) => match cells[p.2.1]? with
      | some (.sl true sz []) => if sz = p.2.2 then some (h.set id (.box (cells.set p.2.1 (.ref h.length 0 0 0 false))) ++ [.rows 0 sz []]) else none
      | some _ => some h
      | none => none
    | _ => none
  | _ => none

/-- A slice's copy where it is not nil. -/
def cloneIs (t0 t5 t6 t7 d sz : Nat) : List I := [⟨some t5, none, .mksl false sz [], 0, 0, false, []⟩, ⟨some t6, none, .mov (.t t0), 0, 0, false, []⟩, ⟨some t7, none, .app sz (.t t5) (.t t6), 0, 0, false, []⟩, ⟨some d, none, .mov (.t t7), 0, 0, false, []⟩]
def CloneR (x : Option (Env × Heap)) : Option (Ex × Env × Heap) := match x with
  | some (e, h) => some (.ret, e, h)
  | none => none
def CloneC (xs : Option (List (List V))) (sz' : Option Nat) (run : Run) (t0 t3 t4 t5 t6 t7 d sz : Nat) (e : Env) (h : Heap) : Option (Ex × Env × Heap) := match xs, sz' with
  | some [], some s => if s = sz then some (.ret, [(d, .sl true sz [])], h) else none
  | some (_ :: _), some s => if s = sz then CloneR (evIs run (cloneIs t0 t5 t6 t7 d sz) ((t4, .bool false) :: (t3, get e t0) :: e) h) else none
  | _, _ => none
/-- What the box of a slot holds is not written any more. -/
def frzH (e : Env) (h : Heap) (t : Nat) : Heap := match get e t with
  | .ptr id _ _ _ => (match h[id]? with
    | some (.box cs) => frzs h (refs cs)
    | _ => h)
  | _ => h
def evC (run : Run) (draw : List I → Env → Heap → Option (Env × Heap)) : C → Env → Heap → Option (Ex × Env × Heap)
  | .skip, e, h => some (.norm, e, h)
  | .seg false is, e, h => match evIs run is e h with
    | some (e', h') => some (.norm, e', h')
    | none => none
  | .seg true is, e, h => match draw is e h with
    | some (e', h') => some (.norm, e', h')
    | none => none
  | .seq a b, e, h => match evC run draw a e h with
    | some (.norm, e', h') => evC run draw b e' h'
    | r => r
  | .cond c a b, e, h => match c.ev e with
    | .bool t => if t then evC run draw a e h else evC run draw b e h
    | _ => none
  | .block id c, e, h => match evC run draw c e h with
    | some (.exit id', e', h') => if id' = id then some (.norm, e', h') else some (.exit id', e', h')
    | r => r
  | .loop live out c, e, h => iter (evC run draw c) live out h.length rounds e h
  | .loopk live out c, e, h => iterk (evC run draw c) live out rounds e h
  | .exit id, e, h => some (.exit id, e, h)
  | .ret, e, h => some (.ret, e, h)
  | .prep p c, e, h => match prepH e h p with
    | some h' => evC run draw c e h'
    | none => none
  | .cutTo live c, e, h => evC run draw c (cutE live e) h
  | .frzc t c, e, h => evC run draw c e (frzH e h t)
  | .clone t0 t3 t4 t5 t6 t7 d sz, e, h => CloneC (listOf h (get e t0)) (elSz h (get e t0)) run t0 t3 t4 t5 t6 t7 d sz e h
  | .bad, _, _ => none

/-! ### functions -/
def argE : Nat → List V → Env
  | _, [] => []
  | k, v :: r => (k, v) :: argE (k + 1) r

def resV (e : Env) (h : Heap) : List (Bool × Nat × Nat × Bool) → Option (List V)
  | [] => some []
  | (cell, t, sz, agg) :: r => match (if cell then (match evOp e h (.load agg sz (.t t)) with | some (v, _) => some v | none => none) else some (get e t)), resV e h r with
    | some v, some vs => some (v :: vs)
    | _, _ => none

/-- A function's body, from its arguments to its results. -/
def runF (run : Run) (draw : List I → Env → Heap → Option (Env × Heap)) (F : F) (args : List V) (h : Heap) : Option (List V × Heap) :=
  if args.length ≤ F.n then (match evC run draw F.body (argE 0 args) h with
    | some (.norm, e', h') => (resV e' h' F.res).map fun rs => (rs, h')
    | some (.ret, e', h') => (resV e' h' F.res).map fun rs => (rs, h')
    | _ => none) else none

abbrev Tab := List (Nat × F)
def Tab.find : Tab → Nat → Option F
  | [], _ => none
  | (g, F) :: r, f => if g = f then some F else find r f
end Go.Proofs.Ytfbjbkkcilhgjaa.PE
