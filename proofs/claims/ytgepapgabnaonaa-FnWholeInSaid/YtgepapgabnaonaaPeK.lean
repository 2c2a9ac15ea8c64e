/- The evaluator of code: calls, runs of operations, branches and loops. -/
import Derived.Test.YtgepapgabnaonaaPeA
namespace Go.Proofs.Ytgepapgabnaonaa.PE

/-- How a piece of code ends. -/
inductive Ex where
  | norm
  | exit (id : Nat)
  | ret
  deriving Inhabited

abbrev Run := Nat → List V → Heap → Option (List V × Heap)

/-! ### calls -/
def pureA (h : Heap) : V → Option V
  | .agg cs => (pures h cs).map .agg
  | v => pureC h v
def pureAs (h : Heap) : List V → Option (List V)
  | [] => some []
  | v :: r => match pureA h v, pureAs h r with
    | some v', some r' => some (v' :: r')
    | _, _ => none
def refsA : V → List Nat
  | .agg cs => refs cs
  | v => refC v
def refsAs (vs : List V) : List Nat := vs.flatMap refsA

def scalar : V → Bool
  | .int _ _ => true
  | .bool _ => true
  | .str _ => true
  | _ => false
def scalarA : V → Bool
  | .agg cs => cs.all scalar
  | v => scalar v

def oneOf : List V → V
  | [v] => v
  | vs => .tup vs

/-- A call that is handed values alone: it has a heap of its own, and what it makes comes back written no more, or as a new row. -/
def callP (run : Run) (h : Heap) (f : Nat) (args : List V) (keep : Bool) : Option (V × Heap) := match pureAs h args with
  | none => none
  | some args' => match run f args' [] with
    | none => none
    | some (rs, hc) =>
      if keep then (match rs with
        | [.ref id st off len clip] => (match hc[id]? with
          | some (.rows st' sz cont) => if st' = st then some (.ref h.length 0 0 len clip, frzs h (refsAs args) ++ [.rows 0 sz ((cont.drop off).take len)]) else none
          | _ => none)
        | [.sl true sz []] => some (.ref h.length 0 0 0 false, h ++ [.rows 0 sz []])
        | _ => none)
      else (match pureAs hc rs with
        | some rs' => some (oneOf rs', if rs'.all scalarA then h else frzs h (refsAs args))
        | none => none)

/-- A result of a call that shares the heap: as it is, if it leads to what was there; else written no more. -/
def resC (n0 : Nat) (h1 : Heap) (v : V) : Option V := if hiC n0 v then some v else pureC h1 v
def resCs (n0 : Nat) (h1 : Heap) : List V → Option (List V)
  | [] => some []
  | v :: r => match resC n0 h1 v, resCs n0 h1 r with
    | some v', some r' => some (v' :: r')
    | _, _ => none
def resA (n0 : Nat) (h1 : Heap) : V → Option V
  | .agg cs => (resCs n0 h1 cs).map .agg
  | v => resC n0 h1 v
def resAs (n0 : Nat) (h1 : Heap) : List V → Option (List V)
  | [] => some []
  | v :: r => match resA n0 h1 v, resAs n0 h1 r with
    | some v', some r' => some (v' :: r')
    | _, _ => none

/-- A call that shares the heap: what it writes is written, and what it makes for itself is forgotten. -/
def callS (run : Run) (h : Heap) (f : Nat) (args : List V) (keep : Bool) : Option (V × Heap) := match run f args h with
  | none => none
  | some (rs, h1) =>
    if hiH h.length (h1.take h.length) then
      (if keep then (match rs with
        | [.ref id st off len clip] => if id < h.length then some (.ref id st off len clip, h1.take h.length) else (match h1[id]? with
          | some (.rows st' sz cont) => if st' = st then some (.ref h.length 0 0 len clip, h1.take h.length ++ [.rows 0 sz ((cont.drop off).take len)]) else none
          | _ => none)
        | [.sl true sz []] => some (.ref h.length 0 0 0 false, h1.take h.length ++ [.rows 0 sz []])
        | [.ptr id 0 0 0] => (match h1[id]? with
          | some (.box cs) => if cs.all (hiC h.length) && decide (h.length ≤ id) then some (.ptr h.length 0 0 0, h1.take h.length ++ [.box cs]) else none
          | _ => none)
        | _ => none)
      else (match resAs h.length h1 rs with
        | some rs' => some (oneOf rs', h1.take h.length)
        | none => none))
    else none

/-! ### one operation of a run -/
def updE (e : Env) (d : Option Nat) (v : V) : Env := match d with
  | some t => (t, v) :: e
  | none => e

def evGo (run : Run) (e : Env) (h : Heap) : Op → Option (V × Heap)
  | .call f args sh keep => if sh then callS run h f (args.map (X.ev e)) keep else callP run h f (args.map (X.ev e)) keep
  | .callv fx args keep => match fx.ev e with
    | .clo g caps => callS run h g (args.map (X.ev e) ++ caps) keep
    | _ => none
  | op => evOp e h op

/-- Is it done at all? -/
def wants (e : Env) (g : Option (Nat × Bool)) : Option Bool := match g with
  | none => some true
  | some (t, b) => match get e t with
    | .bool b' => some (b' == b)
    | .tup vs => if vs.length = 0 then some false else none
    | _ => none

def evI (run : Run) (i : I) (e : Env) (h : Heap) : Option (Env × Heap) := match wants e i.g with
  | some true => match evGo run e h i.op with
    | some (v, h') => some (updE e i.d v, h')
    | none => none
  | some false => some (updE e i.d (.tup []), h)
  | none => none

def evIs (run : Run) : List I → Env → Heap → Option (Env × Heap)
  | [], e, h => some (e, h)
  | i :: r, e, h => match evI run i e h with
    | some (e', h') => evIs run r e' h'
    | none => none

/-! ### code -/
def cutE (live : List Nat) (e : Env) : Env := live.map fun t => (t, get e t)

def cut (live : List Nat) (n0 : Nat) (e : Env) (h : Heap) : Option (Env × Heap) :=
  if hiE n0 (cutE live e) && hiH n0 (h.take n0) then some (cutE live e, h.take n0) else none

def leave (out : List Nat) (n0 : Nat) (e : Env) (h : Heap) : Env × Heap :=
  if hiE n0 (cutE out e) && hiH n0 (h.take n0) then (cutE out e, h.take n0) else (cutE out e, h)

def iter (body : Env → Heap → Option (Ex × Env × Heap)) (live out : List Nat) (n0 : Nat) : Nat → Env → Heap → Option (Ex × Env × Heap)
  | 0, _, _ => none
  | k + 1, e, h => match cut live n0 e h with
    | none => none
    | some (e0, h0) => match body e0 h0 with
      | none => none
      | some (.norm, e1, h1) => iter body live out n0 k e1 h1
      | some (ex, e1, h1) => some (ex, leave out n0 e1 h1)

def rounds : Nat := 1099511627776

def prepH (e : Env) (h : Heap) (p : Nat × Nat × Nat) : Option Heap := match get e p.1 with
  | .ptr id 0 0 0 => match h[id]? with
    | some (.box cells) => match cells[p.2.1]? with
      | some (.sl true sz []) => if sz = p.2.2 then some (h.set id (.box (cells.set p.2.1 (.ref h.length 0 0 0 false))) ++ [.rows 0 sz []]) else none
      | some _ => some h
      | none => none
    | _ => none
  | _ => none

def evC (run : Run) (draw : List I → Env → Heap → Option (Env × Heap)) : C → Env → Heap → Option (Ex × Env × Heap)
  | .skip, e, h => some (.norm, e, h)
  | .seg false is, e, h => match evIs run is e h with
    | some (e', h') => some (.norm, e', h')
    | none => none
  | .seg true is, e, h => match draw is e h with
    | some (e', h') => some (.norm, e', h')
    | none => none
  | .seq a b, e, h => match evC run draw a e h with
    | some (.norm, e', h') => evC run draw b e' h'
    | r => r
  | .cond c a b, e, h => match c.ev e with
    | .bool t => if t then evC run draw a e h else evC run draw b e h
    | _ => none
  | .block id c, e, h => match evC run draw c e h with
    | some (.exit id', e', h') => if id' = id then some (.norm, e', h') else some (.exit id', e', h')
    | r => r
  | .loop live out c, e, h => iter (evC run draw c) live out h.length rounds e h
  | .exit id, e, h => some (.exit id, e, h)
  | .ret, e, h => some (.ret, e, h)
  | .prep p c, e, h => match prepH e h p with
    | some h' => evC run draw c e h'
    | none => none
  | .cutTo live c, e, h => evC run draw c (cutE live e) h
  | .bad, _, _ => none

/-! ### functions -/
def argE : Nat → List V → Env
  | _, [] => []
  | k, v :: r => (k, v) :: argE (k + 1) r

def resV (e : Env) (h : Heap) : List (Bool × Nat × Nat × Bool) → Option (List V)
  | [] => some []
  | (cell, t, sz, agg) :: r => match (if cell then (match evOp e h (.load agg sz (.t t)) with | some (v, _) => some v | none => none) else some (get e t)), resV e h r with
    | some v, some vs => some (v :: vs)
    | _, _ => none

/-- A function's body, from its arguments to its results. -/
def runF (run : Run) (draw : List I → Env → Heap → Option (Env × Heap)) (F : F) (args : List V) (h : Heap) : Option (List V × Heap) :=
  if args.length ≤ F.n then (match evC run draw F.body (argE 0 args) h with
    | some (.norm, e', h') => (resV e' h' F.res).map fun rs => (rs, h')
    | some (.ret, e', h') => (resV e' h' F.res).map fun rs => (rs, h')
    | _ => none) else none

abbrev Tab := List (Nat × F)
def Tab.find : Tab → Nat → Option F
  | [], _ => none
  | (g, F) :: r, f => if g = f then some F else find r f
end Go.Proofs.Ytgepapgabnaonaa.PE
