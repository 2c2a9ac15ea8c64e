/- How the evaluator's steps are reckoned with: one after the other, and no further than is known. -/
import Derived.Test.YtfbjbkkcilhgjaaPeV
namespace Go.Proofs.Ytfbjbkkcilhgjaa.PE

abbrev Draw := List I → Env → Heap → Option (Env × Heap)
abbrev Out := Option (Ex × Env × Heap)

section
variable {run : Run} {draw : Draw}

/-! ### slots -/
def GetB (b : Bool) (v : V) (e : Env) (t : Nat) : V := match b with
  | true => v
  | false => get e t
theorem GetB_true (v : V) (e : Env) (t : Nat) : GetB true v e t = v := rfl
theorem GetB_false (v : V) (e : Env) (t : Nat) : GetB false v e t = get e t := rfl
theorem get_step (s : Nat) (v : V) (e : Env) (t : Nat) : get ((s, v) :: e) t = GetB (s == t) v e t := rfl
theorem get_nil (t : Nat) : get [] t = .undef := rfl

/-! ### operations -/
/-- On with the next operation. -/
def ThenI (x : Option (V × Heap)) (run : Run) (r : List I) (d : Option Nat) (e : Env) : Option (Env × Heap) := match x with
  | some (v, h) => evIs run r (updE e d v) h
  | none => none
theorem ThenI_some (v : V) (h : Heap) (run : Run) (r : List I) (d : Option Nat) (e : Env) : ThenI (some (v, h)) run r d e = evIs run r (updE e d v) h := rfl
theorem ThenI_none (run : Run) (r : List I) (d : Option Nat) (e : Env) : ThenI none run r d e = none := rfl

/-- By a guard. -/
def GuardI (v : V) (b : Bool) (run : Run) (op : Op) (r : List I) (d : Option Nat) (e : Env) (h : Heap) : Option (Env × Heap) := match v with
  | .bool c => if c = b then ThenI (evGo run e h op) run r d e else evIs run r (updE e d (.tup [])) h
  | .tup vs => if vs.length = 0 then evIs run r (updE e d (.tup [])) h else none
  | _ => none
theorem GuardI_skip (b : Bool) (run : Run) (op : Op) (r : List I) (d : Option Nat) (e : Env) (h : Heap) : GuardI (.tup []) b run op r d e h = evIs run r (updE e d (.tup [])) h := rfl
theorem GuardI_tt (run : Run) (op : Op) (r : List I) (d : Option Nat) (e : Env) (h : Heap) : GuardI (.bool true) true run op r d e h = ThenI (evGo run e h op) run r d e := rfl
theorem GuardI_ff (run : Run) (op : Op) (r : List I) (d : Option Nat) (e : Env) (h : Heap) : GuardI (.bool false) false run op r d e h = ThenI (evGo run e h op) run r d e := rfl
theorem GuardI_tf (run : Run) (op : Op) (r : List I) (d : Option Nat) (e : Env) (h : Heap) : GuardI (.bool true) false run op r d e h = evIs run r (updE e d (.tup [])) h := rfl
theorem GuardI_ft (run : Run) (op : Op) (r : List I) (d : Option Nat) (e : Env) (h : Heap) : GuardI (.bool false) true run op r d e h = evIs run r (updE e d (.tup [])) h := rfl
theorem GuardI_by (c : Bool) (b : Bool) (run : Run) (op : Op) (r : List I) (d : Option Nat) (e : Env) (h : Heap) : GuardI (.bool c) b run op r d e h = if c = true then GuardI (.bool true) b run op r d e h else GuardI (.bool false) b run op r d e h := by cases c <;> rfl

theorem GuardI_dec (p : Prop) [Decidable p] (b : Bool) (run : Run) (op : Op) (r : List I) (d : Option Nat) (e : Env) (h : Heap) : GuardI (.bool (decide p)) b run op r d e h = if p then GuardI (.bool true) b run op r d e h else GuardI (.bool false) b run op r d e h := by
  by_cases hp : p <;> simp [hp]
theorem evIs_nil (run : Run) (e : Env) (h : Heap) : evIs run [] e h = some (e, h) := rfl
theorem evIs_cons (run : Run) (d : Option Nat) (op : Op) (lo hi : Nat) (wr : Bool) (old : List Nat) (r : List I) (e : Env) (h : Heap) :
    evIs run (⟨d, none, op, lo, hi, wr, old⟩ :: r) e h = ThenI (evGo run e h op) run r d e := by
  simp only [evIs, evI, wants]
  cases evGo run e h op with
  | none => rfl
  | some p => rfl
theorem evIs_guard (run : Run) (d : Option Nat) (t : Nat) (b : Bool) (op : Op) (lo hi : Nat) (wr : Bool) (old : List Nat) (r : List I) (e : Env) (h : Heap) :
    evIs run (⟨d, some (t, b), op, lo, hi, wr, old⟩ :: r) e h = GuardI (get e t) b run op r d e h := by
  simp only [evIs, evI, wants]
  cases get e t with
  | bool c =>
    simp only [GuardI]
    cases b <;> cases c <;> simp <;> (cases evGo run e h op <;> rfl)
  | tup vs =>
    simp only [GuardI]
    by_cases hv : vs.length = 0
    · simp [hv]
    · simp [hv]
  | _ => rfl

/-! ### code -/
def SegC (x : Option (Env × Heap)) : Out := match x with
  | some (e, h) => some (.norm, e, h)
  | none => none
theorem SegC_some (e : Env) (h : Heap) : SegC (some (e, h)) = some (.norm, e, h) := rfl
theorem SegC_none : SegC none = none := rfl
theorem SegC_ite (c : Prop) [Decidable c] (x y : Option (Env × Heap)) : SegC (if c then x else y) = if c then SegC x else SegC y := by split <;> rfl

def SeqC (x : Out) (run : Run) (draw : Draw) (b : C) : Out := match x with
  | some (.norm, e, h) => evC run draw b e h
  | x => x
theorem SeqC_norm (e : Env) (h : Heap) (run : Run) (draw : Draw) (b : C) : SeqC (some (.norm, e, h)) run draw b = evC run draw b e h := rfl
theorem SeqC_exit (id : Nat) (e : Env) (h : Heap) (run : Run) (draw : Draw) (b : C) : SeqC (some (.exit id, e, h)) run draw b = some (.exit id, e, h) := rfl
theorem SeqC_ret (e : Env) (h : Heap) (run : Run) (draw : Draw) (b : C) : SeqC (some (.ret, e, h)) run draw b = some (.ret, e, h) := rfl
theorem SeqC_none (run : Run) (draw : Draw) (b : C) : SeqC none run draw b = none := rfl

def CondC (v : V) (run : Run) (draw : Draw) (a b : C) (e : Env) (h : Heap) : Out := match v with
  | .bool t => if t then evC run draw a e h else evC run draw b e h
  | _ => none
theorem CondC_true (run : Run) (draw : Draw) (a b : C) (e : Env) (h : Heap) : CondC (.bool true) run draw a b e h = evC run draw a e h := rfl
theorem CondC_false (run : Run) (draw : Draw) (a b : C) (e : Env) (h : Heap) : CondC (.bool false) run draw a b e h = evC run draw b e h := rfl
theorem CondC_by (t : Bool) (run : Run) (draw : Draw) (a b : C) (e : Env) (h : Heap) : CondC (.bool t) run draw a b e h = if t = true then evC run draw a e h else evC run draw b e h := rfl

theorem CondC_dec (p : Prop) [Decidable p] (run : Run) (draw : Draw) (a b : C) (e : Env) (h : Heap) : CondC (.bool (decide p)) run draw a b e h = if p then evC run draw a e h else evC run draw b e h := by
  rw [CondC_by]
  by_cases hp : p <;> simp [hp]

def BlockC (x : Out) (id : Nat) : Out := match x with
  | some (.exit id', e', h') => if id' = id then some (.norm, e', h') else some (.exit id', e', h')
  | r => r
theorem BlockC_norm (e : Env) (h : Heap) (id : Nat) : BlockC (some (.norm, e, h)) id = some (.norm, e, h) := rfl
theorem BlockC_ret (e : Env) (h : Heap) (id : Nat) : BlockC (some (.ret, e, h)) id = some (.ret, e, h) := rfl
theorem BlockC_exit (e : Env) (h : Heap) (id id' : Nat) : BlockC (some (.exit id', e, h)) id = if id' = id then some (.norm, e, h) else some (.exit id', e, h) := rfl
theorem BlockC_none (id : Nat) : BlockC none id = none := rfl

theorem evC_skip (run : Run) (draw : Draw) (e : Env) (h : Heap) : evC run draw .skip e h = some (.norm, e, h) := rfl
theorem evC_seg (run : Run) (draw : Draw) (is : List I) (e : Env) (h : Heap) : evC run draw (.seg false is) e h = SegC (evIs run is e h) := by
  simp only [evC]
  cases evIs run is e h <;> rfl
theorem evC_draw (run : Run) (draw : Draw) (is : List I) (e : Env) (h : Heap) : evC run draw (.seg true is) e h = SegC (draw is e h) := by
  simp only [evC]
  cases draw is e h <;> rfl
theorem evC_seq (run : Run) (draw : Draw) (a b : C) (e : Env) (h : Heap) : evC run draw (.seq a b) e h = SeqC (evC run draw a e h) run draw b := by
  simp only [evC]
  rcases evC run draw a e h with _ | ⟨ex, e', h'⟩
  · rfl
  · cases ex <;> rfl
theorem evC_cond (run : Run) (draw : Draw) (c : X) (a b : C) (e : Env) (h : Heap) : evC run draw (.cond c a b) e h = CondC (c.ev e) run draw a b e h := by
  simp only [evC, CondC]
  cases c.ev e <;> rfl
theorem evC_block (run : Run) (draw : Draw) (id : Nat) (c : C) (e : Env) (h : Heap) : evC run draw (.block id c) e h = BlockC (evC run draw c e h) id := by
  simp only [evC]
  rcases evC run draw c e h with _ | ⟨ex, e', h'⟩
  · rfl
  · cases ex <;> rfl
theorem evC_exit (run : Run) (draw : Draw) (id : Nat) (e : Env) (h : Heap) : evC run draw (.exit id) e h = some (.exit id, e, h) := rfl
theorem evC_ret (run : Run) (draw : Draw) (e : Env) (h : Heap) : evC run draw .ret e h = some (.ret, e, h) := rfl
def PrepC (x : Option Heap) (run : Run) (draw : Draw) (c : C) (e : Env) : Out := match x with
  | some h => evC run draw c e h
  | none => none
theorem PrepC_some (h : Heap) (run : Run) (draw : Draw) (c : C) (e : Env) : PrepC (some h) run draw c e = evC run draw c e h := rfl
theorem evC_frzc (run : Run) (draw : Draw) (t : Nat) (c : C) (e : Env) (h : Heap) : evC run draw (.frzc t c) e h = evC run draw c e (frzH e h t) := rfl
theorem evC_clone (run : Run) (draw : Draw) (t0 t3 t4 t5 t6 t7 d sz : Nat) (e : Env) (h : Heap) : evC run draw (.clone t0 t3 t4 t5 t6 t7 d sz) e h = CloneC (listOf h (get e t0)) (elSz h (get e t0)) run t0 t3 t4 t5 t6 t7 d sz e h := rfl
theorem CloneR_some (e : Env) (h : Heap) : CloneR (some (e, h)) = some (.ret, e, h) := rfl
theorem CloneC_nil (s : Nat) (run : Run) (t0 t3 t4 t5 t6 t7 d sz : Nat) (e : Env) (h : Heap) : CloneC (some []) (some s) run t0 t3 t4 t5 t6 t7 d sz e h = if s = sz then some (.ret, [(d, .sl true sz [])], h) else none := rfl
theorem CloneC_cons (y : List V) (ys : List (List V)) (s : Nat) (run : Run) (t0 t3 t4 t5 t6 t7 d sz : Nat) (e : Env) (h : Heap) : CloneC (some (y :: ys)) (some s) run t0 t3 t4 t5 t6 t7 d sz e h = if s = sz then CloneR (evIs run (cloneIs t0 t5 t6 t7 d sz) ((t4, .bool false) :: (t3, get e t0) :: e) h) else none := rfl
theorem evC_cutTo (run : Run) (draw : Draw) (live : List Nat) (c : C) (e : Env) (h : Heap) : evC run draw (.cutTo live c) e h = evC run draw c (cutE live e) h := rfl
theorem evC_prep (run : Run) (draw : Draw) (p : Nat × Nat × Nat) (c : C) (e : Env) (h : Heap) : evC run draw (.prep p c) e h = PrepC (prepH e h p) run draw c e := by
  simp only [evC, PrepC]
  cases prepH e h p <;> rfl

/-! ### loops -/
/-- A loop, from the head of a round whose slots are cut. -/
def LoopS (run : Run) (draw : Draw) (live out : List Nat) (c : C) (n0 k : Nat) (e : Env) (h : Heap) : Out :=
  match evC run draw c e h with
  | some (.norm, e1, h1) => iter (evC run draw c) live out n0 k e1 h1
  | some (ex, e1, h1) => some (ex, leave out n0 e1 h1)
  | none => none
/-- Behind a round. -/
def NextS (x : Out) (run : Run) (draw : Draw) (live out : List Nat) (c : C) (n0 k : Nat) : Out := match x with
  | some (.norm, e1, h1) => iter (evC run draw c) live out n0 k e1 h1
  | some (ex, e1, h1) => some (ex, leave out n0 e1 h1)
  | none => none
/-- Ahead of a round. -/
def CutS (x : Option (Env × Heap)) (run : Run) (draw : Draw) (live out : List Nat) (c : C) (n0 k : Nat) : Out := match x with
  | some (e, h) => LoopS run draw live out c n0 k e h
  | none => none
theorem LoopS_eq (run : Run) (draw : Draw) (live out : List Nat) (c : C) (n0 k : Nat) (e : Env) (h : Heap) : LoopS run draw live out c n0 k e h = NextS (evC run draw c e h) run draw live out c n0 k := rfl
theorem iter_cut (run : Run) (draw : Draw) (live out : List Nat) (c : C) (n0 k : Nat) (e : Env) (h : Heap) :
    iter (evC run draw c) live out n0 (k + 1) e h = CutS (cut live n0 e h) run draw live out c n0 k := by
  simp only [iter]
  cases cut live n0 e h with
  | none => rfl
  | some p =>
    obtain ⟨e0, h0⟩ := p
    simp only [CutS, LoopS]
    rcases evC run draw c e0 h0 with _ | ⟨ex, e', h'⟩
    · rfl
    · cases ex <;> rfl
theorem NextS_norm (run : Run) (draw : Draw) (live out : List Nat) (c : C) (n0 k : Nat) (e : Env) (h : Heap) :
    NextS (some (.norm, e, h)) run draw live out c n0 (k + 1) = CutS (cut live n0 e h) run draw live out c n0 k := iter_cut run draw live out c n0 k e h
theorem NextS_exit (run : Run) (draw : Draw) (live out : List Nat) (c : C) (n0 k id : Nat) (e : Env) (h : Heap) :
    NextS (some (.exit id, e, h)) run draw live out c n0 k = some (.exit id, leave out n0 e h) := rfl
theorem NextS_ret (run : Run) (draw : Draw) (live out : List Nat) (c : C) (n0 k : Nat) (e : Env) (h : Heap) :
    NextS (some (.ret, e, h)) run draw live out c n0 k = some (.ret, leave out n0 e h) := rfl
theorem CutS_some (run : Run) (draw : Draw) (live out : List Nat) (c : C) (n0 k : Nat) (e : Env) (h : Heap) :
    CutS (some (e, h)) run draw live out c n0 k = LoopS run draw live out c n0 k e h := rfl
/-- A loop that keeps the heap, from the head of a round whose slots are cut. -/
def LoopK (run : Run) (draw : Draw) (live out : List Nat) (c : C) (k : Nat) (e : Env) (h : Heap) : Out :=
  match evC run draw c e h with
  | some (.norm, e1, h1) => iterk (evC run draw c) live out k e1 h1
  | some (ex, e1, h1) => some (ex, cutE out e1, h1)
  | none => none
def NextK (x : Out) (run : Run) (draw : Draw) (live out : List Nat) (c : C) (k : Nat) : Out := match x with
  | some (.norm, e1, h1) => iterk (evC run draw c) live out k e1 h1
  | some (ex, e1, h1) => some (ex, cutE out e1, h1)
  | none => none
theorem LoopK_eq (run : Run) (draw : Draw) (live out : List Nat) (c : C) (k : Nat) (e : Env) (h : Heap) : LoopK run draw live out c k e h = NextK (evC run draw c e h) run draw live out c k := rfl
theorem iterk_cut (run : Run) (draw : Draw) (live out : List Nat) (c : C) (k : Nat) (e : Env) (h : Heap) :
    iterk (evC run draw c) live out (k + 1) e h = LoopK run draw live out c k (cutE live e) h := by
  simp only [iterk, LoopK]
  rcases evC run draw c (cutE live e) h with _ | ⟨ex, e', h'⟩
  · rfl
  · cases ex <;> rfl
theorem NextK_norm (run : Run) (draw : Draw) (live out : List Nat) (c : C) (k : Nat) (e : Env) (h : Heap) :
    NextK (some (.norm, e, h)) run draw live out c (k + 1) = LoopK run draw live out c k (cutE live e) h := iterk_cut run draw live out c k e h
theorem NextK_exit (run : Run) (draw : Draw) (live out : List Nat) (c : C) (k id : Nat) (e : Env) (h : Heap) :
    NextK (some (.exit id, e, h)) run draw live out c k = some (.exit id, cutE out e, h) := rfl
theorem NextK_ret (run : Run) (draw : Draw) (live out : List Nat) (c : C) (k : Nat) (e : Env) (h : Heap) :
    NextK (some (.ret, e, h)) run draw live out c k = some (.ret, cutE out e, h) := rfl
theorem evC_loopk (run : Run) (draw : Draw) (live out : List Nat) (c : C) (e : Env) (h : Heap) :
    evC run draw (.loopk live out c) e h = LoopK run draw live out c 1099511627775 (cutE live e) h := by
  simp only [evC]
  rw [show rounds = 1099511627775 + 1 from rfl, iterk_cut]
theorem evC_loop (run : Run) (draw : Draw) (live out : List Nat) (c : C) (e : Env) (h : Heap) :
    evC run draw (.loop live out c) e h = CutS (cut live h.length e h) run draw live out c h.length 1099511627775 := by
  simp only [evC]
  rw [show rounds = 1099511627775 + 1 from rfl, iter_cut]

/-! ### functions -/
def ResF (x : Option (List V)) (h : Heap) : Option (List V × Heap) := match x with
  | some rs => some (rs, h)
  | none => none
theorem ResF_some (rs : List V) (h : Heap) : ResF (some rs) h = some (rs, h) := rfl
def EndF (x : Out) (res : List (Bool × Nat × Nat × Bool)) : Option (List V × Heap) := match x with
  | some (.norm, e, h) => ResF (resV e h res) h
  | some (.ret, e, h) => ResF (resV e h res) h
  | _ => none
theorem EndF_norm (e : Env) (h : Heap) (res : List (Bool × Nat × Nat × Bool)) : EndF (some (.norm, e, h)) res = ResF (resV e h res) h := rfl
theorem EndF_ret (e : Env) (h : Heap) (res : List (Bool × Nat × Nat × Bool)) : EndF (some (.ret, e, h)) res = ResF (resV e h res) h := rfl
theorem EndF_none (res : List (Bool × Nat × Nat × Bool)) : EndF none res = none := rfl

theorem runD_eq {tab : Tab} {ext : Run} {f : Nat} {n : Nat} {res : List (Bool × Nat × Nat × Bool)} {body : C} (hf : tab.find f = some ⟨n, res, body⟩) (d : Nat) (args : List V) (h : Heap) (hn : args.length ≤ n) :
    runD tab ext (d + 1) f args h = EndF (evC (runD tab ext d) (drawI (runD tab ext d)) body (argE 0 args) h) res := by
  simp only [runD, hf, runF]
  rw [if_pos hn]
  rcases evC (runD tab ext d) (drawI (runD tab ext d)) body (argE 0 args) h with _ | ⟨ex, e', h'⟩
  · rfl
  · cases ex
    · simp only [EndF, ResF]
      cases resV e' h' res <;> rfl
    · rfl
    · simp only [EndF, ResF]
      cases resV e' h' res <;> rfl

/-- The results of a call that is handed values alone. -/
def PureR (x : Option (List V × Heap)) : Option (List V) := match x with
  | some (rs, h) => pureRs h rs
  | none => none
theorem PureR_some (rs : List V) (h : Heap) : PureR (some (rs, h)) = OrD (pureAs h rs) h rs := rfl
theorem OrD_some (r : List V) (h : Heap) (rs : List V) : OrD (some r) h rs = some r := rfl
theorem OrD_none (h : Heap) (rs : List V) : OrD none h rs = pureDAs h rs := rfl
def retP (run : Run) (f : Nat) (args : List V) : Option (List V) := PureR (run f args [])

def BackP (x : Option (List V)) (h : Heap) (args : List V) : Option (V × Heap) := match x with
  | some rs => some (oneOf rs, if rs.all scalarA then h else frzs h (refsAs args))
  | none => none
def CallP (x : Option (List V)) (run : Run) (h : Heap) (f : Nat) (args : List V) : Option (V × Heap) := match x with
  | some args' => BackP (retP run f args') h args
  | none => none
theorem CallP_some (args' : List V) (run : Run) (h : Heap) (f : Nat) (args : List V) : CallP (some args') run h f args = BackP (retP run f args') h args := rfl
theorem BackP_some (rs : List V) (h : Heap) (args : List V) : BackP (some rs) h args = some (oneOf rs, if rs.all scalarA then h else frzs h (refsAs args)) := rfl
theorem evGo_call (run : Run) (e : Env) (h : Heap) (f : Nat) (args : List X) : evGo run e h (.call f args false false) = CallP (pureAs h (args.map (X.ev e))) run h f (args.map (X.ev e)) := by
  simp only [evGo, Bool.false_eq_true, if_false]
  unfold callP CallP retP PureR BackP
  cases pureAs h (args.map (X.ev e)) with
  | none => rfl
  | some a =>
    simp only []
    rcases run f a [] with _ | ⟨rs, hc⟩
    · rfl
    · simp only [Bool.false_eq_true, if_false]
      cases pureRs hc rs <;> rfl
theorem evGo_op (run : Run) (e : Env) (h : Heap) (op : Op) (h1 : ∀ f args sh keep, op ≠ .call f args sh keep) (h2 : ∀ f args keep, op ≠ .callv f args keep) (h3 : ∀ m f args, op ≠ .callx m f args) (h4 : ∀ f args, op ≠ .callvx f args) : evGo run e h op = evOp e h op := by
  unfold evGo
  split
  · exact absurd rfl (h1 _ _ _ _)
  · exact absurd rfl (h2 _ _ _)
  · exact absurd rfl (h3 _ _ _)
  · exact absurd rfl (h4 _ _)
  · rfl
end

theorem callP_eq (run : Run) (h : Heap) (f : Nat) (args : List V) : callP run h f args false = CallP (pureAs h args) run h f args := by
  unfold callP CallP retP PureR BackP
  cases pureAs h args with
  | none => rfl
  | some a =>
    simp only []
    rcases run f a [] with _ | ⟨rs, hc⟩
    · rfl
    · simp only [Bool.false_eq_true, if_false]
      cases pureRs hc rs <;> rfl

/-- The same where the result is kept as a row of one's own. -/
def BackPk (rs : List V) (hc h : Heap) (args : List V) : Option (V × Heap) := match rs with
  | .ref id st off len clip :: ss => (match hc[id]? with
    | some (.rows st' sz cont) => if st' = st ∧ ss.all scalar = true then some (oneOf (.ref h.length 0 0 len clip :: ss), frzs h (refsAs args) ++ [.rows 0 sz ((cont.drop off).take len)]) else none
    | _ => none)
  | .sl true sz [] :: ss => if ss.all scalar = true then some (oneOf (.ref h.length 0 0 0 false :: ss), h ++ [.rows 0 sz []]) else none
  | _ => none
def RetPk (x : Option (List V × Heap)) (h : Heap) (args : List V) : Option (V × Heap) := match x with
  | some (rs, hc) => BackPk rs hc h args
  | none => none
theorem RetPk_some (rs : List V) (hc h : Heap) (args : List V) : RetPk (some (rs, hc)) h args = BackPk rs hc h args := rfl
def CallPk (x : Option (List V)) (run : Run) (h : Heap) (f : Nat) (args : List V) : Option (V × Heap) := match x with
  | some args' => RetPk (run f args' []) h args
  | none => none
theorem CallPk_some (args' : List V) (run : Run) (h : Heap) (f : Nat) (args : List V) : CallPk (some args') run h f args = RetPk (run f args' []) h args := rfl
theorem callPk_eq (run : Run) (h : Heap) (f : Nat) (args : List V) : callP run h f args true = CallPk (pureAs h args) run h f args := by
  unfold callP CallPk RetPk BackPk
  cases pureAs h args with
  | none => rfl
  | some a =>
    simp only []
    rcases run f a [] with _ | ⟨rs, hc⟩
    · rfl
    · first | rfl | (simp only [if_true]; rfl)
theorem str_beq (a b : ByteArray) : (a.toList == b.toList) = decide (a = b) := by
  rw [ByteArray.toList_eq, ByteArray.toList_eq]
  by_cases h : a = b
  · subst h; simp
  · have : ¬ a.data = b.data := fun e => h (by
      cases a; cases b
      congr 1)
    simp [h, this]
theorem bytes_less : ∀ (x y : List UInt8), Op.bytesLess x y = decide (x < y)
  | [], [] => by simp [Op.bytesLess]
  | _ :: _, [] => by simp [Op.bytesLess]
  | [], _ :: _ => by simp [Op.bytesLess]
  | a :: x, b :: y => by
    unfold Op.bytesLess
    rw [bytes_less x y, Bool.eq_iff_iff]
    simp only [Bool.or_eq_true, Bool.and_eq_true, decide_eq_true_eq, beq_iff_eq, List.cons_lt_cons_iff]

/-! ### regions of open order that write nothing -/
noncomputable def evQ (run : Run) : List I → Env → Heap → Option Env
  | [], e, _ => some e
  | i :: r, e, h => match evV run i e h with
    | some (v, h') => open Classical in if h' = h then evQ run r (updE e i.d v) h else none
    | none => none
noncomputable def ThenQ (x : Option (V × Heap)) (run : Run) (r : List I) (d : Option Nat) (e : Env) (h : Heap) : Option Env := match x with
  | some (v, h') => open Classical in if h' = h then evQ run r (updE e d v) h else none
  | none => none
theorem ThenQ_some (v : V) (run : Run) (r : List I) (d : Option Nat) (e : Env) (h : Heap) : ThenQ (some (v, h)) run r d e h = evQ run r (updE e d v) h := by simp [ThenQ]
noncomputable def GuardQ (v : V) (b : Bool) (run : Run) (op : Op) (r : List I) (d : Option Nat) (e : Env) (h : Heap) : Option Env := match v with
  | .bool c => if c = b then ThenQ (evGo run e h op) run r d e h else evQ run r (updE e d (.tup [])) h
  | .tup vs => if vs.length = 0 then evQ run r (updE e d (.tup [])) h else none
  | _ => none
theorem GuardQ_skip (b : Bool) (run : Run) (op : Op) (r : List I) (d : Option Nat) (e : Env) (h : Heap) : GuardQ (.tup []) b run op r d e h = evQ run r (updE e d (.tup [])) h := rfl
theorem GuardQ_tt (run : Run) (op : Op) (r : List I) (d : Option Nat) (e : Env) (h : Heap) : GuardQ (.bool true) true run op r d e h = ThenQ (evGo run e h op) run r d e h := rfl
theorem GuardQ_ff (run : Run) (op : Op) (r : List I) (d : Option Nat) (e : Env) (h : Heap) : GuardQ (.bool false) false run op r d e h = ThenQ (evGo run e h op) run r d e h := rfl
theorem GuardQ_tf (run : Run) (op : Op) (r : List I) (d : Option Nat) (e : Env) (h : Heap) : GuardQ (.bool true) false run op r d e h = evQ run r (updE e d (.tup [])) h := rfl
theorem GuardQ_ft (run : Run) (op : Op) (r : List I) (d : Option Nat) (e : Env) (h : Heap) : GuardQ (.bool false) true run op r d e h = evQ run r (updE e d (.tup [])) h := rfl
theorem GuardQ_by (c : Bool) (b : Bool) (run : Run) (op : Op) (r : List I) (d : Option Nat) (e : Env) (h : Heap) : GuardQ (.bool c) b run op r d e h = if c = true then GuardQ (.bool true) b run op r d e h else GuardQ (.bool false) b run op r d e h := by cases c <;> rfl
theorem GuardQ_dec (p : Prop) [Decidable p] (b : Bool) (run : Run) (op : Op) (r : List I) (d : Option Nat) (e : Env) (h : Heap) : GuardQ (.bool (decide p)) b run op r d e h = if p then GuardQ (.bool true) b run op r d e h else GuardQ (.bool false) b run op r d e h := by
  by_cases hp : p <;> simp [hp]
theorem evQ_nil (run : Run) (e : Env) (h : Heap) : evQ run [] e h = some e := rfl
theorem evQ_cons (run : Run) (d : Option Nat) (op : Op) (lo hi : Nat) (wr : Bool) (old : List Nat) (r : List I) (e : Env) (h : Heap) :
    evQ run (⟨d, none, op, lo, hi, wr, old⟩ :: r) e h = ThenQ (evGo run e h op) run r d e h := by
  simp only [evQ, evV, wants, ThenQ]
theorem evQ_guard (run : Run) (d : Option Nat) (t : Nat) (b : Bool) (op : Op) (lo hi : Nat) (wr : Bool) (old : List Nat) (r : List I) (e : Env) (h : Heap) :
    evQ run (⟨d, some (t, b), op, lo, hi, wr, old⟩ :: r) e h = GuardQ (get e t) b run op r d e h := by
  simp only [evQ, evV, wants]
  cases get e t with
  | bool c => cases b <;> cases c <;> simp [GuardQ, ThenQ]
  | tup vs =>
    simp only [GuardQ]
    by_cases hv : vs.length = 0
    · simp [hv]
    · simp [hv]
  | _ => rfl

def noDst (t : Nat) (is : List I) : Bool := is.all fun j => decide (j.d ≠ some t)
def quietOk : List I → Bool
  | [] => true
  | i :: r => !i.wr && i.old.isEmpty && (looks i).all (fun t => noDst t (i :: r)) && (match i.d with
    | some t => noDst t r
    | none => true) && quietOk r

theorem noDst_spec {t : Nat} {is : List I} (h : noDst t is = true) : ∀ i ∈ is, i.d ≠ some t := fun i hi => by
  have := List.all_eq_true.1 h i hi
  simpa using this

theorem evQ_spec {run : Run} : ∀ {is : List I} {e e' : Env} {h : Heap}, quietOk is = true → evQ run is e h = some e' →
    evT run is e h = some (e', [h]) ∧ ∀ i ∈ is, i.wr = false ∧ i.old = [] ∧ ∃ v, evV run i e' h = some (v, h) ∧ ∀ d, i.d = some d → get e' d = v
  | [], e, e', h, _, hev => by
    simp only [evQ, Option.some.injEq] at hev
    subst hev
    exact ⟨rfl, fun i hi => by cases hi⟩
  | i :: r, e, e', h, hq, hev => by
    simp only [quietOk, Bool.and_eq_true, Bool.not_eq_true', List.isEmpty_iff] at hq
    obtain ⟨⟨⟨⟨hw, ho⟩, hl⟩, hd⟩, hr⟩ := hq
    simp only [evQ] at hev
    split at hev
    · rename_i v h' hv
      split at hev
      · rename_i hh
        subst hh
        obtain ⟨h1, h2⟩ := evQ_spec hr hev
        have hget : ∀ t, (∀ j ∈ i :: r, j.d ≠ some t) → get e' t = get e t := fun t ht => by
          rw [evT_get h1 t (fun j hj => ht j (List.mem_cons_of_mem _ hj))]
          have := ht i List.mem_cons_self
          cases hdi : i.d with
          | none => rfl
          | some s =>
            simp only [updE, get_cons]
            rw [if_neg]
            rintro rfl
            exact this hdi
        refine ⟨?_, fun j hj => ?_⟩
        · simp only [evT, hv, hw, Bool.false_eq_true, if_false]
          exact h1
        · rcases List.mem_cons.1 hj with rfl | hj
          · refine ⟨hw, ho, v, ?_, fun d hdi => ?_⟩
            · rw [← hv]
              exact evV_agree fun t ht => hget t (noDst_spec (List.all_eq_true.1 hl t ht))
            · rw [hdi] at hd
              rw [evT_get h1 d (noDst_spec hd), hdi]
              simp [updE, get_cons]
          · exact h2 j hj
      · cases hev
    · cases hev

noncomputable def DrawS (x : Option Env) (run : Run) (is : List I) (e : Env) (h : Heap) : Option (Env × Heap) := match x with
  | some e' => some (e', h)
  | none => drawI run is e h
theorem DrawS_some (e' : Env) (run : Run) (is : List I) (e : Env) (h : Heap) : DrawS (some e') run is e h = some (e', h) := rfl
theorem drawI_quiet (run : Run) (is : List I) (hq : quietOk is = true) (e : Env) (h : Heap) : drawI run is e h = DrawS (evQ run is e h) run is e h := by
  cases hev : evQ run is e h with
  | none => rfl
  | some e' =>
    obtain ⟨h1, h2⟩ := evQ_spec hq hev
    refine drawI_of h1 (fun i hi => ?_) rfl
    obtain ⟨hw, ho, v, h3, h4⟩ := h2 i hi
    unfold Steady
    rw [if_neg (by rw [hw]; simp)]
    intro k hk _ _ hkk
    match k, hkk with
    | 0, hkk =>
      simp at hkk
      subst hkk
      rw [ho]
      exact ⟨v, h3, h4⟩
    | k + 1, hkk => simp at hkk

theorem beq_ft : (false == true) = false := rfl
theorem beq_tf : (true == false) = false := rfl
attribute [go_sem] beq_ft beq_tf callPk_eq CallPk_some RetPk_some BackPk Nat.sub_zero eq_self Option.getD_none Option.getD_some Option.isSome_none Option.isSome_some Option.isNone_none Option.isNone_some Bool.or_false Bool.false_or Int.le_refl Nat.le_refl List.length_map List.getElem?_map Int.natCast_add Int.natCast_one List.append_assoc List.length_append Nat.add_assoc and_self and_true true_and and_false false_and or_true true_or or_false false_or not_true_eq_false not_false_eq_true Int.cast_ofNat_Int Int.natCast_nonneg Int.toNat_natCast ne_eq OrD_some OrD_none evC_loopk NextK_norm NextK_exit NextK_ret evC_cutTo evC_frzc frzH evC_clone CloneR_some CloneC_nil CloneC_cons cloneIs listOf elSz szOf GuardI_skip GuardQ_skip ThenQ_some GuardQ_tt GuardQ_ff GuardQ_tf GuardQ_ft evQ_nil evQ_cons evQ_guard DrawS_some evIs_nil evIs_cons evIs_guard ThenI_some ThenI_none GuardI_tt GuardI_tf GuardI_ft GuardI_ff SegC_some SeqC_norm SeqC_exit SeqC_ret CondC_true CondC_false BlockC_norm BlockC_ret BlockC_exit evC_seq evC_seg evC_ret evC_skip evC_exit evC_cond evC_block evC_loop CutS_some NextS_norm NextS_exit NextS_ret EndF_norm EndF_ret ResF_some PureR_some CallP_some BackP_some callP_eq evGo evOp updE get_step get_nil GetB_true GetB_false X.ev bins uns resV pureAs pureA pureC pures cellsOf ofCells sub put fills eqCells eqCell oneOf scalarA scalar argE asInt lenOf Option.map_some Option.map_none if_true if_false Bool.false_eq_true reduceIte Nat.zero_add List.map_cons List.map_nil List.length_cons List.length_nil List.nil_append List.cons_append List.getElem?_cons_zero List.getElem?_cons_succ List.getElem?_nil List.take_succ_cons List.take_zero List.drop_zero List.drop_succ_cons List.all_cons List.all_nil Bool.and_true Bool.and_self Bool.true_and Bool.false_and Bool.and_false ite_self cut leave cutE hiE hiT hiA hiC hi0 hiH hiB beq_self_eq_true Bool.not_true Bool.not_false decide_true decide_false str_beq
end Go.Proofs.Ytfbjbkkcilhgjaa.PE
