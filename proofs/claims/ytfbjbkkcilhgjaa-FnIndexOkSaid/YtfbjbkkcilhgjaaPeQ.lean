/- A region whose order is open. -/
import Derived.Test.YtfbjbkkcilhgjaaPeO
namespace Go.Proofs.Ytfbjbkkcilhgjaa.PE
open Go.RowKit

def opXs : Op → List X
  | .mov x => [x]
  | .nilrow _ => []
  | .pick c a b => [c, a, b]
  | .alloc _ => []
  | .box x => [x]
  | .build _ parts => parts.map fun p => p.2.2
  | .mksl _ _ parts => parts
  | .load _ _ x => [x]
  | .store _ p x => [p, x]
  | .nilchk x => [x]
  | .bin _ x y => [x, y]
  | .eqs _ _ x y => [x, y]
  | .eqb _ x y => [x, y]
  | .un _ x => [x]
  | .conv _ x => [x]
  | .mkclo _ caps => caps
  | .mk _ _ n => [n]
  | .slc _ _ x lo hi mx => x :: (lo.toList ++ (hi.toList ++ mx.toList))
  | .faddr _ _ x => [x]
  | .fld _ _ _ x => [x]
  | .iaddr _ x i => [x, i]
  | .idx x i => [x, i]
  | .ext x _ => [x]
  | .len _ x => [x]
  | .cap x => [x]
  | .app _ x y => [x, y]
  | .apps x y => [x, y]
  | .mm _ x ys => x :: ys
  | .call _ args _ _ => args
  | .callv f args _ => f :: args
  | .callx _ _ args => args
  | .callvx f args => f :: args
  | .nilnest _ => []
  | .mkn _ _ n => [n]
  | .mkns _ parts => parts
  | .appn _ x y => [x, y]
  | .clr _ _ x => [x]
  | .bad => []

def tmpsOf : List X → List Nat
  | [] => []
  | .t n :: r => n :: tmpsOf r
  | .k _ :: r => tmpsOf r

/-- The slots that an operation looks at. -/
def looks (i : I) : List Nat := (match i.g with
  | some (t, _) => [t]
  | none => []) ++ tmpsOf (opXs i.op)

theorem tmpsOf_agree {e e' : Env} : ∀ {xs : List X}, (∀ t ∈ tmpsOf xs, get e t = get e' t) → ∀ x ∈ xs, x.ev e = x.ev e'
  | .t n :: r, hh, x, hx => by
    rcases List.mem_cons.1 hx with rfl | hx
    · exact hh n List.mem_cons_self
    · exact tmpsOf_agree (fun t ht => hh t (List.mem_cons_of_mem _ ht)) x hx
  | .k v :: r, hh, x, hx => by
    rcases List.mem_cons.1 hx with rfl | hx
    · rfl
    · exact tmpsOf_agree (xs := r) (fun t ht => hh t ht) x hx

theorem map_agree {e e' : Env} {xs : List X} (hx : ∀ x ∈ xs, x.ev e = x.ev e') : xs.map (X.ev e) = xs.map (X.ev e') := List.map_congr_left hx
theorem opt_agree {e e' : Env} {x : Option X} (hx : ∀ y ∈ x.toList, y.ev e = y.ev e') : loInt e x = loInt e' x ∧ hiInt e x = hiInt e' x := by
  cases x with
  | none => exact ⟨rfl, rfl⟩
  | some y => simp [loInt, hiInt, hx y (by simp)]

theorem evGo_agree {run : Run} {e e' : Env} {h : Heap} {op : Op} (hx : ∀ x ∈ opXs op, x.ev e = x.ev e') : evGo run e h op = evGo run e' h op := by
  cases op with
  | build zero parts =>
    have : parts.map (fun p => (p.1, p.2.1, p.2.2.ev e)) = parts.map (fun p => (p.1, p.2.1, p.2.2.ev e')) :=
      List.map_congr_left fun p hp => by rw [hx p.2.2 (List.mem_map.2 ⟨p, hp, rfl⟩)]
    simp only [evGo, evOp, this]
  | mksl row sz parts =>
    have h1 := map_agree (xs := parts) hx
    have h2 : parts.flatMap (fun x => refsV (x.ev e)) = parts.flatMap (fun x => refsV (x.ev e')) := by
      rw [List.flatMap_def, List.flatMap_def, List.map_congr_left (fun x hm => by rw [hx x hm])]
    simp only [evGo, evOp, h1, h2]
  | mkclo f caps => simp only [evGo, evOp, map_agree (xs := caps) hx]
  | mm max x ys =>
    have h1 := map_agree (xs := ys) (fun y hy => hx y (List.mem_cons_of_mem _ hy))
    have h2 := hx x List.mem_cons_self
    simp only [evGo, evOp, h1, h2]
  | call f args sh keep => simp only [evGo, map_agree (xs := args) hx]
  | callv f args keep =>
    have h1 := map_agree (xs := args) (fun y hy => hx y (List.mem_cons_of_mem _ hy))
    have h2 := hx f List.mem_cons_self
    simp only [evGo, h1, h2]
  | slc str sz x lo hi mx =>
    have h1 := hx x List.mem_cons_self
    have h2 := opt_agree (x := lo) (fun y hy => hx y (List.mem_cons_of_mem _ (List.mem_append_left _ hy)))
    have h3 := opt_agree (x := hi) (fun y hy => hx y (List.mem_cons_of_mem _ (List.mem_append_right _ (List.mem_append_left _ hy))))
    have h4 := opt_agree (x := mx) (fun y hy => hx y (List.mem_cons_of_mem _ (List.mem_append_right _ (List.mem_append_right _ hy))))
    simp only [evGo, evOp, h1, h2.1, h3.2, h4.2]
  | callx m f args => simp only [evGo, map_agree (xs := args) hx]
  | callvx f args =>
    have h1 := map_agree (xs := args) (fun y hy => hx y (List.mem_cons_of_mem _ hy))
    have h2 := hx f List.mem_cons_self
    simp only [evGo, h1, h2]
  | mkns sz parts => simp only [evGo, evOp, map_agree (xs := parts) hx]
  | appn sz x y => simp only [evGo, evOp, hx x (by simp [opXs]), hx y (by simp [opXs])]
  | mkn sz z n => simp only [evGo, evOp, hx n (by simp [opXs])]
  | clr sz zero x => simp only [evGo, evOp, hx x (by simp [opXs])]
  | nilnest sz => rfl
  | nilrow sz => rfl
  | bad => rfl
  | alloc z => rfl
  | pick c a b => simp only [evGo, evOp, hx c (by simp [opXs]), hx a (by simp [opXs]), hx b (by simp [opXs])]
  | store sz p x => simp only [evGo, evOp, hx p (by simp [opXs]), hx x (by simp [opXs])]
  | bin o x y => simp only [evGo, evOp, hx x (by simp [opXs]), hx y (by simp [opXs])]
  | eqs n k x y => simp only [evGo, evOp, hx x (by simp [opXs]), hx y (by simp [opXs])]
  | eqb n x y => simp only [evGo, evOp, hx x (by simp [opXs]), hx y (by simp [opXs])]
  | iaddr sz x y => simp only [evGo, evOp, hx x (by simp [opXs]), hx y (by simp [opXs])]
  | idx x y => simp only [evGo, evOp, hx x (by simp [opXs]), hx y (by simp [opXs])]
  | app sz x y => simp only [evGo, evOp, hx x (by simp [opXs]), hx y (by simp [opXs])]
  | apps x y => simp only [evGo, evOp, hx x (by simp [opXs]), hx y (by simp [opXs])]
  | mov x => simp only [evGo, evOp, hx x (by simp [opXs])]
  | box x => simp only [evGo, evOp, hx x (by simp [opXs])]
  | load g sz x => simp only [evGo, evOp, hx x (by simp [opXs])]
  | nilchk x => simp only [evGo, evOp, hx x (by simp [opXs])]
  | un o x => simp only [evGo, evOp, hx x (by simp [opXs])]
  | conv c x => simp only [evGo, evOp, hx x (by simp [opXs])]
  | mk sz z x => simp only [evGo, evOp, hx x (by simp [opXs])]
  | faddr off sz x => simp only [evGo, evOp, hx x (by simp [opXs])]
  | fld g off sz x => simp only [evGo, evOp, hx x (by simp [opXs])]
  | ext x i => simp only [evGo, evOp, hx x (by simp [opXs])]
  | len s x => simp only [evGo, evOp, hx x (by simp [opXs])]
  | cap x => simp only [evGo, evOp, hx x (by simp [opXs])]

/-- One operation's value. -/
def evV (run : Run) (i : I) (e : Env) (h : Heap) : Option (V × Heap) := match wants e i.g with
  | some true => evGo run e h i.op
  | some false => some (.tup [], h)
  | none => none

theorem evV_agree {run : Run} {e e' : Env} {h : Heap} {i : I} (hx : ∀ t ∈ looks i, get e t = get e' t) : evV run i e h = evV run i e' h := by
  have h1 : wants e i.g = wants e' i.g := by
    unfold wants
    split
    · rfl
    · rename_i t b hg
      rw [hx t (List.mem_append_left _ (by rw [hg]; exact List.mem_singleton.2 rfl))]
  have h2 := evGo_agree (run := run) (h := h) (op := i.op) (tmpsOf_agree fun t ht => hx t (List.mem_append_right _ ht))
  unfold evV
  rw [h1, h2]

theorem evI_of_evV {run : Run} {e : Env} {h h' : Heap} {i : I} {v : V} (hv : evV run i e h = some (v, h')) : evI run i e h = some (updE e i.d v, h') := by
  unfold evV at hv
  unfold evI
  split at hv
  · rename_i hw; rw [hw, hv]
  · rename_i hw; rw [hw]; injection hv with hv; injection hv with e1 e2; subst e1 e2; rfl
  · cases hv

/-- In the order of text, with the heaps behind each operation that writes. -/
def evT (run : Run) : List I → Env → Heap → Option (Env × List Heap)
  | [], e, h => some (e, [h])
  | i :: r, e, h => match evV run i e h with
    | some (v, h') => if i.wr then (evT run r (updE e i.d v) h').map fun p => (p.1, h :: p.2) else evT run r (updE e i.d v) h
    | none => none

/-- What an operation sees: slots as they will be, but for some as they were. -/
def mixE (old : List Nat) (e e' : Env) : Env := old.map (fun t => (t, get e t)) ++ e'

theorem get_mixE (old : List Nat) (e e' : Env) (t : Nat) : get (mixE old e e') t = if t ∈ old then get e t else get e' t := by
  induction old with
  | nil => rfl
  | cons s r ih =>
    have hs : get (mixE (s :: r) e e') t = if s = t then get e s else get (mixE r e e') t := get_cons _ _ _ _
    rw [hs, ih]
    by_cases hst : s = t
    · subst hst; simp
    · rw [if_neg hst]
      by_cases htr : t ∈ r
      · simp [htr]
      · rw [if_neg htr, if_neg]
        intro hm
        rcases List.mem_cons.1 hm with h1 | h1
        · exact hst h1.symm
        · exact htr h1

/-- An operation comes to the same wherever it may stand. -/
def Steady (run : Run) (e e' : Env) (hs : List Heap) (i : I) : Prop :=
  if i.wr then ∃ v hk hk', hs[i.lo]? = some hk ∧ hs[i.lo + 1]? = some hk' ∧ evV run i (mixE i.old e e') hk = some (v, hk') ∧ ∀ d, i.d = some d → get e' d = v
  else ∀ k hk, i.lo ≤ k → k ≤ i.hi → hs[k]? = some hk → ∃ v, evV run i (mixE i.old e e') hk = some (v, hk) ∧ ∀ d, i.d = some d → get e' d = v

open Classical in
noncomputable def drawI (run : Run) (is : List I) (e : Env) (h : Heap) : Option (Env × Heap) := match evT run is e h with
  | some (e', hs) => if (∀ i ∈ is, Steady run e e' hs i) then (hs.getLast?).map fun hl => (e', hl) else none
  | none => none

theorem drawI_of {run : Run} {is : List I} {e e' : Env} {h hl : Heap} {hs : List Heap} (h1 : evT run is e h = some (e', hs)) (h2 : ∀ i ∈ is, Steady run e e' hs i) (h3 : hs.getLast? = some hl) : drawI run is e h = some (e', hl) := by
  unfold drawI
  rw [h1]
  simp only []
  rw [if_pos h2, h3]
  rfl

/-! ### the checks -/
def onAfter (o : Oper) (j : Nat) : Bool := o.after.any fun e => Region.binds .any e && decide (e.on = j)

/-- What must be done ahead of some operations, through others, too. -/
def marks (ops : Array Oper) : Nat → List Nat → List Nat
  | 0, s => s
  | l + 1, s => marks ops l (if s.any (fun x => match ops[x]? with
    | some o => onAfter o l
    | none => false) then l :: s else s)
def ahead (ops : Array Oper) (o : Oper) (j x : Nat) : Bool := onAfter o x || (!decide (x = j) && (marks ops j [j]).contains x)

/-- The numbers of the operations that write. -/
def wrs : Nat → List I → List Nat
  | _, [] => []
  | j, i :: r => if i.wr then j :: wrs (j + 1) r else wrs (j + 1) r

def chkD1 (ops : Array Oper) (is : List I) (ws : List Nat) (j : Nat) : Bool := match ops[j]?, is[j]? with
  | some o, some i =>
    o.after.all (fun e => !Region.binds .any e || decide (e.on < j)) &&
    (List.range is.length).all (fun l => match is[l]? with
      | some il => (match il.d with
        | some t => (!(looks i).contains t || (if i.old.contains t then (match ops[l]? with
            | some ol => onAfter ol j
            | none => false) else onAfter o l)) && (decide (l = j) || decide (i.d ≠ some t))
        | none => true)
      | none => true) &&
    (if i.wr then decide (ws[i.lo]? = some j) && (decide (i.lo = 0) || (match ws[i.lo - 1]? with
        | some x => ahead ops o j x
        | none => false))
      else (decide (i.lo = 0) || (match ws[i.lo - 1]? with
        | some x => ahead ops o j x
        | none => false)) && (match ws[i.hi]? with
        | some x => (match ops[x]? with
          | some o' => ahead ops o' x j
          | none => false)
        | none => true))
  | _, _ => false

def chkDraw (P : Program) (ops : Array Oper) (N : Nat) (is : List I) : Bool :=
  P.follows .mixedOrders && chkIs P ops N 0 is && (List.range is.length).all (chkD1 ops is (wrs 0 is))

section
variable {P : Program} {K : Ct} {γ γ' : Gh} {w w' : World} {h h' : Heap} {N : Nat} {a : Act} {e e' : Env}

theorem chkIs_get {ops : Array Oper} : ∀ {is : List I} {j : Nat}, chkIs P ops N j is = true → ∀ (l : Nat) (i : I), is[l]? = some i → ∃ o, ops[j + l]? = some o ∧ chkI P ops N o i = true
  | i :: r, j, hc, l, x, hx => by
    simp only [chkIs, Bool.and_eq_true] at hc
    obtain ⟨h1, h2⟩ := hc
    cases l with
    | zero =>
      simp at hx
      subst hx
      split at h1
      · rename_i o ho; exact ⟨o, ho, h1⟩
      · cases h1
    | succ l =>
      simp at hx
      obtain ⟨o, ho, hc⟩ := chkIs_get h2 l x hx
      exact ⟨o, by rw [← ho]; congr 1; omega, hc⟩

theorem wrs_spec : ∀ {is : List I} {j : Nat} {x l : Nat}, (wrs j is)[x]? = some l → j ≤ l ∧ ∃ i, is[l - j]? = some i ∧ i.wr = true
  | i :: r, j, x, l, hx => by
    unfold wrs at hx
    have rest : ∀ y, (wrs (j + 1) r)[y]? = some l → j ≤ l ∧ ∃ i', (i :: r)[l - j]? = some i' ∧ i'.wr = true := fun y hy => by
      obtain ⟨h1, i', h2, h3⟩ := wrs_spec hy
      refine ⟨by omega, i', ?_, h3⟩
      rw [show l - j = (l - (j + 1)) + 1 by omega]
      simpa using h2
    split at hx
    · rename_i hw
      cases x with
      | zero =>
        simp at hx
        subst hx
        exact ⟨Nat.le_refl _, i, by simp, hw⟩
      | succ x => exact rest x (by simpa using hx)
    · exact rest x hx
  | [], j, x, l, hx => by simp [wrs] at hx

theorem wrs_inj : ∀ {is : List I} {j : Nat} {x y l : Nat}, (wrs j is)[x]? = some l → (wrs j is)[y]? = some l → x = y
  | i :: r, j, x, y, l, hx, hy => by
    unfold wrs at hx hy
    split at hx
    · rename_i hw
      rw [if_pos hw] at hy
      cases x with
      | zero =>
        simp at hx
        subst hx
        cases y with
        | zero => rfl
        | succ y =>
          simp at hy
          have := (wrs_spec hy).1
          omega
      | succ x =>
        simp at hx
        cases y with
        | zero =>
          simp at hy
          subst hy
          have := (wrs_spec hx).1
          omega
        | succ y =>
          simp at hy
          rw [wrs_inj hx hy]
    · rename_i hw
      rw [if_neg hw] at hy
      exact wrs_inj hx hy
  | [], j, x, y, l, hx, _ => by simp [wrs] at hx

theorem evT_len {run : Run} : ∀ {is : List I} {j : Nat} {e e' : Env} {h : Heap} {hs : List Heap}, evT run is e h = some (e', hs) → hs.length = (wrs j is).length + 1 ∧ hs[0]? = some h
  | [], j, e, e', h, hs, ht => by
    simp only [evT, Option.some.injEq, Prod.mk.injEq] at ht
    obtain ⟨rfl, rfl⟩ := ht
    exact ⟨rfl, rfl⟩
  | i :: r, j, e, e', h, hs, ht => by
    unfold evT at ht
    unfold wrs
    split at ht
    · split at ht
      · rename_i hw
        obtain ⟨p, hp, he⟩ := Option.map_eq_some_iff.1 ht
        injection he with e1 e2
        subst e1 e2
        have := (evT_len (j := j + 1) hp).1
        rw [if_pos hw]
        exact ⟨by simp [this], rfl⟩
      · rename_i hw
        rw [if_neg hw]
        exact evT_len ht
    · cases ht

theorem evT_get {run : Run} : ∀ {is : List I} {e e' : Env} {h : Heap} {hs : List Heap}, evT run is e h = some (e', hs) → ∀ t, (∀ i ∈ is, i.d ≠ some t) → get e' t = get e t
  | [], e, e', h, hs, ht, t, hd => by
    simp only [evT, Option.some.injEq, Prod.mk.injEq] at ht
    obtain ⟨rfl, rfl⟩ := ht
    rfl
  | i :: r, e, e', h, hs, ht, t, hd => by
    unfold evT at ht
    have hne : ∀ v, get (updE e i.d v) t = get e t := fun v => by
      have := hd i List.mem_cons_self
      cases hdi : i.d with
      | none => rfl
      | some s =>
        simp only [updE, get_cons]
        rw [if_neg]
        rintro rfl
        exact this hdi
    have hr : ∀ i ∈ r, i.d ≠ some t := fun i hi => hd i (List.mem_cons_of_mem _ hi)
    split at ht
    · split at ht
      · obtain ⟨p, hp, he⟩ := Option.map_eq_some_iff.1 ht
        injection he with e1 e2
        subst e1 e2
        rw [evT_get hp t hr, hne]
      · rw [evT_get ht t hr, hne]
    · cases ht

/-- Is the operation that fills a slot done? -/
def Done (is : List I) (listed : Array Bool) (t : Nat) : Prop := ∃ j i, listed.getD j false = true ∧ is[j]? = some i ∧ i.d = some t

/-- How things stand when some of the operations are done. -/
structure Half (K : Ct) (γ0 : Gh) (w0 : World) (h0 : Heap) (N : Nat) (ops : Array Oper) (is : List I) (e e' : Env) (hs : List Heap) (listed : Array Bool) (a : Act) (w : World) (k : Nat) (hk : Heap) (γ : Gh) (eL : Env) : Prop where
  at' : hs[k]? = some hk
  go : Go2 K γ0 w0 h0 γ w hk
  env : EnvOK K γ w hk N a eL
  done : ∀ t, Done is listed t → get eL t = get e' t
  not : ∀ t, ¬ Done is listed t → get eL t = get e t
  wr : ∀ (x j : Nat), (wrs 0 is)[x]? = some j → (listed.getD j false = true ↔ x < k)
  size : listed.size = ops.size
  closed : ∀ (j : Nat) (o : Oper), listed.getD j false = true → ops[j]? = some o → ∀ ed ∈ o.after, Region.binds .any ed = true → listed.getD ed.on false = true

theorem onAfter_listed {o : Oper} {j : Nat} {listed : Array Bool} (ho : onAfter o j = true) (hall : ∀ ed ∈ o.after, Region.binds .any ed = true → listed.getD ed.on false = true) : listed.getD j false = true := by
  unfold onAfter at ho
  obtain ⟨ed, hm, hb⟩ := Array.any_eq_true'.1 ho
  simp only [Bool.and_eq_true, decide_eq_true_eq] at hb
  have := hall ed hm hb.1
  rwa [hb.2] at this

theorem marks_listed {ops : Array Oper} {listed : Array Bool} (hcl : ∀ (j : Nat) (o : Oper), listed.getD j false = true → ops[j]? = some o → ∀ ed ∈ o.after, Region.binds .any ed = true → listed.getD ed.on false = true) :
    ∀ (k : Nat) (s : List Nat), (∀ x ∈ s, ∀ o, ops[x]? = some o → ∀ ed ∈ o.after, Region.binds .any ed = true → listed.getD ed.on false = true) → ∀ y ∈ marks ops k s, y ∈ s ∨ listed.getD y false = true
  | 0, s, _, y, hy => .inl hy
  | l + 1, s, hs, y, hy => by
    unfold marks at hy
    split at hy
    · rename_i hany
      have hl : listed.getD l false = true := by
        obtain ⟨x, hx, hb⟩ := List.any_eq_true.1 hany
        split at hb
        · rename_i o ho
          exact onAfter_listed hb (hs x hx o ho)
        · cases hb
      rcases marks_listed hcl l (l :: s) (fun x hx o ho => by
        rcases List.mem_cons.1 hx with rfl | hx
        · exact hcl x o hl ho
        · exact hs x hx o ho) y hy with h1 | h1
      · rcases List.mem_cons.1 h1 with rfl | h1
        · exact .inr hl
        · exact .inl h1
      · exact .inr h1
    · exact marks_listed hcl l s hs y hy
theorem ahead_listed {ops : Array Oper} {listed : Array Bool} (hcl : ∀ (j : Nat) (o : Oper), listed.getD j false = true → ops[j]? = some o → ∀ ed ∈ o.after, Region.binds .any ed = true → listed.getD ed.on false = true) {o : Oper} {j x : Nat} (ho : ops[j]? = some o)
    (hall : ∀ ed ∈ o.after, Region.binds .any ed = true → listed.getD ed.on false = true) (h : ahead ops o j x = true) : listed.getD x false = true := by
  unfold ahead at h
  rw [Bool.or_eq_true] at h
  rcases h with h | h
  · exact onAfter_listed h hall
  · simp only [Bool.and_eq_true, Bool.not_eq_true', decide_eq_false_iff_not] at h
    rcases marks_listed hcl j [j] (fun y hy o' ho' => by
      rw [List.mem_singleton.1 hy, ho] at ho'
      injection ho' with ho'
      subst ho'
      exact hall) x (List.contains_iff_mem.1 h.2) with h1 | h1
    · exact absurd (List.mem_singleton.1 h1) h.1
    · exact h1
theorem getD_set_self {listed : Array Bool} {i : Nat} (hi : i < listed.size) : (listed.setIfInBounds i true).getD i false = true := by
  simp [hi]

theorem ok_any {run : Run} (hrun : RunOK P run) (hcal : RunCal P run) {ops : Array Oper} {Q : Exit → Act → World → Prop} {is : List I} {γ0 : Gh} {w0 : World} {h0 hl : Heap} {hs : List Heap}
    (hc : chkDraw P ops N is = true) (ht : evT run is e h0 = some (e', hs)) (hst : ∀ i ∈ is, Steady run e e' hs i) (hlast : hs.getLast? = some hl)
    (hQ : ∀ γ' a' w' e2, Go2 K γ0 w0 h0 γ' w' hl → EnvOK K γ' w' hl N a' e2 → (∀ t, get e2 t = get e' t) → Q .normal a' w') :
    ∀ (fuel : Nat) (listed : Array Bool) (a : Act) (w : World) (k : Nat) (hk : Heap) (γ : Gh) (eL : Env), Half K γ0 w0 h0 N ops is e e' hs listed a w k hk γ eL → listed.count false ≤ fuel → wpAny P .any ops Q fuel listed a w := by
  simp only [chkDraw, Bool.and_eq_true] at hc
  obtain ⟨⟨_, hcs⟩, hcd⟩ := hc
  have hlen : is.length = ops.size := by have := chkIs_len is 0 hcs; omega
  have hsl := (evT_len (j := 0) ht).1
  -- all done
  have fin : ∀ (listed : Array Bool) (a : Act) (w : World) (k : Nat) (hk : Heap) (γ : Gh) (eL : Env), Half K γ0 w0 h0 N ops is e e' hs listed a w k hk γ eL → (∀ j, j < ops.size → listed.getD j false = true) → Q .normal a w := by
    intro listed a w k hk γ eL H hall
    have hkl : k < hs.length := (List.getElem?_eq_some_iff.1 H.at').1
    have hk2 : hk = hl := by
      have h3 : ¬ k < (wrs 0 is).length := fun hlt => by
        have := (H.wr k _ (List.getElem?_eq_getElem hlt)).1 (hall _ (by
          have := wrs_spec (List.getElem?_eq_getElem hlt)
          obtain ⟨_, i, hi, _⟩ := this
          have := (List.getElem?_eq_some_iff.1 hi).1
          omega))
        omega
      have h4 : k = hs.length - 1 := by omega
      have h5 := H.at'
      rw [h4, ← List.getLast?_eq_getElem?] at h5
      rw [h5] at hlast
      exact Option.some.inj hlast
    subst hk2
    refine hQ γ a w eL H.go H.env (fun t => ?_)
    by_cases hd : Done is listed t
    · exact H.done t hd
    · rw [H.not t hd]
      refine (evT_get ht t (fun i hi hdi => hd ?_)).symm
      obtain ⟨j, hj⟩ := List.getElem?_of_mem hi
      exact ⟨j, i, hall j (by have := (List.getElem?_eq_some_iff.1 hj).1; omega), hj, hdi⟩
  -- none ready: all done
  have ready : ∀ (listed : Array Bool), listed.size = ops.size → Region.ready .any ops listed = [] → ∀ j, j < ops.size → listed.getD j false = true := by
    intro listed hsz hr j
    induction j using Nat.strongRecOn with
    | _ j ih =>
      intro hj
      cases hb : listed.getD j false with
      | true => rfl
      | false =>
        have hb2 : listed.getD j true = false := by
          have h1 : j < listed.size := by omega
          simp [h1] at hb ⊢
          exact hb
        have hj2 : j < is.length := by omega
        have hd := List.all_eq_true.1 hcd j (List.mem_range.2 hj2)
        unfold chkD1 at hd
        rw [Array.getElem?_eq_getElem hj, List.getElem?_eq_getElem hj2] at hd
        simp only [Bool.and_eq_true] at hd
        have hin : j ∈ Region.ready .any ops listed := mem_ready.2 ⟨hb2, _, Array.getElem?_eq_getElem hj, fun ed hed hbd => by
          have := Array.all_eq_true_iff_forall_mem.1 hd.1.1 ed hed
          simp only [hbd, Bool.not_true, Bool.false_or, decide_eq_true_eq] at this
          exact ih ed.on this (by omega)⟩
        rw [hr] at hin
        cases hin
  intro fuel
  induction fuel with
  | zero =>
    intro listed a w k hk γ eL H hcnt
    have hall : ∀ j, j < ops.size → listed.getD j false = true := by
      intro j hj
      cases hb : listed.getD j false with
      | true => rfl
      | false =>
        exfalso
        have h1 : j < listed.size := by rw [H.size]; exact hj
        simp [h1] at hb
        have : 0 < listed.count false := Array.count_pos_iff.2 (by rw [← hb]; exact Array.getElem_mem h1)
        omega
    refine ⟨?_, fin listed a w k hk γ eL H hall⟩
    cases hr : Region.ready .any ops listed with
    | nil => rfl
    | cons x xs =>
      exfalso
      have hx : x ∈ Region.ready .any ops listed := by rw [hr]; exact List.mem_cons_self
      obtain ⟨h1, o, ho, _⟩ := mem_ready.1 hx
      have h2 := hall x (Array.getElem?_eq_some_iff.1 ho).1
      have h3 : x < listed.size := by rw [H.size]; exact (Array.getElem?_eq_some_iff.1 ho).1
      simp [h3] at h1 h2
      rw [h1] at h2
      cases h2
  | succ fuel ih =>
    intro listed a w k hk γ eL H hcnt
    refine ⟨fun hr => fin listed a w k hk γ eL H (ready listed H.size hr), fun j hj => ?_⟩
    obtain ⟨hun, o, ho, hall⟩ := mem_ready.1 hj
    have hjs : j < ops.size := (Array.getElem?_eq_some_iff.1 ho).1
    have hjl : j < listed.size := by rw [H.size]; exact hjs
    have hj2 : j < is.length := by omega
    have hi : is[j]? = some is[j] := List.getElem?_eq_getElem hj2
    generalize is[j] = i at hi
    have hmem : i ∈ is := List.mem_of_getElem? hi
    have hunf : listed.getD j false = false := by
      simp [hjl] at hun ⊢
      exact hun
    obtain ⟨o2, ho2, hci⟩ := chkIs_get hcs j i hi
    rw [Nat.zero_add, ho] at ho2
    injection ho2 with ho2
    subst ho2
    have hd := List.all_eq_true.1 hcd j (List.mem_range.2 hj2)
    unfold chkD1 at hd
    rw [ho, hi] at hd
    simp only [Bool.and_eq_true] at hd
    obtain ⟨⟨_, hdep⟩, hwr⟩ := hd
    rw [List.all_eq_true] at hdep
    -- what it looks at is there
    have hlook : ∀ t ∈ looks i, get eL t = get (mixE i.old e e') t := by
      intro t htl
      have hct : (looks i).contains t = true := List.contains_iff_mem.2 htl
      have dep : ∀ (l : Nat) (il : I), is[l]? = some il → il.d = some t → (if i.old.contains t then (match ops[l]? with
            | some ol => onAfter ol j
            | none => false) else onAfter o l) = true := by
        intro l il hl1 hl2
        have := hdep l (List.mem_range.2 (List.getElem?_eq_some_iff.1 hl1).1)
        rw [hl1] at this
        simp only [hl2, Bool.and_eq_true, Bool.or_eq_true, Bool.not_eq_true', hct] at this
        rcases this.1 with h1 | h1
        · cases h1
        · exact h1
      rw [get_mixE]
      by_cases hold : t ∈ i.old
      · rw [if_pos hold]
        refine H.not t (fun ⟨l, il, h1, h2, h3⟩ => ?_)
        have := dep l il h2 h3
        rw [if_pos (List.contains_iff_mem.2 hold)] at this
        split at this
        · rename_i ol hol
          have := onAfter_listed this (H.closed l ol h1 hol)
          rw [hunf] at this
          cases this
        · cases this
      · rw [if_neg hold]
        by_cases hex : ∃ (l : Nat) (il : I), is[l]? = some il ∧ il.d = some t
        · obtain ⟨l, il, hl1, hl2⟩ := hex
          have := dep l il hl1 hl2
          rw [if_neg (fun hh => hold (List.contains_iff_mem.1 hh))] at this
          exact H.done t ⟨l, il, onAfter_listed this hall, hl1, hl2⟩
        · rw [H.not t (fun ⟨l, il, _, h2, h3⟩ => hex ⟨l, il, h2, h3⟩)]
          exact (evT_get ht t (fun il him hdl => hex (by
            obtain ⟨l, hl1⟩ := List.getElem?_of_mem him
            exact ⟨l, il, hl1, hdl⟩))).symm
    -- the count
    have hcnt2 : (listed.setIfInBounds j true).count false ≤ fuel := by
      have h1 : listed[j] = false := by simp [hjl] at hunf; exact hunf
      have : (listed.setIfInBounds j true).count false = listed.count false - 1 := by
        rw [Array.setIfInBounds, dif_pos hjl, Array.count_set]
        simp [h1]
      have hpos : 0 < listed.count false := Array.count_pos_iff.2 (by rw [← h1]; exact Array.getElem_mem hjl)
      omega
    have hclosed : ∀ (l : Nat) (ol : Oper), (listed.setIfInBounds j true).getD l false = true → ops[l]? = some ol → ∀ ed ∈ ol.after, Region.binds .any ed = true → (listed.setIfInBounds j true).getD ed.on false = true := by
      intro l ol hl hol ed hed hbd
      by_cases hlj : j = l
      · subst hlj
        rw [ho] at hol
        injection hol with hol
        subst hol
        exact getD_set_true (hall ed hed hbd)
      · rw [getD_set_ne false hlj] at hl
        exact getD_set_true (H.closed l ol hl hol ed hed hbd)
    -- the environment behind it
    have hdone : ∀ v, (∀ d, i.d = some d → get e' d = v) → (∀ t, Done is (listed.setIfInBounds j true) t → get (updE eL i.d v) t = get e' t) ∧ (∀ t, ¬ Done is (listed.setIfInBounds j true) t → get (updE eL i.d v) t = get e t) := by
      intro v hv
      have hupd : ∀ t, i.d ≠ some t → get (updE eL i.d v) t = get eL t := fun t hne => by
        cases hdi : i.d with
        | none => rfl
        | some s =>
          simp only [updE, get_cons]
          rw [if_neg]
          rintro rfl
          exact hne hdi
      have hself : ∀ t, i.d = some t → get (updE eL i.d v) t = get e' t := fun t hdi => by
        rw [hv t hdi, hdi]
        simp [updE, get_cons]
      refine ⟨fun t hD => ?_, fun t hD => ?_⟩
      · by_cases hit : i.d = some t
        · exact hself t hit
        · rw [hupd t hit]
          obtain ⟨l, il, h1, h2, h3⟩ := hD
          have hlj : j ≠ l := by
            rintro rfl
            rw [hi] at h2
            injection h2 with h2
            subst h2
            exact hit h3
          rw [getD_set_ne false hlj] at h1
          exact H.done t ⟨l, il, h1, h2, h3⟩
      · have hit : i.d ≠ some t := fun hit => hD ⟨j, i, getD_set_self hjl, hi, hit⟩
        rw [hupd t hit]
        exact H.not t (fun ⟨l, il, h1, h2, h3⟩ => hD ⟨l, il, getD_set_true h1, h2, h3⟩)
    have hS := hst i hmem
    unfold Steady at hS
    have hwj : ∀ (x l : Nat), (wrs 0 is)[x]? = some l → ∀ (il : I), is[l]? = some il → il.wr = true := fun x l hx il hil => by
      obtain ⟨_, i', h2, h3⟩ := wrs_spec hx
      rw [Nat.sub_zero, hil] at h2
      injection h2 with h2
      rw [h2]; exact h3
    have hkl : k < hs.length := (List.getElem?_eq_some_iff.1 H.at').1
    split at hS
    · -- it writes
      rename_i hw
      rw [if_pos hw] at hwr
      simp only [Bool.and_eq_true, Bool.or_eq_true, decide_eq_true_eq] at hwr
      obtain ⟨hwn, hprev⟩ := hwr
      have hkk : i.lo = k := by
        have h1 : ¬ i.lo < k := fun hlt => by
          have := (H.wr _ _ hwn).2 hlt
          rw [hunf] at this
          cases this
        have h2 : i.lo ≤ k := by
          rcases hprev with h0 | hp
          · omega
          · split at hp
            · rename_i x hx
              have := (H.wr _ _ hx).1 (ahead_listed H.closed ho hall hp)
              omega
            · cases hp
        omega
      obtain ⟨v, hk1, hk2, h1, h2, h3, h4⟩ := hS
      rw [hkk, H.at'] at h1
      injection h1 with h1
      subst h1
      rw [hkk] at h2
      have hev := evI_of_evV ((evV_agree hlook).trans h3)
      obtain ⟨d1, d2⟩ := hdone v h4
      refine ok_I hrun hcal H.go.st H.env hci hev ho (fun γ2 a2 w2 g2 he2 => ?_)
      refine ih _ a2 w2 (k + 1) hk2 γ2 (updE eL i.d v) ⟨h2, H.go.trans g2, he2, d1, d2, fun x l hx => ?_, by simp [H.size], hclosed⟩ hcnt2
      by_cases hlj : j = l
      · subst hlj
        rw [getD_set_self hjl]
        have := wrs_inj hx hwn
        simp
        omega
      · rw [getD_set_ne false hlj, H.wr x l hx]
        have : x ≠ k := by
          rintro rfl
          rw [← hkk, hwn] at hx
          injection hx with hx
          exact hlj hx
        omega
    · -- it reads
      rename_i hw
      rw [if_neg hw] at hwr
      simp only [Bool.and_eq_true, Bool.or_eq_true, decide_eq_true_eq] at hwr
      obtain ⟨hlo, hhi⟩ := hwr
      have hlo2 : i.lo ≤ k := by
        rcases hlo with h0 | hp
        · omega
        · split at hp
          · rename_i x hx
            have := (H.wr _ _ hx).1 (ahead_listed H.closed ho hall hp)
            omega
          · cases hp
      have hhi2 : k ≤ i.hi := by
        rcases Nat.lt_or_ge i.hi k with hlt | hge
        · exfalso
          have hx : i.hi < (wrs 0 is).length := by omega
          rw [List.getElem?_eq_getElem hx] at hhi
          simp only [] at hhi
          split at hhi
          · rename_i o' ho'
            have h1 := (H.wr i.hi _ (List.getElem?_eq_getElem hx)).2 hlt
            have h2 := ahead_listed H.closed ho' (H.closed _ o' h1 ho') hhi
            rw [hunf] at h2
            cases h2
          · cases hhi
        · exact hge
      obtain ⟨v, h3, h4⟩ := hS k hk hlo2 hhi2 H.at'
      have hev := evI_of_evV ((evV_agree hlook).trans h3)
      obtain ⟨d1, d2⟩ := hdone v h4
      refine ok_I hrun hcal H.go.st H.env hci hev ho (fun γ2 a2 w2 g2 he2 => ?_)
      refine ih _ a2 w2 k hk γ2 (updE eL i.d v) ⟨H.at', H.go.trans g2, he2, d1, d2, fun x l hx => ?_, by simp [H.size], hclosed⟩ hcnt2
      have hlj : j ≠ l := by
        rintro rfl
        exact hw (hwj x j hx i hi)
      rw [getD_set_ne false hlj]
      exact H.wr x l hx

theorem ok_draw {run : Run} (hrun : RunOK P run) (hcal : RunCal P run) {ops : Array Oper} {Q : Exit → Act → World → Prop} {is : List I} {id : Nat} (s : St K γ w h) (he : EnvOK K γ w h N a e) (hc : chkDraw P ops N is = true) (hev : drawI run is e h = some (e', h'))
    (hQ : ∀ γ' a' w', Go2 K γ w h γ' w' h' → EnvOK K γ' w' h' N a' e' → Q .normal a' w') : (Code.region id ops true).wp P Q a w := by
  have hc0 := hc
  simp only [chkDraw, Bool.and_eq_true] at hc0
  have hm := hc0.1.1
  refine wp_region_any hm ?_
  unfold drawI at hev
  split at hev
  · rename_i e2 hs ht
    split at hev
    · rename_i hst
      obtain ⟨hl, hlast, he2⟩ := Option.map_eq_some_iff.1 hev
      injection he2 with e1 e3
      subst e1 e3
      have hb : Below w.heap.size w { w with drawn := w.drawn + 1 } := (Below.refl _ w).drew
      have g0 := Go2.of (st_grow s hb)
      refine ok_any hrun hcal hc ht hst hlast (fun γ' a' w' e3 g hE hget => hQ γ' a' w' g ⟨hE.1, hE.2.1, fun t => by rw [← hget t]; exact hE.2.2 t⟩) ops.size _ a _ 0 h γ e ⟨(evT_len (j := 0) ht).2, g0, he.pres g0.pres, fun t hD => ?_, fun t _ => rfl, fun x j hx => ?_, by simp, fun j o hl => ?_⟩ ?_
      · obtain ⟨j, i, h1, _⟩ := hD
        simp only [Array.getD_eq_getD_getElem?, Array.getElem?_replicate] at h1
        split at h1 <;> simp at h1
      · simp only [Array.getD_eq_getD_getElem?, Array.getElem?_replicate]
        split <;> simp
      · simp only [Array.getD_eq_getD_getElem?, Array.getElem?_replicate] at hl
        split at hl <;> simp at hl
      · simp
    · cases hev
  · cases hev
end
end Go.Proofs.Ytfbjbkkcilhgjaa.PE
