/- What the evaluator's values say of the machine's memory, and how long that holds. -/
import Derived.Test.YtfbjbkkcilhgjaaPeA
namespace Go.Proofs.Ytfbjbkkcilhgjaa.PE
open Go.RowKit

/-- A pure value in memory that nobody writes ('im': the blocks it may lie in). -/
inductive Rep (w : World) (im : Nat → Prop) : Value → V → Prop
  | int (k : IntKind) (n : Int) : Rep w im (.int k n) (.int k n)
  | bool (b : Bool) : Rep w im (.bool b) (.bool b)
  | str (s : ByteArray) : Rep w im (.string s) (.str s)
  | sl (A : Option Addr) (n cap : Nat) (clip : Bool) (xs : List (List V)) (sz : Nat) (us : Nat → Nat → Value) :
      xs.length = n → n ≤ cap → (clip = true → cap = n) → 0 < sz → (∀ x ∈ xs, x.length = sz) →
      (0 < n → ∃ g o, A = some ⟨g, o, none⟩ ∧ im g ∧ ∀ (j c : Nat) (x : List V) (y : V), xs[j]? = some x → x[c]? = some y → w.cell? ⟨g, o + j * sz + c, none⟩ = some (us j c)) →
      (∀ (j c : Nat) (x : List V) (y : V), xs[j]? = some x → x[c]? = some y → Rep w im (us j c) y) →
      Rep w im (.slice A n cap) (.sl clip sz xs)

theorem cell_of_block {w w' : World} {g : Nat} (h : w'.heap[g]? = w.heap[g]?) (o : Nat) : w'.cell? ⟨g, o, none⟩ = w.cell? ⟨g, o, none⟩ := by
  unfold World.cell?; simp only [h]

theorem Rep.mono {w w' : World} {im im' : Nat → Prop} (hm : ∀ b, im b → im' b ∧ w'.heap[b]? = w.heap[b]?) {v : Value} {x : V} (h : Rep w im v x) : Rep w' im' v x := by
  induction h with
  | int k n => exact .int k n
  | bool b => exact .bool b
  | str s => exact .str s
  | sl A n cap clip xs sz us h1 h2 h3 h4 h5 h6 _ ih =>
    refine .sl A n cap clip xs sz us h1 h2 h3 h4 h5 (fun hn => ?_) ih
    obtain ⟨g, o, e, hg, hc⟩ := h6 hn
    exact ⟨g, o, e, (hm g hg).1, fun j c x y hx hy => (cell_of_block (hm g hg).2 _).trans (hc j c x y hx hy)⟩

theorem Rep.one {w : World} {im : Nat → Prop} {v : Value} {x : V} (h : Rep w im v x) : v.oneCell' = true := by cases h <;> rfl

/-- The same of a list of cells. -/
def Reps (w : World) (im : Nat → Prop) (vs : Array Value) (cs : List V) : Prop :=
  vs.size = cs.length ∧ ∀ (c : Nat) (y : V), cs[c]? = some y → ∃ u, vs[c]? = some u ∧ Rep w im u y

abbrev Gh := Nat → Option (Nat × Nat)

/-- The cells of a block that may be written. -/
def IsBlk (w : World) (g : Nat) (cs : Array Value) : Prop := ∃ e, w.heap[g]? = some (.cells cs e (0, 0))

structure Ct where
  /-- the world at the beginning, and which of its blocks may be read -/
  w0 : World
  ok : Nat → Prop

def Im (K : Ct) (γ : Gh) (w : World) (b : Nat) : Prop := b < w.heap.size ∧ (b < K.w0.heap.size → K.ok b) ∧ ∀ id g o, γ id = some (g, o) → g ≠ b

section
variable (K : Ct) (γ : Gh) (w : World) (h : Heap)

def RefOK (A : Option Addr) (len cap id st off : Nat) (clip : Bool) : Prop :=
  len ≤ cap ∧ (clip = true → cap = len) ∧ match h[id]? with
    | some (.rows st' sz cont) => st ≤ st' ∧ (st = st' → off + len ≤ cont.length ∧ match γ id with
      | none => cap = 0
      | some (g, o) => 0 < cap → A = some ⟨g, o + off * sz, none⟩ ∧ ∃ cs, IsBlk w g cs ∧ o + (off + cap) * sz ≤ cs.size)
    | some (.frz st' sz cont) => 0 < sz ∧ st ≤ st' ∧ (st = st' → off + len ≤ cont.length ∧ Rep w (Im K γ w) (.slice A len cap) (.sl clip sz ((cont.drop off).take len)))
    | some (.nest st' sz cont) => st ≤ st' ∧ (st = st' → off + len ≤ cont.length ∧ match γ id with
      | none => cap = 0
      | some (g, o) => 0 < cap → A = some ⟨g, o + off * sz, none⟩ ∧ ∃ cs, IsBlk w g cs ∧ o + (off + cap) * sz ≤ cs.size)
    | some _ => True
    | none => False

def PtrOK (a : Addr) (id st el off : Nat) : Prop := match h[id]? with
  | some (.rows st' sz cont) => st ≤ st' ∧ (st = st' → el < cont.length ∧ ∃ g o, γ id = some (g, o) ∧ a = ⟨g, o + el * sz + off, none⟩)
  | some (.box _) => el = 0 ∧ st = 0 ∧ ∃ g, γ id = some (g, 0) ∧ a = ⟨g, off, none⟩
  | some (.nest st' sz cont) => st ≤ st' ∧ (st = st' → el < cont.length ∧ ∃ g o, γ id = some (g, o) ∧ a = ⟨g, o + el * sz + off, none⟩)
  | some _ => True
  | none => False

def FpOK (a : Addr) (cs : List V) : Prop := ∃ g o, a = ⟨g, o, none⟩ ∧ Im K γ w g ∧ ∀ (c : Nat) (y : V), cs[c]? = some y → ∃ u, w.cell? ⟨g, o + c, none⟩ = some u ∧ Rep w (Im K γ w) u y

/-- A cell of a row of rows. -/
def VR (v : Value) : V → Prop
  | .ref id st off len clip => ∃ A cap, v = .slice A len cap ∧ RefOK K γ w h A len cap id st off clip
  | x => Rep w (Im K γ w) v x

def NslOK (v : Value) (sz : Nat) (xs : List (List V)) : Prop := ∃ A cap, v = .slice A xs.length cap ∧ xs.length ≤ cap ∧ 0 < sz ∧ (∀ x ∈ xs, x.length = sz) ∧
  (0 < xs.length → ∃ g o, A = some ⟨g, o, none⟩ ∧ Im K γ w g ∧ ∀ (j c : Nat) (x : List V) (y : V), xs[j]? = some x → x[c]? = some y → ∃ u, w.cell? ⟨g, o + j * sz + c, none⟩ = some u ∧ VR K γ w h u y)

def VC0 (v : Value) : V → Prop
  | .nsl sz xs => NslOK K γ w h v sz xs
  | .int k n => v = .int k n
  | .bool b => v = .bool b
  | .str s => v = .string s
  | .sl c sz xs => Rep w (Im K γ w) v (.sl c sz xs)
  | .ref id st off len clip => ∃ A cap, v = .slice A len cap ∧ RefOK K γ w h A len cap id st off clip
  | .ptr id st el off => ∃ a, v = .pointer (some a) ∧ PtrOK γ h a id st el off
  | .fp cs => ∃ a, v = .pointer (some a) ∧ FpOK K γ w a cs
  | _ => False

def VC (v : Value) : V → Prop
  | .clo f caps => ∃ cv, v = .func (.func f) #[] cv ∧ cv.size = caps.length ∧ ∀ (i : Nat) (c : V), caps[i]? = some c → ∃ u, cv[i]? = some u ∧ VC0 K γ w h u c
  | x => VC0 K γ w h v x

def VA (v : Value) : V → Prop
  | .agg cs => ∃ vs, v = .agg vs ∧ vs.size = cs.length ∧ ∀ (i : Nat) (c : V), cs[i]? = some c → ∃ u, vs[i]? = some u ∧ VC K γ w h u c
  | x => VC K γ w h v x

def VT (v : Value) : V → Prop
  | .undef => True
  | .tup vs => ∃ us, v = .tuple us ∧ us.size = vs.length ∧ ∀ (i : Nat) (c : V), vs[i]? = some c → ∃ u, us[i]? = some u ∧ VA K γ w h u c
  | x => VA K γ w h v x

def BlkOK (id : Nat) : Blk → Prop
  | .rows _ sz cont => 0 < sz ∧ (∀ x ∈ cont, x.length = sz) ∧ match γ id with
    | none => cont = []
    | some (g, o) => K.w0.heap.size ≤ g ∧ ∃ cs, IsBlk w g cs ∧ o + cont.length * sz ≤ cs.size ∧
        ∀ (j c : Nat) (x : List V) (y : V), cont[j]? = some x → x[c]? = some y → ∃ u, cs[o + j * sz + c]? = some u ∧ Rep w (Im K γ w) u y
  | .frz _ sz cont => 0 < sz ∧ (∀ x ∈ cont, x.length = sz) ∧ γ id = none
  | .box cells => ∃ g cs, γ id = some (g, 0) ∧ K.w0.heap.size ≤ g ∧ IsBlk w g cs ∧ cs.size = cells.length ∧
        ∀ (c : Nat) (y : V), cells[c]? = some y → ∃ u, cs[c]? = some u ∧ VC K γ w h u y
  | .dead => γ id = none
  | .nest _ sz cont => 0 < sz ∧ (∀ x ∈ cont, x.length = sz) ∧ match γ id with
    | none => cont = []
    | some (g, o) => K.w0.heap.size ≤ g ∧ ∃ cs, IsBlk w g cs ∧ o + cont.length * sz ≤ cs.size ∧
        ∀ (j c : Nat) (x : List V) (y : V), cont[j]? = some x → x[c]? = some y → ∃ u, cs[o + j * sz + c]? = some u ∧ VR K γ w h u y

structure St : Prop where
  below : Below K.w0.heap.size K.w0 w
  blk : ∀ id b, h[id]? = some b → BlkOK K γ w h id b
  dom : ∀ id, h.length ≤ id → γ id = none
  inj : ∀ id id' g o o', γ id = some (g, o) → γ id' = some (g, o') → id = id'

def EnvOK (N : Nat) (a : Act) (e : Env) : Prop := a.defers = [] ∧ a.tmps.size = N ∧ ∀ t, VT K γ w h (a.tmps.getD t undef) (get e t)

end

def Pres (K : Ct) (γ : Gh) (w : World) (h : Heap) (γ' : Gh) (w' : World) (h' : Heap) : Prop := ∀ v x, VT K γ w h v x → VT K γ' w' h' v x
theorem Pres.refl (K : Ct) (γ : Gh) (w : World) (h : Heap) : Pres K γ w h γ w h := fun _ _ h => h
theorem Pres.trans {K : Ct} {γ γ1 γ2 : Gh} {w w1 w2 : World} {h h1 h2 : Heap} (a : Pres K γ w h γ1 w1 h1) (b : Pres K γ1 w1 h1 γ2 w2 h2) : Pres K γ w h γ2 w2 h2 := fun v x hv => b v x (a v x hv)
theorem EnvOK.pres {K : Ct} {γ γ' : Gh} {w w' : World} {h h' : Heap} {N : Nat} {a : Act} {e : Env} (hp : Pres K γ w h γ' w' h') (he : EnvOK K γ w h N a e) : EnvOK K γ' w' h' N a e :=
  ⟨he.1, he.2.1, fun t => hp _ _ (he.2.2 t)⟩

theorem St.size {K : Ct} {γ : Gh} {w : World} {h : Heap} (s : St K γ w h) : K.w0.heap.size ≤ w.heap.size := s.below.size

/-- A block that is owned lies behind the beginning. -/
theorem St.owned {K : Ct} {γ : Gh} {w : World} {h : Heap} (s : St K γ w h) {id g o : Nat} (hg : γ id = some (g, o)) : K.w0.heap.size ≤ g ∧ g < w.heap.size := by
  have hlt : id < h.length := by
    rcases Nat.lt_or_ge id h.length with h1 | h1
    · exact h1
    · rw [s.dom id h1] at hg; cases hg
  have hb := s.blk id _ (List.getElem?_eq_getElem hlt)
  have isb : ∀ cs, IsBlk w g cs → g < w.heap.size := fun cs ⟨e, he⟩ => (Array.getElem?_eq_some_iff.1 he).1
  cases hx : h[id] with
  | rows st sz cont =>
    rw [hx] at hb
    obtain ⟨_, _, hb⟩ := hb
    rw [hg] at hb
    obtain ⟨h1, cs, h2, _⟩ := hb
    exact ⟨h1, isb cs h2⟩
  | frz st sz cont => rw [hx] at hb; rw [hb.2.2] at hg; cases hg
  | box cells =>
    rw [hx] at hb
    obtain ⟨g', cs, h0, h1, h2, _⟩ := hb
    rw [hg] at h0
    injection h0 with h0
    injection h0 with h0 _
    subst h0
    exact ⟨h1, isb cs h2⟩
  | dead => rw [hx] at hb; rw [show γ id = none from hb] at hg; cases hg
  | nest st sz cont =>
    rw [hx] at hb
    obtain ⟨_, _, hb⟩ := hb
    rw [hg] at hb
    obtain ⟨h1, cs, h2, _⟩ := hb
    exact ⟨h1, isb cs h2⟩

theorem IsBlk.cell {w : World} {g : Nat} {cs : Array Value} (h : IsBlk w g cs) (o : Nat) : w.cell? ⟨g, o, none⟩ = cs[o]? := by
  obtain ⟨e, he⟩ := h
  unfold World.cell?
  simp [he]
theorem IsBlk.frozen {w : World} {g : Nat} {cs : Array Value} (h : IsBlk w g cs) (o : Nat) : w.frozen? ⟨g, o, none⟩ = false := by
  obtain ⟨e, he⟩ := h
  unfold World.frozen?
  simp [he]
theorem IsBlk.unique {w : World} {g : Nat} {cs cs' : Array Value} (h : IsBlk w g cs) (h' : IsBlk w g cs') : cs = cs' := by
  obtain ⟨e, he⟩ := h
  obtain ⟨e', he'⟩ := h'
  rw [he] at he'
  injection he' with he'
  injection he'
theorem IsBlk.mono {w w' : World} {g : Nat} {cs : Array Value} (h : IsBlk w g cs) (he : w'.heap[g]? = w.heap[g]?) : IsBlk w' g cs := by
  obtain ⟨e, h⟩ := h
  exact ⟨e, he.trans h⟩

/-! ### from one state to the next -/
/-- What becomes of a block's handles. -/
def Keeps (K : Ct) (γ : Gh) (w : World) (γ' : Gh) (w' : World) (id : Nat) : Blk → Blk → Prop
  | .rows st sz cont, .rows st' sz' cont' => st ≤ st' ∧ (st = st' → sz' = sz ∧ cont.length ≤ cont'.length ∧ γ' id = γ id ∧
      ∀ g o cs, γ id = some (g, o) → IsBlk w g cs → ∃ cs', IsBlk w' g cs' ∧ cs'.size = cs.size)
  | .rows st sz cont, .frz st' sz' cont' => st' = st ∧ sz' = sz ∧ cont' = cont ∧ 0 < sz ∧ (∀ x ∈ cont, x.length = sz) ∧ match γ id with
      | none => cont = []
      | some (g, o) => Im K γ' w' g ∧ ∀ (j c : Nat) (x : List V) (y : V), cont[j]? = some x → x[c]? = some y → ∃ u, w'.cell? ⟨g, o + j * sz + c, none⟩ = some u ∧ Rep w' (Im K γ' w') u y
  | .frz st sz cont, .frz st' sz' cont' => st' = st ∧ sz' = sz ∧ cont' = cont
  | .box _, .box _ => γ' id = γ id
  | .nest st sz cont, .nest st' sz' cont' => st ≤ st' ∧ (st = st' → sz' = sz ∧ cont.length ≤ cont'.length ∧ γ' id = γ id ∧
      ∀ g o cs, γ id = some (g, o) → IsBlk w g cs → ∃ cs', IsBlk w' g cs' ∧ cs'.size = cs.size)
  | .dead, .dead => True
  | _, .dead => True
  | _, _ => False

structure Tr (K : Ct) (γ : Gh) (w : World) (h : Heap) (γ' : Gh) (w' : World) (h' : Heap) : Prop where
  im : ∀ b, Im K γ w b → Im K γ' w' b ∧ w'.heap[b]? = w.heap[b]?
  ids : ∀ id b, h[id]? = some b → ∃ b', h'[id]? = some b' ∧ Keeps K γ w γ' w' id b b'

/-- The slices of a row that is written no more. -/
theorem rep_of_rows {w : World} {im : Nat → Prop} {g o sz : Nat} {cont : List (List V)} (hsz : 0 < sz) (hl : ∀ x ∈ cont, x.length = sz) (hg : im g)
    (hc : ∀ (j c : Nat) (x : List V) (y : V), cont[j]? = some x → x[c]? = some y → ∃ u, w.cell? ⟨g, o + j * sz + c, none⟩ = some u ∧ Rep w im u y)
    {off len cap : Nat} {clip : Bool} {A : Option Addr} (h1 : len ≤ cap) (h2 : clip = true → cap = len) (h3 : off + len ≤ cont.length) (hA : 0 < cap → A = some ⟨g, o + off * sz, none⟩) :
    Rep w im (.slice A len cap) (.sl clip sz ((cont.drop off).take len)) := by
  have hll : ((cont.drop off).take len).length = len := by simp; omega
  have hget : ∀ j x, ((cont.drop off).take len)[j]? = some x → j < len ∧ cont[off + j]? = some x := by
    intro j x hx
    have hj : j < len := by
      have := (List.getElem?_eq_some_iff.1 hx).1
      omega
    rw [List.getElem?_take_of_lt hj, List.getElem?_drop] at hx
    exact ⟨hj, hx⟩
  let us : Nat → Nat → Value := fun j c => (w.cell? ⟨g, o + off * sz + j * sz + c, none⟩).getD undef
  have key : ∀ (j c : Nat) (x : List V) (y : V), ((cont.drop off).take len)[j]? = some x → x[c]? = some y → w.cell? ⟨g, o + off * sz + j * sz + c, none⟩ = some (us j c) ∧ Rep w im (us j c) y := by
    intro j c x y hx hy
    obtain ⟨hj, hx'⟩ := hget j x hx
    obtain ⟨u, hu, hr⟩ := hc (off + j) c x y hx' hy
    have e : o + (off + j) * sz + c = o + off * sz + j * sz + c := by rw [Nat.add_mul]; omega
    rw [e] at hu
    have : us j c = u := by simp [us, hu]
    rw [this]
    exact ⟨hu, hr⟩
  refine .sl A len cap clip _ sz us hll h1 h2 hsz (fun x hx => hl x (List.mem_of_mem_drop (List.mem_of_mem_take hx))) (fun hn => ?_) (fun j c x y hx hy => (key j c x y hx hy).2)
  exact ⟨g, o + off * sz, hA (by omega), hg, fun j c x y hx hy => (key j c x y hx hy).1⟩

theorem rep_empty {w : World} {im : Nat → Prop} {A : Option Addr} {cap sz : Nat} {clip : Bool} (hz : 0 < sz) (h2 : clip = true → cap = 0) : Rep w im (.slice A 0 cap) (.sl clip sz []) :=
  .sl A 0 cap clip [] sz (fun _ _ => undef) rfl (Nat.zero_le _) h2 hz (fun x hx => by cases hx) (fun h => absurd h (by omega)) (fun j c x y hx => by simp at hx)

section
variable {K : Ct} {γ γ' : Gh} {w w' : World} {h h' : Heap} (t : Tr K γ w h γ' w' h')
include t
theorem Tr.rep {v : Value} {x : V} (hr : Rep w (Im K γ w) v x) : Rep w' (Im K γ' w') v x := hr.mono t.im

theorem Tr.refOK {A : Option Addr} {len cap id st off : Nat} {clip : Bool} (hr : RefOK K γ w h A len cap id st off clip) : RefOK K γ' w' h' A len cap id st off clip := by
    obtain ⟨h1, h2, hp⟩ := hr
    refine ⟨h1, h2, ?_⟩
    cases hb : h[id]? with
    | none => rw [hb] at hp; exact hp.elim
    | some b =>
      obtain ⟨b', hb', hk⟩ := t.ids id b hb
      rw [hb] at hp
      rw [hb']
      cases b with
      | box cells => cases b' <;> simp only [Keeps] at hk <;> trivial
      | dead => cases b' <;> simp only [Keeps] at hk <;> trivial
      | frz st0 sz0 cont0 =>
        cases b' <;> simp only [Keeps] at hk <;> try trivial
        obtain ⟨rfl, rfl, rfl⟩ := hk
        exact ⟨hp.1, hp.2.1, fun e => ⟨(hp.2.2 e).1, t.rep (hp.2.2 e).2⟩⟩
      | nest st0 sz0 cont0 =>
        cases b' with
        | box cells => simp only [Keeps] at hk
        | dead => trivial
        | rows st1 sz1 cont1 => simp only [Keeps] at hk
        | frz st1 sz1 cont1 => simp only [Keeps] at hk
        | nest st1 sz1 cont1 =>
          simp only [Keeps] at hk
          obtain ⟨h3, h4⟩ := hk
          refine ⟨Nat.le_trans hp.1 h3, fun e => ?_⟩
          obtain ⟨h5, h6⟩ := hp.2 (Nat.le_antisymm hp.1 (by omega))
          have hp1 := hp.1
          obtain ⟨h8, h9, h10, h11⟩ := h4 (by omega)
          refine ⟨by omega, ?_⟩
          rw [h10]
          cases hg : γ id with
          | none => rw [hg] at h6; exact h6
          | some p =>
            obtain ⟨g, o⟩ := p
            rw [hg] at h6
            intro hcap
            obtain ⟨h12, cs, h13, h14⟩ := h6 hcap
            obtain ⟨cs', h15, h16⟩ := h11 g o cs hg h13
            exact ⟨by rw [h8]; exact h12, cs', h15, by rw [h8, h16]; exact h14⟩
      | rows st0 sz0 cont0 =>
        cases b' with
        | box cells => simp only [Keeps] at hk
        | dead => trivial
        | nest st1 sz1 cont1 => simp only [Keeps] at hk
        | rows st1 sz1 cont1 =>
          simp only [Keeps] at hk
          obtain ⟨h3, h4⟩ := hk
          refine ⟨Nat.le_trans hp.1 h3, fun e => ?_⟩
          obtain ⟨h5, h6⟩ := hp.2 (Nat.le_antisymm hp.1 (by omega))
          have hp1 := hp.1
          obtain ⟨h8, h9, h10, h11⟩ := h4 (by omega)
          refine ⟨by omega, ?_⟩
          rw [h10]
          cases hg : γ id with
          | none => rw [hg] at h6; exact h6
          | some p =>
            obtain ⟨g, o⟩ := p
            rw [hg] at h6
            intro hcap
            obtain ⟨h12, cs, h13, h14⟩ := h6 hcap
            obtain ⟨cs', h15, h16⟩ := h11 g o cs hg h13
            exact ⟨by rw [h8]; exact h12, cs', h15, by rw [h8, h16]; exact h14⟩
        | frz st1 sz1 cont1 =>
          simp only [Keeps] at hk
          obtain ⟨rfl, rfl, rfl, hz, hl, hk⟩ := hk
          refine ⟨hz, hp.1, fun e => ?_⟩
          obtain ⟨h5, h6⟩ := hp.2 e
          refine ⟨h5, ?_⟩
          cases hg : γ id with
          | none =>
            rw [hg] at hk h6
            subst hk
            have hlen : len = 0 := by simp at h5; omega
            subst hlen
            have : ((([] : List (List V)).drop off).take 0) = [] := by simp
            rw [this]
            exact rep_empty hz (fun hc => h2 hc)
          | some p =>
            obtain ⟨g, o⟩ := p
            rw [hg] at hk h6
            exact rep_of_rows hz hl hk.1 hk.2 h1 h2 h5 (fun hcap => (h6 hcap).1)

theorem Tr.vr {v : Value} {x : V} (hv : VR K γ w h v x) : VR K γ' w' h' v x := by
  cases x with
  | ref id st off len clip =>
    obtain ⟨A, cap, rfl, hr⟩ := hv
    exact ⟨A, cap, rfl, t.refOK hr⟩
  | _ => exact t.rep hv

theorem Tr.vc0 {v : Value} {x : V} (hv : VC0 K γ w h v x) : VC0 K γ' w' h' v x := by
  cases x with
  | int k n => exact hv
  | bool b => exact hv
  | str s => exact hv
  | sl c sz xs => exact t.rep hv
  | undef => exact hv
  | agg cs => exact hv
  | tup vs => exact hv
  | clo f cs => exact hv
  | nsl sz xs =>
    obtain ⟨A, cap, rfl, h1, h2, h3, h4⟩ := hv
    refine ⟨A, cap, rfl, h1, h2, h3, fun hn => ?_⟩
    obtain ⟨g, o, rfl, hg, hc⟩ := h4 hn
    refine ⟨g, o, rfl, (t.im g hg).1, fun j c x y hx hy => ?_⟩
    obtain ⟨u, hu, hr⟩ := hc j c x y hx hy
    exact ⟨u, (cell_of_block (t.im g hg).2 _).trans hu, t.vr hr⟩
  | fp cs =>
    obtain ⟨a, rfl, g, o, rfl, hg, hc⟩ := hv
    refine ⟨_, rfl, g, o, rfl, (t.im g hg).1, fun c y hy => ?_⟩
    obtain ⟨u, hu, hr⟩ := hc c y hy
    exact ⟨u, (cell_of_block (t.im g hg).2 _).trans hu, t.rep hr⟩
  | ptr id st el off =>
    obtain ⟨a, rfl, hp⟩ := hv
    refine ⟨a, rfl, ?_⟩
    unfold PtrOK at hp ⊢
    cases hb : h[id]? with
    | none => rw [hb] at hp; exact hp.elim
    | some b =>
      obtain ⟨b', hb', hk⟩ := t.ids id b hb
      rw [hb] at hp
      rw [hb']
      cases b <;> cases b' <;> simp only [Keeps] at hk <;> try trivial
      · obtain ⟨h1, h2⟩ := hp
        obtain ⟨h3, h4⟩ := hk
        refine ⟨Nat.le_trans h1 h3, fun e => ?_⟩
        have e1 := Nat.le_antisymm h1 (by omega)
        obtain ⟨h5, g, o, h6, h7⟩ := h2 e1
        obtain ⟨h8, h9, h10, _⟩ := h4 (by omega)
        exact ⟨by omega, g, o, h10.trans h6, by rw [h8]; exact h7⟩
      · obtain ⟨h1, h2, g, h3, h4⟩ := hp
        exact ⟨h1, h2, g, hk.trans h3, h4⟩
      · obtain ⟨h1, h2⟩ := hp
        obtain ⟨h3, h4⟩ := hk
        refine ⟨Nat.le_trans h1 h3, fun e => ?_⟩
        have e1 := Nat.le_antisymm h1 (by omega)
        obtain ⟨h5, g, o, h6, h7⟩ := h2 e1
        obtain ⟨h8, h9, h10, _⟩ := h4 (by omega)
        exact ⟨by omega, g, o, h10.trans h6, by rw [h8]; exact h7⟩
  | ref id st off len clip =>
    obtain ⟨A, cap, rfl, hr⟩ := hv
    exact ⟨A, cap, rfl, t.refOK hr⟩

theorem Tr.vc {v : Value} {x : V} (hv : VC K γ w h v x) : VC K γ' w' h' v x := by
  cases x with
  | clo f caps =>
    obtain ⟨cv, rfl, h1, h2⟩ := hv
    exact ⟨cv, rfl, h1, fun i c hc => (h2 i c hc).imp fun u hu => ⟨hu.1, t.vc0 hu.2⟩⟩
  | _ => simp only [VC] at hv ⊢; exact t.vc0 hv
theorem Tr.va {v : Value} {x : V} (hv : VA K γ w h v x) : VA K γ' w' h' v x := by
  cases x with
  | agg cs =>
    obtain ⟨vs, rfl, h1, h2⟩ := hv
    exact ⟨vs, rfl, h1, fun i c hc => (h2 i c hc).imp fun u hu => ⟨hu.1, t.vc hu.2⟩⟩
  | _ => simp only [VA] at hv ⊢; exact t.vc hv
theorem Tr.vt {v : Value} {x : V} (hv : VT K γ w h v x) : VT K γ' w' h' v x := by
  cases x with
  | undef => trivial
  | tup vs =>
    obtain ⟨us, rfl, h1, h2⟩ := hv
    exact ⟨us, rfl, h1, fun i c hc => (h2 i c hc).imp fun u hu => ⟨hu.1, t.va hu.2⟩⟩
  | _ => simp only [VT] at hv ⊢; exact t.va hv
theorem Tr.pres : Pres K γ w h γ' w' h' := fun _ _ hv => t.vt hv
end
end Go.Proofs.Ytfbjbkkcilhgjaa.PE
