/- Which operation of the machine an operation of the evaluator stands for. -/
import Derived.Test.YtfbjbkkcilhgjaaPeC
import Derived.Laws.Append
import Derived.Laws.CopyRow
import Derived.Laws.Entries
import Derived.Lib.AppendStr
import Derived.ArgAppend
namespace Go.Proofs.Ytfbjbkkcilhgjaa.PE
open Go.RowKit

/-! ### constants and operands -/
def constC : Value → V → Bool
  | .int k n, .int k' n' => decide (k = k') && decide (n = n')
  | .bool b, .bool b' => b == b'
  | .string s, .str s' => decide (s = s')
  | .slice none 0 0, .sl true sz [] => decide (0 < sz)
  | .func (.func f) fs cs, .clo f' [] => decide (f = f') && decide (fs.size = 0) && decide (cs.size = 0)
  | _, _ => false

def constCs : List Value → List V → Bool
  | [], [] => true
  | c :: cs, v :: vs => constC c v && constCs cs vs
  | _, _ => false

def constIs : Value → V → Bool
  | .agg cs, .agg vs => constCs cs.toList vs
  | c, v => constC c v

def chkX : Operand → X → Bool
  | .tmp t, .t n => decide (t = n)
  | .const _, .k .undef => true
  | .const c, .k v => constIs c v
  | .func f, .k (.clo f' []) => decide (f = f')
  | _, _ => false

def chkXs : List Operand → List X → Bool
  | [], [] => true
  | x :: xs, y :: ys => chkX x y && chkXs xs ys
  | _, _ => false

section
variable {K : Ct} {γ : Gh} {w : World} {h : Heap}
theorem constC_ok {c : Value} {v : V} (hc : constC c v = true) : VC K γ w h c v := by
  unfold constC at hc
  split at hc
  · simp at hc; obtain ⟨rfl, rfl⟩ := hc; rfl
  · simp at hc; subst hc; rfl
  · simp at hc; subst hc; rfl
  · simp at hc; exact rep_empty hc (fun _ => rfl)
  · rename_i fs cs _
    simp at hc
    obtain ⟨⟨rfl, h1⟩, h2⟩ := hc
    subst h1 h2
    exact ⟨#[], rfl, rfl, fun i c hc => by simp at hc⟩
  · cases hc
theorem VC.va {c : Value} {v : V} (hv : VC K γ w h c v) : VA K γ w h c v := by
  cases v with
  | agg cs => simp only [VC, VC0] at hv
  | _ => exact hv
theorem VA.vt {c : Value} {v : V} (hv : VA K γ w h c v) : VT K γ w h c v := by
  cases v with
  | tup cs => simp only [VA, VC, VC0] at hv
  | undef => trivial
  | _ => exact hv
theorem VC0.vc {c : Value} {v : V} (hv : VC0 K γ w h c v) : VC K γ w h c v := by
  cases v with
  | clo f cs => simp only [VC0] at hv
  | _ => exact hv
theorem constCs_ok : ∀ {cs : List Value} {vs : List V}, constCs cs vs = true → cs.length = vs.length ∧ ∀ (i : Nat) (c : V), vs[i]? = some c → ∃ u, cs[i]? = some u ∧ VC K γ w h u c
  | [], [], _ => ⟨rfl, fun i c hc => by simp at hc⟩
  | c :: cs, v :: vs, hc => by
    simp only [constCs, Bool.and_eq_true] at hc
    obtain ⟨h1, h2⟩ := constCs_ok hc.2
    refine ⟨by simp [h1], fun i x hx => ?_⟩
    cases i with
    | zero => simp at hx; subst hx; exact ⟨c, rfl, constC_ok hc.1⟩
    | succ i => simp at hx; simpa using h2 i x hx
  | [], _ :: _, hc => by cases hc
  | _ :: _, [], hc => by cases hc
theorem constIs_ok {c : Value} {v : V} (hc : constIs c v = true) : VT K γ w h c v := by
  unfold constIs at hc
  split at hc
  · obtain ⟨h1, h2⟩ := constCs_ok (K := K) (γ := γ) (w := w) (h := h) hc
    exact VA.vt ⟨_, rfl, by simpa using h1, fun i c hc => by simpa using h2 i c hc⟩
  · exact (constC_ok hc).va.vt
theorem chkX_ok {x : Operand} {y : X} {N : Nat} {a : Act} {e : Env} (hc : chkX x y = true) (he : EnvOK K γ w h N a e) : VT K γ w h (a.eval x) (y.ev e) := by
  unfold chkX at hc
  split at hc
  · simp at hc; subst hc; exact he.2.2 _
  · trivial
  · exact constIs_ok hc
  · simp at hc; subst hc
    exact VA.vt (VC.va ⟨#[], rfl, rfl, fun i c hc => by simp at hc⟩)
  · cases hc
theorem chkXs_ok {N : Nat} {a : Act} {e : Env} (he : EnvOK K γ w h N a e) : ∀ {xs : List Operand} {ys : List X}, chkXs xs ys = true → xs.length = ys.length ∧ ∀ (i : Nat) (y : X), ys[i]? = some y → ∃ x, xs[i]? = some x ∧ VT K γ w h (a.eval x) (y.ev e)
  | [], [], _ => ⟨rfl, fun i c hc => by simp at hc⟩
  | x :: xs, y :: ys, hc => by
    simp only [chkXs, Bool.and_eq_true] at hc
    obtain ⟨h1, h2⟩ := chkXs_ok he hc.2
    refine ⟨by simp [h1], fun i z hz => ?_⟩
    cases i with
    | zero => simp at hz; subst hz; exact ⟨x, rfl, chkX_ok hc.1 he⟩
    | succ i => simp at hz; simpa using h2 i z hz
  | [], _ :: _, hc => by cases hc
  | _ :: _, [], hc => by cases hc

/-! ### what a value of the evaluator says of the machine's -/
theorem VT.int {v : Value} {k : IntKind} {n : Int} (hv : VT K γ w h v (.int k n)) : v = .int k n := hv
theorem VT.bool {v : Value} {b : Bool} (hv : VT K γ w h v (.bool b)) : v = .bool b := hv
theorem VT.str {v : Value} {s : ByteArray} (hv : VT K γ w h v (.str s)) : v = .string s := hv
theorem VT.sl {v : Value} {c : Bool} {sz : Nat} {xs : List (List V)} (hv : VT K γ w h v (.sl c sz xs)) : Rep w (Im K γ w) v (.sl c sz xs) := hv
theorem VT.agg {v : Value} {cs : List V} (hv : VT K γ w h v (.agg cs)) : ∃ vs, v = .agg vs ∧ vs.size = cs.length ∧ ∀ (i : Nat) (c : V), cs[i]? = some c → ∃ u, vs[i]? = some u ∧ VC K γ w h u c := hv
theorem VT.va {v : Value} {x : V} (hv : VT K γ w h v x) (hx : x ≠ .undef) (ht : ∀ vs, x ≠ .tup vs) : VA K γ w h v x := by
  cases x with
  | undef => exact absurd rfl hx
  | tup vs => exact absurd rfl (ht vs)
  | _ => exact hv

theorem VC.one {v : Value} {x : V} (hv : VC K γ w h v x) : v.oneCell' = true := by
  cases x with
  | int k n => rw [show v = _ from hv]; rfl
  | bool b => rw [show v = _ from hv]; rfl
  | str s => rw [show v = _ from hv]; rfl
  | sl c sz xs => exact Rep.one hv
  | ref id st off len clip => obtain ⟨A, cap, rfl, _⟩ := hv; rfl
  | ptr id st el off => obtain ⟨a, rfl, _⟩ := hv; rfl
  | fp cs => obtain ⟨a, rfl, _⟩ := hv; rfl
  | clo f cs => obtain ⟨cv, rfl, _⟩ := hv; rfl
  | nsl sz xs => obtain ⟨A, cap, rfl, _⟩ := hv; rfl
  | undef => exact (show False from hv).elim
  | agg cs => exact (show False from hv).elim
  | tup cs => exact (show False from hv).elim

/-- The cells of a value that can be stored. -/
theorem cells_ok {v : Value} {x : V} {cs : List V} (hv : VT K γ w h v x) (hc : cellsOf x = some cs) :
    v.cells.size = cs.length ∧ ∀ (i : Nat) (c : V), cs[i]? = some c → ∃ u, v.cells[i]? = some u ∧ VC K γ w h u c := by
  have one : ∀ y, VC K γ w h v y → v.cells = #[v] := fun y hy => by
    have := hy.one
    cases v <;> first | rfl | cases this
  have fin : ∀ y, VC K γ w h v y → some [y] = some cs → v.cells.size = cs.length ∧ ∀ (i : Nat) (c : V), cs[i]? = some c → ∃ u, v.cells[i]? = some u ∧ VC K γ w h u c := by
    intro y hy e
    injection e with e
    subst e
    rw [one y hy]
    refine ⟨rfl, fun i c hc => ?_⟩
    cases i with
    | zero => simp at hc; subst hc; exact ⟨v, rfl, hy⟩
    | succ i => simp at hc
  cases x with
  | undef => cases hc
  | tup vs => cases hc
  | agg ys =>
    obtain ⟨vs, rfl, h1, h2⟩ := hv
    injection hc with hc
    subst hc
    exact ⟨h1, h2⟩
  | int k n => exact fin (.int k n) hv hc
  | bool b => exact fin (.bool b) hv hc
  | str s => exact fin (.str s) hv hc
  | sl c1 sz xs => exact fin (.sl c1 sz xs) hv hc
  | ref id st off len clip => exact fin (.ref id st off len clip) hv hc
  | ptr id st el off => exact fin (.ptr id st el off) hv hc
  | fp ds => exact fin (.fp ds) hv hc
  | clo f ds => exact fin (.clo f ds) hv hc
  | nsl sz xs => exact fin (.nsl sz xs) hv hc
end

/-! ### what is asked of the types -/
def szT (P : Program) (t : TypeId) : Option Nat := (P.info? t).map (·.size)
def aggT (P : Program) (t : TypeId) : Option Bool := match P.underlying t with
  | some (.struct _) => some true
  | some (.array _ _) => some true
  | some _ => some false
  | none => none
def sliceT (P : Program) (t : TypeId) : Option TypeId := match P.underlying t with
  | some (.slice e) => some e
  | _ => none
def isStr (P : Program) (t : TypeId) : Bool := match P.underlying t with
  | some .string => true
  | _ => false
def isByte (P : Program) (t : TypeId) : Bool := match P.underlying t with
  | some (.int .u8) => true
  | _ => false
def fieldT (P : Program) (t : TypeId) (f : Nat) : Option Field := match P.underlying t with
  | some (.struct fs) => fs[f]?
  | _ => none
def zeroT (P : Program) (t : TypeId) : Option Value := (P.info? t).bind (·.zero)
def smallT (P : Program) (t : TypeId) : Bool := match P.info? t with
  | some i => decide (i.bytes ≤ 1024)
  | none => false
/-- The zero value's cells. -/
def zeroIs (P : Program) (t : TypeId) (zero : List V) : Bool := match zeroT P t with
  | some z => constCs z.cells.toList zero && decide (szT P t = some zero.length)
  | none => false

section
variable {P : Program} {w : World}
theorem run_sz {t : TypeId} {sz : Nat} (hs : szT P t = some sz) : (sizeOf t).run P w = .ok sz w := by
  unfold szT at hs
  cases hi : P.info? t with
  | none => rw [hi] at hs; cases hs
  | some i =>
    rw [hi] at hs
    injection hs with hs
    simp [sizeOf, typeInfo, hi, hs]
theorem run_agg {t : TypeId} {b : Bool} (hs : aggT P t = some b) : (isAgg t).run P w = .ok b w := by
  unfold aggT at hs
  unfold isAgg
  split at hs
  · rename_i hu; simp [run_underlying hu]; exact (Option.some.inj hs).symm
  · rename_i hu; simp [run_underlying hu]; exact (Option.some.inj hs).symm
  · rename_i hd1 hd2 hu
    simp only [Sem.run_bind, run_underlying hu, Result.andThen_ok]
    injection hs with hs
    subst hs
    rfl
  · cases hs
theorem run_zero {t : TypeId} {z : Value} (hs : zeroT P t = some z) : (zeroValue t).run P w = .ok z w := by
  unfold zeroT at hs
  cases hi : P.info? t with
  | none => rw [hi] at hs; cases hs
  | some i =>
    rw [hi] at hs
    have hz : i.zero = some z := hs
    simp [zeroValue, typeInfo, hi, hz]
theorem of_sliceT {t e : TypeId} (hs : sliceT P t = some e) : P.underlying t = some (.slice e) := by
  unfold sliceT at hs
  split at hs
  · rename_i hu; rw [hu]; simpa using hs
  · cases hs
theorem of_isStr {t : TypeId} (hs : isStr P t = true) : P.underlying t = some .string := by
  unfold isStr at hs
  split at hs
  · assumption
  · cases hs
theorem of_isByte {t : TypeId} (hs : isByte P t = true) : P.underlying t = some (.int .u8) := by
  unfold isByte at hs
  split at hs
  · assumption
  · cases hs
theorem of_fieldT {t : TypeId} {f : Nat} {fl : Field} (hs : fieldT P t f = some fl) : ∃ fs, P.underlying t = some (.struct fs) ∧ fs[f]? = some fl := by
  unfold fieldT at hs
  split at hs
  · rename_i fs hu; exact ⟨fs, hu, hs⟩
  · cases hs
theorem add0 (g o j : Nat) : (⟨g, o, none⟩ : Addr).add j = ⟨g, o + j, none⟩ := by
  unfold Addr.add
  split
  · subst_vars; rfl
  · rfl
end
end Go.Proofs.Ytfbjbkkcilhgjaa.PE
