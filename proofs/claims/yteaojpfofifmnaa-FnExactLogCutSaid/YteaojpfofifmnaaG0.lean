/- Texts of this claim, one behind the other: Pv1, Pv2, Pv3, Pv5, Pw1, Pl0, Pl1, Pu1, Pu2, Pu3, Pu4, Pu5, Pu6, Pn1, Pnr, Pq0, Png, Pnc, Psz, Pvq, Pl2, Pl3, Pu7, Pu8, Pl4. -/
import Derived.Test.YteaojpfofifmnaaPeT
import Derived.Test.YteaojpfofifmnaaPeX
import Derived.IntWalk
import Derived.Test.YteaojpfofifmnaaPeZ
/- Values of the tables: what the small functions come to. -/
set_option linter.unusedSimpArgs false
namespace Go.Proofs.Yteaojpfofifmnaa.PE
open Go.RowKit

/-- A value. -/
structure Val where
  kind : Int
  n : Int
  s : ByteArray
  deriving DecidableEq

def Val.cells (v : Val) : List V := [.int .i64 v.kind, .int .i64 v.n, .str v.s]
def Val.enc (v : Val) : V := .agg [.int .i64 v.kind, .int .i64 v.n, .str v.s]

def letterB (b : UInt8) : Bool := decide (97 ≤ (b.toNat : Int) ∧ (b.toNat : Int) ≤ 122)
def lettersB (s : ByteArray) : Bool := s.data.toList.all letterB

/-- Is a value one? -/
def Val.ok (v : Val) : Bool :=
  if v.kind = 0 then decide (v.n = 0) && decide (v.s = ⟨#[]⟩)
  else if v.kind = 1 then decide (v.s = ⟨#[]⟩) && (decide (-9999 ≤ v.n) && decide (v.n ≤ 9999))
  else if v.kind = 2 then decide (v.n = 0) && decide ((v.s.size : Int) ≤ 6) && lettersB v.s
  else if v.kind = 3 then decide (v.s = ⟨#[]⟩) && (decide (0 ≤ v.n) && decide (v.n ≤ 1))
  else false

theorem run_between (d : Nat) (n lo hi : Int) : retP (runD tab noExt (d + 1)) 72 [.int .i64 n, .int .i64 lo, .int .i64 hi] = some [.bool (decide (lo ≤ n ∧ n ≤ hi))] := by
  rw [retP, runD_eq find72 _ _ _ (by simp)]
  simp -implicitDefEqProofs (disch := omega) only [go_sem, Nat.reduceBEq, Nat.reduceAdd, Nat.reduceSub, Nat.reduceMul, Nat.reduceLeDiff, Nat.reduceEqDiff, Nat.reduceLT, Int.reduceNeg, Int.reduceAdd, Int.reduceSub, Int.reduceMul, Int.reduceLE, Int.reduceLT, Int.reduceEq, Int.reduceToNat, reduceCtorEq]
  repeat' ((first | rw [GuardI_ndec] | rw [CondC_ndec] | rw [GuardQ_ndec] | rw [GuardI_dec] | rw [CondC_dec] | rw [GuardQ_dec] | rw [GuardI_nby] | rw [CondC_nby] | rw [GuardQ_nby] | rw [GuardQ_by] | rw [GuardI_by] | rw [CondC_by]) <;> split <;> simp -implicitDefEqProofs (disch := omega) only [go_sem, Nat.reduceBEq, Nat.reduceAdd, Nat.reduceSub, Nat.reduceMul, Nat.reduceLeDiff, Nat.reduceEqDiff, Nat.reduceLT, Int.reduceNeg, Int.reduceAdd, Int.reduceSub, Int.reduceMul, Int.reduceLE, Int.reduceLT, Int.reduceEq, Int.reduceToNat, reduceCtorEq, *])
  all_goals simp_all
theorem run_l1In (d : Nat) (n lo hi : Int) : retP (runD tab noExt (d + 1)) 95 [.int .i64 n, .int .i64 lo, .int .i64 hi] = some [.bool (decide (lo ≤ n ∧ n ≤ hi))] := by
  rw [retP, runD_eq find95 _ _ _ (by simp)]
  simp -implicitDefEqProofs (disch := omega) only [go_sem, Nat.reduceBEq, Nat.reduceAdd, Nat.reduceSub, Nat.reduceMul, Nat.reduceLeDiff, Nat.reduceEqDiff, Nat.reduceLT, Int.reduceNeg, Int.reduceAdd, Int.reduceSub, Int.reduceMul, Int.reduceLE, Int.reduceLT, Int.reduceEq, Int.reduceToNat, reduceCtorEq]
  repeat' ((first | rw [GuardI_ndec] | rw [CondC_ndec] | rw [GuardQ_ndec] | rw [GuardI_dec] | rw [CondC_dec] | rw [GuardQ_dec] | rw [GuardI_nby] | rw [CondC_nby] | rw [GuardQ_nby] | rw [GuardQ_by] | rw [GuardI_by] | rw [CondC_by]) <;> split <;> simp -implicitDefEqProofs (disch := omega) only [go_sem, Nat.reduceBEq, Nat.reduceAdd, Nat.reduceSub, Nat.reduceMul, Nat.reduceLeDiff, Nat.reduceEqDiff, Nat.reduceLT, Int.reduceNeg, Int.reduceAdd, Int.reduceSub, Int.reduceMul, Int.reduceLE, Int.reduceLT, Int.reduceEq, Int.reduceToNat, reduceCtorEq, *])
  all_goals simp_all

theorem str_len (s : ByteArray) : s.data.toList.length = s.size := by rw [Array.length_toList]; rfl
/-- From an index on to the end. -/
theorem drop_ind {α : Type} (l : List α) (M : Nat → List α → Prop) (h0 : M l.length []) (h1 : ∀ i x r, i < l.length → l[i]? = some x → M (i + 1) r → M i (x :: r)) : ∀ rest i, l.drop i = rest → i ≤ l.length → M i rest
  | [], i, hd, hi => by
    have := List.drop_eq_nil_iff.1 hd
    have e : i = l.length := by omega
    subst e
    exact h0
  | x :: r, i, hd, hi => by
    have hlt : i < l.length := by
      rcases Nat.lt_or_ge i l.length with h2 | h2
      · exact h2
      · rw [List.drop_eq_nil_of_le h2] at hd; cases hd
    have hx : l[i]? = some x := by rw [← List.head?_drop, hd]; rfl
    have hr : l.drop (i + 1) = r := by rw [← List.drop_drop, hd]; rfl
    exact h1 i x r hlt hx (drop_ind l M h0 h1 r (i + 1) hr (by omega))

theorem ofBytes_at {l : List UInt8} {i : Nat} {b : UInt8} (h : l[i]? = some b) : (cellsOfBytes l)[i]? = some [.int .u8 b.toNat] := by simp [cellsOfBytes, h]

theorem loop_letters (d : Nat) (draw : Draw) (l : List UInt8) (hl : l.length < 1099511627776) : ∀ (rest : List UInt8) (i : Nat), l.drop i = rest → i ≤ l.length → ∀ k, rest.length ≤ k →
    LoopS (runD tab noExt (d + 1)) draw [6, 7, 8] [2] L124x0 0 k [(6, .sl false 1 (cellsOfBytes l)), (7, .int .i64 l.length), (8, .int .i64 i)] [] =
    if rest.all letterB then some (.exit 0, [(2, .undef)], []) else some (.ret, [(2, .bool false)], []) := by
  refine drop_ind l (fun i rest => _) ?_ ?_
  · intro k hk
    rw [LoopS_eq]
    simp [go_sem, Nat.reduceBEq, Nat.reduceAdd, Nat.reduceSub, Nat.reduceMul, Nat.reduceLeDiff, Nat.reduceEqDiff, Nat.reduceLT, Int.reduceNeg, Int.reduceAdd, Int.reduceSub, Int.reduceMul, Int.reduceLE, Int.reduceLT, Int.reduceEq, Int.reduceToNat, reduceCtorEq, evL124x0, B124x0, Int.lt_irrefl]
  · intro i b r hlt hb ih k hk
    have hi : (i : Int) < l.length := by omega
    have hb8 := b.toNat_lt
    obtain ⟨k, rfl⟩ : ∃ k', k = k' + 1 := ⟨k - 1, by simp at hk; omega⟩
    have ih' := ih k (by simp at hk; omega)
    simp only [Int.natCast_add, Int.natCast_one] at ih'
    rw [LoopS_eq]
    simp -implicitDefEqProofs (disch := omega) only [go_sem, Nat.reduceBEq, Nat.reduceAdd, Nat.reduceSub, Nat.reduceMul, Nat.reduceLeDiff, Nat.reduceEqDiff, Nat.reduceLT, Int.reduceNeg, Int.reduceAdd, Int.reduceSub, Int.reduceMul, Int.reduceLE, Int.reduceLT, Int.reduceEq, Int.reduceToNat, reduceCtorEq, evL124x0, B124x0, hi, ofBytes_at hb, run_between, IntWalk.i64_in]
    have e1 : letterB b = decide (97 ≤ (b.toNat : Int) ∧ (b.toNat : Int) ≤ 122) := rfl
    rw [← e1]
    rcases Bool.eq_false_or_eq_true (letterB b) with hlb | hlb
    · simp -implicitDefEqProofs (disch := omega) only [go_sem, Nat.reduceBEq, Nat.reduceAdd, Nat.reduceSub, Nat.reduceMul, Nat.reduceLeDiff, Nat.reduceEqDiff, Nat.reduceLT, Int.reduceNeg, Int.reduceAdd, Int.reduceSub, Int.reduceMul, Int.reduceLE, Int.reduceLT, Int.reduceEq, Int.reduceToNat, reduceCtorEq, hlb, IntWalk.i64_in, ih']
    · simp -implicitDefEqProofs only [go_sem, Nat.reduceBEq, Nat.reduceAdd, Nat.reduceSub, Nat.reduceMul, Nat.reduceLeDiff, Nat.reduceEqDiff, Nat.reduceLT, Int.reduceNeg, Int.reduceAdd, Int.reduceSub, Int.reduceMul, Int.reduceLE, Int.reduceLT, Int.reduceEq, Int.reduceToNat, reduceCtorEq, hlb]

theorem loop_l1Text (d : Nat) (draw : Draw) (s : ByteArray) (hl : s.size < 1099511627776) : ∀ (rest : List UInt8) (i : Nat), s.data.toList.drop i = rest → i ≤ s.data.toList.length → ∀ k, rest.length ≤ k →
    LoopS (runD tab noExt d) draw [0, 3] [0, 2] L162x0 0 k [(0, .str s), (3, .int .i64 i)] [] =
    if rest.all letterB then some (.exit 0, [(0, .str s), (2, .undef)], []) else some (.ret, [(0, .str s), (2, .bool false)], []) := by
  have hsz := str_len s
  refine drop_ind s.data.toList (fun i rest => _) ?_ ?_
  · intro k hk
    rw [LoopS_eq, hsz]
    simp [go_sem, Nat.reduceBEq, Nat.reduceAdd, Nat.reduceSub, Nat.reduceMul, Nat.reduceLeDiff, Nat.reduceEqDiff, Nat.reduceLT, Int.reduceNeg, Int.reduceAdd, Int.reduceSub, Int.reduceMul, Int.reduceLE, Int.reduceLT, Int.reduceEq, Int.reduceToNat, reduceCtorEq, evL162x0, B162x0, Int.lt_irrefl]
  · intro i b r hlt hb ih k hk
    have hi : (i : Int) < s.size := by omega
    have hb8 := b.toNat_lt
    obtain ⟨k, rfl⟩ : ∃ k', k = k' + 1 := ⟨k - 1, by simp at hk; omega⟩
    have ih' := ih k (by simp at hk; omega)
    simp only [Int.natCast_add, Int.natCast_one] at ih'
    rw [LoopS_eq]
    simp -implicitDefEqProofs (disch := omega) only [go_sem, Nat.reduceBEq, Nat.reduceAdd, Nat.reduceSub, Nat.reduceMul, Nat.reduceLeDiff, Nat.reduceEqDiff, Nat.reduceLT, Int.reduceNeg, Int.reduceAdd, Int.reduceSub, Int.reduceMul, Int.reduceLE, Int.reduceLT, Int.reduceEq, Int.reduceToNat, reduceCtorEq, evL162x0, B162x0, hi, hb, IntWalk.i64_in]
    have e1 : letterB b = decide (97 ≤ (b.toNat : Int) ∧ (b.toNat : Int) ≤ 122) := rfl
    by_cases h1 : (b.toNat : Int) < 97
    · have hlb : letterB b = false := by rw [e1]; simp; omega
      simp -implicitDefEqProofs (disch := omega) only [go_sem, Nat.reduceBEq, Nat.reduceAdd, Nat.reduceSub, Nat.reduceMul, Nat.reduceLeDiff, Nat.reduceEqDiff, Nat.reduceLT, Int.reduceNeg, Int.reduceAdd, Int.reduceSub, Int.reduceMul, Int.reduceLE, Int.reduceLT, Int.reduceEq, Int.reduceToNat, reduceCtorEq, h1, hlb]
    · by_cases h2 : 122 < (b.toNat : Int)
      · have hlb : letterB b = false := by rw [e1]; simp; omega
        simp -implicitDefEqProofs (disch := omega) only [go_sem, Nat.reduceBEq, Nat.reduceAdd, Nat.reduceSub, Nat.reduceMul, Nat.reduceLeDiff, Nat.reduceEqDiff, Nat.reduceLT, Int.reduceNeg, Int.reduceAdd, Int.reduceSub, Int.reduceMul, Int.reduceLE, Int.reduceLT, Int.reduceEq, Int.reduceToNat, reduceCtorEq, hb, h1, h2, hlb]
      · have hlb : letterB b = true := by rw [e1]; simp; omega
        simp -implicitDefEqProofs (disch := omega) only [go_sem, Nat.reduceBEq, Nat.reduceAdd, Nat.reduceSub, Nat.reduceMul, Nat.reduceLeDiff, Nat.reduceEqDiff, Nat.reduceLT, Int.reduceNeg, Int.reduceAdd, Int.reduceSub, Int.reduceMul, Int.reduceLE, Int.reduceLT, Int.reduceEq, Int.reduceToNat, reduceCtorEq, hb, h1, h2, hlb, IntWalk.i64_in, ih']

-- find124
theorem run_letters (d : Nat) (s : ByteArray) (hs : s.size < 1099511627776) : retP (runD tab noExt (d + 2)) 124 [.str s] = some [.bool (lettersB s)] := by
  rw [retP, runD_eq find124 _ _ _ (by simp)]
  have hl := loop_letters d (drawI (runD tab noExt (d + 1))) s.data.toList (by rw [str_len]; exact hs) s.data.toList 0 rfl (Nat.zero_le _) 1099511627775 (by rw [str_len]; omega)
  simp -implicitDefEqProofs only [go_sem, Nat.reduceBEq, Nat.reduceAdd, Nat.reduceSub, Nat.reduceMul, Nat.reduceLeDiff, Nat.reduceEqDiff, Nat.reduceLT, Int.reduceNeg, Int.reduceAdd, Int.reduceSub, Int.reduceMul, Int.reduceLE, Int.reduceLT, Int.reduceEq, Int.reduceToNat, reduceCtorEq, cellsOfBytes, List.length_map]
  simp only [cellsOfBytes, Int.natCast_zero] at hl
  rw [hl]
  split <;> simp -implicitDefEqProofs only [go_sem, Nat.reduceBEq, Nat.reduceAdd, Nat.reduceSub, Nat.reduceMul, Nat.reduceLeDiff, Nat.reduceEqDiff, Nat.reduceLT, Int.reduceNeg, Int.reduceAdd, Int.reduceSub, Int.reduceMul, Int.reduceLE, Int.reduceLT, Int.reduceEq, Int.reduceToNat, reduceCtorEq, lettersB, *]

theorem Val.eta (v : Val) : (⟨v.kind, v.n, v.s⟩ : Val) = v := rfl

theorem run_ok (d : Nat) (k n : Int) (s : ByteArray) : retP (runD tab noExt (d + 3)) 82 [.agg [.int .i64 k, .int .i64 n, .str s]] = some [.bool (Val.ok ⟨k, n, s⟩)] := by
  rw [retP, runD_eq find82 _ _ _ (by simp)]
  simp -implicitDefEqProofs (disch := omega) only [go_sem, Nat.reduceBEq, Nat.reduceAdd, Nat.reduceSub, Nat.reduceMul, Nat.reduceLeDiff, Nat.reduceEqDiff, Nat.reduceLT, Int.reduceNeg, Int.reduceAdd, Int.reduceSub, Int.reduceMul, Int.reduceLE, Int.reduceLT, Int.reduceEq, Int.reduceToNat, reduceCtorEq, run_between, run_letters]
  repeat' ((first | rw [GuardI_ndec] | rw [CondC_ndec] | rw [GuardQ_ndec] | rw [GuardI_dec] | rw [CondC_dec] | rw [GuardQ_dec] | rw [GuardI_nby] | rw [CondC_nby] | rw [GuardQ_nby] | rw [GuardQ_by] | rw [GuardI_by] | rw [CondC_by]) <;> split <;> simp -implicitDefEqProofs (disch := omega) only [go_sem, Nat.reduceBEq, Nat.reduceAdd, Nat.reduceSub, Nat.reduceMul, Nat.reduceLeDiff, Nat.reduceEqDiff, Nat.reduceLT, Int.reduceNeg, Int.reduceAdd, Int.reduceSub, Int.reduceMul, Int.reduceLE, Int.reduceLT, Int.reduceEq, Int.reduceToNat, reduceCtorEq, run_between, run_letters, *])
  all_goals (simp_all [Val.ok]; try omega)
def cmpI (a b : Int) : Int := if a < b then -1 else if b < a then 1 else 0
def ltS (a b : ByteArray) : Bool := decide (a.data.toList < b.data.toList)
def cmpS (a b : ByteArray) : Int := if ltS a b then -1 else if ltS b a then 1 else 0
/-- The order of values. -/
def Val.cmp (v w : Val) : Int := if cmpI v.kind w.kind ≠ 0 then cmpI v.kind w.kind else if cmpI v.n w.n ≠ 0 then cmpI v.n w.n else cmpS v.s w.s

-- find162
theorem run_l1Text (d : Nat) (s : ByteArray) (hs : s.size < 1099511627776) : retP (runD tab noExt (d + 1)) 162 [.str s] = some [.bool (lettersB s && decide ((s.size : Int) ≤ 6))] := by
  rw [retP, runD_eq find162 _ _ _ (by simp)]
  have hl := loop_l1Text d (drawI (runD tab noExt d)) s hs s.data.toList 0 rfl (Nat.zero_le _) 1099511627775 (by rw [str_len]; omega)
  simp only [Int.natCast_zero] at hl
  simp -implicitDefEqProofs only [go_sem, Nat.reduceBEq, Nat.reduceAdd, Nat.reduceSub, Nat.reduceMul, Nat.reduceLeDiff, Nat.reduceEqDiff, Nat.reduceLT, Int.reduceNeg, Int.reduceAdd, Int.reduceSub, Int.reduceMul, Int.reduceLE, Int.reduceLT, Int.reduceEq, Int.reduceToNat, reduceCtorEq]
  rw [hl]
  split <;> simp -implicitDefEqProofs only [go_sem, Nat.reduceBEq, Nat.reduceAdd, Nat.reduceSub, Nat.reduceMul, Nat.reduceLeDiff, Nat.reduceEqDiff, Nat.reduceLT, Int.reduceNeg, Int.reduceAdd, Int.reduceSub, Int.reduceMul, Int.reduceLE, Int.reduceLT, Int.reduceEq, Int.reduceToNat, reduceCtorEq, lettersB, *]

theorem run_specValueOk (d : Nat) (k n : Int) (s : ByteArray) (hs : s.size < 1099511627776) : retP (runD tab noExt (d + 2)) 157 [.agg [.int .i64 k, .int .i64 n, .str s]] = some [.bool (Val.ok ⟨k, n, s⟩)] := by
  rw [retP, runD_eq find157 _ _ _ (by simp)]
  simp -implicitDefEqProofs (disch := omega) only [go_sem, Nat.reduceBEq, Nat.reduceAdd, Nat.reduceSub, Nat.reduceMul, Nat.reduceLeDiff, Nat.reduceEqDiff, Nat.reduceLT, Int.reduceNeg, Int.reduceAdd, Int.reduceSub, Int.reduceMul, Int.reduceLE, Int.reduceLT, Int.reduceEq, Int.reduceToNat, reduceCtorEq, run_l1In, run_l1Text]
  repeat' ((first | rw [GuardI_ndec] | rw [CondC_ndec] | rw [GuardQ_ndec] | rw [GuardI_dec] | rw [CondC_dec] | rw [GuardQ_dec] | rw [GuardI_nby] | rw [CondC_nby] | rw [GuardQ_nby] | rw [GuardQ_by] | rw [GuardI_by] | rw [CondC_by]) <;> split <;> simp -implicitDefEqProofs (disch := omega) only [go_sem, Nat.reduceBEq, Nat.reduceAdd, Nat.reduceSub, Nat.reduceMul, Nat.reduceLeDiff, Nat.reduceEqDiff, Nat.reduceLT, Int.reduceNeg, Int.reduceAdd, Int.reduceSub, Int.reduceMul, Int.reduceLE, Int.reduceLT, Int.reduceEq, Int.reduceToNat, reduceCtorEq, run_l1In, run_l1Text, *])
  all_goals (simp_all [Val.ok, Bool.and_comm]; try omega)
end Go.Proofs.Yteaojpfofifmnaa.PE
/- What is known of values: what the functions come to. -/
set_option linter.unusedSimpArgs false
namespace Go.Proofs.Yteaojpfofifmnaa.PE
open Go.RowKit

/-- What is known of values. -/
structure Kn where
  many : Int
  sum : Int
  least : Val
  most : Val
  deriving DecidableEq

def Val.ord (v w : Val) : Int := if v.ok && w.ok then v.cmp w else 0
def Val.zero : Val := ⟨0, 0, ⟨#[]⟩⟩
def Kn.zero : Kn := ⟨0, 0, .zero, .zero⟩
def Kn.ok (k : Kn) : Bool :=
  if k.many = 0 then decide (k = .zero)
  else decide (1 ≤ k.many) && decide (k.many ≤ 100) && (decide (-9999 * k.many ≤ k.sum) && decide (k.sum ≤ 9999 * k.many)) && k.least.ok && k.most.ok &&
    decide (k.least.kind = k.most.kind) && !decide (k.least.kind = 0) && decide (k.least.cmp k.most ≤ 0) && (decide (k.least.kind = 1) || decide (k.sum = 0))

end Go.Proofs.Yteaojpfofifmnaa.PE
/- The reader of the drawn bytes. -/
set_option linter.unusedSimpArgs false
set_option linter.unusedVariables false
namespace Go.Proofs.Yteaojpfofifmnaa.PE
open Go.RowKit

/-- A number below n, or 0. -/
def Pk (n m : Int) : Prop := 0 ≤ m ∧ (m < n ∨ m = 0 ∧ n < 1)

end Go.Proofs.Yteaojpfofifmnaa.PE
/- Columns and rows: what the reference's small functions come to. -/
set_option linter.unusedSimpArgs false
set_option linter.unusedVariables false
set_option maxHeartbeats 4000000
namespace Go.Proofs.Yteaojpfofifmnaa.PE
open Go.RowKit

structure Col where
  kind : Int
  empty : Bool
  deriving DecidableEq
def Col.cells (c : Col) : List V := [.int .i64 c.kind, .bool c.empty]
def Col.ok (c : Col) : Bool := decide (1 ≤ c.kind ∧ c.kind ≤ 3)
def colsOk (cs : List Col) : Bool := cs.all Col.ok && decide (cs.length ≤ 4)
/-- A row as it lies in a list of rows: whether it is clipped, and its values. -/
structure Row where
  clip : Bool
  vs : List Val
def Row.v (r : Row) : V := .sl r.clip 3 (r.vs.map Val.cells)
def Row.cells (r : Row) : List V := [r.v]
def short (vs : List Val) : Prop := ∀ v ∈ vs, v.s.size < 1099511627776
def rowOk (vs : List Val) : Bool := vs.all Val.ok && decide (vs.length ≤ 4)
theorem short_at {vs : List Val} (h : short vs) {i : Nat} {x : Val} (hx : vs[i]? = some x) : x.s.size < 1099511627776 := h x (List.mem_of_getElem? hx)

theorem loop_rowOk (d : Nat) (c : Bool) (vs : List Val) (hs : vs.length < 1099511627776) (hsh : short vs) (K : Nat) (hK : (vs).length ≤ K) : LoopS (runD tab noExt (d + 2)) (drawI (runD tab noExt (d + 2))) [0, 3] [0, 2] L144x0 ([] : Heap).length K [(0, .sl c 3 (vs.map Val.cells)), (3, .int .i64 0)] [] = if (vs).all (Val.ok) then (some (.exit 0, [(0, .sl c 3 (vs.map Val.cells)), (2, .undef)], []) : Out) else (some (.ret, [(0, .sl c 3 (vs.map Val.cells)), (2, .bool false)], []) : Out) := by
  have key := LoopS_all (run := (runD tab noExt (d + 2))) (draw := drawI (runD tab noExt (d + 2))) (live := [0, 3]) (out := [0, 2]) (c := L144x0) (n0 := ([] : Heap).length) (vs) (Val.ok) (fun (i : Nat) => [(0, .sl c 3 (vs.map Val.cells)), (3, .int .i64 i)]) [] (some (.exit 0, [(0, .sl c 3 (vs.map Val.cells)), (2, .undef)], []) : Out) (some (.ret, [(0, .sl c 3 (vs.map Val.cells)), (2, .bool false)], []) : Out) (fun K => ?_) (fun (i : Nat) (x : Val) K hi hx => ?_) K hK
  · simp only [Int.natCast_zero] at key
    exact key
  · rw [LoopS_eq]
    simp -implicitDefEqProofs only [go_sem, Nat.reduceBEq, Nat.reduceAdd, Nat.reduceSub, Nat.reduceMul, Nat.reduceLeDiff, Nat.reduceEqDiff, Nat.reduceLT, Int.reduceNeg, Int.reduceAdd, Int.reduceSub, Int.reduceMul, Int.reduceLE, Int.reduceLT, Int.reduceEq, Int.reduceToNat, reduceCtorEq, evL144x0, B144x0, Int.lt_irrefl, run_specValueOk, Val.cells, Val.eta]
  · have hxs := short_at hsh hx
    rw [LoopS_eq]
    simp -implicitDefEqProofs (disch := omega) only [go_sem, Nat.reduceBEq, Nat.reduceAdd, Nat.reduceSub, Nat.reduceMul, Nat.reduceLeDiff, Nat.reduceEqDiff, Nat.reduceLT, Int.reduceNeg, Int.reduceAdd, Int.reduceSub, Int.reduceMul, Int.reduceLE, Int.reduceLT, Int.reduceEq, Int.reduceToNat, reduceCtorEq, evL144x0, B144x0, hi, hx, IntWalk.i64_in, run_specValueOk, Val.cells, Val.eta, *]
    repeat' ((first | rw [GuardI_ndec] | rw [CondC_ndec] | rw [GuardQ_ndec] | rw [GuardI_dec] | rw [CondC_dec] | rw [GuardQ_dec] | rw [GuardI_nby] | rw [CondC_nby] | rw [GuardQ_nby] | rw [GuardQ_by] | rw [GuardI_by] | rw [CondC_by]) <;> split <;> simp -implicitDefEqProofs (disch := omega) only [go_sem, Nat.reduceBEq, Nat.reduceAdd, Nat.reduceSub, Nat.reduceMul, Nat.reduceLeDiff, Nat.reduceEqDiff, Nat.reduceLT, Int.reduceNeg, Int.reduceAdd, Int.reduceSub, Int.reduceMul, Int.reduceLE, Int.reduceLT, Int.reduceEq, Int.reduceToNat, reduceCtorEq, hi, hx, IntWalk.i64_in, run_specValueOk, Val.cells, Val.eta, *, *])
    all_goals first | rfl | (simp_all []; done) | (simp_all []; omega)
-- find144
theorem run_rowOk (d : Nat) (c : Bool) (vs : List Val) (hs : vs.length < 1099511627776) (hsh : short vs) : retP (runD tab noExt (d + 3)) 144 [.sl c 3 (vs.map Val.cells)] = some [.bool (rowOk vs)] := by
  rw [retP, runD_eq find144 _ _ _ (by simp)]
  have hl := loop_rowOk d c vs hs hsh 1099511627775 (by omega)
  simp -implicitDefEqProofs only [go_sem, Nat.reduceBEq, Nat.reduceAdd, Nat.reduceSub, Nat.reduceMul, Nat.reduceLeDiff, Nat.reduceEqDiff, Nat.reduceLT, Int.reduceNeg, Int.reduceAdd, Int.reduceSub, Int.reduceMul, Int.reduceLE, Int.reduceLT, Int.reduceEq, Int.reduceToNat, reduceCtorEq] at hl ⊢
  rw [hl]
  split <;> simp -implicitDefEqProofs only [go_sem, Nat.reduceBEq, Nat.reduceAdd, Nat.reduceSub, Nat.reduceMul, Nat.reduceLeDiff, Nat.reduceEqDiff, Nat.reduceLT, Int.reduceNeg, Int.reduceAdd, Int.reduceSub, Int.reduceMul, Int.reduceLE, Int.reduceLT, Int.reduceEq, Int.reduceToNat, reduceCtorEq, rowOk, *]
  norm_cast

def fits1 (p : Col × Val) : Bool := decide (p.2.kind = p.1.kind) || (decide (p.2.kind = 0) && p.1.empty)
def fitsRow (cs : List Col) (vs : List Val) : Bool := colsOk cs && rowOk vs && decide (vs.length = cs.length) && (cs.zip vs).all fits1
def rowsFit (cs : List Col) (rs : List Row) : Bool := rs.all fun r => fitsRow cs r.vs
def rowsOk (cs : List Col) (rs : List Row) : Bool := rowsFit cs rs && colsOk cs
def Short (rs : List Row) : Prop := ∀ r ∈ rs, r.vs.length < 1099511627776 ∧ short r.vs
/-- Rows that are not too long for memory. -/
def Fine (rs : List Row) : Prop := rs.length < 4294967296 ∧ ∀ r ∈ rs, r.vs.length < 4294967296
end Go.Proofs.Yteaojpfofifmnaa.PE
/- Lists that are looked through by a closure; columns and rows: the program's. -/
set_option linter.unusedSimpArgs false
set_option linter.unusedVariables false
set_option maxHeartbeats 4000000
namespace Go.Proofs.Yteaojpfofifmnaa.PE
open Go.RowKit

def intC (n : Int) : List V := [.int .i64 n]

theorem loop_idxVal (d : Nat) (h : Heap) (c : Bool) (g : Nat) (caps : List V) (xs : List (Val)) (P : Val → Bool) (hs : xs.length < 1099511627776) (hhi : h.all (hiB h.length) = true) (hcap : caps.all (hi0 h.length) = true)
    (hg : ∀ x ∈ xs, callS (runD tab noExt d) h g (V.agg (Val.cells x) :: caps) false = some (.bool (P x), h)) (K : Nat) (hK : xs.length ≤ K) :
    LoopS (runD tab noExt d) (drawI (runD tab noExt d)) [0, 1, 7, 8] [4] L151x0 h.length K [(0, .sl c 3 (xs.map Val.cells)), (1, .clo g caps), (7, .int .i64 xs.length), (8, .int .i64 0)] h =
      (match xs.findIdx? P with
        | some k => (some (.ret, [(4, .int .i64 (k : Int))], h) : Out)
        | none => some (.exit 0, [(4, .undef)], h)) := by
  have key := LoopS_rec (run := runD tab noExt d) (draw := drawI (runD tab noExt d)) (live := [0, 1, 7, 8]) (out := [4]) (c := L151x0) (n0 := h.length) xs (fun (i : Nat) (_ : Unit) => [(0, .sl c 3 (xs.map Val.cells)), (1, .clo g caps), (7, .int .i64 xs.length), (8, .int .i64 i)]) (fun _ _ => h)
    (fun r _ => match r.findIdx? P with
        | some k => (some (.ret, [(4, .int .i64 (xs.length - r.length + k : Int))], h) : Out)
        | none => some (.exit 0, [(4, .undef)], h)) (fun _ K => ?_) (fun (i : Nat) x r _ K hi hx hr ih => ?_) K hK ()
  · simp only [Int.natCast_zero, Int.sub_self, Int.zero_add] at key
    exact key
  · rw [LoopS_eq]
    simp -implicitDefEqProofs only [go_sem, Nat.reduceBEq, Nat.reduceAdd, Nat.reduceSub, Nat.reduceMul, Nat.reduceLeDiff, Nat.reduceEqDiff, Nat.reduceLT, Int.reduceNeg, Int.reduceAdd, Int.reduceSub, Int.reduceMul, Int.reduceLE, Int.reduceLT, Int.reduceEq, Int.reduceToNat, reduceCtorEq, evL151x0, B151x0, hhi, hcap, Int.lt_irrefl, List.findIdx?_nil]
  · have hgx := hg x (List.mem_of_getElem? hx)
    try simp only [Val.cells] at hgx
    have hlen : (xs.length : Int) - (r.length + 1) = i := by omega
    rw [LoopS_eq]
    simp -implicitDefEqProofs (disch := omega) only [go_sem, Nat.reduceBEq, Nat.reduceAdd, Nat.reduceSub, Nat.reduceMul, Nat.reduceLeDiff, Nat.reduceEqDiff, Nat.reduceLT, Int.reduceNeg, Int.reduceAdd, Int.reduceSub, Int.reduceMul, Int.reduceLE, Int.reduceLT, Int.reduceEq, Int.reduceToNat, reduceCtorEq, evL151x0, B151x0, hhi, hcap, hi, hx, hgx, Val.cells, Val.cells, IntWalk.i64_in]
    rw [List.findIdx?_cons]
    cases hp : P x
    · simp -implicitDefEqProofs (disch := omega) only [go_sem, Nat.reduceBEq, Nat.reduceAdd, Nat.reduceSub, Nat.reduceMul, Nat.reduceLeDiff, Nat.reduceEqDiff, Nat.reduceLT, Int.reduceNeg, Int.reduceAdd, Int.reduceSub, Int.reduceMul, Int.reduceLE, Int.reduceLT, Int.reduceEq, Int.reduceToNat, reduceCtorEq, hhi, hcap, IntWalk.i64_in, hp]
      have ih' := ih ()
      simp only [Int.natCast_add, Int.natCast_one] at ih'
      rw [ih']
      cases hf : r.findIdx? P with
      | none => rfl
      | some k => simp; omega
    · simp -implicitDefEqProofs only [go_sem, Nat.reduceBEq, Nat.reduceAdd, Nat.reduceSub, Nat.reduceMul, Nat.reduceLeDiff, Nat.reduceEqDiff, Nat.reduceLT, Int.reduceNeg, Int.reduceAdd, Int.reduceSub, Int.reduceMul, Int.reduceLE, Int.reduceLT, Int.reduceEq, Int.reduceToNat, reduceCtorEq, hp, List.length_cons, Int.natCast_add, Int.natCast_one, hlen]
      simp
theorem idxVal (d : Nat) (h : Heap) (c : Bool) (g : Nat) (caps : List V) (xs : List (Val)) (P : Val → Bool) (hs : xs.length < 1099511627776) (hhi : h.all (hiB h.length) = true) (hcap : caps.all (hi0 h.length) = true)
    (hg : ∀ x ∈ xs, callS (runD tab noExt d) h g (V.agg (Val.cells x) :: caps) false = some (.bool (P x), h)) :
    callS (runD tab noExt (d + 1)) h 151 [.sl c 3 (xs.map Val.cells), .clo g caps] false = some (.int .i64 (match xs.findIdx? P with | some k => (k : Int) | none => -1), h) := by
  rw [callS_eq, runD_eq find151 _ _ _ (by simp)]
  have hl := loop_idxVal d h c g caps xs P hs hhi hcap hg 1099511627775 (by omega)
  simp -implicitDefEqProofs (disch := omega) only [go_sem, Nat.reduceBEq, Nat.reduceAdd, Nat.reduceSub, Nat.reduceMul, Nat.reduceLeDiff, Nat.reduceEqDiff, Nat.reduceLT, Int.reduceNeg, Int.reduceAdd, Int.reduceSub, Int.reduceMul, Int.reduceLE, Int.reduceLT, Int.reduceEq, Int.reduceToNat, reduceCtorEq, hhi, hcap]
  rw [hl]
  cases hf : xs.findIdx? P <;> simp -implicitDefEqProofs only [go_sem, Nat.reduceBEq, Nat.reduceAdd, Nat.reduceSub, Nat.reduceMul, Nat.reduceLeDiff, Nat.reduceEqDiff, Nat.reduceLT, Int.reduceNeg, Int.reduceAdd, Int.reduceSub, Int.reduceMul, Int.reduceLE, Int.reduceLT, Int.reduceEq, Int.reduceToNat, reduceCtorEq, hhi, hcap]
theorem conVal (d : Nat) (h : Heap) (c : Bool) (g : Nat) (caps : List V) (xs : List (Val)) (P : Val → Bool) (hs : xs.length < 1099511627776) (hhi : h.all (hiB h.length) = true) (hcap : caps.all (hi0 h.length) = true)
    (hg : ∀ x ∈ xs, callS (runD tab noExt d) h g (V.agg (Val.cells x) :: caps) false = some (.bool (P x), h)) :
    callS (runD tab noExt (d + 2)) h 125 [.sl c 3 (xs.map Val.cells), .clo g caps] false = some (.bool (xs.any P), h) := by
  rw [callS_eq, runD_eq find125 _ _ _ (by simp)]
  have hl := idxVal d h c g caps xs P hs hhi hcap hg
  simp -implicitDefEqProofs (disch := omega) only [go_sem, Nat.reduceBEq, Nat.reduceAdd, Nat.reduceSub, Nat.reduceMul, Nat.reduceLeDiff, Nat.reduceEqDiff, Nat.reduceLT, Int.reduceNeg, Int.reduceAdd, Int.reduceSub, Int.reduceMul, Int.reduceLE, Int.reduceLT, Int.reduceEq, Int.reduceToNat, reduceCtorEq, hl, hhi, hcap]
  have e : xs.any P = (xs.findIdx? P).isSome := by simp [List.findIdx?_isSome]
  rw [e]
  cases hf : xs.findIdx? P <;> simp -implicitDefEqProofs only [go_sem, Nat.reduceBEq, Nat.reduceAdd, Nat.reduceSub, Nat.reduceMul, Nat.reduceLeDiff, Nat.reduceEqDiff, Nat.reduceLT, Int.reduceNeg, Int.reduceAdd, Int.reduceSub, Int.reduceMul, Int.reduceLE, Int.reduceLT, Int.reduceEq, Int.reduceToNat, reduceCtorEq, Option.isSome_some, Option.isSome_none]




-- find126
theorem clo_row (d : Nat) (h : Heap) (hh : h.all (hiB h.length) = true) (x : Val) : callS (runD tab noExt (d + 4)) h 126 [.agg (Val.cells x)] false = some (.bool (!x.ok), h) := by
  rw [callS_eq, runD_eq find126 _ _ _ (by simp)]
  simp -implicitDefEqProofs (disch := omega) only [go_sem, Nat.reduceBEq, Nat.reduceAdd, Nat.reduceSub, Nat.reduceMul, Nat.reduceLeDiff, Nat.reduceEqDiff, Nat.reduceLT, Int.reduceNeg, Int.reduceAdd, Int.reduceSub, Int.reduceMul, Int.reduceLE, Int.reduceLT, Int.reduceEq, Int.reduceToNat, reduceCtorEq, run_ok, Val.cells, hh, List.all_append, Val.eta]
-- find83
theorem run_rowOkI (d : Nat) (c : Bool) (vs : List Val) (hs : vs.length < 1099511627776) : retP (runD tab noExt (d + 7)) 83 [.sl c 3 (vs.map Val.cells)] = some [.bool (rowOk vs)] := by
  rw [retP, runD_eq find83 _ _ _ (by simp)]
  have hcon := conVal (d + 4) [] c 126 [] vs (fun x => !x.ok) hs rfl rfl (fun x _ => clo_row d [] rfl x)
  simp -implicitDefEqProofs (disch := omega) only [go_sem, Nat.reduceBEq, Nat.reduceAdd, Nat.reduceSub, Nat.reduceMul, Nat.reduceLeDiff, Nat.reduceEqDiff, Nat.reduceLT, Int.reduceNeg, Int.reduceAdd, Int.reduceSub, Int.reduceMul, Int.reduceLE, Int.reduceLT, Int.reduceEq, Int.reduceToNat, reduceCtorEq, hcon]
  repeat' ((first | rw [GuardI_ndec] | rw [CondC_ndec] | rw [GuardQ_ndec] | rw [GuardI_dec] | rw [CondC_dec] | rw [GuardQ_dec] | rw [GuardI_nby] | rw [CondC_nby] | rw [GuardQ_nby] | rw [GuardQ_by] | rw [GuardI_by] | rw [CondC_by]) <;> split <;> simp -implicitDefEqProofs (disch := omega) only [go_sem, Nat.reduceBEq, Nat.reduceAdd, Nat.reduceSub, Nat.reduceMul, Nat.reduceLeDiff, Nat.reduceEqDiff, Nat.reduceLT, Int.reduceNeg, Int.reduceAdd, Int.reduceSub, Int.reduceMul, Int.reduceLE, Int.reduceLT, Int.reduceEq, Int.reduceToNat, reduceCtorEq, hcon, *])
  all_goals (simp_all [rowOk, List.any_eq_not_all_not]; try omega)
end Go.Proofs.Yteaojpfofifmnaa.PE
/- Writes: what is ok, in plain words; both functions tell it. -/
set_option linter.unusedSimpArgs false
set_option linter.unusedVariables false
set_option maxHeartbeats 4000000
namespace Go.Proofs.Yteaojpfofifmnaa.PE
open Go.RowKit

structure Wr where
  key : Int
  row : Row
  gone : Bool
def Wr.cells (w : Wr) : List V := [.int .i64 w.key, w.row.v, .bool w.gone]
/-- Each element with the one ahead of it. -/
def prevsG {α : Type} : Option α → List α → List (Option α × α)
  | _, [] => []
  | o, v :: r => (o, v) :: prevsG (some v) r
theorem prevsG_len {α : Type} : ∀ (l : List α) (o : Option α), (prevsG o l).length = l.length
  | [], _ => rfl
  | v :: r, o => by simp [prevsG, prevsG_len r]
theorem prevsG_at {α : Type} : ∀ {l : List α} {o : Option α} {i : Nat} {p : Option α} {v : α}, (prevsG o l)[i]? = some (p, v) → l[i]? = some v ∧ (i = 0 → p = o) ∧ ∀ j, i = j + 1 → p = l[j]?
  | [], _, i, _, _, h => by simp [prevsG] at h
  | w :: r, o, 0, p, v, h => by
    simp only [prevsG, List.getElem?_cons_zero, Option.some.injEq, Prod.mk.injEq] at h
    obtain ⟨rfl, rfl⟩ := h
    exact ⟨rfl, fun _ => rfl, fun j hj => by omega⟩
  | w :: r, o, i + 1, p, v, h => by
    simp only [prevsG, List.getElem?_cons_succ] at h
    obtain ⟨h1, h2, h3⟩ := prevsG_at h
    refine ⟨by simpa using h1, fun e => by omega, fun j hj => ?_⟩
    have : j = i := by omega
    subst this
    cases j with
    | zero => rw [h2 rfl]; rfl
    | succ j => rw [h3 j rfl]; simp
def Wr.one (w : Wr) : Bool := decide (0 ≤ w.key ∧ w.key ≤ 4) && (rowOk w.row.vs && !(w.gone && decide ((0 : Int) < w.row.vs.length)))
def wrAhead (p : Option Wr) (v : Wr) : Bool := match p with
  | none => true
  | some q => decide (q.key < v.key)
def wrOk (p : Option Wr × Wr) : Bool := p.2.one && wrAhead p.1 p.2
def wrsOk (ws : List Wr) : Bool := (prevsG none ws).all wrOk
def ShortWs (ws : List Wr) : Prop := ∀ w ∈ ws, w.row.vs.length < 1099511627776 ∧ short w.row.vs
/-- Keys ascend, so there are at most five. -/
theorem wrs_len : ∀ (l : List Wr) (o : Option Wr) (n : Int), (prevsG o l).all wrOk = true → (∀ q, o = some q → n ≤ q.key) → (o = none → n = -1) → n ≤ 4 → (l.length : Int) ≤ 4 - n
  | [], _, n, _, _, _, h => by simp; omega
  | w :: r, o, n, h, h1, h2, h3 => by
    simp only [prevsG, List.all_cons, Bool.and_eq_true] at h
    obtain ⟨h4, h5⟩ := h
    simp only [wrOk, wrAhead, Wr.one, Bool.and_eq_true, decide_eq_true_eq] at h4
    have hk : n < w.key := by
      cases o with
      | none => have := h2 rfl; omega
      | some q => have := h1 q rfl; have := h4.2; simp at this; omega
    have := wrs_len r (some w) w.key h5 (fun q hq => by cases hq; omega) (fun h => by cases h) (by omega)
    simp only [List.length_cons]
    push_cast
    omega
theorem wrs_len5 {l : List Wr} (h : wrsOk l = true) : (l.length : Int) ≤ 5 := by
  have := wrs_len l none (-1) h (fun q hq => by cases hq) (fun _ => rfl) (by omega)
  omega
-- find108
theorem loop_wrsS (d : Nat) (c : Bool) (l : List Wr) (hs : l.length < 1099511627776) (hsh : ShortWs l) (K : Nat) (hK : (prevsG none l).length ≤ K) :
    LoopS (runD tab noExt (d + 3)) (drawI (runD tab noExt (d + 3))) [0, 3] [2] L108x0 0 K [(0, .sl c 3 (l.map Wr.cells)), (3, .int .i64 0)] [] = if (prevsG none l).all wrOk then (some (.exit 0, [(2, .undef)], []) : Out) else some (.ret, [(2, .bool false)], []) := by
  have key := LoopS_all (run := (runD tab noExt (d + 3))) (draw := drawI (runD tab noExt (d + 3))) (live := [0, 3]) (out := [2]) (c := L108x0) (n0 := 0) (prevsG none l) wrOk (fun (i : Nat) => [(0, .sl c 3 (l.map Wr.cells)), (3, .int .i64 (i : Int))]) [] (some (.exit 0, [(2, .undef)], [])) (some (.ret, [(2, .bool false)], [])) (fun K => ?_) (fun (i : Nat) x K hi hx0 => ?_) K hK
  · simp only [Int.natCast_zero] at key
    exact key
  · rw [LoopS_eq, prevsG_len]
    simp -implicitDefEqProofs only [go_sem, Nat.reduceBEq, Nat.reduceAdd, Nat.reduceSub, Nat.reduceMul, Nat.reduceLeDiff, Nat.reduceEqDiff, Nat.reduceLT, Int.reduceNeg, Int.reduceAdd, Int.reduceSub, Int.reduceMul, Int.reduceLE, Int.reduceLT, Int.reduceEq, Int.reduceToNat, reduceCtorEq, evL108x0, B108x0, Int.lt_irrefl]
  · obtain ⟨p, v⟩ := x
    rw [prevsG_len] at hi
    obtain ⟨hx, g2, g3⟩ := prevsG_at hx0
    obtain ⟨h1, h2⟩ := hsh v (List.mem_of_getElem? hx)
    have hr := run_rowOk d v.row.clip v.row.vs h1 h2
    clear hx0
    rw [LoopS_eq]
    have bad : v.one = false → ∀ (A B : Out), (if wrOk (p, v) = true then A else B) = B := fun h A B => by simp only [wrOk, h, Bool.false_and, Bool.false_eq_true, if_false]
    by_cases k1 : 0 ≤ v.key ∧ v.key ≤ 4
    rotate_left
    · rw [bad (by simp [Wr.one, k1])]
      simp -implicitDefEqProofs (disch := omega) only [go_sem, Nat.reduceBEq, Nat.reduceAdd, Nat.reduceSub, Nat.reduceMul, Nat.reduceLeDiff, Nat.reduceEqDiff, Nat.reduceLT, Int.reduceNeg, Int.reduceAdd, Int.reduceSub, Int.reduceMul, Int.reduceLE, Int.reduceLT, Int.reduceEq, Int.reduceToNat, reduceCtorEq, evL108x0, B108x0, evC_draw, evD108x0, E108x0, IntWalk.i64_in, Wr.cells, Row.v, hr, hx, beq_ft, beq_tf, Bool.true_or, Bool.false_or, run_l1In, wrAhead, hi, (eq_false k1 : (0 ≤ v.key ∧ v.key ≤ 4) = False)]
    cases k2 : rowOk v.row.vs
    · rw [bad (by simp [Wr.one, k2])]
      rw [k2] at hr
      simp -implicitDefEqProofs (disch := omega) only [go_sem, Nat.reduceBEq, Nat.reduceAdd, Nat.reduceSub, Nat.reduceMul, Nat.reduceLeDiff, Nat.reduceEqDiff, Nat.reduceLT, Int.reduceNeg, Int.reduceAdd, Int.reduceSub, Int.reduceMul, Int.reduceLE, Int.reduceLT, Int.reduceEq, Int.reduceToNat, reduceCtorEq, evL108x0, B108x0, evC_draw, evD108x0, E108x0, IntWalk.i64_in, Wr.cells, Row.v, hr, hx, beq_ft, beq_tf, Bool.true_or, Bool.false_or, run_l1In, wrAhead, hi, (eq_true k1 : (0 ≤ v.key ∧ v.key ≤ 4) = True)]
    rw [k2] at hr
    have hg : (v.gone = true ∧ (0 : Int) < v.row.vs.length) ∨ (v.gone = true ∧ ¬ (0 : Int) < v.row.vs.length) ∨ v.gone = false := by
      cases hgo : v.gone
      · exact .inr (.inr rfl)
      · by_cases h0 : (0 : Int) < v.row.vs.length
        · exact .inl ⟨rfl, h0⟩
        · exact .inr (.inl ⟨rfl, h0⟩)
    rcases hg with ⟨k3, k4⟩ | hg
    · rw [bad (by unfold Wr.one; rw [k3, decide_eq_true k4]; simp)]
      simp -implicitDefEqProofs (disch := omega) only [go_sem, Nat.reduceBEq, Nat.reduceAdd, Nat.reduceSub, Nat.reduceMul, Nat.reduceLeDiff, Nat.reduceEqDiff, Nat.reduceLT, Int.reduceNeg, Int.reduceAdd, Int.reduceSub, Int.reduceMul, Int.reduceLE, Int.reduceLT, Int.reduceEq, Int.reduceToNat, reduceCtorEq, evL108x0, B108x0, evC_draw, evD108x0, E108x0, IntWalk.i64_in, Wr.cells, Row.v, hr, hx, beq_ft, beq_tf, Bool.true_or, Bool.false_or, run_l1In, wrAhead, hi, k3, k4, (eq_true k1 : (0 ≤ v.key ∧ v.key ≤ 4) = True)]
    have hone : v.one = true := by
      unfold Wr.one
      rw [decide_eq_true k1, k2]
      rcases hg with ⟨k3, k4⟩ | k3
      · rw [k3, decide_eq_false k4]; rfl
      · rw [k3]; rfl
    have e : wrOk (p, v) = wrAhead p v := by simp [wrOk, hone]
    clear bad
    rw [e]
    cases i with
    | zero =>
      obtain rfl := g2 rfl
      have hi0 : (0 : Int) < l.length := by omega
      rcases hg with ⟨k3, k4⟩ | k3
      · simp -implicitDefEqProofs (disch := omega) only [go_sem, Nat.reduceBEq, Nat.reduceAdd, Nat.reduceSub, Nat.reduceMul, Nat.reduceLeDiff, Nat.reduceEqDiff, Nat.reduceLT, Int.reduceNeg, Int.reduceAdd, Int.reduceSub, Int.reduceMul, Int.reduceLE, Int.reduceLT, Int.reduceEq, Int.reduceToNat, reduceCtorEq, evL108x0, B108x0, evC_draw, evD108x0, E108x0, IntWalk.i64_in, Wr.cells, Row.v, hr, hx, beq_ft, beq_tf, Bool.true_or, Bool.false_or, run_l1In, wrAhead, hi0, k3, k4, (eq_true k1 : (0 ≤ v.key ∧ v.key ≤ 4) = True), Int.natCast_zero, Int.lt_irrefl]
      · simp -implicitDefEqProofs (disch := omega) only [go_sem, Nat.reduceBEq, Nat.reduceAdd, Nat.reduceSub, Nat.reduceMul, Nat.reduceLeDiff, Nat.reduceEqDiff, Nat.reduceLT, Int.reduceNeg, Int.reduceAdd, Int.reduceSub, Int.reduceMul, Int.reduceLE, Int.reduceLT, Int.reduceEq, Int.reduceToNat, reduceCtorEq, evL108x0, B108x0, evC_draw, evD108x0, E108x0, IntWalk.i64_in, Wr.cells, Row.v, hr, hx, beq_ft, beq_tf, Bool.true_or, Bool.false_or, run_l1In, wrAhead, hi0, k3, (eq_true k1 : (0 ≤ v.key ∧ v.key ≤ 4) = True), Int.natCast_zero, Int.lt_irrefl]
    | succ j =>
      have hj : j < l.length := by omega
      have hw := List.getElem?_eq_getElem hj
      obtain rfl := (g3 j rfl).trans hw
      generalize l[j] = w at hw
      have hp : (0 : Int) < (j : Int) + 1 := by omega
      have hj' : (j : Int) < l.length := by omega
      have hp0 : (0 : Int) ≤ (j : Int) + 1 := by omega
      have htn : ((j : Int) + 1).toNat = j + 1 := by omega
      have hi' : (j : Int) + 1 < l.length := by omega
      by_cases k5 : w.key < v.key
      · have k6 : ¬ v.key ≤ w.key := by omega
        rcases hg with ⟨k3, k4⟩ | k3
        · simp -implicitDefEqProofs (disch := omega) only [go_sem, Nat.reduceBEq, Nat.reduceAdd, Nat.reduceSub, Nat.reduceMul, Nat.reduceLeDiff, Nat.reduceEqDiff, Nat.reduceLT, Int.reduceNeg, Int.reduceAdd, Int.reduceSub, Int.reduceMul, Int.reduceLE, Int.reduceLT, Int.reduceEq, Int.reduceToNat, reduceCtorEq, evL108x0, B108x0, evC_draw, evD108x0, E108x0, IntWalk.i64_in, Wr.cells, Row.v, hr, hx, beq_ft, beq_tf, Bool.true_or, Bool.false_or, run_l1In, wrAhead, hi', hj', hp0, htn, hp, hw, Int.add_sub_cancel, Int.add_assoc, k3, k4, (eq_true k1 : (0 ≤ v.key ∧ v.key ≤ 4) = True), (eq_true k5 : (w.key < v.key) = True), (eq_false k6 : (v.key ≤ w.key) = False)]
        · simp -implicitDefEqProofs (disch := omega) only [go_sem, Nat.reduceBEq, Nat.reduceAdd, Nat.reduceSub, Nat.reduceMul, Nat.reduceLeDiff, Nat.reduceEqDiff, Nat.reduceLT, Int.reduceNeg, Int.reduceAdd, Int.reduceSub, Int.reduceMul, Int.reduceLE, Int.reduceLT, Int.reduceEq, Int.reduceToNat, reduceCtorEq, evL108x0, B108x0, evC_draw, evD108x0, E108x0, IntWalk.i64_in, Wr.cells, Row.v, hr, hx, beq_ft, beq_tf, Bool.true_or, Bool.false_or, run_l1In, wrAhead, hi', hj', hp0, htn, hp, hw, Int.add_sub_cancel, Int.add_assoc, k3, (eq_true k1 : (0 ≤ v.key ∧ v.key ≤ 4) = True), (eq_true k5 : (w.key < v.key) = True), (eq_false k6 : (v.key ≤ w.key) = False)]
      · have k6 : v.key ≤ w.key := by omega
        rcases hg with ⟨k3, k4⟩ | k3
        · simp -implicitDefEqProofs (disch := omega) only [go_sem, Nat.reduceBEq, Nat.reduceAdd, Nat.reduceSub, Nat.reduceMul, Nat.reduceLeDiff, Nat.reduceEqDiff, Nat.reduceLT, Int.reduceNeg, Int.reduceAdd, Int.reduceSub, Int.reduceMul, Int.reduceLE, Int.reduceLT, Int.reduceEq, Int.reduceToNat, reduceCtorEq, evL108x0, B108x0, evC_draw, evD108x0, E108x0, IntWalk.i64_in, Wr.cells, Row.v, hr, hx, beq_ft, beq_tf, Bool.true_or, Bool.false_or, run_l1In, wrAhead, hi', hj', hp0, htn, hp, hw, Int.add_sub_cancel, Int.add_assoc, k3, k4, (eq_true k1 : (0 ≤ v.key ∧ v.key ≤ 4) = True), (eq_false k5 : (w.key < v.key) = False), (eq_true k6 : (v.key ≤ w.key) = True)]
        · simp -implicitDefEqProofs (disch := omega) only [go_sem, Nat.reduceBEq, Nat.reduceAdd, Nat.reduceSub, Nat.reduceMul, Nat.reduceLeDiff, Nat.reduceEqDiff, Nat.reduceLT, Int.reduceNeg, Int.reduceAdd, Int.reduceSub, Int.reduceMul, Int.reduceLE, Int.reduceLT, Int.reduceEq, Int.reduceToNat, reduceCtorEq, evL108x0, B108x0, evC_draw, evD108x0, E108x0, IntWalk.i64_in, Wr.cells, Row.v, hr, hx, beq_ft, beq_tf, Bool.true_or, Bool.false_or, run_l1In, wrAhead, hi', hj', hp0, htn, hp, hw, Int.add_sub_cancel, Int.add_assoc, k3, (eq_true k1 : (0 ≤ v.key ∧ v.key ≤ 4) = True), (eq_false k5 : (w.key < v.key) = False), (eq_true k6 : (v.key ≤ w.key) = True)]
theorem run_wrsS (d : Nat) (c : Bool) (l : List Wr) (hs : l.length < 1099511627776) (hsh : ShortWs l) : retP (runD tab noExt (d + 4)) 108 [.sl c 3 (l.map Wr.cells)] = some [.bool (wrsOk l)] := by
  rw [retP, runD_eq find108 _ _ _ (by simp)]
  have hl := loop_wrsS d c l hs hsh 1099511627775 (by rw [prevsG_len]; omega)
  simp -implicitDefEqProofs (disch := omega) only [go_sem, Nat.reduceBEq, Nat.reduceAdd, Nat.reduceSub, Nat.reduceMul, Nat.reduceLeDiff, Nat.reduceEqDiff, Nat.reduceLT, Int.reduceNeg, Int.reduceAdd, Int.reduceSub, Int.reduceMul, Int.reduceLE, Int.reduceLT, Int.reduceEq, Int.reduceToNat, reduceCtorEq]
  rw [hl]
  unfold wrsOk
  cases h : (prevsG none l).all wrOk <;> simp -implicitDefEqProofs (disch := omega) only [go_sem, Nat.reduceBEq, Nat.reduceAdd, Nat.reduceSub, Nat.reduceMul, Nat.reduceLeDiff, Nat.reduceEqDiff, Nat.reduceLT, Int.reduceNeg, Int.reduceAdd, Int.reduceSub, Int.reduceMul, Int.reduceLE, Int.reduceLT, Int.reduceEq, Int.reduceToNat, reduceCtorEq]
theorem run_keyOkW (d : Nat) (n : Int) : retP (runD tab noExt (d + 2)) 119 [.int .i64 n] = some [.bool (decide (0 ≤ n ∧ n ≤ 4))] := by
  rw [retP, runD_eq find119 _ _ _ (by simp)]
  simp -implicitDefEqProofs (disch := omega) only [go_sem, Nat.reduceBEq, Nat.reduceAdd, Nat.reduceSub, Nat.reduceMul, Nat.reduceLeDiff, Nat.reduceEqDiff, Nat.reduceLT, Int.reduceNeg, Int.reduceAdd, Int.reduceSub, Int.reduceMul, Int.reduceLE, Int.reduceLT, Int.reduceEq, Int.reduceToNat, reduceCtorEq, run_between]
  repeat' ((first | rw [GuardI_ndec] | rw [CondC_ndec] | rw [GuardQ_ndec] | rw [GuardI_dec] | rw [CondC_dec] | rw [GuardQ_dec] | rw [GuardI_nby] | rw [CondC_nby] | rw [GuardQ_nby] | rw [GuardQ_by] | rw [GuardI_by] | rw [CondC_by]) <;> split <;> simp -implicitDefEqProofs (disch := omega) only [go_sem, Nat.reduceBEq, Nat.reduceAdd, Nat.reduceSub, Nat.reduceMul, Nat.reduceLeDiff, Nat.reduceEqDiff, Nat.reduceLT, Int.reduceNeg, Int.reduceAdd, Int.reduceSub, Int.reduceMul, Int.reduceLE, Int.reduceLT, Int.reduceEq, Int.reduceToNat, reduceCtorEq, run_between, *])
  all_goals simp_all
-- find73
theorem loop_wrsI (d : Nat) (c : Bool) (l : List Wr) (hs : l.length < 1099511627776) (hsh : ShortWs l) (K : Nat) (hK : (prevsG none l).length ≤ K) :
    LoopS (runD tab noExt (d + 7)) (drawI (runD tab noExt (d + 7))) [0, 5, 6, 7] [0, 2] L73x0 0 K [(0, .sl c 3 (l.map Wr.cells)), (5, .sl c 3 (l.map Wr.cells)), (6, .int .i64 l.length), (7, .int .i64 0)] [] = if (prevsG none l).all wrOk then (some (.exit 0, [(0, .sl c 3 (l.map Wr.cells)), (2, .undef)], []) : Out) else some (.ret, [(0, .sl c 3 (l.map Wr.cells)), (2, .bool false)], []) := by
  have key := LoopS_all (run := (runD tab noExt (d + 7))) (draw := drawI (runD tab noExt (d + 7))) (live := [0, 5, 6, 7]) (out := [0, 2]) (c := L73x0) (n0 := 0) (prevsG none l) wrOk (fun (i : Nat) => [(0, .sl c 3 (l.map Wr.cells)), (5, .sl c 3 (l.map Wr.cells)), (6, .int .i64 l.length), (7, .int .i64 (i : Int))]) [] (some (.exit 0, [(0, .sl c 3 (l.map Wr.cells)), (2, .undef)], [])) (some (.ret, [(0, .sl c 3 (l.map Wr.cells)), (2, .bool false)], [])) (fun K => ?_) (fun (i : Nat) x K hi hx0 => ?_) K hK
  · simp only [Int.natCast_zero] at key
    exact key
  · rw [LoopS_eq, prevsG_len]
    simp -implicitDefEqProofs only [go_sem, Nat.reduceBEq, Nat.reduceAdd, Nat.reduceSub, Nat.reduceMul, Nat.reduceLeDiff, Nat.reduceEqDiff, Nat.reduceLT, Int.reduceNeg, Int.reduceAdd, Int.reduceSub, Int.reduceMul, Int.reduceLE, Int.reduceLT, Int.reduceEq, Int.reduceToNat, reduceCtorEq, evL73x0, B73x0, Int.lt_irrefl]
  · obtain ⟨p, v⟩ := x
    rw [prevsG_len] at hi
    obtain ⟨hx, g2, g3⟩ := prevsG_at hx0
    obtain ⟨h1, h2⟩ := hsh v (List.mem_of_getElem? hx)
    have hr := run_rowOkI d v.row.clip v.row.vs h1
    clear hx0
    rw [LoopS_eq]
    have bad : v.one = false → ∀ (A B : Out), (if wrOk (p, v) = true then A else B) = B := fun h A B => by simp only [wrOk, h, Bool.false_and, Bool.false_eq_true, if_false]
    by_cases k1 : 0 ≤ v.key ∧ v.key ≤ 4
    rotate_left
    · rw [bad (by simp [Wr.one, k1])]
      simp -implicitDefEqProofs (disch := omega) only [go_sem, Nat.reduceBEq, Nat.reduceAdd, Nat.reduceSub, Nat.reduceMul, Nat.reduceLeDiff, Nat.reduceEqDiff, Nat.reduceLT, Int.reduceNeg, Int.reduceAdd, Int.reduceSub, Int.reduceMul, Int.reduceLE, Int.reduceLT, Int.reduceEq, Int.reduceToNat, reduceCtorEq, evL73x0, B73x0, evC_draw, evD73x0, E73x0, IntWalk.i64_in, Wr.cells, Row.v, hr, hx, beq_ft, beq_tf, Bool.true_or, Bool.false_or, run_keyOkW, wrAhead, hi, (eq_false k1 : (0 ≤ v.key ∧ v.key ≤ 4) = False)]
    cases k2 : rowOk v.row.vs
    · rw [bad (by simp [Wr.one, k2])]
      rw [k2] at hr
      simp -implicitDefEqProofs (disch := omega) only [go_sem, Nat.reduceBEq, Nat.reduceAdd, Nat.reduceSub, Nat.reduceMul, Nat.reduceLeDiff, Nat.reduceEqDiff, Nat.reduceLT, Int.reduceNeg, Int.reduceAdd, Int.reduceSub, Int.reduceMul, Int.reduceLE, Int.reduceLT, Int.reduceEq, Int.reduceToNat, reduceCtorEq, evL73x0, B73x0, evC_draw, evD73x0, E73x0, IntWalk.i64_in, Wr.cells, Row.v, hr, hx, beq_ft, beq_tf, Bool.true_or, Bool.false_or, run_keyOkW, wrAhead, hi, (eq_true k1 : (0 ≤ v.key ∧ v.key ≤ 4) = True)]
    rw [k2] at hr
    have hg : (v.gone = true ∧ (0 : Int) < v.row.vs.length) ∨ (v.gone = true ∧ ¬ (0 : Int) < v.row.vs.length) ∨ v.gone = false := by
      cases hgo : v.gone
      · exact .inr (.inr rfl)
      · by_cases h0 : (0 : Int) < v.row.vs.length
        · exact .inl ⟨rfl, h0⟩
        · exact .inr (.inl ⟨rfl, h0⟩)
    rcases hg with ⟨k3, k4⟩ | hg
    · rw [bad (by unfold Wr.one; rw [k3, decide_eq_true k4]; simp)]
      simp -implicitDefEqProofs (disch := omega) only [go_sem, Nat.reduceBEq, Nat.reduceAdd, Nat.reduceSub, Nat.reduceMul, Nat.reduceLeDiff, Nat.reduceEqDiff, Nat.reduceLT, Int.reduceNeg, Int.reduceAdd, Int.reduceSub, Int.reduceMul, Int.reduceLE, Int.reduceLT, Int.reduceEq, Int.reduceToNat, reduceCtorEq, evL73x0, B73x0, evC_draw, evD73x0, E73x0, IntWalk.i64_in, Wr.cells, Row.v, hr, hx, beq_ft, beq_tf, Bool.true_or, Bool.false_or, run_keyOkW, wrAhead, hi, k3, k4, (eq_true k1 : (0 ≤ v.key ∧ v.key ≤ 4) = True)]
    have hone : v.one = true := by
      unfold Wr.one
      rw [decide_eq_true k1, k2]
      rcases hg with ⟨k3, k4⟩ | k3
      · rw [k3, decide_eq_false k4]; rfl
      · rw [k3]; rfl
    have e : wrOk (p, v) = wrAhead p v := by simp [wrOk, hone]
    clear bad
    rw [e]
    cases i with
    | zero =>
      obtain rfl := g2 rfl
      have hi0 : (0 : Int) < l.length := by omega
      rcases hg with ⟨k3, k4⟩ | k3
      · simp -implicitDefEqProofs (disch := omega) only [go_sem, Nat.reduceBEq, Nat.reduceAdd, Nat.reduceSub, Nat.reduceMul, Nat.reduceLeDiff, Nat.reduceEqDiff, Nat.reduceLT, Int.reduceNeg, Int.reduceAdd, Int.reduceSub, Int.reduceMul, Int.reduceLE, Int.reduceLT, Int.reduceEq, Int.reduceToNat, reduceCtorEq, evL73x0, B73x0, evC_draw, evD73x0, E73x0, IntWalk.i64_in, Wr.cells, Row.v, hr, hx, beq_ft, beq_tf, Bool.true_or, Bool.false_or, run_keyOkW, wrAhead, hi0, k3, k4, (eq_true k1 : (0 ≤ v.key ∧ v.key ≤ 4) = True), Int.natCast_zero, Int.lt_irrefl]
      · simp -implicitDefEqProofs (disch := omega) only [go_sem, Nat.reduceBEq, Nat.reduceAdd, Nat.reduceSub, Nat.reduceMul, Nat.reduceLeDiff, Nat.reduceEqDiff, Nat.reduceLT, Int.reduceNeg, Int.reduceAdd, Int.reduceSub, Int.reduceMul, Int.reduceLE, Int.reduceLT, Int.reduceEq, Int.reduceToNat, reduceCtorEq, evL73x0, B73x0, evC_draw, evD73x0, E73x0, IntWalk.i64_in, Wr.cells, Row.v, hr, hx, beq_ft, beq_tf, Bool.true_or, Bool.false_or, run_keyOkW, wrAhead, hi0, k3, (eq_true k1 : (0 ≤ v.key ∧ v.key ≤ 4) = True), Int.natCast_zero, Int.lt_irrefl]
    | succ j =>
      have hj : j < l.length := by omega
      have hw := List.getElem?_eq_getElem hj
      obtain rfl := (g3 j rfl).trans hw
      generalize l[j] = w at hw
      have hp : (0 : Int) < (j : Int) + 1 := by omega
      have hj' : (j : Int) < l.length := by omega
      have hp0 : (0 : Int) ≤ (j : Int) + 1 := by omega
      have htn : ((j : Int) + 1).toNat = j + 1 := by omega
      have hi' : (j : Int) + 1 < l.length := by omega
      by_cases k5 : w.key < v.key
      · have k6 : ¬ v.key ≤ w.key := by omega
        rcases hg with ⟨k3, k4⟩ | k3
        · simp -implicitDefEqProofs (disch := omega) only [go_sem, Nat.reduceBEq, Nat.reduceAdd, Nat.reduceSub, Nat.reduceMul, Nat.reduceLeDiff, Nat.reduceEqDiff, Nat.reduceLT, Int.reduceNeg, Int.reduceAdd, Int.reduceSub, Int.reduceMul, Int.reduceLE, Int.reduceLT, Int.reduceEq, Int.reduceToNat, reduceCtorEq, evL73x0, B73x0, evC_draw, evD73x0, E73x0, IntWalk.i64_in, Wr.cells, Row.v, hr, hx, beq_ft, beq_tf, Bool.true_or, Bool.false_or, run_keyOkW, wrAhead, hi', hj', hp0, htn, hp, hw, Int.add_sub_cancel, Int.add_assoc, k3, k4, (eq_true k1 : (0 ≤ v.key ∧ v.key ≤ 4) = True), (eq_true k5 : (w.key < v.key) = True), (eq_false k6 : (v.key ≤ w.key) = False)]
        · simp -implicitDefEqProofs (disch := omega) only [go_sem, Nat.reduceBEq, Nat.reduceAdd, Nat.reduceSub, Nat.reduceMul, Nat.reduceLeDiff, Nat.reduceEqDiff, Nat.reduceLT, Int.reduceNeg, Int.reduceAdd, Int.reduceSub, Int.reduceMul, Int.reduceLE, Int.reduceLT, Int.reduceEq, Int.reduceToNat, reduceCtorEq, evL73x0, B73x0, evC_draw, evD73x0, E73x0, IntWalk.i64_in, Wr.cells, Row.v, hr, hx, beq_ft, beq_tf, Bool.true_or, Bool.false_or, run_keyOkW, wrAhead, hi', hj', hp0, htn, hp, hw, Int.add_sub_cancel, Int.add_assoc, k3, (eq_true k1 : (0 ≤ v.key ∧ v.key ≤ 4) = True), (eq_true k5 : (w.key < v.key) = True), (eq_false k6 : (v.key ≤ w.key) = False)]
      · have k6 : v.key ≤ w.key := by omega
        rcases hg with ⟨k3, k4⟩ | k3
        · simp -implicitDefEqProofs (disch := omega) only [go_sem, Nat.reduceBEq, Nat.reduceAdd, Nat.reduceSub, Nat.reduceMul, Nat.reduceLeDiff, Nat.reduceEqDiff, Nat.reduceLT, Int.reduceNeg, Int.reduceAdd, Int.reduceSub, Int.reduceMul, Int.reduceLE, Int.reduceLT, Int.reduceEq, Int.reduceToNat, reduceCtorEq, evL73x0, B73x0, evC_draw, evD73x0, E73x0, IntWalk.i64_in, Wr.cells, Row.v, hr, hx, beq_ft, beq_tf, Bool.true_or, Bool.false_or, run_keyOkW, wrAhead, hi', hj', hp0, htn, hp, hw, Int.add_sub_cancel, Int.add_assoc, k3, k4, (eq_true k1 : (0 ≤ v.key ∧ v.key ≤ 4) = True), (eq_false k5 : (w.key < v.key) = False), (eq_true k6 : (v.key ≤ w.key) = True)]
        · simp -implicitDefEqProofs (disch := omega) only [go_sem, Nat.reduceBEq, Nat.reduceAdd, Nat.reduceSub, Nat.reduceMul, Nat.reduceLeDiff, Nat.reduceEqDiff, Nat.reduceLT, Int.reduceNeg, Int.reduceAdd, Int.reduceSub, Int.reduceMul, Int.reduceLE, Int.reduceLT, Int.reduceEq, Int.reduceToNat, reduceCtorEq, evL73x0, B73x0, evC_draw, evD73x0, E73x0, IntWalk.i64_in, Wr.cells, Row.v, hr, hx, beq_ft, beq_tf, Bool.true_or, Bool.false_or, run_keyOkW, wrAhead, hi', hj', hp0, htn, hp, hw, Int.add_sub_cancel, Int.add_assoc, k3, (eq_true k1 : (0 ≤ v.key ∧ v.key ≤ 4) = True), (eq_false k5 : (w.key < v.key) = False), (eq_true k6 : (v.key ≤ w.key) = True)]
theorem run_wrsI (d : Nat) (c : Bool) (l : List Wr) (hs : l.length < 1099511627776) (hsh : ShortWs l) : retP (runD tab noExt (d + 8)) 73 [.sl c 3 (l.map Wr.cells)] = some [.bool (wrsOk l)] := by
  rw [retP, runD_eq find73 _ _ _ (by simp)]
  have hl := loop_wrsI d c l hs hsh 1099511627775 (by rw [prevsG_len]; omega)
  simp -implicitDefEqProofs (disch := omega) only [go_sem, Nat.reduceBEq, Nat.reduceAdd, Nat.reduceSub, Nat.reduceMul, Nat.reduceLeDiff, Nat.reduceEqDiff, Nat.reduceLT, Int.reduceNeg, Int.reduceAdd, Int.reduceSub, Int.reduceMul, Int.reduceLE, Int.reduceLT, Int.reduceEq, Int.reduceToNat, reduceCtorEq]
  rw [hl]
  cases h : wrsOk l
  · unfold wrsOk at h
    rw [h]
    simp -implicitDefEqProofs (disch := omega) only [go_sem, Nat.reduceBEq, Nat.reduceAdd, Nat.reduceSub, Nat.reduceMul, Nat.reduceLeDiff, Nat.reduceEqDiff, Nat.reduceLT, Int.reduceNeg, Int.reduceAdd, Int.reduceSub, Int.reduceMul, Int.reduceLE, Int.reduceLT, Int.reduceEq, Int.reduceToNat, reduceCtorEq]
  · have h5 := wrs_len5 h
    unfold wrsOk at h
    rw [h]
    simp -implicitDefEqProofs (disch := omega) only [go_sem, Nat.reduceBEq, Nat.reduceAdd, Nat.reduceSub, Nat.reduceMul, Nat.reduceLeDiff, Nat.reduceEqDiff, Nat.reduceLT, Int.reduceNeg, Int.reduceAdd, Int.reduceSub, Int.reduceMul, Int.reduceLE, Int.reduceLT, Int.reduceEq, Int.reduceToNat, reduceCtorEq, (eq_true h5 : ((l.length : Int) ≤ 5) = True)]
end Go.Proofs.Yteaojpfofifmnaa.PE
/- Logs: what is ok, in plain words; both functions tell it. -/
set_option linter.unusedSimpArgs false
set_option linter.unusedVariables false
set_option maxHeartbeats 4000000
namespace Go.Proofs.Yteaojpfofifmnaa.PE
open Go.RowKit

structure Ent where
  time : Int
  wc : Bool
  ws : List Wr
def Ent.v (e : Ent) : V := .sl e.wc 3 (e.ws.map Wr.cells)
def Ent.cells (e : Ent) : List V := [.int .i64 e.time, e.v]
def Ent.one (e : Ent) : Bool := decide (1 ≤ e.time ∧ e.time ≤ 40) && wrsOk e.ws
def entAhead (p : Option Ent) (v : Ent) : Bool := match p with
  | none => true
  | some q => decide (q.time < v.time)
def entOk (p : Option Ent × Ent) : Bool := p.2.one && entAhead p.1 p.2
def logOk (l : List Ent) : Bool := (prevsG none l).all entOk && decide ((l.length : Int) ≤ 12)
def ShortE (l : List Ent) : Prop := ∀ e ∈ l, e.ws.length < 1099511627776 ∧ ShortWs e.ws
-- find63
theorem loop_logS (d : Nat) (c : Bool) (l : List Ent) (hs : l.length < 1099511627776) (hsh : ShortE l) (K : Nat) (hK : (prevsG none l).length ≤ K) :
    LoopS (runD tab noExt (d + 4)) (drawI (runD tab noExt (d + 4))) [0, 3] [0, 2] L63x0 0 K [(0, .sl c 2 (l.map Ent.cells)), (3, .int .i64 0)] [] = if (prevsG none l).all entOk then (some (.exit 0, [(0, .sl c 2 (l.map Ent.cells)), (2, .undef)], []) : Out) else some (.ret, [(0, .sl c 2 (l.map Ent.cells)), (2, .bool false)], []) := by
  have key := LoopS_all (run := (runD tab noExt (d + 4))) (draw := drawI (runD tab noExt (d + 4))) (live := [0, 3]) (out := [0, 2]) (c := L63x0) (n0 := 0) (prevsG none l) entOk (fun (i : Nat) => [(0, .sl c 2 (l.map Ent.cells)), (3, .int .i64 (i : Int))]) [] (some (.exit 0, [(0, .sl c 2 (l.map Ent.cells)), (2, .undef)], [])) (some (.ret, [(0, .sl c 2 (l.map Ent.cells)), (2, .bool false)], [])) (fun K => ?_) (fun (i : Nat) x K hi hx0 => ?_) K hK
  · simp only [Int.natCast_zero] at key
    exact key
  · rw [LoopS_eq, prevsG_len]
    simp -implicitDefEqProofs only [go_sem, Nat.reduceBEq, Nat.reduceAdd, Nat.reduceSub, Nat.reduceMul, Nat.reduceLeDiff, Nat.reduceEqDiff, Nat.reduceLT, Int.reduceNeg, Int.reduceAdd, Int.reduceSub, Int.reduceMul, Int.reduceLE, Int.reduceLT, Int.reduceEq, Int.reduceToNat, reduceCtorEq, evL63x0, B63x0, Int.lt_irrefl]
  · obtain ⟨p, v⟩ := x
    rw [prevsG_len] at hi
    obtain ⟨hx, g2, g3⟩ := prevsG_at hx0
    obtain ⟨h1, h2⟩ := hsh v (List.mem_of_getElem? hx)
    have hr := run_wrsS d v.wc v.ws h1 h2
    clear hx0
    rw [LoopS_eq]
    have bad : v.one = false → ∀ (A B : Out), (if entOk (p, v) = true then A else B) = B := fun h A B => by simp only [entOk, h, Bool.false_and, Bool.false_eq_true, if_false]
    by_cases k1 : 1 ≤ v.time ∧ v.time ≤ 40
    rotate_left
    · rw [bad (by unfold Ent.one; rw [decide_eq_false k1]; rfl)]
      simp -implicitDefEqProofs (disch := omega) only [go_sem, Nat.reduceBEq, Nat.reduceAdd, Nat.reduceSub, Nat.reduceMul, Nat.reduceLeDiff, Nat.reduceEqDiff, Nat.reduceLT, Int.reduceNeg, Int.reduceAdd, Int.reduceSub, Int.reduceMul, Int.reduceLE, Int.reduceLT, Int.reduceEq, Int.reduceToNat, reduceCtorEq, evL63x0, B63x0, evC_draw, evD63x0, E63x0, IntWalk.i64_in, Ent.cells, Ent.v, hr, hx, beq_ft, beq_tf, Bool.true_or, Bool.false_or, run_l1In, entAhead, hi, (eq_false k1 : (1 ≤ v.time ∧ v.time ≤ 40) = False)]
    cases i with
    | zero =>
      obtain rfl := g2 rfl
      have hi0 : (0 : Int) < l.length := by omega
      cases k2 : wrsOk v.ws
      · rw [bad (by unfold Ent.one; rw [k2, Bool.and_false])]
        rw [k2] at hr
        simp -implicitDefEqProofs (disch := omega) only [go_sem, Nat.reduceBEq, Nat.reduceAdd, Nat.reduceSub, Nat.reduceMul, Nat.reduceLeDiff, Nat.reduceEqDiff, Nat.reduceLT, Int.reduceNeg, Int.reduceAdd, Int.reduceSub, Int.reduceMul, Int.reduceLE, Int.reduceLT, Int.reduceEq, Int.reduceToNat, reduceCtorEq, evL63x0, B63x0, evC_draw, evD63x0, E63x0, IntWalk.i64_in, Ent.cells, Ent.v, hr, hx, beq_ft, beq_tf, Bool.true_or, Bool.false_or, run_l1In, entAhead, hi0, (eq_true k1 : (1 ≤ v.time ∧ v.time ≤ 40) = True), Int.natCast_zero, Int.lt_irrefl]
      · have e : entOk (none, v) = true := by unfold entOk Ent.one; simp only; rw [decide_eq_true k1, k2]; rfl
        rw [k2] at hr
        rw [e]
        simp -implicitDefEqProofs (disch := omega) only [go_sem, Nat.reduceBEq, Nat.reduceAdd, Nat.reduceSub, Nat.reduceMul, Nat.reduceLeDiff, Nat.reduceEqDiff, Nat.reduceLT, Int.reduceNeg, Int.reduceAdd, Int.reduceSub, Int.reduceMul, Int.reduceLE, Int.reduceLT, Int.reduceEq, Int.reduceToNat, reduceCtorEq, evL63x0, B63x0, evC_draw, evD63x0, E63x0, IntWalk.i64_in, Ent.cells, Ent.v, hr, hx, beq_ft, beq_tf, Bool.true_or, Bool.false_or, run_l1In, entAhead, hi0, (eq_true k1 : (1 ≤ v.time ∧ v.time ≤ 40) = True), Int.natCast_zero, Int.lt_irrefl]
    | succ j =>
      have hj : j < l.length := by omega
      have hw := List.getElem?_eq_getElem hj
      obtain rfl := (g3 j rfl).trans hw
      generalize l[j] = w at hw bad
      have hp : (0 : Int) < (j : Int) + 1 := by omega
      have hj' : (j : Int) < l.length := by omega
      have hp0 : (0 : Int) ≤ (j : Int) + 1 := by omega
      have htn : ((j : Int) + 1).toNat = j + 1 := by omega
      have hi' : (j : Int) + 1 < l.length := by omega
      cases k2 : wrsOk v.ws
      · rw [bad (by unfold Ent.one; rw [k2, Bool.and_false])]
        rw [k2] at hr
        by_cases k5 : w.time < v.time
        · have k6 : ¬ v.time ≤ w.time := by omega
          simp -implicitDefEqProofs (disch := omega) only [go_sem, Nat.reduceBEq, Nat.reduceAdd, Nat.reduceSub, Nat.reduceMul, Nat.reduceLeDiff, Nat.reduceEqDiff, Nat.reduceLT, Int.reduceNeg, Int.reduceAdd, Int.reduceSub, Int.reduceMul, Int.reduceLE, Int.reduceLT, Int.reduceEq, Int.reduceToNat, reduceCtorEq, evL63x0, B63x0, evC_draw, evD63x0, E63x0, IntWalk.i64_in, Ent.cells, Ent.v, hr, hx, beq_ft, beq_tf, Bool.true_or, Bool.false_or, run_l1In, entAhead, hi', hj', hp0, htn, hp, hw, Int.add_sub_cancel, Int.add_assoc, (eq_true k1 : (1 ≤ v.time ∧ v.time ≤ 40) = True), (eq_true k5 : (w.time < v.time) = True), (eq_false k6 : (v.time ≤ w.time) = False)]
        · have k6 : v.time ≤ w.time := by omega
          simp -implicitDefEqProofs (disch := omega) only [go_sem, Nat.reduceBEq, Nat.reduceAdd, Nat.reduceSub, Nat.reduceMul, Nat.reduceLeDiff, Nat.reduceEqDiff, Nat.reduceLT, Int.reduceNeg, Int.reduceAdd, Int.reduceSub, Int.reduceMul, Int.reduceLE, Int.reduceLT, Int.reduceEq, Int.reduceToNat, reduceCtorEq, evL63x0, B63x0, evC_draw, evD63x0, E63x0, IntWalk.i64_in, Ent.cells, Ent.v, hr, hx, beq_ft, beq_tf, Bool.true_or, Bool.false_or, run_l1In, entAhead, hi', hj', hp0, htn, hp, hw, Int.add_sub_cancel, Int.add_assoc, (eq_true k1 : (1 ≤ v.time ∧ v.time ≤ 40) = True), (eq_false k5 : (w.time < v.time) = False), (eq_true k6 : (v.time ≤ w.time) = True)]
      · have e : entOk (some w, v) = entAhead (some w) v := by unfold entOk Ent.one; simp only; rw [decide_eq_true k1, k2]; rfl
        rw [k2] at hr
        rw [e]
        by_cases k5 : w.time < v.time
        · have k6 : ¬ v.time ≤ w.time := by omega
          simp -implicitDefEqProofs (disch := omega) only [go_sem, Nat.reduceBEq, Nat.reduceAdd, Nat.reduceSub, Nat.reduceMul, Nat.reduceLeDiff, Nat.reduceEqDiff, Nat.reduceLT, Int.reduceNeg, Int.reduceAdd, Int.reduceSub, Int.reduceMul, Int.reduceLE, Int.reduceLT, Int.reduceEq, Int.reduceToNat, reduceCtorEq, evL63x0, B63x0, evC_draw, evD63x0, E63x0, IntWalk.i64_in, Ent.cells, Ent.v, hr, hx, beq_ft, beq_tf, Bool.true_or, Bool.false_or, run_l1In, entAhead, hi', hj', hp0, htn, hp, hw, Int.add_sub_cancel, Int.add_assoc, (eq_true k1 : (1 ≤ v.time ∧ v.time ≤ 40) = True), (eq_true k5 : (w.time < v.time) = True), (eq_false k6 : (v.time ≤ w.time) = False)]
        · have k6 : v.time ≤ w.time := by omega
          simp -implicitDefEqProofs (disch := omega) only [go_sem, Nat.reduceBEq, Nat.reduceAdd, Nat.reduceSub, Nat.reduceMul, Nat.reduceLeDiff, Nat.reduceEqDiff, Nat.reduceLT, Int.reduceNeg, Int.reduceAdd, Int.reduceSub, Int.reduceMul, Int.reduceLE, Int.reduceLT, Int.reduceEq, Int.reduceToNat, reduceCtorEq, evL63x0, B63x0, evC_draw, evD63x0, E63x0, IntWalk.i64_in, Ent.cells, Ent.v, hr, hx, beq_ft, beq_tf, Bool.true_or, Bool.false_or, run_l1In, entAhead, hi', hj', hp0, htn, hp, hw, Int.add_sub_cancel, Int.add_assoc, (eq_true k1 : (1 ≤ v.time ∧ v.time ≤ 40) = True), (eq_false k5 : (w.time < v.time) = False), (eq_true k6 : (v.time ≤ w.time) = True)]
-- find25
theorem loop_logI (d : Nat) (c : Bool) (l : List Ent) (hs : l.length < 1099511627776) (hsh : ShortE l) (K : Nat) (hK : (prevsG none l).length ≤ K) :
    LoopS (runD tab noExt (d + 8)) (drawI (runD tab noExt (d + 8))) [0, 5, 6, 7] [0, 2] L25x0 0 K [(0, .sl c 2 (l.map Ent.cells)), (5, .sl c 2 (l.map Ent.cells)), (6, .int .i64 l.length), (7, .int .i64 0)] [] = if (prevsG none l).all entOk then (some (.exit 0, [(0, .sl c 2 (l.map Ent.cells)), (2, .undef)], []) : Out) else some (.ret, [(0, .sl c 2 (l.map Ent.cells)), (2, .bool false)], []) := by
  have key := LoopS_all (run := (runD tab noExt (d + 8))) (draw := drawI (runD tab noExt (d + 8))) (live := [0, 5, 6, 7]) (out := [0, 2]) (c := L25x0) (n0 := 0) (prevsG none l) entOk (fun (i : Nat) => [(0, .sl c 2 (l.map Ent.cells)), (5, .sl c 2 (l.map Ent.cells)), (6, .int .i64 l.length), (7, .int .i64 (i : Int))]) [] (some (.exit 0, [(0, .sl c 2 (l.map Ent.cells)), (2, .undef)], [])) (some (.ret, [(0, .sl c 2 (l.map Ent.cells)), (2, .bool false)], [])) (fun K => ?_) (fun (i : Nat) x K hi hx0 => ?_) K hK
  · simp only [Int.natCast_zero] at key
    exact key
  · rw [LoopS_eq, prevsG_len]
    simp -implicitDefEqProofs only [go_sem, Nat.reduceBEq, Nat.reduceAdd, Nat.reduceSub, Nat.reduceMul, Nat.reduceLeDiff, Nat.reduceEqDiff, Nat.reduceLT, Int.reduceNeg, Int.reduceAdd, Int.reduceSub, Int.reduceMul, Int.reduceLE, Int.reduceLT, Int.reduceEq, Int.reduceToNat, reduceCtorEq, evL25x0, B25x0, Int.lt_irrefl]
  · obtain ⟨p, v⟩ := x
    rw [prevsG_len] at hi
    obtain ⟨hx, g2, g3⟩ := prevsG_at hx0
    obtain ⟨h1, h2⟩ := hsh v (List.mem_of_getElem? hx)
    have hr := run_wrsI d v.wc v.ws h1 h2
    clear hx0
    rw [LoopS_eq]
    have bad : v.one = false → ∀ (A B : Out), (if entOk (p, v) = true then A else B) = B := fun h A B => by simp only [entOk, h, Bool.false_and, Bool.false_eq_true, if_false]
    by_cases k1 : 1 ≤ v.time ∧ v.time ≤ 40
    rotate_left
    · rw [bad (by unfold Ent.one; rw [decide_eq_false k1]; rfl)]
      simp -implicitDefEqProofs (disch := omega) only [go_sem, Nat.reduceBEq, Nat.reduceAdd, Nat.reduceSub, Nat.reduceMul, Nat.reduceLeDiff, Nat.reduceEqDiff, Nat.reduceLT, Int.reduceNeg, Int.reduceAdd, Int.reduceSub, Int.reduceMul, Int.reduceLE, Int.reduceLT, Int.reduceEq, Int.reduceToNat, reduceCtorEq, evL25x0, B25x0, evC_draw, evD25x0, E25x0, IntWalk.i64_in, Ent.cells, Ent.v, hr, hx, beq_ft, beq_tf, Bool.true_or, Bool.false_or, run_between, entAhead, hi, (eq_false k1 : (1 ≤ v.time ∧ v.time ≤ 40) = False)]
    cases i with
    | zero =>
      obtain rfl := g2 rfl
      have hi0 : (0 : Int) < l.length := by omega
      cases k2 : wrsOk v.ws
      · rw [bad (by unfold Ent.one; rw [k2, Bool.and_false])]
        rw [k2] at hr
        simp -implicitDefEqProofs (disch := omega) only [go_sem, Nat.reduceBEq, Nat.reduceAdd, Nat.reduceSub, Nat.reduceMul, Nat.reduceLeDiff, Nat.reduceEqDiff, Nat.reduceLT, Int.reduceNeg, Int.reduceAdd, Int.reduceSub, Int.reduceMul, Int.reduceLE, Int.reduceLT, Int.reduceEq, Int.reduceToNat, reduceCtorEq, evL25x0, B25x0, evC_draw, evD25x0, E25x0, IntWalk.i64_in, Ent.cells, Ent.v, hr, hx, beq_ft, beq_tf, Bool.true_or, Bool.false_or, run_between, entAhead, hi0, (eq_true k1 : (1 ≤ v.time ∧ v.time ≤ 40) = True), Int.natCast_zero, Int.lt_irrefl]
      · have e : entOk (none, v) = true := by unfold entOk Ent.one; simp only; rw [decide_eq_true k1, k2]; rfl
        rw [k2] at hr
        rw [e]
        simp -implicitDefEqProofs (disch := omega) only [go_sem, Nat.reduceBEq, Nat.reduceAdd, Nat.reduceSub, Nat.reduceMul, Nat.reduceLeDiff, Nat.reduceEqDiff, Nat.reduceLT, Int.reduceNeg, Int.reduceAdd, Int.reduceSub, Int.reduceMul, Int.reduceLE, Int.reduceLT, Int.reduceEq, Int.reduceToNat, reduceCtorEq, evL25x0, B25x0, evC_draw, evD25x0, E25x0, IntWalk.i64_in, Ent.cells, Ent.v, hr, hx, beq_ft, beq_tf, Bool.true_or, Bool.false_or, run_between, entAhead, hi0, (eq_true k1 : (1 ≤ v.time ∧ v.time ≤ 40) = True), Int.natCast_zero, Int.lt_irrefl]
    | succ j =>
      have hj : j < l.length := by omega
      have hw := List.getElem?_eq_getElem hj
      obtain rfl := (g3 j rfl).trans hw
      generalize l[j] = w at hw bad
      have hp : (0 : Int) < (j : Int) + 1 := by omega
      have hj' : (j : Int) < l.length := by omega
      have hp0 : (0 : Int) ≤ (j : Int) + 1 := by omega
      have htn : ((j : Int) + 1).toNat = j + 1 := by omega
      have hi' : (j : Int) + 1 < l.length := by omega
      cases k2 : wrsOk v.ws
      · rw [bad (by unfold Ent.one; rw [k2, Bool.and_false])]
        rw [k2] at hr
        by_cases k5 : w.time < v.time
        · have k6 : ¬ v.time ≤ w.time := by omega
          simp -implicitDefEqProofs (disch := omega) only [go_sem, Nat.reduceBEq, Nat.reduceAdd, Nat.reduceSub, Nat.reduceMul, Nat.reduceLeDiff, Nat.reduceEqDiff, Nat.reduceLT, Int.reduceNeg, Int.reduceAdd, Int.reduceSub, Int.reduceMul, Int.reduceLE, Int.reduceLT, Int.reduceEq, Int.reduceToNat, reduceCtorEq, evL25x0, B25x0, evC_draw, evD25x0, E25x0, IntWalk.i64_in, Ent.cells, Ent.v, hr, hx, beq_ft, beq_tf, Bool.true_or, Bool.false_or, run_between, entAhead, hi', hj', hp0, htn, hp, hw, Int.add_sub_cancel, Int.add_assoc, (eq_true k1 : (1 ≤ v.time ∧ v.time ≤ 40) = True), (eq_true k5 : (w.time < v.time) = True), (eq_false k6 : (v.time ≤ w.time) = False)]
        · have k6 : v.time ≤ w.time := by omega
          simp -implicitDefEqProofs (disch := omega) only [go_sem, Nat.reduceBEq, Nat.reduceAdd, Nat.reduceSub, Nat.reduceMul, Nat.reduceLeDiff, Nat.reduceEqDiff, Nat.reduceLT, Int.reduceNeg, Int.reduceAdd, Int.reduceSub, Int.reduceMul, Int.reduceLE, Int.reduceLT, Int.reduceEq, Int.reduceToNat, reduceCtorEq, evL25x0, B25x0, evC_draw, evD25x0, E25x0, IntWalk.i64_in, Ent.cells, Ent.v, hr, hx, beq_ft, beq_tf, Bool.true_or, Bool.false_or, run_between, entAhead, hi', hj', hp0, htn, hp, hw, Int.add_sub_cancel, Int.add_assoc, (eq_true k1 : (1 ≤ v.time ∧ v.time ≤ 40) = True), (eq_false k5 : (w.time < v.time) = False), (eq_true k6 : (v.time ≤ w.time) = True)]
      · have e : entOk (some w, v) = entAhead (some w) v := by unfold entOk Ent.one; simp only; rw [decide_eq_true k1, k2]; rfl
        rw [k2] at hr
        rw [e]
        by_cases k5 : w.time < v.time
        · have k6 : ¬ v.time ≤ w.time := by omega
          simp -implicitDefEqProofs (disch := omega) only [go_sem, Nat.reduceBEq, Nat.reduceAdd, Nat.reduceSub, Nat.reduceMul, Nat.reduceLeDiff, Nat.reduceEqDiff, Nat.reduceLT, Int.reduceNeg, Int.reduceAdd, Int.reduceSub, Int.reduceMul, Int.reduceLE, Int.reduceLT, Int.reduceEq, Int.reduceToNat, reduceCtorEq, evL25x0, B25x0, evC_draw, evD25x0, E25x0, IntWalk.i64_in, Ent.cells, Ent.v, hr, hx, beq_ft, beq_tf, Bool.true_or, Bool.false_or, run_between, entAhead, hi', hj', hp0, htn, hp, hw, Int.add_sub_cancel, Int.add_assoc, (eq_true k1 : (1 ≤ v.time ∧ v.time ≤ 40) = True), (eq_true k5 : (w.time < v.time) = True), (eq_false k6 : (v.time ≤ w.time) = False)]
        · have k6 : v.time ≤ w.time := by omega
          simp -implicitDefEqProofs (disch := omega) only [go_sem, Nat.reduceBEq, Nat.reduceAdd, Nat.reduceSub, Nat.reduceMul, Nat.reduceLeDiff, Nat.reduceEqDiff, Nat.reduceLT, Int.reduceNeg, Int.reduceAdd, Int.reduceSub, Int.reduceMul, Int.reduceLE, Int.reduceLT, Int.reduceEq, Int.reduceToNat, reduceCtorEq, evL25x0, B25x0, evC_draw, evD25x0, E25x0, IntWalk.i64_in, Ent.cells, Ent.v, hr, hx, beq_ft, beq_tf, Bool.true_or, Bool.false_or, run_between, entAhead, hi', hj', hp0, htn, hp, hw, Int.add_sub_cancel, Int.add_assoc, (eq_true k1 : (1 ≤ v.time ∧ v.time ≤ 40) = True), (eq_false k5 : (w.time < v.time) = False), (eq_true k6 : (v.time ≤ w.time) = True)]
-- find63
theorem run_logS (d : Nat) (c : Bool) (l : List Ent) (hs : l.length < 1099511627776) (hsh : ShortE l) : retP (runD tab noExt (d + 5)) 63 [.sl c 2 (l.map Ent.cells)] = some [.bool (logOk l)] := by
  rw [retP, runD_eq find63 _ _ _ (by simp)]
  have hl := loop_logS d c l hs hsh 1099511627775 (by rw [prevsG_len]; omega)
  simp -implicitDefEqProofs (disch := omega) only [go_sem, Nat.reduceBEq, Nat.reduceAdd, Nat.reduceSub, Nat.reduceMul, Nat.reduceLeDiff, Nat.reduceEqDiff, Nat.reduceLT, Int.reduceNeg, Int.reduceAdd, Int.reduceSub, Int.reduceMul, Int.reduceLE, Int.reduceLT, Int.reduceEq, Int.reduceToNat, reduceCtorEq]
  rw [hl]
  unfold logOk
  cases h : (prevsG none l).all entOk
  · simp -implicitDefEqProofs (disch := omega) only [go_sem, Nat.reduceBEq, Nat.reduceAdd, Nat.reduceSub, Nat.reduceMul, Nat.reduceLeDiff, Nat.reduceEqDiff, Nat.reduceLT, Int.reduceNeg, Int.reduceAdd, Int.reduceSub, Int.reduceMul, Int.reduceLE, Int.reduceLT, Int.reduceEq, Int.reduceToNat, reduceCtorEq]
  · by_cases h60 : (l.length : Int) ≤ 12 <;> simp -implicitDefEqProofs (disch := omega) only [go_sem, Nat.reduceBEq, Nat.reduceAdd, Nat.reduceSub, Nat.reduceMul, Nat.reduceLeDiff, Nat.reduceEqDiff, Nat.reduceLT, Int.reduceNeg, Int.reduceAdd, Int.reduceSub, Int.reduceMul, Int.reduceLE, Int.reduceLT, Int.reduceEq, Int.reduceToNat, reduceCtorEq, h60]
-- find25
theorem run_logI (d : Nat) (c : Bool) (l : List Ent) (hs : l.length < 1099511627776) (hsh : ShortE l) : retP (runD tab noExt (d + 9)) 25 [.sl c 2 (l.map Ent.cells)] = some [.bool (logOk l)] := by
  rw [retP, runD_eq find25 _ _ _ (by simp)]
  have hl := loop_logI d c l hs hsh 1099511627775 (by rw [prevsG_len]; omega)
  simp -implicitDefEqProofs (disch := omega) only [go_sem, Nat.reduceBEq, Nat.reduceAdd, Nat.reduceSub, Nat.reduceMul, Nat.reduceLeDiff, Nat.reduceEqDiff, Nat.reduceLT, Int.reduceNeg, Int.reduceAdd, Int.reduceSub, Int.reduceMul, Int.reduceLE, Int.reduceLT, Int.reduceEq, Int.reduceToNat, reduceCtorEq]
  rw [hl]
  unfold logOk
  cases h : (prevsG none l).all entOk
  · simp -implicitDefEqProofs (disch := omega) only [go_sem, Nat.reduceBEq, Nat.reduceAdd, Nat.reduceSub, Nat.reduceMul, Nat.reduceLeDiff, Nat.reduceEqDiff, Nat.reduceLT, Int.reduceNeg, Int.reduceAdd, Int.reduceSub, Int.reduceMul, Int.reduceLE, Int.reduceLT, Int.reduceEq, Int.reduceToNat, reduceCtorEq]
  · by_cases h60 : (l.length : Int) ≤ 12 <;> simp -implicitDefEqProofs (disch := omega) only [go_sem, Nat.reduceBEq, Nat.reduceAdd, Nat.reduceSub, Nat.reduceMul, Nat.reduceLeDiff, Nat.reduceEqDiff, Nat.reduceLT, Int.reduceNeg, Int.reduceAdd, Int.reduceSub, Int.reduceMul, Int.reduceLE, Int.reduceLT, Int.reduceEq, Int.reduceToNat, reduceCtorEq, h60]
end Go.Proofs.Yteaojpfofifmnaa.PE
/- Trees of memory of one's own: what lies in them, that they stay ays they are, how they are told ays values, how a call hands them over. -/
set_option linter.unusedVariables false
set_option linter.unusedSimpArgs false
namespace Go.Proofs.Yteaojpfofifmnaa.PE
open Go.RowKit

/-- The kind of a cell. -/
inductive Fd where
  | int (k : IntKind)
  | bool
  | str
  | sub (fs : List Fd)
/-- What lies in a cell. -/
inductive U where
  | int (n : Int)
  | bool (b : Bool)
  | str (s : ByteArray)
  | sub (xs : List (List U))
def Fd.deep : Fd → Bool
  | .sub _ => true
  | _ => false
def blkOf (fs : List Fd) (st : Nat) (cont : List (List V)) : Blk := if fs.any Fd.deep then .nest st fs.length cont else .rows st fs.length cont

def Zip3 {α β : Type} (R : α → β → List Nat → Prop) : List α → List β → List Nat → Prop
  | [], [], ids => ids = []
  | a :: ays, b :: bs, ids => ∃ i j, ids = i ++ j ∧ R a b i ∧ Zip3 R ays bs j
  | _, _, _ => False
def Zip2 {α β : Type} (R : α → β → Prop) : List α → List β → Prop
  | [], [] => True
  | a :: ays, b :: bs => R a b ∧ Zip2 R ays bs
  | _, _ => False

mutual
/-- A cell whose memory is one's own: the blocks that it lies in. -/
def OwnF (h : Heap) : Fd → V → U → List Nat → Prop
  | .int k, v, u, ids => ∃ n, v = .int k n ∧ u = .int n ∧ ids = []
  | .bool, v, u, ids => ∃ b, v = .bool b ∧ u = .bool b ∧ ids = []
  | .str, v, u, ids => ∃ s, v = .str s ∧ u = .str s ∧ ids = []
  | .sub fs, v, u, ids => ∃ xs, u = .sub xs ∧ ((∃ c, v = .sl c fs.length [] ∧ xs = [] ∧ ids = []) ∨
      ∃ id st clip cont r, v = .ref id st 0 cont.length clip ∧ h[id]? = some (blkOf fs st cont) ∧ ids = id :: r ∧ Zip3 (OwnR h fs) cont xs r)
def OwnR (h : Heap) : List Fd → List V → List U → List Nat → Prop
  | [], c, x, ids => c = [] ∧ x = [] ∧ ids = []
  | f :: fs, c, x, ids => ∃ v c' u x' i j, c = v :: c' ∧ x = u :: x' ∧ ids = i ++ j ∧ OwnF h f v u i ∧ OwnR h fs c' x' j
end
mutual
/-- A cell of a value. -/
def PurF : Fd → V → U → Prop
  | .int k, v, u => ∃ n, v = .int k n ∧ u = .int n
  | .bool, v, u => ∃ b, v = .bool b ∧ u = .bool b
  | .str, v, u => ∃ s, v = .str s ∧ u = .str s
  | .sub fs, v, u => ∃ c cont xs, v = .sl c fs.length cont ∧ u = .sub xs ∧ Zip2 (PurR fs) cont xs
def PurR : List Fd → List V → List U → Prop
  | [], c, x => c = [] ∧ x = []
  | f :: fs, c, x => ∃ v c' u x', c = v :: c' ∧ x = u :: x' ∧ PurF f v u ∧ PurR fs c' x'
end

theorem Zip3_len {α β : Type} {R : α → β → List Nat → Prop} : ∀ {ays : List α} {bs : List β} {ids : List Nat}, Zip3 R ays bs ids → ays.length = bs.length
  | [], [], _, _ => rfl
  | a :: ays, b :: bs, ids, ⟨i, j, _, _, h⟩ => by simp [Zip3_len h]
  | [], _ :: _, _, h => h.elim
  | _ :: _, [], _, h => h.elim
theorem Zip2_len {α β : Type} {R : α → β → Prop} : ∀ {ays : List α} {bs : List β}, Zip2 R ays bs → ays.length = bs.length
  | [], [], _ => rfl
  | a :: ays, b :: bs, ⟨_, h⟩ => by simp [Zip2_len h]
  | [], _ :: _, h => h.elim
  | _ :: _, [], h => h.elim
theorem Zip2_at {α β : Type} {R : α → β → Prop} : ∀ {ays : List α} {bs : List β}, Zip2 R ays bs → ∀ {i : Nat} {a : α}, ays[i]? = some a → ∃ b, bs[i]? = some b ∧ R a b
  | a :: ays, b :: bs, ⟨h1, h2⟩, 0, x, hx => by simp at hx; subst hx; exact ⟨b, rfl, h1⟩
  | a :: ays, b :: bs, ⟨h1, h2⟩, i + 1, x, hx => by simp at hx; simpa using Zip2_at h2 hx
  | [], [], _, i, x, hx => by simp at hx
  | [], _ :: _, h, _, _, _ => h.elim
  | _ :: _, [], h, _, _, _ => h.elim
theorem Zip3_mono {α β : Type} {R S : α → β → List Nat → Prop} {P : Nat → Prop} (f : ∀ a b i, R a b i → (∀ id ∈ i, P id) → S a b i) : ∀ {ays : List α} {bs : List β} {ids : List Nat}, Zip3 R ays bs ids → (∀ id ∈ ids, P id) → Zip3 S ays bs ids
  | [], [], _, h, _ => h
  | a :: ays, b :: bs, _, ⟨i, j, e, h1, h2⟩, hp => ⟨i, j, e, f a b i h1 (fun id hid => hp id (e ▸ List.mem_append_left _ hid)), Zip3_mono f h2 (fun id hid => hp id (e ▸ List.mem_append_right _ hid))⟩
  | [], _ :: _, _, h, _ => h.elim
  | _ :: _, [], _, h, _ => h.elim
theorem Zip3_map {α β : Type} {R S : α → β → List Nat → Prop} {g : α → α} {m : Nat → Nat} (f : ∀ a b i, R a b i → S (g a) b (i.map m)) : ∀ {ays : List α} {bs : List β} {ids : List Nat}, Zip3 R ays bs ids → Zip3 S (ays.map g) bs (ids.map m)
  | [], [], _, h => by cases h; rfl
  | a :: ays, b :: bs, _, ⟨i, j, e, h1, h2⟩ => ⟨i.map m, j.map m, by rw [e, List.map_append], f a b i h1, Zip3_map f h2⟩
  | [], _ :: _, _, h => h.elim
  | _ :: _, [], _, h => h.elim
theorem Zip3_app {α β : Type} {R : α → β → List Nat → Prop} : ∀ {ays : List α} {bs : List β} {ids : List Nat} {a2 : List α} {b2 : List β} {i2 : List Nat}, Zip3 R ays bs ids → Zip3 R a2 b2 i2 → Zip3 R (ays ++ a2) (bs ++ b2) (ids ++ i2)
  | [], [], _, _, _, _, h, h2 => by cases h; exact h2
  | a :: ays, b :: bs, _, _, _, _, ⟨i, j, e, h1, h3⟩, h2 => ⟨i, j ++ _, by rw [e, List.append_assoc], h1, Zip3_app h3 h2⟩
  | [], _ :: _, _, _, _, _, h, _ => h.elim
  | _ :: _, [], _, _, _, _, h, _ => h.elim
theorem Zip3_one {α β : Type} {R : α → β → List Nat → Prop} {a : α} {b : β} {i : List Nat} (h : R a b i) : Zip3 R [a] [b] i := ⟨i, [], by simp, h, rfl⟩

/-! ### they stay where the blocks stay -/
mutual
theorem OwnF_frame {h h' : Heap} : ∀ (f : Fd) {v : V} {u : U} {ids : List Nat}, OwnF h f v u ids → (∀ id ∈ ids, h'[id]? = h[id]?) → OwnF h' f v u ids
  | .int k, _, _, _, ho, _ => by simpa only [OwnF] using ho
  | .bool, _, _, _, ho, _ => by simpa only [OwnF] using ho
  | .str, _, _, _, ho, _ => by simpa only [OwnF] using ho
  | .sub fs, v, u, ids, ho, hk => by
    simp only [OwnF] at ho ⊢
    obtain ⟨xs, e, ho | ⟨id, st, clip, cont, r, e1, e2, e3, ho⟩⟩ := ho
    · exact ⟨xs, e, .inl ho⟩
    · subst e3
      exact ⟨xs, e, .inr ⟨id, st, clip, cont, r, e1, (hk id List.mem_cons_self).trans e2, rfl, Zip3_mono (fun c x i hr hp => OwnR_frame fs hr hp) ho (fun i hi => hk i (List.mem_cons_of_mem _ hi))⟩⟩
theorem OwnR_frame {h h' : Heap} : ∀ (fs : List Fd) {c : List V} {x : List U} {ids : List Nat}, OwnR h fs c x ids → (∀ id ∈ ids, h'[id]? = h[id]?) → OwnR h' fs c x ids
  | [], _, _, _, ho, _ => by simpa only [OwnR] using ho
  | f :: fs, c, x, ids, ho, hk => by
    simp only [OwnR] at ho ⊢
    obtain ⟨v, c', u, x', i, j, e1, e2, e3, h1, h2⟩ := ho
    subst e3
    exact ⟨v, c', u, x', i, j, e1, e2, rfl, OwnF_frame f h1 (fun id hid => hk id (List.mem_append_left _ hid)), OwnR_frame fs h2 (fun id hid => hk id (List.mem_append_right _ hid))⟩
end
theorem Zip3_all {α β : Type} {R : α → β → List Nat → Prop} {P : Nat → Prop} (f : ∀ a b i, R a b i → ∀ id ∈ i, P id) : ∀ {ays : List α} {bs : List β} {ids : List Nat}, Zip3 R ays bs ids → ∀ id ∈ ids, P id
  | [], [], _, h => by cases h; intro _ hm; cases hm
  | a :: ays, b :: bs, _, ⟨i, j, e, h1, h2⟩ => by
    subst e
    intro id hm
    rcases List.mem_append.1 hm with hm | hm
    · exact f a b i h1 id hm
    · exact Zip3_all f h2 id hm
  | [], _ :: _, _, h => h.elim
  | _ :: _, [], _, h => h.elim
mutual
theorem OwnF_lt {h : Heap} : ∀ (f : Fd) {v : V} {u : U} {ids : List Nat}, OwnF h f v u ids → ∀ id ∈ ids, id < h.length
  | .int k, _, _, _, ho => by simp only [OwnF] at ho; obtain ⟨_, _, _, rfl⟩ := ho; intro _ hm; cases hm
  | .bool, _, _, _, ho => by simp only [OwnF] at ho; obtain ⟨_, _, _, rfl⟩ := ho; intro _ hm; cases hm
  | .str, _, _, _, ho => by simp only [OwnF] at ho; obtain ⟨_, _, _, rfl⟩ := ho; intro _ hm; cases hm
  | .sub fs, v, u, ids, ho => by
    simp only [OwnF] at ho
    obtain ⟨xs, e, ⟨_, _, _, rfl⟩ | ⟨id, st, clip, cont, r, e1, e2, rfl, ho⟩⟩ := ho
    · intro _ hm; cases hm
    · intro i hm
      rcases List.mem_cons.1 hm with rfl | hm
      · exact (List.getElem?_eq_some_iff.1 e2).1
      · exact Zip3_all (fun c x i hr => OwnR_lt fs hr) ho i hm
theorem OwnR_lt {h : Heap} : ∀ (fs : List Fd) {c : List V} {x : List U} {ids : List Nat}, OwnR h fs c x ids → ∀ id ∈ ids, id < h.length
  | [], _, _, _, ho => by simp only [OwnR] at ho; obtain ⟨_, _, rfl⟩ := ho; intro _ hm; cases hm
  | f :: fs, c, x, ids, ho => by
    simp only [OwnR] at ho
    obtain ⟨v, c', u, x', i, j, e1, e2, rfl, h1, h2⟩ := ho
    intro id hm
    rcases List.mem_append.1 hm with hm | hm
    · exact OwnF_lt f h1 id hm
    · exact OwnR_lt fs h2 id hm
end

/-! ### told ays values -/
def dep : Fd → Nat
  | .sub fs => depR fs + 1
  | _ => 0
where depR : List Fd → Nat
  | [] => 0
  | f :: fs => max (dep f) (depR fs)
theorem mapO_zip {α β γ' : Type} {R : α → β → List Nat → Prop} {S : γ' → β → Prop} {f : α → Option γ'} (hf : ∀ a b i, R a b i → ∃ c, f a = some c ∧ S c b) : ∀ {ays : List α} {bs : List β} {ids : List Nat}, Zip3 R ays bs ids → ∃ cs, mapO f ays = some cs ∧ Zip2 S cs bs
  | [], [], _, _ => ⟨[], rfl, trivial⟩
  | a :: ays, b :: bs, _, ⟨i, j, _, h1, h2⟩ => by
    obtain ⟨c, e1, s1⟩ := hf a b i h1
    obtain ⟨cs, e2, s2⟩ := mapO_zip hf h2
    exact ⟨c :: cs, by simp only [mapO, e1, e2], s1, s2⟩
  | [], _ :: _, _, h => h.elim
  | _ :: _, [], _, h => h.elim
theorem Zip3_to2 {α β : Type} {R : α → β → List Nat → Prop} {S : α → β → Prop} (f : ∀ a b i, R a b i → S a b) : ∀ {ays : List α} {bs : List β} {ids : List Nat}, Zip3 R ays bs ids → Zip2 S ays bs
  | [], [], _, _ => trivial
  | a :: ays, b :: bs, _, ⟨i, j, _, h1, h2⟩ => ⟨f a b i h1, Zip3_to2 f h2⟩
  | [], _ :: _, _, h => h.elim
  | _ :: _, [], _, h => h.elim
/-- Rows whose cells are no slices lie ays they are told. -/
theorem OwnR_flat {h : Heap} : ∀ (fs : List Fd) {c : List V} {x : List U} {ids : List Nat}, fs.any Fd.deep = false → OwnR h fs c x ids → PurR fs c x
  | [], _, _, _, _, ho => by simp only [OwnR] at ho; simp only [PurR]; exact ⟨ho.1, ho.2.1⟩
  | f :: fs, c, x, ids, hd, ho => by
    simp only [OwnR] at ho
    simp only [PurR]
    simp only [List.any_cons, Bool.or_eq_false_iff] at hd
    obtain ⟨v, c', u, x', i, j, e1, e2, e3, h1, h2⟩ := ho
    refine ⟨v, c', u, x', e1, e2, ?_, OwnR_flat fs hd.2 h2⟩
    cases f with
    | int k => simp only [OwnF] at h1; simp only [PurF]; obtain ⟨n, a, b, _⟩ := h1; exact ⟨n, a, b⟩
    | bool => simp only [OwnF] at h1; simp only [PurF]; obtain ⟨n, a, b, _⟩ := h1; exact ⟨n, a, b⟩
    | str => simp only [OwnF] at h1; simp only [PurF]; obtain ⟨n, a, b, _⟩ := h1; exact ⟨n, a, b⟩
    | sub gs => simp [Fd.deep] at hd
mutual
theorem OwnF_pure {h : Heap} : ∀ (f : Fd) (d : Nat) {v : V} {u : U} {ids : List Nat}, dep f ≤ d → OwnF h f v u ids → ∃ p, pureD h d v = some p ∧ PurF f p u
  | .int k, d, _, _, _, _, ho => by
    simp only [OwnF] at ho
    obtain ⟨n, rfl, rfl, _⟩ := ho
    exact ⟨.int k n, by cases d <;> rfl, by simp only [PurF]; exact ⟨n, rfl, rfl⟩⟩
  | .bool, d, _, _, _, _, ho => by
    simp only [OwnF] at ho
    obtain ⟨n, rfl, rfl, _⟩ := ho
    exact ⟨.bool n, by cases d <;> rfl, by simp only [PurF]; exact ⟨n, rfl, rfl⟩⟩
  | .str, d, _, _, _, _, ho => by
    simp only [OwnF] at ho
    obtain ⟨n, rfl, rfl, _⟩ := ho
    exact ⟨.str n, by cases d <;> rfl, by simp only [PurF]; exact ⟨n, rfl, rfl⟩⟩
  | .sub fs, d, v, u, ids, hd, ho => by
    simp only [OwnF] at ho
    obtain ⟨xs, rfl, ⟨c, rfl, rfl, _⟩ | ⟨id, st, clip, cont, r, rfl, e2, _, ho⟩⟩ := ho
    · exact ⟨.sl c fs.length [], by cases d <;> rfl, by simp only [PurF]; exact ⟨c, [], [], rfl, rfl, trivial⟩⟩
    · obtain ⟨d, rfl⟩ : ∃ m, d = m + 1 := ⟨d - 1, by simp only [dep] at hd; omega⟩
      have hd' : dep.depR fs ≤ d := by simp only [dep] at hd; omega
      cases hdeep : fs.any Fd.deep
      · refine ⟨.sl clip fs.length cont, ?_, ?_⟩
        · simp only [pureD, e2, blkOf, hdeep, Bool.false_eq_true, if_false, if_true, List.drop_zero, List.take_length]
        · simp only [PurF]
          exact ⟨clip, cont, xs, rfl, rfl, Zip3_to2 (fun c x i hr => OwnR_flat fs hdeep hr) ho⟩
      · obtain ⟨cs, m1, m2⟩ := mapO_zip (f := mapO (pureD h d)) (S := PurR fs) (fun c x i hr => OwnR_pure fs d hd' hr) ho
        refine ⟨.sl clip fs.length cs, ?_, ?_⟩
        · simp only [pureD, e2, blkOf, hdeep, if_true, List.drop_zero, List.take_length, m1, Option.map_some]
        · simp only [PurF]
          exact ⟨clip, cs, xs, rfl, rfl, m2⟩
theorem OwnR_pure {h : Heap} : ∀ (fs : List Fd) (d : Nat) {c : List V} {x : List U} {ids : List Nat}, dep.depR fs ≤ d → OwnR h fs c x ids → ∃ p, mapO (pureD h d) c = some p ∧ PurR fs p x
  | [], d, _, _, _, _, ho => by
    simp only [OwnR] at ho
    obtain ⟨rfl, rfl, _⟩ := ho
    exact ⟨[], rfl, by simp [PurR]⟩
  | f :: fs, d, c, x, ids, hd, ho => by
    simp only [OwnR] at ho
    simp only [dep.depR] at hd
    obtain ⟨v, c', u, x', i, j, rfl, rfl, _, h1, h2⟩ := ho
    obtain ⟨p, e1, p1⟩ := OwnF_pure f d (by omega) h1
    obtain ⟨q, e2, q1⟩ := OwnR_pure fs d (by omega) h2
    exact ⟨p :: q, by simp only [mapO, e1, e2], by simp only [PurR]; exact ⟨p, q, u, x', rfl, rfl, p1, q1⟩⟩
end

/-! ### handed over by a call -/
theorem Zip3_fresh {α β : Type} {R : α → β → List Nat → Prop} {P : α → Bool} (f : ∀ a b i, R a b i → P a = true) : ∀ {ays : List α} {bs : List β} {ids : List Nat}, Zip3 R ays bs ids → ays.all P = true
  | [], [], _, _ => rfl
  | a :: ays, b :: bs, _, ⟨i, j, _, h1, h2⟩ => by rw [List.all_cons, f a b i h1, Zip3_fresh f h2]; rfl
  | [], _ :: _, _, h => h.elim
  | _ :: _, [], _, h => h.elim
theorem OwnF_fresh {h : Heap} (f : Fd) {v : V} {u : U} {ids : List Nat} (ho : OwnF h f v u ids) : freshC v = true := by
  cases f with
  | int k => simp only [OwnF] at ho; obtain ⟨_, rfl, _⟩ := ho; rfl
  | bool => simp only [OwnF] at ho; obtain ⟨_, rfl, _⟩ := ho; rfl
  | str => simp only [OwnF] at ho; obtain ⟨_, rfl, _⟩ := ho; rfl
  | sub fs =>
    simp only [OwnF] at ho
    obtain ⟨xs, _, ⟨c, rfl, _⟩ | ⟨id, st, clip, cont, r, rfl, _⟩⟩ := ho <;> rfl
theorem OwnR_fresh {h : Heap} : ∀ (fs : List Fd) {c : List V} {x : List U} {ids : List Nat}, OwnR h fs c x ids → c.all freshC = true
  | [], _, _, _, ho => by simp only [OwnR] at ho; rw [ho.1]; rfl
  | f :: fs, c, x, ids, ho => by
    simp only [OwnR] at ho
    obtain ⟨v, c', u, x', i, j, rfl, _, _, h1, h2⟩ := ho
    rw [List.all_cons, OwnF_fresh f h1, OwnR_fresh fs h2]
    rfl
theorem moved_get {h hc : Heap} {id : Nat} {b : Blk} (hb : hc[id]? = some b) : (h ++ movedH h.length hc)[id + h.length]? = some (shB h.length (clean b)) := by
  rw [List.getElem?_append_right (by omega), Nat.add_sub_cancel]
  simp [movedH, hb]
mutual
theorem OwnF_moved {h hc : Heap} : ∀ (f : Fd) {v : V} {u : U} {ids : List Nat}, OwnF hc f v u ids → OwnF (h ++ movedH h.length hc) f (shC h.length v) u (ids.map (· + h.length))
  | .int k, _, _, _, ho => by simp only [OwnF] at ho ⊢; obtain ⟨n, rfl, rfl, rfl⟩ := ho; exact ⟨n, rfl, rfl, rfl⟩
  | .bool, _, _, _, ho => by simp only [OwnF] at ho ⊢; obtain ⟨n, rfl, rfl, rfl⟩ := ho; exact ⟨n, rfl, rfl, rfl⟩
  | .str, _, _, _, ho => by simp only [OwnF] at ho ⊢; obtain ⟨n, rfl, rfl, rfl⟩ := ho; exact ⟨n, rfl, rfl, rfl⟩
  | .sub fs, v, u, ids, ho => by
    simp only [OwnF] at ho ⊢
    obtain ⟨xs, e, ⟨c, rfl, e1, rfl⟩ | ⟨id, st, clip, cont, r, rfl, e2, rfl, ho⟩⟩ := ho
    · exact ⟨xs, e, .inl ⟨c, rfl, e1, rfl⟩⟩
    · have hz := Zip3_map (S := OwnR (h ++ movedH h.length hc) fs) (g := fun x => x.map (shC h.length)) (m := (· + h.length)) (fun c x i hr => OwnR_moved fs hr) ho
      have hf : cont.all (fun x => x.all freshC) = true := Zip3_fresh (fun c x i hr => OwnR_fresh fs hr) ho
      have hg := moved_get (h := h) e2
      refine ⟨xs, e, .inr ⟨id + h.length, st, clip, cont.map (fun x => x.map (shC h.length)), r.map (· + h.length), by rw [List.length_map]; rfl, ?_, rfl, hz⟩⟩
      rw [hg]
      unfold blkOf
      cases hdeep : fs.any Fd.deep
      · have hid : cont.map (fun x => x.map (shC h.length)) = cont := by
          have := Zip3_to2 (S := fun (c : List V) (_ : List U) => c.map (shC h.length) = c) (fun c x i hr => OwnR_shift fs h.length hdeep hr) ho
          clear hz hf hg e2 ho
          revert this
          generalize xs = ys
          intro hz
          induction cont generalizing ys with
          | nil => rfl
          | cons a ays ih =>
            cases ys with
            | nil => exact hz.elim
            | cons b bs => rw [List.map_cons, hz.1, ih bs hz.2]
        simp only [Bool.false_eq_true, if_false, clean, hf, if_true, shB, hid]
      · simp only [if_true, clean, hf, shB]
theorem OwnR_moved {h hc : Heap} : ∀ (fs : List Fd) {c : List V} {x : List U} {ids : List Nat}, OwnR hc fs c x ids → OwnR (h ++ movedH h.length hc) fs (c.map (shC h.length)) x (ids.map (· + h.length))
  | [], _, _, _, ho => by simp only [OwnR] at ho ⊢; obtain ⟨rfl, rfl, rfl⟩ := ho; exact ⟨rfl, rfl, rfl⟩
  | f :: fs, c, x, ids, ho => by
    simp only [OwnR] at ho ⊢
    obtain ⟨v, c', u, x', i, j, rfl, rfl, rfl, h1, h2⟩ := ho
    exact ⟨shC h.length v, c'.map (shC h.length), u, x', i.map (· + h.length), j.map (· + h.length), rfl, rfl, by rw [List.map_append], OwnF_moved f h1, OwnR_moved fs h2⟩
theorem OwnR_shift {h : Heap} : ∀ (fs : List Fd) (n : Nat) {c : List V} {x : List U} {ids : List Nat}, fs.any Fd.deep = false → OwnR h fs c x ids → c.map (shC n) = c
  | [], _, _, _, _, _, ho => by simp only [OwnR] at ho; rw [ho.1]; rfl
  | f :: fs, n, c, x, ids, hd, ho => by
    simp only [OwnR] at ho
    simp only [List.any_cons, Bool.or_eq_false_iff] at hd
    obtain ⟨v, c', u, x', i, j, rfl, rfl, rfl, h1, h2⟩ := ho
    rw [List.map_cons, OwnR_shift fs n hd.2 h2]
    cases f with
    | int k => simp only [OwnF] at h1; obtain ⟨_, rfl, _⟩ := h1; rfl
    | bool => simp only [OwnF] at h1; obtain ⟨_, rfl, _⟩ := h1; rfl
    | str => simp only [OwnF] at h1; obtain ⟨_, rfl, _⟩ := h1; rfl
    | sub gs => simp [Fd.deep] at hd
end
end Go.Proofs.Yteaojpfofifmnaa.PE
/- What the functions of an exact statement do with such trees: sizes, copies, comparisons, marks; their loops. -/
set_option linter.unusedVariables false
set_option linter.unusedSimpArgs false
namespace Go.Proofs.Yteaojpfofifmnaa.PE
open Go.RowKit

/-! ### loops by what holds at their head -/
section
variable {run : Run} {draw : Draw} {live out : List Nat} {c : C} {n0 : Nat}
theorem LoopK_inv {σ : Type} (n : Nat) (Inv : Nat → σ → Prop) (E : Nat → σ → Env) (H : σ → Heap) (fin : σ → Out)
    (h0 : ∀ b K, Inv n b → LoopK run draw live out c K (E n b) (H b) = fin b)
    (h1 : ∀ (i : Nat) b K, i < n → Inv i b → ∃ b', Inv (i + 1) b' ∧ LoopK run draw live out c (K + 1) (E i b) (H b) = LoopK run draw live out c K (E (i + 1) b') (H b'))
    (K : Nat) (hK : n ≤ K) (b : σ) (hb : Inv 0 b) : ∃ b', Inv n b' ∧ LoopK run draw live out c K (E 0 b) (H b) = fin b' := by
  have key : ∀ (m i K : Nat) b, i + m = n → m ≤ K → Inv i b → ∃ b', Inv n b' ∧ LoopK run draw live out c K (E i b) (H b) = fin b' := by
    intro m
    induction m with
    | zero => intro i K b hi _ hb; have : i = n := by omega
              subst this; exact ⟨b, hb, h0 b K hb⟩
    | succ m ih =>
      intro i K b hi hK hb
      obtain ⟨K, rfl⟩ : ∃ K', K = K' + 1 := ⟨K - 1, by omega⟩
      obtain ⟨b', hb', e⟩ := h1 i b K (by omega) hb
      obtain ⟨b2, hb2, e2⟩ := ih (i + 1) K b' (by omega) (by omega) hb'
      exact ⟨b2, hb2, e.trans e2⟩
  exact key n 0 K b (by omega) hK hb
theorem LoopS_inv {σ : Type} (n : Nat) (Inv : Nat → σ → Prop) (E : Nat → σ → Env) (H : σ → Heap) (fin : σ → Out)
    (h0 : ∀ b K, Inv n b → LoopS run draw live out c n0 K (E n b) (H b) = fin b)
    (h1 : ∀ (i : Nat) b K, i < n → Inv i b → ∃ b', Inv (i + 1) b' ∧ LoopS run draw live out c n0 (K + 1) (E i b) (H b) = LoopS run draw live out c n0 K (E (i + 1) b') (H b'))
    (K : Nat) (hK : n ≤ K) (b : σ) (hb : Inv 0 b) : ∃ b', Inv n b' ∧ LoopS run draw live out c n0 K (E 0 b) (H b) = fin b' := by
  have key : ∀ (m i K : Nat) b, i + m = n → m ≤ K → Inv i b → ∃ b', Inv n b' ∧ LoopS run draw live out c n0 K (E i b) (H b) = fin b' := by
    intro m
    induction m with
    | zero => intro i K b hi _ hb; have : i = n := by omega
              subst this; exact ⟨b, hb, h0 b K hb⟩
    | succ m ih =>
      intro i K b hi hK hb
      obtain ⟨K, rfl⟩ : ∃ K', K = K' + 1 := ⟨K - 1, by omega⟩
      obtain ⟨b', hb', e⟩ := h1 i b K (by omega) hb
      obtain ⟨b2, hb2, e2⟩ := ih (i + 1) K b' (by omega) (by omega) hb'
      exact ⟨b2, hb2, e.trans e2⟩
  exact key n 0 K b (by omega) hK hb
end

/-! ### sizes -/
def szZ (R : List U → Int → Int) : List (List U) → Int → Int
  | [], l => l
  | x :: xs, l => if R x l < 0 then -1 else szZ R xs (R x l)
mutual
def szF : Fd → U → Int → Int
  | .str, .str s, l => if l - s.size < 0 then -1 else l - s.size
  | .sub fs, .sub xs, l => if l - xs.length < 0 then -1 else szZ (szR fs) xs (l - xs.length)
  | _, _, l => l
def szR : List Fd → List U → Int → Int
  | f :: fs, u :: x, l => if szF f u l < 0 then -1 else szR fs x (szF f u l)
  | _, _, l => l
end
def AllU (P : List U → Prop) : List (List U) → Prop
  | [] => True
  | x :: xs => P x ∧ AllU P xs
mutual
def LenF (n m : Nat) : Fd → U → Prop
  | .str, .str s => s.size ≤ m
  | .sub fs, .sub xs => xs.length ≤ n ∧ AllU (LenR n m fs) xs
  | _, _ => True
def LenR (n m : Nat) : List Fd → List U → Prop
  | f :: fs, u :: x => LenF n m f u ∧ LenR n m fs x
  | _, _ => True
end
/-- How many numbers are in it. -/
def sumU (c : List U → Nat) : List (List U) → Nat
  | [] => 0
  | x :: xs => c x + sumU c xs
mutual
def cntF : Fd → U → Nat
  | .sub fs, .sub xs => sumU (cntR fs) xs
  | _, _ => 1
def cntR : List Fd → List U → Nat
  | f :: fs, u :: x => cntF f u + cntR fs x
  | _, _ => 0
end
theorem AllU_mono {P Q : List U → Prop} (f : ∀ x, P x → Q x) : ∀ {xs : List (List U)}, AllU P xs → AllU Q xs
  | [], _ => trivial
  | x :: xs, ⟨h1, h2⟩ => ⟨f x h1, AllU_mono f h2⟩
theorem AllU_at {P : List U → Prop} : ∀ {xs : List (List U)}, AllU P xs → ∀ {i : Nat} {x : List U}, xs[i]? = some x → P x
  | x :: xs, ⟨h1, h2⟩, 0, y, hy => by simp at hy; subst hy; exact h1
  | x :: xs, ⟨h1, h2⟩, i + 1, y, hy => by simp at hy; exact AllU_at h2 hy
  | [], _, i, y, hy => by simp at hy
mutual
theorem LenF_mono {n m n' m' : Nat} (hn : n ≤ n') (hm : m ≤ m') : ∀ (f : Fd) {u : U}, LenF n m f u → LenF n' m' f u
  | .str, .str s, h => by simp only [LenF] at h ⊢; omega
  | .sub fs, .sub xs, h => by simp only [LenF] at h ⊢; exact ⟨by omega, AllU_mono (fun x hx => LenR_mono hn hm fs hx) h.2⟩
  | .int _, _, _ => by simp [LenF]
  | .bool, _, _ => by simp [LenF]
  | .str, .int _, _ => by simp [LenF]
  | .str, .bool _, _ => by simp [LenF]
  | .str, .sub _, _ => by simp [LenF]
  | .sub _, .int _, _ => by simp [LenF]
  | .sub _, .bool _, _ => by simp [LenF]
  | .sub _, .str _, _ => by simp [LenF]
theorem LenR_mono {n m n' m' : Nat} (hn : n ≤ n') (hm : m ≤ m') : ∀ (fs : List Fd) {x : List U}, LenR n m fs x → LenR n' m' fs x
  | f :: fs, u :: x, h => by simp only [LenR] at h ⊢; exact ⟨LenF_mono hn hm f h.1, LenR_mono hn hm fs h.2⟩
  | [], _, _ => by simp [LenR]
  | _ :: _, [], _ => by simp [LenR]
end
theorem szZ_spec {N : Nat} {R : List U → Int → Int} {P : List U → Prop} {c : List U → Nat} (hR : ∀ x (l : Int), l ≤ N → 0 ≤ R x l → 0 ≤ l → R x l ≤ l ∧ P x ∧ (c x : Int) ≤ 16 * (l - R x l) + 16) : ∀ (xs : List (List U)) (l : Int), l ≤ N → 0 ≤ szZ R xs l → 0 ≤ l →
    szZ R xs l ≤ l ∧ AllU P xs ∧ (sumU c xs : Int) ≤ 16 * (l - szZ R xs l) + 16 * xs.length
  | [], l, _, _, _ => by simp [szZ, AllU, sumU]
  | x :: xs, l, hl, h, h0 => by
    simp only [szZ] at h ⊢
    by_cases hx : R x l < 0
    · rw [if_pos hx] at h; omega
    · rw [if_neg hx] at h ⊢
      obtain ⟨a1, a2, a3⟩ := hR x l hl (by omega) h0
      obtain ⟨b1, b2, b3⟩ := szZ_spec hR xs (R x l) (by omega) h (by omega)
      refine ⟨by omega, ⟨a2, b2⟩, ?_⟩
      simp only [sumU, List.length_cons]
      push_cast
      omega
mutual
def okFd : Fd → Bool
  | .sub fs => decide (fs.length ≤ 16) && okFds fs
  | _ => true
def okFds : List Fd → Bool
  | [] => true
  | f :: fs => okFd f && okFds fs
end
mutual
theorem szF_spec {N : Nat} : ∀ (f : Fd) (u : U) (l : Int), okFd f = true → l ≤ N → 0 ≤ szF f u l → 0 ≤ l → szF f u l ≤ l ∧ LenF N N f u ∧ (cntF f u : Int) ≤ 16 * (l - szF f u l) + 1
  | .str, .str s, l, _, hl, h, h0 => by
    simp only [szF, LenF, cntF] at h ⊢
    split at h
    · omega
    · rename_i hc; rw [if_neg hc]; omega
  | .sub fs, .sub xs, l, hk, hl, h, h0 => by
    simp only [szF, LenF, cntF] at h ⊢
    simp only [okFd, Bool.and_eq_true, decide_eq_true_eq] at hk
    split at h
    · omega
    · rename_i hc
      rw [if_neg hc]
      obtain ⟨b1, b2, b3⟩ := szZ_spec (N := N) (R := szR fs) (P := LenR N N fs) (c := cntR fs) (fun x l hl h h0 => by
        obtain ⟨c1, c2, c3⟩ := szR_spec (N := N) fs x l hk.2 hl h h0
        exact ⟨c1, c2, by omega⟩) xs (l - xs.length) (by omega) h (by omega)
      exact ⟨by omega, ⟨by omega, b2⟩, by omega⟩
  | .int _, _, l, _, _, h, h0 => by simp [szF, LenF, cntF]
  | .bool, _, l, _, _, h, h0 => by simp [szF, LenF, cntF]
  | .str, .int _, l, _, _, h, h0 => by simp [szF, LenF, cntF]
  | .str, .bool _, l, _, _, h, h0 => by simp [szF, LenF, cntF]
  | .str, .sub _, l, _, _, h, h0 => by simp [szF, LenF, cntF]
  | .sub _, .int _, l, _, _, h, h0 => by simp [szF, LenF, cntF]
  | .sub _, .bool _, l, _, _, h, h0 => by simp [szF, LenF, cntF]
  | .sub _, .str _, l, _, _, h, h0 => by simp [szF, LenF, cntF]
theorem szR_spec {N : Nat} : ∀ (fs : List Fd) (x : List U) (l : Int), okFds fs = true → l ≤ N → 0 ≤ szR fs x l → 0 ≤ l → szR fs x l ≤ l ∧ LenR N N fs x ∧ (cntR fs x : Int) ≤ 16 * (l - szR fs x l) + fs.length
  | f :: fs, u :: x, l, hk, hl, h, h0 => by
    simp only [szR, LenR, cntR] at h ⊢
    simp only [okFds, Bool.and_eq_true] at hk
    split at h
    · omega
    · rename_i hc
      rw [if_neg hc]
      obtain ⟨a1, a2, a3⟩ := szF_spec (N := N) f u l hk.1 hl (by omega) h0
      obtain ⟨b1, b2, b3⟩ := szR_spec (N := N) fs x (szF f u l) hk.2 (by omega) h (by omega)
      refine ⟨by omega, ⟨a2, b2⟩, ?_⟩
      simp only [List.length_cons]
      push_cast
      omega
  | [], _, l, _, _, h, h0 => by simp [szR, LenR, cntR]
  | _ :: _, [], l, _, _, h, h0 => by simp [szR, LenR, cntR]; omega
end
/-! ### marks -/
/-- The digits of a number, ahead of others. -/
def digs : Nat → Nat → ByteArray → ByteArray
  | 0, _, s => s
  | f + 1, n, s => if n = 0 then s else digs f (n / 10) (⟨#[UInt8.ofNat (48 + n % 10)]⟩ ++ s)
def txt (k : Int) : ByteArray := if k ≤ 0 then ⟨#[109, 48]⟩ else ⟨#[109]⟩ ++ digs 20 k.toNat ⟨#[]⟩
def HeldZ (R : List U → Int → Int → Prop) : List (List U) → Int → Int → Prop
  | [], k, k' => k' = k
  | x :: xs, k, k' => ∃ m, R x k m ∧ HeldZ R xs m k'
mutual
def HeldF : Fd → U → Int → Int → Prop
  | .int kk, u, k, k' => u = .int (kk.wrap k) ∧ k' = k + 1
  | .bool, u, k, k' => u = .bool (decide (k.tmod 3 = 0)) ∧ k' = k + 1
  | .str, u, k, k' => u = .str (txt k) ∧ k' = k + 1
  | .sub fs, u, k, k' => ∃ xs, u = .sub xs ∧ HeldZ (HeldR fs) xs k k'
def HeldR : List Fd → List U → Int → Int → Prop
  | [], x, k, k' => x = [] ∧ k' = k
  | f :: fs, x, k, k' => ∃ u x' m, x = u :: x' ∧ HeldF f u k m ∧ HeldR fs x' m k'
end
theorem HeldZ_le {R : List U → Int → Int → Prop} (hR : ∀ x k k', R x k k' → k ≤ k') : ∀ {xs : List (List U)} {k k' : Int}, HeldZ R xs k k' → k ≤ k'
  | [], k, k', h => by simp only [HeldZ] at h; omega
  | x :: xs, k, k', ⟨m, h1, h2⟩ => by have := hR x k m h1; have := HeldZ_le hR h2; omega
mutual
theorem HeldF_le : ∀ (f : Fd) {u : U} {k k' : Int}, HeldF f u k k' → k ≤ k'
  | .int kk, _, _, _, h => by simp only [HeldF] at h; omega
  | .bool, _, _, _, h => by simp only [HeldF] at h; omega
  | .str, _, _, _, h => by simp only [HeldF] at h; omega
  | .sub fs, _, _, _, h => by
    simp only [HeldF] at h
    obtain ⟨xs, _, h⟩ := h
    exact HeldZ_le (fun x k k' => HeldR_le fs) h
theorem HeldR_le : ∀ (fs : List Fd) {x : List U} {k k' : Int}, HeldR fs x k k' → k ≤ k'
  | [], _, _, _, h => by simp only [HeldR] at h; omega
  | f :: fs, _, _, _, h => by
    simp only [HeldR] at h
    obtain ⟨u, x', m, _, h1, h2⟩ := h
    have := HeldF_le f h1
    have := HeldR_le fs h2
    omega
end
theorem HeldZ_snoc {R : List U → Int → Int → Prop} : ∀ {xs : List (List U)} {x : List U} {k m k' : Int}, HeldZ R xs k m → R x m k' → HeldZ R (xs ++ [x]) k k'
  | [], x, k, m, k', h, hx => by simp only [HeldZ] at h; subst h; exact ⟨k', hx, rfl⟩
  | y :: ys, x, k, m, k', ⟨m1, h1, h2⟩, hx => ⟨m1, h1, HeldZ_snoc h2 hx⟩
end Go.Proofs.Yteaojpfofifmnaa.PE
/- The loops of copies, comparisons, sizes and marks, by what one round does. -/
set_option linter.unusedVariables false
set_option linter.unusedSimpArgs false
namespace Go.Proofs.Yteaojpfofifmnaa.PE
open Go.RowKit

def big : Nat := 1099511627775
theorem HeldZ_drop {R : List U → Int → Int → Prop} {xs : List (List U)} {i : Nat} {x : List U} {k k' : Int} (hx : xs[i]? = some x) (h : HeldZ R (xs.drop i) k k') : ∃ m, R x k m ∧ HeldZ R (xs.drop (i + 1)) m k' := by
  obtain ⟨hi, e⟩ := List.getElem?_eq_some_iff.1 hx
  rw [List.drop_eq_getElem_cons hi, e] at h
  exact h
section
variable {run : Run} {draw : Draw} {c : C} {n0 : Nat}
theorem held_loop {R : List V → List U → Prop} {HR : List U → Int → Int → Prop} {cl : Bool} {sz : Nat} {cont : List (List V)} {xs : List (List U)} {kf : Int} (hz : Zip2 R cont xs) (hle : ∀ x k k', HR x k k' → k ≤ k')
    (hend : ∀ (k : Int) K, LoopS run draw [0, 1, 5] [1, 4] c n0 K [(0, .sl cl sz cont), (1, .int .i64 k), (5, .int .i64 (cont.length : Nat))] [] = some (.exit 0, [(1, .int .i64 k), (4, .undef)], []))
    (hstep : ∀ (i : Nat) cc x (k m : Int) K, cont[i]? = some cc → xs[i]? = some x → (i : Int) < cont.length → R cc x → HR x k m → 0 ≤ k → m ≤ 4611686018427387904 → LoopS run draw [0, 1, 5] [1, 4] c n0 (K + 1) [(0, .sl cl sz cont), (1, .int .i64 k), (5, .int .i64 (i : Nat))] [] = LoopS run draw [0, 1, 5] [1, 4] c n0 K [(0, .sl cl sz cont), (1, .int .i64 m), (5, .int .i64 ((i + 1 : Nat) : Int))] [])
    {k : Int} (hk : HeldZ HR xs k kf) (h0 : 0 ≤ k) (hf : kf ≤ 4611686018427387904) (K : Nat) (hK : cont.length ≤ K) :
    LoopS run draw [0, 1, 5] [1, 4] c n0 K [(0, .sl cl sz cont), (1, .int .i64 k), (5, .int .i64 0)] [] = some (.exit 0, [(1, .int .i64 kf), (4, .undef)], []) := by
  have hl := Zip2_len hz
  obtain ⟨b', hb, e⟩ := LoopS_inv (run := run) (draw := draw) (live := [0, 1, 5]) (out := [1, 4]) (c := c) (n0 := n0) cont.length (fun i (k : Int) => HeldZ HR (xs.drop i) k kf ∧ 0 ≤ k) (fun i k => [(0, .sl cl sz cont), (1, .int .i64 k), (5, .int .i64 (i : Nat))]) (fun _ => []) (fun k => some (.exit 0, [(1, .int .i64 k), (4, .undef)], []))
    (fun k K _ => hend k K) (fun i k K hi hb => by
      have hc := List.getElem?_eq_getElem hi
      obtain ⟨x, hx, hr⟩ := Zip2_at hz hc
      obtain ⟨m, h1, h2⟩ := HeldZ_drop hx hb.1
      have l1 := hle _ _ _ h1
      have l2 := HeldZ_le hle h2
      exact ⟨m, ⟨h2, by omega⟩, hstep i _ x k m K hc hx (by omega) hr h1 hb.2 (by omega)⟩) K hK k ⟨by simpa using hk, h0⟩
  have h3 := hb.1
  rw [List.drop_of_length_le (by omega)] at h3
  simp only [HeldZ] at h3
  subst h3
  exact e
theorem eq_loop {R : List V → List U → Prop} {cl cl' : Bool} {sz : Nat} {cont cont' : List (List V)} {xs : List (List U)} (hz : Zip2 R cont xs) (hz' : Zip2 R cont' xs)
    (hend : ∀ K, LoopS run draw [0, 1, 5] [4] c n0 K [(0, .sl cl sz cont), (1, .sl cl' sz cont'), (5, .int .i64 (xs.length : Nat))] [] = some (.exit 0, [(4, .undef)], []))
    (hstep : ∀ (i : Nat) cc cc' x K, cont[i]? = some cc → cont'[i]? = some cc' → xs[i]? = some x → (i : Int) < cont.length → R cc x → R cc' x → LoopS run draw [0, 1, 5] [4] c n0 (K + 1) [(0, .sl cl sz cont), (1, .sl cl' sz cont'), (5, .int .i64 (i : Nat))] [] = LoopS run draw [0, 1, 5] [4] c n0 K [(0, .sl cl sz cont), (1, .sl cl' sz cont'), (5, .int .i64 ((i + 1 : Nat) : Int))] [])
    (K : Nat) (hK : cont.length ≤ K) :
    LoopS run draw [0, 1, 5] [4] c n0 K [(0, .sl cl sz cont), (1, .sl cl' sz cont'), (5, .int .i64 0)] [] = some (.exit 0, [(4, .undef)], []) := by
  have hl := Zip2_len hz
  have hl' := Zip2_len hz'
  obtain ⟨b', hb, e⟩ := LoopS_inv (run := run) (draw := draw) (live := [0, 1, 5]) (out := [4]) (c := c) (n0 := n0) xs.length (fun i (_ : Unit) => True) (fun i _ => [(0, .sl cl sz cont), (1, .sl cl' sz cont'), (5, .int .i64 (i : Nat))]) (fun _ => []) (fun _ => some (.exit 0, [(4, .undef)], []))
    (fun _ K _ => hend K) (fun i _ K hi _ => by
      have hc := List.getElem?_eq_getElem (show i < cont.length by omega)
      have hc' := List.getElem?_eq_getElem (show i < cont'.length by omega)
      obtain ⟨x, hx, hr⟩ := Zip2_at hz hc
      obtain ⟨x', hx', hr'⟩ := Zip2_at hz' hc'
      rw [hx] at hx'
      injection hx' with hx'
      subst hx'
      exact ⟨(), trivial, hstep i _ _ x K hc hc' hx (by omega) hr hr'⟩) K (by omega) () trivial
  exact e
theorem sz_loop {R : List V → List U → Prop} {SR : List U → Int → Int} {cl : Bool} {sz : Nat} {cont : List (List V)} {xs : List (List U)} (hz : Zip2 R cont xs)
    (hend : ∀ (l : Int) K, LoopS run draw [0, 1, 5] [1, 4] c n0 K [(0, .sl cl sz cont), (1, .int .i64 l), (5, .int .i64 (cont.length : Nat))] [] = some (.exit 0, [(1, .int .i64 l), (4, .undef)], []))
    (hstep : ∀ (i : Nat) cc x (l : Int) K, cont[i]? = some cc → xs[i]? = some x → (i : Int) < cont.length → R cc x → 0 ≤ l → l ≤ 1048576 →
      (SR x l < 0 ∧ ∃ v, LoopS run draw [0, 1, 5] [1, 4] c n0 (K + 1) [(0, .sl cl sz cont), (1, .int .i64 l), (5, .int .i64 (i : Nat))] [] = some (.ret, [(1, v), (4, .int .i64 (-1))], [])) ∨
      (0 ≤ SR x l ∧ SR x l ≤ l ∧ LoopS run draw [0, 1, 5] [1, 4] c n0 (K + 1) [(0, .sl cl sz cont), (1, .int .i64 l), (5, .int .i64 (i : Nat))] [] = LoopS run draw [0, 1, 5] [1, 4] c n0 K [(0, .sl cl sz cont), (1, .int .i64 (SR x l)), (5, .int .i64 ((i + 1 : Nat) : Int))] []))
    {l : Int} (h0 : 0 ≤ l) (hf : l ≤ 1048576) (K : Nat) (hK : cont.length ≤ K) :
    (szZ SR xs l < 0 ∧ ∃ v, LoopS run draw [0, 1, 5] [1, 4] c n0 K [(0, .sl cl sz cont), (1, .int .i64 l), (5, .int .i64 0)] [] = some (.ret, [(1, v), (4, .int .i64 (-1))], [])) ∨
    (0 ≤ szZ SR xs l ∧ LoopS run draw [0, 1, 5] [1, 4] c n0 K [(0, .sl cl sz cont), (1, .int .i64 l), (5, .int .i64 0)] [] = some (.exit 0, [(1, .int .i64 (szZ SR xs l)), (4, .undef)], [])) := by
  have hl := Zip2_len hz
  have key : ∀ (m i K : Nat) (l : Int), i + m = cont.length → m ≤ K → 0 ≤ l → l ≤ 1048576 →
      (szZ SR (xs.drop i) l < 0 ∧ ∃ v, LoopS run draw [0, 1, 5] [1, 4] c n0 K [(0, .sl cl sz cont), (1, .int .i64 l), (5, .int .i64 (i : Nat))] [] = some (.ret, [(1, v), (4, .int .i64 (-1))], [])) ∨
      (0 ≤ szZ SR (xs.drop i) l ∧ LoopS run draw [0, 1, 5] [1, 4] c n0 K [(0, .sl cl sz cont), (1, .int .i64 l), (5, .int .i64 (i : Nat))] [] = some (.exit 0, [(1, .int .i64 (szZ SR (xs.drop i) l)), (4, .undef)], [])) := by
    intro m
    induction m with
    | zero =>
      intro i K l hi _ h0 hf
      have : i = cont.length := by omega
      subst this
      rw [List.drop_of_length_le (by omega)]
      exact .inr ⟨h0, hend l K⟩
    | succ m ih =>
      intro i K l hi hK h0 hf
      obtain ⟨K, rfl⟩ : ∃ K', K = K' + 1 := ⟨K - 1, by omega⟩
      have hc := List.getElem?_eq_getElem (show i < cont.length by omega)
      obtain ⟨x, hx, hr⟩ := Zip2_at hz hc
      obtain ⟨hi2, ex⟩ := List.getElem?_eq_some_iff.1 hx
      rw [List.drop_eq_getElem_cons hi2, ex]
      simp only [szZ]
      rcases hstep i _ x l K hc hx (by omega) hr h0 hf with ⟨s1, s2⟩ | ⟨s1, s2, s3⟩
      · rw [if_pos s1]
        exact .inl ⟨by omega, s2⟩
      · rw [if_neg (by omega), s3]
        exact ih (i + 1) K _ (by omega) (by omega) s1 (by omega)
  have := key cont.length 0 K l (by omega) hK h0 hf
  simpa using this
theorem take_snoc {α : Type} {l : List α} {i : Nat} {x : α} (hx : l[i]? = some x) : l.take (i + 1) = l.take i ++ [x] := by
  rw [List.take_add_one, hx]; rfl
theorem to_loop {fs : List Fd} {zero : List V} {cl : Bool} {sz : Nat} {cont : List (List V)} {xs : List (List U)} (hz : Zip2 (PurR fs) cont xs)
    (hend : ∀ h K, LoopK run draw [0, 3, 4] [3] c K [(0, .sl cl sz cont), (3, .ref 0 0 0 cont.length true), (4, .int .i64 (cont.length : Nat))] h = some (.exit 0, [(3, .ref 0 0 0 cont.length true)], h))
    (hstep : ∀ (i : Nat) cc x h C K, cont[i]? = some cc → xs[i]? = some x → (i : Int) < cont.length → PurR fs cc x → h[0]? = some (blkOf fs 0 C) → C[i]? = some zero → C.length = cont.length →
      ∃ h' cells a, LoopK run draw [0, 3, 4] [3] c (K + 1) [(0, .sl cl sz cont), (3, .ref 0 0 0 cont.length true), (4, .int .i64 (i : Nat))] h = LoopK run draw [0, 3, 4] [3] c K [(0, .sl cl sz cont), (3, .ref 0 0 0 cont.length true), (4, .int .i64 ((i + 1 : Nat) : Int))] h' ∧
        h'[0]? = some (blkOf fs 0 (C.set i cells)) ∧ OwnR h' fs cells x a ∧ a.Nodup ∧ (∀ j ∈ a, h.length ≤ j) ∧ (∀ j, j ≠ 0 → j < h.length → h'[j]? = h[j]?) ∧ h.length ≤ h'.length)
    {h : Heap} (hh : h[0]? = some (blkOf fs 0 (List.replicate cont.length zero))) (K : Nat) (hK : cont.length ≤ K) :
    ∃ h' r, LoopK run draw [0, 3, 4] [3] c K [(0, .sl cl sz cont), (3, .ref 0 0 0 cont.length true), (4, .int .i64 0)] h = some (.exit 0, [(3, .ref 0 0 0 cont.length true)], h') ∧
      OwnF h' (.sub fs) (.ref 0 0 0 cont.length true) (.sub xs) (0 :: r) ∧ (0 :: r).Nodup := by
  have hl := Zip2_len hz
  obtain ⟨h', ⟨done, ids, g1, g2, g3, g4, g5⟩, e⟩ := LoopK_inv (run := run) (draw := draw) (live := [0, 3, 4]) (out := [3]) (c := c) cont.length
    (fun i (h : Heap) => ∃ done ids, h[0]? = some (blkOf fs 0 (done ++ List.replicate (cont.length - i) zero)) ∧ done.length = i ∧ Zip3 (OwnR h fs) done (xs.take i) ids ∧ ids.Nodup ∧ 0 ∉ ids)
    (fun i _ => [(0, .sl cl sz cont), (3, .ref 0 0 0 cont.length true), (4, .int .i64 (i : Nat))]) (fun h => h) (fun h => some (.exit 0, [(3, .ref 0 0 0 cont.length true)], h))
    (fun h K _ => hend h K) (fun i h K hi hb => by
      obtain ⟨done, ids, g1, g2, g3, g4, g5⟩ := hb
      have hc := List.getElem?_eq_getElem hi
      obtain ⟨x, hx, hr⟩ := Zip2_at hz hc
      have hC : (done ++ List.replicate (cont.length - i) zero)[i]? = some zero := by
        rw [List.getElem?_append_right (by omega), g2, Nat.sub_self, List.getElem?_replicate, if_pos (by omega)]
      obtain ⟨h', cells, a, e, f1, f2, f3, f4, f5, f6⟩ := hstep i _ x h _ K hc hx (by omega) hr g1 hC (by simp; omega)
      have hlt := Zip3_all (fun c x i hr => OwnR_lt fs hr) g3
      refine ⟨h', ⟨done ++ [cells], ids ++ a, ?_, by simp [g2], ?_, ?_, ?_⟩, e⟩
      · rw [f1, List.set_append_right _ _ (by omega), g2, Nat.sub_self, List.append_assoc]
        obtain ⟨m, hm⟩ : ∃ m, cont.length - i = m + 1 := ⟨cont.length - i - 1, by omega⟩
        rw [hm, List.replicate_succ, List.set_cons_zero, show cont.length - (i + 1) = m by omega]
        rfl
      · rw [take_snoc hx]
        refine Zip3_app (Zip3_mono (P := fun id => id ∈ ids) (fun c x j hr hp => OwnR_frame fs hr (fun id hid => f5 id (fun e => g5 (e ▸ hp id hid)) (hlt id (hp id hid)))) g3 (fun _ h => h)) (Zip3_one f2)
      · refine List.nodup_append.2 ⟨g4, f3, fun p hp q hq => ?_⟩
        have := hlt p hp
        have := f4 q hq
        omega
      · intro hm
        rcases List.mem_append.1 hm with hm | hm
        · exact g5 hm
        · have := f4 0 hm
          have := (List.getElem?_eq_some_iff.1 g1).1
          omega) K hK h ⟨[], [], by simpa using hh, rfl, by simp [Zip3], List.nodup_nil, by simp⟩
  rw [List.take_of_length_le (by omega)] at g3
  rw [Nat.sub_self, List.replicate_zero, List.append_nil] at g1
  refine ⟨h', ids, e, ?_, List.nodup_cons.2 ⟨g5, g4⟩⟩
  simp only [OwnF]
  exact ⟨xs, rfl, .inr ⟨0, 0, true, done, ids, by rw [g2], g1, rfl, g3⟩⟩

theorem Zip3_cons {α β : Type} {R : α → β → List Nat → Prop} {ays : List α} {bs : List β} {ids : List Nat} (h : Zip3 R ays bs ids) {b : β} {bs' : List β} (e : bs = b :: bs') : ∃ a ays' i j, ays = a :: ays' ∧ ids = i ++ j ∧ R a b i ∧ Zip3 R ays' bs' j := by
  subst e
  cases ays with
  | nil => exact h.elim
  | cons a ays => obtain ⟨i, j, e, h1, h2⟩ := h; exact ⟨a, ays, i, j, rfl, e, h1, h2⟩
theorem sumU_snoc (c : List U → Nat) : ∀ (xs : List (List U)) (x : List U), sumU c (xs ++ [x]) = sumU c xs + c x
  | [], x => by simp [sumU]
  | y :: ys, x => by simp [sumU, sumU_snoc c ys x]; omega
/-- The root of a tree and all that lies beneath it, marked. -/
theorem mark_loop {fs : List Fd} {id st n : Nat} {clip : Bool} {xs : List (List U)} {h : Heap} {cont : List (List V)} {r : List Nat} {k : Int}
    (hend : ∀ h (k : Int) K, LoopK run draw [0, 1, 5] [1] c K [(0, .ref id st 0 n clip), (1, .int .i64 k), (5, .int .i64 (n : Nat))] h = some (.exit 0, [(1, .int .i64 k)], h))
    (hstep : ∀ (i : Nat) h C cc x a (k : Int) K, (i : Int) < n → h[id]? = some (blkOf fs st C) → C.length = n → C[i]? = some cc → OwnR h fs cc x a → LenR big big fs x → id ∉ a → a.Nodup → 0 ≤ k → k + cntR fs x ≤ 4611686018427387904 →
      ∃ h' cells y, LoopK run draw [0, 1, 5] [1] c (K + 1) [(0, .ref id st 0 n clip), (1, .int .i64 k), (5, .int .i64 (i : Nat))] h = LoopK run draw [0, 1, 5] [1] c K [(0, .ref id st 0 n clip), (1, .int .i64 (k + cntR fs x)), (5, .int .i64 ((i + 1 : Nat) : Int))] h' ∧
        h'[id]? = some (blkOf fs st (C.set i cells)) ∧ OwnR h' fs cells y a ∧ HeldR fs y k (k + cntR fs x) ∧ LenR big big fs y ∧ (∀ j, j ≠ id → j ∉ a → h'[j]? = h[j]?) ∧ h'.length = h.length)
    (hn : cont.length = n) (hb : h[id]? = some (blkOf fs st cont)) (ho : Zip3 (OwnR h fs) cont xs r) (hnd : (id :: r).Nodup) (hlen : AllU (LenR big big fs) xs) (h0 : 0 ≤ k) (hk : k + sumU (cntR fs) xs ≤ 4611686018427387904) (K : Nat) (hK : n ≤ K) :
    ∃ h' ys, LoopK run draw [0, 1, 5] [1] c K [(0, .ref id st 0 n clip), (1, .int .i64 k), (5, .int .i64 0)] h = some (.exit 0, [(1, .int .i64 (k + sumU (cntR fs) xs))], h') ∧
      OwnF h' (.sub fs) (.ref id st 0 n clip) (.sub ys) (id :: r) ∧ HeldZ (HeldR fs) ys k (k + sumU (cntR fs) xs) ∧ ys.length = xs.length ∧ AllU (LenR big big fs) ys ∧ (∀ j, j ∉ id :: r → h'[j]? = h[j]?) ∧ h'.length = h.length := by
  have hl := Zip3_len ho
  obtain ⟨⟨h', k'⟩, ⟨done, rest, ys, ia, ib, g1, g2, g3, g4, g5, g6, g7, g8, g9, ga, gb, gc⟩, e⟩ := LoopK_inv (run := run) (draw := draw) (live := [0, 1, 5]) (out := [1]) (c := c) n
    (fun i (b : Heap × Int) => ∃ done rest ys ia ib, b.1[id]? = some (blkOf fs st (done ++ rest)) ∧ done.length = i ∧ (done ++ rest).length = n ∧ Zip3 (OwnR b.1 fs) done ys ia ∧ Zip3 (OwnR b.1 fs) rest (xs.drop i) ib ∧ r = ia ++ ib ∧ HeldZ (HeldR fs) ys k b.2 ∧ b.2 = k + sumU (cntR fs) (xs.take i) ∧ ys.length = i ∧ AllU (LenR big big fs) ys ∧ b.1.length = h.length ∧ ∀ j, j ∉ id :: r → b.1[j]? = h[j]?)
    (fun i b => [(0, .ref id st 0 n clip), (1, .int .i64 b.2), (5, .int .i64 (i : Nat))]) (fun b => b.1) (fun b => some (.exit 0, [(1, .int .i64 b.2)], b.1))
    (fun b K _ => hend b.1 b.2 K) (fun i b K hi hb => by
      obtain ⟨hp, kp⟩ := b
      obtain ⟨done, rest, ys, ia, ib, g1, g2, g3, g4, g5, g6, g7, g8, g9, ga, gb, gc⟩ := hb
      simp only at g1 g4 g5 g7 g8 gb gc ⊢
      have hix : i < xs.length := by omega
      obtain ⟨cc, rest', a, jb, e1, e2, o1, o2⟩ := Zip3_cons g5 (List.drop_eq_getElem_cons hix)
      have hx : xs[i]? = some xs[i] := List.getElem?_eq_getElem hix
      generalize xs[i] = x at *
      subst e1 e2
      have hC : (done ++ cc :: rest')[i]? = some cc := by rw [List.getElem?_append_right (by omega), g2, Nat.sub_self]; rfl
      subst g6
      obtain ⟨n1, n2⟩ := List.nodup_cons.1 hnd
      have hida : id ∉ a := fun hm => n1 (by simp [hm])
      obtain ⟨m1, m2, m3⟩ := List.nodup_append.1 n2
      obtain ⟨m4, m5, m6⟩ := List.nodup_append.1 m2
      have hle : sumU (cntR fs) (xs.take (i + 1)) ≤ sumU (cntR fs) xs := by
        have : ∀ (m : Nat) (zs : List (List U)), sumU (cntR fs) (zs.take m) ≤ sumU (cntR fs) zs := by
          intro m
          induction m with
          | zero => intro zs; simp [sumU]
          | succ m ih =>
            intro zs
            cases zs with
            | nil => simp [sumU]
            | cons z zs => simp only [List.take_succ_cons, sumU]; have := ih zs; omega
        exact this _ _
      rw [take_snoc hx, sumU_snoc] at hle
      obtain ⟨h', cells, y, e, f1, f2, f3, f4, f5, f6⟩ := hstep i hp _ cc x a kp K (by omega) g1 g3 hC o1 (AllU_at hlen hx) hida m4 (by omega) (by omega)
      refine ⟨(h', kp + cntR fs x), ⟨done ++ [cells], rest', ys ++ [y], ia ++ a, jb, ?_, by simp [g2], by simpa using g3, ?_, ?_, by simp, HeldZ_snoc g7 f3, ?_, by simp [g9], ?_, f6.trans gb, fun j hj => ?_⟩, e⟩
      · rw [f1, List.set_append_right _ _ (by omega), g2, Nat.sub_self, List.set_cons_zero, List.append_assoc]; rfl
      · refine Zip3_app (Zip3_mono (P := fun j => j ∈ ia) (fun c x j hr hp => OwnR_frame fs hr (fun q hq => f5 q (fun e => n1 (by rw [← e]; simp [hp q hq])) (fun hm => m3 q (hp q hq) q (by simp [hm]) rfl))) g4 (fun _ h => h)) (Zip3_one f2)
      · refine Zip3_mono (P := fun j => j ∈ jb) (fun c x j hr hp => OwnR_frame fs hr (fun q hq => f5 q (fun e => n1 (by rw [← e]; simp [hp q hq])) (fun hm => m6 q hm q (hp q hq) rfl))) o2 (fun _ h => h)
      · simp only
        rw [take_snoc hx, sumU_snoc]
        push_cast
        omega
      · have : ∀ (zs : List (List U)), AllU (LenR big big fs) zs → AllU (LenR big big fs) (zs ++ [y]) := by
          intro zs
          induction zs with
          | nil => intro _; exact ⟨f4, trivial⟩
          | cons z zs ih => intro h; exact ⟨h.1, ih h.2⟩
        exact this ys ga
      · simp only
        rw [← gc j hj]
        refine f5 j (fun e => hj (by simp [e])) (fun hm => hj (by simp [hm]))) K hK (h, k) ⟨[], cont, [], [], r, by simpa using hb, rfl, by simpa using hn, rfl, by simpa using ho, rfl, rfl, by simp [sumU], rfl, trivial, rfl, fun _ _ => rfl⟩
  simp only at g1 g4 g5 g7 g8 gb gc e
  rw [List.take_of_length_le (by omega)] at g8
  rw [List.drop_of_length_le (by omega)] at g5
  have hr0 : rest = [] := by
    cases rest with
    | nil => rfl
    | cons a ays => simp [Zip3] at g5
  subst hr0
  simp only [Zip3] at g5
  subst g5 g6
  subst g8
  rw [List.append_nil] at g1 g3
  refine ⟨h', ys, e, ?_, g7, by omega, ga, gc, gb⟩
  simp only [OwnF]
  exact ⟨ys, rfl, .inr ⟨id, st, clip, done, ia, by rw [g3], g1, by simp, g4⟩⟩
end
end Go.Proofs.Yteaojpfofifmnaa.PE
/- What the functions of exact statements promise; the text of a mark. -/
set_option linter.unusedVariables false
set_option linter.unusedSimpArgs false
set_option maxHeartbeats 4000000
namespace Go.Proofs.Yteaojpfofifmnaa.PE
open Go.RowKit

theorem szZ_neg {R : List U → Int → Int} : ∀ {xs : List (List U)} {l : Int}, 0 ≤ l → szZ R xs l < 0 → szZ R xs l = -1
  | [], l, h0, h => by simp only [szZ] at h; omega
  | x :: xs, l, h0, h => by
    simp only [szZ] at h ⊢
    by_cases hx : R x l < 0
    · rw [if_pos hx]
    · rw [if_neg hx] at h ⊢; exact szZ_neg (by omega) h

theorem szF_le {f : Fd} {u : U} {l : Int} (hk : okFd f = true) (h0 : 0 ≤ l) (h1 : l ≤ 1048576) : szF f u l ≤ l := by
  by_cases h : 0 ≤ szF f u l
  · exact (szF_spec (N := 1048576) f u l hk (by omega) h h0).1
  · omega
theorem szR_le {fs : List Fd} {x : List U} {l : Int} (hk : okFds fs = true) (h0 : 0 ≤ l) (h1 : l ≤ 1048576) : szR fs x l ≤ l := by
  by_cases h : 0 ≤ szR fs x l
  · exact (szR_spec (N := 1048576) fs x l hk (by omega) h h0).1
  · omega

theorem Zip2_len2 {R : List V → List U → Prop} {P : List U → Prop} : ∀ {l1 : List (List V)} {l2 : List (List U)}, Zip2 R l1 l2 → AllU P l2 → Zip2 (fun c x => R c x ∧ P x) l1 l2
  | [], [], _, _ => trivial
  | a :: l1, b :: l2, ⟨h1, h2⟩, ⟨g1, g2⟩ => ⟨⟨h1, g1⟩, Zip2_len2 h2 g2⟩
  | [], _ :: _, h, _ => h.elim
  | _ :: _, [], h, _ => h.elim
/-! ### copies -/
def ToOK (d f : Nat) (fs : List Fd) : Prop := ∀ {p : V} {xs : List (List U)}, PurF (.sub fs) p (.sub xs) → xs.length ≤ 1048576 → AllU (LenR 1048576 1048576 fs) xs → ∃ v hc ids, runD tab noExt d f [p] [] = some ([v], hc) ∧ OwnF hc (.sub fs) v (.sub xs) ids ∧ ids.Nodup

theorem own_cases {h : Heap} {fs : List Fd} {v : V} {u : U} {ids : List Nat} (ho : OwnF h (.sub fs) v u ids) : (∃ c, v = .sl c fs.length []) ∨ ∃ id st n clip, v = .ref id st 0 n clip := by
  simp only [OwnF] at ho
  obtain ⟨xs, _, ⟨c, e, _⟩ | ⟨id, st, clip, cont, r, e, _⟩⟩ := ho
  · exact .inl ⟨c, e⟩
  · exact .inr ⟨id, st, _, clip, e⟩
theorem own_call {run : Run} {h : Heap} {f : Nat} {args args' : List V} {v : V} {hc : Heap} {fs : List Fd} {u : U} {ids : List Nat} (hp : pureDAs h args = some args') (hr : run f args' [] = some ([v], hc)) (ho : OwnF hc (.sub fs) v u ids) (hn : ids.Nodup) :
    ∃ v' h' ids', callX run h 0 f args = some (v', h') ∧ OwnF h' (.sub fs) v' u ids' ∧ ids'.Nodup ∧ (∀ j ∈ ids', h.length ≤ j) ∧ (∀ j, j < h.length → h'[j]? = h[j]?) ∧ h.length ≤ h'.length := by
  have hs : [v].all scalarA = false := by
    rcases own_cases ho with ⟨c, rfl⟩ | ⟨id, st, n, clip, rfl⟩ <;> rfl
  have hf : [v].all freshA = true := by
    rcases own_cases ho with ⟨c, rfl⟩ | ⟨id, st, n, clip, rfl⟩ <;> rfl
  have ha : shA h.length v = shC h.length v := by
    rcases own_cases ho with ⟨c, rfl⟩ | ⟨id, st, n, clip, rfl⟩ <;> rfl
  refine ⟨shC h.length v, h ++ movedH h.length hc, ids.map (· + h.length), ?_, OwnF_moved _ ho, ?_, fun j hj => ?_, fun j hj => by rw [List.getElem?_append_left hj], by simp⟩
  · simp only [callX, callO, hp, hr, BackO, hs, hf, Bool.false_eq_true, if_false, if_true, List.map_cons, List.map_nil, oneOf, ha]
  · exact (List.pairwise_map.2 (List.Pairwise.imp (fun {a b} hab => by simp only [ne_eq] at hab ⊢; omega) hn))
  · obtain ⟨i, _, rfl⟩ := List.mem_map.1 hj
    omega
theorem pureDA_pur {h : Heap} {f : Fd} {p : V} {u : U} (hp : PurF f p u) : pureDA h p = some p := by
  cases f with
  | int k => simp only [PurF] at hp; obtain ⟨_, rfl, _⟩ := hp; rfl
  | bool => simp only [PurF] at hp; obtain ⟨_, rfl, _⟩ := hp; rfl
  | str => simp only [PurF] at hp; obtain ⟨_, rfl, _⟩ := hp; rfl
  | sub fs => simp only [PurF] at hp; obtain ⟨_, _, _, rfl, _⟩ := hp; rfl

def EqOK (d f : Nat) (fs : List Fd) : Prop := ∀ {p q : V} {xs : List (List U)}, PurF (.sub fs) p (.sub xs) → PurF (.sub fs) q (.sub xs) → LenF big big (.sub fs) (.sub xs) → retP (runD tab noExt d) f [p, q] = some [.bool true]

theorem digs_size : ∀ (f n : Nat) (s : ByteArray), (digs f n s).size ≤ s.size + f
  | 0, n, s => by simp [digs]
  | f + 1, n, s => by
    simp only [digs]
    split
    · omega
    · have := digs_size f (n / 10) (⟨#[UInt8.ofNat (48 + n % 10)]⟩ ++ s)
      have e : (⟨#[UInt8.ofNat (48 + n % 10)]⟩ ++ s : ByteArray).size = 1 + s.size := by rw [ByteArray.size_append]; rfl
      omega
theorem txt_size (k : Int) : (txt k).size ≤ 21 := by
  unfold txt
  split
  · decide
  · rw [ByteArray.size_append]
    have := digs_size 20 k.toNat ⟨#[]⟩
    have e : (⟨#[109]⟩ : ByteArray).size = 1 := rfl
    have e2 : (⟨#[]⟩ : ByteArray).size = 0 := rfl
    omega
-- find148
theorem loop_markText (d : Nat) : ∀ (f n K : Nat) (s : ByteArray), n < 10 ^ f → n ≤ 4611686018427387904 → s.size + f ≤ 1000 → f ≤ K → LoopS (runD tab noExt d) (drawI (runD tab noExt d)) [0, 3] [3] L148x0 0 K [(0, .int .i64 (n : Nat)), (3, .str s)] [] = some (.exit 0, [(3, .str (digs f n s))], []) := by
  intro f
  induction f with
  | zero =>
    intro n K s hn _ _ _
    have : n = 0 := by simpa using hn
    subst this
    rw [LoopS_eq]
    simp -implicitDefEqProofs only [go_sem, Nat.reduceBEq, Nat.reduceAdd, Nat.reduceSub, Nat.reduceMul, Nat.reduceLeDiff, Nat.reduceEqDiff, Nat.reduceLT, Int.reduceNeg, Int.reduceAdd, Int.reduceSub, Int.reduceMul, Int.reduceLE, Int.reduceLT, Int.reduceEq, Int.reduceToNat, reduceCtorEq, evL148x0, B148x0, Int.lt_irrefl, digs]
  | succ f ih =>
    intro n K s hn hb hs hK
    by_cases h0 : n = 0
    · subst h0
      rw [LoopS_eq]
      simp -implicitDefEqProofs only [go_sem, Nat.reduceBEq, Nat.reduceAdd, Nat.reduceSub, Nat.reduceMul, Nat.reduceLeDiff, Nat.reduceEqDiff, Nat.reduceLT, Int.reduceNeg, Int.reduceAdd, Int.reduceSub, Int.reduceMul, Int.reduceLE, Int.reduceLT, Int.reduceEq, Int.reduceToNat, reduceCtorEq, evL148x0, B148x0, Int.lt_irrefl, digs]
    · obtain ⟨K, rfl⟩ : ∃ K', K = K' + 1 := ⟨K - 1, by omega⟩
      have e1 : (0 < (n : Int)) = True := eq_true (by omega)
      have e2 : ((n : Int).tmod 10) = ((n % 10 : Nat) : Int) := by rw [Int.tmod_eq_emod_of_nonneg (by omega)]; omega
      have e3 : ((n : Int).tdiv 10) = ((n / 10 : Nat) : Int) := by rw [Int.tdiv_eq_ediv_of_nonneg (by omega)]; omega
      have e4 : UInt8.ofNat ((48 + (n % 10 : Nat) : Int)).toNat = UInt8.ofNat (48 + n % 10) := by congr 1
      have e5 : (⟨#[UInt8.ofNat (48 + n % 10)]⟩ : ByteArray).size = 1 := rfl
      have e6 : (⟨#[UInt8.ofNat (48 + n % 10)]⟩ ++ s : ByteArray).size = 1 + s.size := by rw [ByteArray.size_append]; rfl
      have hih := ih (n / 10) K (⟨#[UInt8.ofNat (48 + n % 10)]⟩ ++ s) (by rw [Nat.pow_succ] at hn; omega) (by omega) (by omega) (by omega)
      have e7 : (1 + s.size < 4294967296) = True := eq_true (by omega)
      rw [LoopS_eq]
      simp -implicitDefEqProofs (disch := omega) only [go_sem, Nat.reduceBEq, Nat.reduceAdd, Nat.reduceSub, Nat.reduceMul, Nat.reduceLeDiff, Nat.reduceEqDiff, Nat.reduceLT, Int.reduceNeg, Int.reduceAdd, Int.reduceSub, Int.reduceMul, Int.reduceLE, Int.reduceLT, Int.reduceEq, Int.reduceToNat, reduceCtorEq, evL148x0, B148x0, e1, e2, e3, IntWalk.i64_in, IntWalk.u8_in, elemsOf, elemOf, refsV, refs, refC, List.flatMap_cons, List.flatMap_nil, frzs, listOf, bytesOf, e4, e5, e7, digs, h0, hih]
theorem run_markText (d : Nat) (k : Int) (h0 : 0 ≤ k) (h1 : k ≤ 4611686018427387904) : retP (runD tab noExt (d + 1)) 148 [.int .i64 k] = some [.str (txt k)] := by
  rw [retP, runD_eq find148 _ _ _ (by simp)]
  by_cases e : k ≤ 0
  · simp -implicitDefEqProofs (disch := omega) only [go_sem, Nat.reduceBEq, Nat.reduceAdd, Nat.reduceSub, Nat.reduceMul, Nat.reduceLeDiff, Nat.reduceEqDiff, Nat.reduceLT, Int.reduceNeg, Int.reduceAdd, Int.reduceSub, Int.reduceMul, Int.reduceLE, Int.reduceLT, Int.reduceEq, Int.reduceToNat, reduceCtorEq, e, txt]
  · obtain ⟨n, rfl⟩ : ∃ n : Nat, k = n := ⟨k.toNat, by omega⟩
    have hlp := loop_markText d 20 n 1099511627775 ⟨#[]⟩ (by omega) (by omega) (by decide) (by omega)
    have hd := digs_size 20 n ⟨#[]⟩
    have e0 : (⟨#[]⟩ : ByteArray).size = 0 := rfl
    have e1 : (⟨#[109]⟩ : ByteArray).size = 1 := rfl
    have e2 : (1 + (digs 20 n ⟨#[]⟩).size < 4294967296) = True := eq_true (by omega)
    simp -implicitDefEqProofs (disch := omega) only [go_sem, Nat.reduceBEq, Nat.reduceAdd, Nat.reduceSub, Nat.reduceMul, Nat.reduceLeDiff, Nat.reduceEqDiff, Nat.reduceLT, Int.reduceNeg, Int.reduceAdd, Int.reduceSub, Int.reduceMul, Int.reduceLE, Int.reduceLT, Int.reduceEq, Int.reduceToNat, reduceCtorEq, e, txt]
    rw [hlp]
    simp -implicitDefEqProofs (disch := omega) only [go_sem, Nat.reduceBEq, Nat.reduceAdd, Nat.reduceSub, Nat.reduceMul, Nat.reduceLeDiff, Nat.reduceEqDiff, Nat.reduceLT, Int.reduceNeg, Int.reduceAdd, Int.reduceSub, Int.reduceMul, Int.reduceLE, Int.reduceLT, Int.reduceEq, Int.reduceToNat, reduceCtorEq, e1, e2]
theorem txt_big (k : Int) : LenF big big .str (.str (txt k)) := by
  have := txt_size k
  simp only [LenF]
  unfold big
  omega
def HeldOK (d f : Nat) (fs : List Fd) : Prop := ∀ {p : V} {xs : List (List U)} {k k' : Int}, PurF (.sub fs) p (.sub xs) → HeldF (.sub fs) (.sub xs) k k' → 0 ≤ k → k' ≤ 4611686018427387904 → LenF big big (.sub fs) (.sub xs) → retP (runD tab noExt d) f [p, .int .i64 k] = some [.int .i64 k']

def MarkOK (d f : Nat) (fs : List Fd) : Prop := ∀ {h : Heap} {v : V} {xs : List (List U)} {ids : List Nat} {k : Int}, OwnF h (.sub fs) v (.sub xs) ids → ids.Nodup → LenF big big (.sub fs) (.sub xs) → 0 ≤ k → k + cntF (.sub fs) (.sub xs) ≤ 4611686018427387904 →
  ∃ h' ys, callX (runD tab noExt d) h 2 f [v, .int .i64 k] = some (.int .i64 (k + cntF (.sub fs) (.sub xs)), h') ∧ OwnF h' (.sub fs) v (.sub ys) ids ∧ HeldF (.sub fs) (.sub ys) k (k + cntF (.sub fs) (.sub xs)) ∧ LenF big big (.sub fs) (.sub ys) ∧ (∀ j, j ∉ ids → h'[j]? = h[j]?) ∧ h'.length = h.length

theorem set_same {α : Type} {l : List α} {i : Nat} {x : α} (hx : l[i]? = some x) : l.set i x = l := by
  obtain ⟨hi, rfl⟩ := List.getElem?_eq_some_iff.1 hx
  exact List.set_getElem_self hi
theorem szF_int (k : IntKind) (u : U) (l : Int) : szF (.int k) u l = l := by cases u <;> simp [szF]
theorem szF_bool (u : U) (l : Int) : szF .bool u l = l := by cases u <;> simp [szF]
theorem szF_str (s : ByteArray) (l : Int) : szF .str (.str s) l = if l - s.size < 0 then -1 else l - s.size := by simp only [szF]
theorem cntF_int (k : IntKind) (u : U) : cntF (.int k) u = 1 := by cases u <;> simp [cntF]
theorem cntF_bool (u : U) : cntF .bool u = 1 := by cases u <;> simp [cntF]
theorem cntF_str (u : U) : cntF .str u = 1 := by cases u <;> simp [cntF]
theorem pureD_pur {h : Heap} {f : Fd} {p : V} {u : U} (hp : PurF f p u) (n : Nat) : pureD h n p = some p := by
  cases f with
  | int k => simp only [PurF] at hp; obtain ⟨_, rfl, _⟩ := hp; cases n <;> rfl
  | bool => simp only [PurF] at hp; obtain ⟨_, rfl, _⟩ := hp; cases n <;> rfl
  | str => simp only [PurF] at hp; obtain ⟨_, rfl, _⟩ := hp; cases n <;> rfl
  | sub fs => simp only [PurF] at hp; obtain ⟨_, _, _, rfl, _⟩ := hp; cases n <;> rfl
theorem own_callA {run : Run} {h : Heap} {f : Nat} {args args' : List V} {cs : List V} {hc : Heap} {fs : List Fd} {x : List U} {ids : List Nat} (hp : pureDAs h args = some args') (hr : run f args' [] = some ([.agg cs], hc)) (ho : OwnR hc fs cs x ids) (hn : ids.Nodup) (hs : cs.all scalar = false) :
    ∃ cs' h' ids', callX run h 0 f args = some (.agg cs', h') ∧ OwnR h' fs cs' x ids' ∧ ids'.Nodup ∧ (∀ j ∈ ids', h.length ≤ j) ∧ (∀ j, j < h.length → h'[j]? = h[j]?) ∧ h.length ≤ h'.length := by
  have hf := OwnR_fresh fs ho
  refine ⟨cs.map (shC h.length), h ++ movedH h.length hc, ids.map (· + h.length), ?_, OwnR_moved _ ho, ?_, fun j hj => ?_, fun j hj => by rw [List.getElem?_append_left hj], by simp⟩
  · simp only [callX, callO, hp, hr, BackO, List.all_cons, List.all_nil, scalarA, freshA, hs, hf, Bool.false_eq_true, Bool.false_and, Bool.true_and, if_false, if_true, List.map_cons, List.map_nil, oneOf, shA]
  · exact (List.pairwise_map.2 (List.Pairwise.imp (fun {a b} hab => by simp only [ne_eq] at hab ⊢; omega) hn))
  · obtain ⟨i, _, rfl⟩ := List.mem_map.1 hj
    omega
end Go.Proofs.Yteaojpfofifmnaa.PE
/- What sizes, copies, comparisons and marks do, type by type. -/
set_option linter.unusedVariables false
set_option linter.unusedSimpArgs false
set_option maxHeartbeats 4000000
namespace Go.Proofs.Yteaojpfofifmnaa.PE
open Go.RowKit

/-! ### Int -/
def fdInt : List Fd := [.int .i64]
/-! ### Byte -/
def fdByte : List Fd := [.int .u8]
/-! ### Column -/
def fdColumn : List Fd := [.int .i64, .bool]
/-! ### Value -/
def fdValue : List Fd := [.int .i64, .int .i64, .str]
theorem purR_Value {c : List V} {x : List U} (h : PurR fdValue c x) : ∃ (a0 : Int) (a1 : Int) (a2 : ByteArray), c = [.int .i64 a0, .int .i64 a1, .str a2] ∧ x = [.int a0, .int a1, .str a2] := by
  simp only [fdValue, PurR] at h
  obtain ⟨v0, _, u0, _, rfl, rfl, g0, v1, _, u1, _, rfl, rfl, g1, v2, _, u2, _, rfl, rfl, g2, rfl, rfl⟩ := h
  simp only [PurF] at g0
  obtain ⟨a0, rfl, rfl⟩ := g0
  simp only [PurF] at g1
  obtain ⟨a1, rfl, rfl⟩ := g1
  simp only [PurF] at g2
  obtain ⟨a2, rfl, rfl⟩ := g2
  exact ⟨a0, a1, a2, rfl, rfl⟩
theorem purR_mk_Value (a0 : Int) (a1 : Int) (a2 : ByteArray) : PurR fdValue [.int .i64 a0, .int .i64 a1, .str a2] [.int a0, .int a1, .str a2] := by
  simp only [fdValue, PurR]
  exact ⟨_, _, _, _, rfl, rfl, (by simp only [PurF]; first | exact ⟨a0, rfl, rfl⟩ | exact ⟨a0, rfl⟩ | trivial), _, _, _, _, rfl, rfl, (by simp only [PurF]; first | exact ⟨a1, rfl, rfl⟩ | exact ⟨a1, rfl⟩ | trivial), _, _, _, _, rfl, rfl, (by simp only [PurF]; first | exact ⟨a2, rfl, rfl⟩ | exact ⟨a2, rfl⟩ | trivial), rfl, rfl⟩
theorem purS_Value {p : V} {xs : List (List U)} (hp : PurF (.sub fdValue) p (.sub xs)) : ∃ cl cont, p = .sl cl 3 cont ∧ Zip2 (PurR fdValue) cont xs := by
  simp only [PurF] at hp
  obtain ⟨cl, cont, xs', rfl, e, hz⟩ := hp
  injection e with e
  subst e
  exact ⟨cl, cont, rfl, hz⟩
theorem ownR_Value {h : Heap} {c : List V} {x : List U} {i : List Nat} (ho : OwnR h fdValue c x i) : ∃ (a0 : Int) (a1 : Int) (a2 : ByteArray) , c = [.int .i64 a0, .int .i64 a1, .str a2] ∧ x = [.int a0, .int a1, .str a2] ∧ i = [] := by
  simp only [fdValue, OwnR] at ho
  obtain ⟨v0, _, u0, _, i0, _, rfl, rfl, rfl, g0, v1, _, u1, _, i1, _, rfl, rfl, rfl, g1, v2, _, u2, _, i2, _, rfl, rfl, rfl, g2, rfl, rfl, rfl⟩ := ho
  simp only [OwnF] at g0
  obtain ⟨a0, rfl, rfl, rfl⟩ := g0
  simp only [OwnF] at g1
  obtain ⟨a1, rfl, rfl, rfl⟩ := g1
  simp only [OwnF] at g2
  obtain ⟨a2, rfl, rfl, rfl⟩ := g2
  exact ⟨a0, a1, a2, rfl, rfl, by simp⟩
theorem ownR_mk_Value (h : Heap) (a0 : Int) (a1 : Int) (a2 : ByteArray) : OwnR h fdValue [.int .i64 a0, .int .i64 a1, .str a2] [.int a0, .int a1, .str a2] [] := by
  simp only [fdValue, OwnR]
  exact ⟨_, _, _, _, [], [], rfl, rfl, (by simp), (by simp only [OwnF]; first | exact ⟨a0, rfl, rfl, rfl⟩ | exact ⟨a0, rfl, rfl, trivial⟩ | exact ⟨a0, rfl, rfl⟩ | exact ⟨a0, rfl⟩ | trivial), _, _, _, _, [], [], rfl, rfl, (by simp), (by simp only [OwnF]; first | exact ⟨a1, rfl, rfl, rfl⟩ | exact ⟨a1, rfl, rfl, trivial⟩ | exact ⟨a1, rfl, rfl⟩ | exact ⟨a1, rfl⟩ | trivial), _, _, _, _, [], [], rfl, rfl, (by simp), (by simp only [OwnF]; first | exact ⟨a2, rfl, rfl, rfl⟩ | exact ⟨a2, rfl, rfl, trivial⟩ | exact ⟨a2, rfl, rfl⟩ | exact ⟨a2, rfl⟩ | trivial), rfl, rfl, rfl⟩
theorem heldR_Value {x : List U} {k k' : Int} (h : HeldR fdValue x k k') (h0 : 0 ≤ k) (h1 : k' ≤ 4611686018427387904) : x = [.int k, .int (k + 1), .str (txt (k + 2))] ∧ k' = k + 3 := by
  simp only [fdValue, HeldR] at h
  obtain ⟨u0, _, m0, rfl, g0, u1, _, m1, rfl, g1, u2, _, m2, rfl, g2, rfl, ek⟩ := h
  simp only [HeldF] at g0
  obtain ⟨rfl, rfl⟩ := g0
  simp only [HeldF] at g1
  obtain ⟨rfl, rfl⟩ := g1
  simp only [HeldF] at g2
  obtain ⟨rfl, rfl⟩ := g2
  exact ⟨by simp (disch := omega) only [IntWalk.i64_in, Int.add_assoc, Int.reduceAdd], by simp only [ek, Int.add_assoc, Int.reduceAdd]⟩
theorem heldR_mk_Value (k : Int)  (h0 : 0 ≤ k) (h1 : k + 3 ≤ 4611686018427387904) : HeldR fdValue [.int k, .int (k + 1), .str (txt (k + 2))] k (k + 3) := by
  simp only [fdValue, HeldR]
  exact ⟨_, _, (k + 1), rfl, (by simp only [HeldF]; first | trivial | exact ⟨rfl, by omega⟩ | exact ⟨by simp (disch := omega) only [IntWalk.i64_in], by omega⟩ | (simp (disch := omega) only [IntWalk.i64_in, true_and, Int.add_assoc, Int.reduceAdd]; done) | (simp (disch := omega) only [IntWalk.i64_in, true_and, Int.add_assoc, Int.reduceAdd]; omega)), _, _, (k + 2), rfl, (by simp only [HeldF]; first | trivial | exact ⟨rfl, by omega⟩ | exact ⟨by simp (disch := omega) only [IntWalk.i64_in], by omega⟩ | (simp (disch := omega) only [IntWalk.i64_in, true_and, Int.add_assoc, Int.reduceAdd]; done) | (simp (disch := omega) only [IntWalk.i64_in, true_and, Int.add_assoc, Int.reduceAdd]; omega)), _, _, (k + 3), rfl, (by simp only [HeldF]; first | trivial | exact ⟨rfl, by omega⟩ | exact ⟨by simp (disch := omega) only [IntWalk.i64_in], by omega⟩ | (simp (disch := omega) only [IntWalk.i64_in, true_and, Int.add_assoc, Int.reduceAdd]; done) | (simp (disch := omega) only [IntWalk.i64_in, true_and, Int.add_assoc, Int.reduceAdd]; omega)), rfl, by first | rfl | simp only [Int.add_assoc, Int.reduceAdd]⟩
-- find156
theorem run_szValue (d : Nat) (a0 : Int) (a1 : Int) (a2 : ByteArray) (l : Int) (hb : LenR 9223372036854775807 9223372036854775807 fdValue [.int a0, .int a1, .str a2]) (h0 : 0 ≤ l) (h1 : l ≤ 1048576) : retP (runD tab noExt (d + 1)) 156 [.agg [.int .i64 a0, .int .i64 a1, .str a2], .int .i64 l] = some [.int .i64 (szR fdValue [.int a0, .int a1, .str a2] l)] := by
  rw [retP, runD_eq find156 _ _ _ (by simp)]
  have e0 : (l < 0) = False := eq_false (by omega)
  simp only [fdValue, LenR] at hb
  have hb2 := hb.2.2.1
  simp only [LenF] at hb2
  have hm0 : l - (a2.size : Int) ≤ 1048576 := by omega
  by_cases e1 : (l - (a2.size : Int)) < 0
  · simp -implicitDefEqProofs (disch := omega) only [go_sem, Nat.reduceBEq, Nat.reduceAdd, Nat.reduceSub, Nat.reduceMul, Nat.reduceLeDiff, Nat.reduceEqDiff, Nat.reduceLT, Int.reduceNeg, Int.reduceAdd, Int.reduceSub, Int.reduceMul, Int.reduceLE, Int.reduceLT, Int.reduceEq, Int.reduceToNat, reduceCtorEq, IntWalk.i64_in, szR, szF_int, szF_bool, szF_str, fdValue, e0, e1, if_true, if_false]
  · simp -implicitDefEqProofs (disch := omega) only [go_sem, Nat.reduceBEq, Nat.reduceAdd, Nat.reduceSub, Nat.reduceMul, Nat.reduceLeDiff, Nat.reduceEqDiff, Nat.reduceLT, Int.reduceNeg, Int.reduceAdd, Int.reduceSub, Int.reduceMul, Int.reduceLE, Int.reduceLT, Int.reduceEq, Int.reduceToNat, reduceCtorEq, IntWalk.i64_in, szR, szF_int, szF_bool, szF_str, fdValue, e0, e1, if_true, if_false]
-- find143
theorem run_szValueS (d : Nat) {p : V} {xs : List (List U)} (l : Int) (hp : PurF (.sub fdValue) p (.sub xs)) (hb : LenF 9223372036854775807 9223372036854775807 (.sub fdValue) (.sub xs)) (h0 : 0 ≤ l) (h1 : l ≤ 1048576) : retP (runD tab noExt (d + 2)) 143 [p, .int .i64 l] = some [.int .i64 (szF (.sub fdValue) (.sub xs) l)] := by
  obtain ⟨cl, cont, rfl, hz⟩ := purS_Value hp
  simp only [LenF] at hb
  obtain ⟨hb1, hb2⟩ := hb
  have hl := Zip2_len hz
  rw [retP, runD_eq find143 _ _ _ (by simp)]
  rw [szF, ← hl]
  by_cases e : l - (cont.length : Int) < 0
  · simp -implicitDefEqProofs (disch := omega) only [go_sem, Nat.reduceBEq, Nat.reduceAdd, Nat.reduceSub, Nat.reduceMul, Nat.reduceLeDiff, Nat.reduceEqDiff, Nat.reduceLT, Int.reduceNeg, Int.reduceAdd, Int.reduceSub, Int.reduceMul, Int.reduceLE, Int.reduceLT, Int.reduceEq, Int.reduceToNat, reduceCtorEq, IntWalk.i64_in, e, if_true]
  · have hlp := sz_loop (run := runD tab noExt (d + 1)) (draw := drawI (runD tab noExt (d + 1))) (c := L143x0) (n0 := 0) (SR := szR fdValue) (cl := cl) (sz := 3) hz (fun l K => by
        rw [LoopS_eq]
        simp -implicitDefEqProofs only [go_sem, Nat.reduceBEq, Nat.reduceAdd, Nat.reduceSub, Nat.reduceMul, Nat.reduceLeDiff, Nat.reduceEqDiff, Nat.reduceLT, Int.reduceNeg, Int.reduceAdd, Int.reduceSub, Int.reduceMul, Int.reduceLE, Int.reduceLT, Int.reduceEq, Int.reduceToNat, reduceCtorEq, evL143x0, B143x0, Int.lt_irrefl]) (fun i cc x l K hc hx hi hr h0 h1 => by
        obtain ⟨a0, a1, a2, rfl, rfl⟩ := purR_Value hr
        have hs := AllU_at hb2 hx
        have hm : szR fdValue [.int a0, .int a1, .str a2] l ≤ l := szR_le (by decide) h0 h1
        have he := run_szValue d a0 a1 a2  l hs h0 h1
        generalize szR fdValue [.int a0, .int a1, .str a2] l = r at he hm ⊢
        rw [LoopS_eq]
        by_cases e : r < 0
        · refine .inl ⟨e, .int .i64 r, ?_⟩
          simp -implicitDefEqProofs (disch := omega) only [go_sem, Nat.reduceBEq, Nat.reduceAdd, Nat.reduceSub, Nat.reduceMul, Nat.reduceLeDiff, Nat.reduceEqDiff, Nat.reduceLT, Int.reduceNeg, Int.reduceAdd, Int.reduceSub, Int.reduceMul, Int.reduceLE, Int.reduceLT, Int.reduceEq, Int.reduceToNat, reduceCtorEq, evL143x0, B143x0, hi, hc, he, e, IntWalk.i64_in]
        · refine .inr ⟨by omega, hm, ?_⟩
          simp -implicitDefEqProofs (disch := omega) only [go_sem, Nat.reduceBEq, Nat.reduceAdd, Nat.reduceSub, Nat.reduceMul, Nat.reduceLeDiff, Nat.reduceEqDiff, Nat.reduceLT, Int.reduceNeg, Int.reduceAdd, Int.reduceSub, Int.reduceMul, Int.reduceLE, Int.reduceLT, Int.reduceEq, Int.reduceToNat, reduceCtorEq, evL143x0, B143x0, hi, hc, he, e, IntWalk.i64_in]) (l := l - cont.length) (by omega) (by omega) 1099511627775 (by omega)
    rw [if_neg e]
    simp -implicitDefEqProofs (disch := omega) only [go_sem, Nat.reduceBEq, Nat.reduceAdd, Nat.reduceSub, Nat.reduceMul, Nat.reduceLeDiff, Nat.reduceEqDiff, Nat.reduceLT, Int.reduceNeg, Int.reduceAdd, Int.reduceSub, Int.reduceMul, Int.reduceLE, Int.reduceLT, Int.reduceEq, Int.reduceToNat, reduceCtorEq, IntWalk.i64_in, e]
    rcases hlp with ⟨s1, v, s2⟩ | ⟨s1, s2⟩
    · rw [s2, szZ_neg (by omega) s1]
      simp -implicitDefEqProofs only [go_sem, Nat.reduceBEq, Nat.reduceAdd, Nat.reduceSub, Nat.reduceMul, Nat.reduceLeDiff, Nat.reduceEqDiff, Nat.reduceLT, Int.reduceNeg, Int.reduceAdd, Int.reduceSub, Int.reduceMul, Int.reduceLE, Int.reduceLT, Int.reduceEq, Int.reduceToNat, reduceCtorEq]
    · rw [s2]
      simp -implicitDefEqProofs only [go_sem, Nat.reduceBEq, Nat.reduceAdd, Nat.reduceSub, Nat.reduceMul, Nat.reduceLeDiff, Nat.reduceEqDiff, Nat.reduceLT, Int.reduceNeg, Int.reduceAdd, Int.reduceSub, Int.reduceMul, Int.reduceLE, Int.reduceLT, Int.reduceEq, Int.reduceToNat, reduceCtorEq]
-- find158
theorem run_toValue (d : Nat) (h : Heap) (a0 : Int) (a1 : Int) (a2 : ByteArray) : callX (runD tab noExt (d + 1)) h 0 158 [.agg [.int .i64 a0, .int .i64 a1, .str a2]] = some (.agg [.int .i64 a0, .int .i64 a1, .str a2], h) := by
  simp only [callX, callO, pureDAs, mapO, pureDA, pureD, deepest, Option.map_some]
  rw [runD_eq find158 _ _ _ (by simp)]
  simp -implicitDefEqProofs (disch := omega) only [go_sem, Nat.reduceBEq, Nat.reduceAdd, Nat.reduceSub, Nat.reduceMul, Nat.reduceLeDiff, Nat.reduceEqDiff, Nat.reduceLT, Int.reduceNeg, Int.reduceAdd, Int.reduceSub, Int.reduceMul, Int.reduceLE, Int.reduceLT, Int.reduceEq, Int.reduceToNat, reduceCtorEq, BackO]
-- find146
theorem run_toValueS (d : Nat) : ToOK (d + 2) 146 fdValue := by
  intro p xs hp hx hb
  obtain ⟨cl, cont, rfl, hz⟩ := purS_Value hp
  have hl := Zip2_len hz
  rw [runD_eq find146 _ _ _ (by simp)]
  obtain ⟨h', r, e1, e2, e3⟩ := to_loop (run := runD tab noExt (d + 1)) (draw := drawI (runD tab noExt (d + 1))) (c := L146x0) (zero := [.int .i64 0, .int .i64 0, .str ⟨#[]⟩]) (cl := cl) (sz := 3) hz (fun h K => by
        rw [LoopK_eq]
        simp -implicitDefEqProofs only [go_sem, Nat.reduceBEq, Nat.reduceAdd, Nat.reduceSub, Nat.reduceMul, Nat.reduceLeDiff, Nat.reduceEqDiff, Nat.reduceLT, Int.reduceNeg, Int.reduceAdd, Int.reduceSub, Int.reduceMul, Int.reduceLE, Int.reduceLT, Int.reduceEq, Int.reduceToNat, reduceCtorEq, evL146x0, B146x0, Int.lt_irrefl]) (fun i cc x h C K hc hx hi hr hh hC hCl => by
        obtain ⟨a0, a1, a2, rfl, rfl⟩ := purR_Value hr
        have hi' : i < C.length := by omega
        have hi2 : i < cont.length := by omega
        have hh' : h[0]? = some (.rows 0 3 C) := hh
        have h0 : 0 < h.length := (List.getElem?_eq_some_iff.1 hh).1
        have he := run_toValue d h a0 a1 a2
        refine ⟨h.set 0 (.rows 0 3 (C.set i [.int .i64 a0, .int .i64 a1, .str a2])), _, [], ?_, by rw [List.getElem?_set_self h0]; rfl, ownR_mk_Value _ a0 a1 a2, List.nodup_nil, (fun j hj => by cases hj), (fun j hj _ => by rw [List.getElem?_set_ne (Ne.symm hj)]), by simp⟩
        rw [LoopK_eq]
        simp -implicitDefEqProofs (disch := omega) only [go_sem, Nat.reduceBEq, Nat.reduceAdd, Nat.reduceSub, Nat.reduceMul, Nat.reduceLeDiff, Nat.reduceEqDiff, Nat.reduceLT, Int.reduceNeg, Int.reduceAdd, Int.reduceSub, Int.reduceMul, Int.reduceLE, Int.reduceLT, Int.reduceEq, Int.reduceToNat, reduceCtorEq, evL146x0, B146x0, hi, hi2, hc, he, hh', hC, IntWalk.i64_in, IntWalk.u8_in]) (h := [.rows 0 3 (List.replicate cont.length [.int .i64 0, .int .i64 0, .str ⟨#[]⟩])]) rfl 1099511627775 (by omega)
  have k1 : ((cont.length : Int) < 4294967296) = True := eq_true (by omega)
  simp -implicitDefEqProofs (disch := omega) only [go_sem, Nat.reduceBEq, Nat.reduceAdd, Nat.reduceSub, Nat.reduceMul, Nat.reduceLeDiff, Nat.reduceEqDiff, Nat.reduceLT, Int.reduceNeg, Int.reduceAdd, Int.reduceSub, Int.reduceMul, Int.reduceLE, Int.reduceLT, Int.reduceEq, Int.reduceToNat, reduceCtorEq, small, k1]
  rw [e1]
  simp -implicitDefEqProofs only [go_sem, Nat.reduceBEq, Nat.reduceAdd, Nat.reduceSub, Nat.reduceMul, Nat.reduceLeDiff, Nat.reduceEqDiff, Nat.reduceLT, Int.reduceNeg, Int.reduceAdd, Int.reduceSub, Int.reduceMul, Int.reduceLE, Int.reduceLT, Int.reduceEq, Int.reduceToNat, reduceCtorEq]
  exact ⟨_, _, _, rfl, e2, e3⟩
-- find159
theorem run_eqValue (d : Nat) (a0 : Int) (a1 : Int) (a2 : ByteArray)  : retP (runD tab noExt (d + 1)) 159 [.agg [.int .i64 a0, .int .i64 a1, .str a2], .agg [.int .i64 a0, .int .i64 a1, .str a2]] = some [.bool true] := by
  rw [retP, runD_eq find159 _ _ _ (by simp)]
  simp -implicitDefEqProofs (disch := omega) only [go_sem, Nat.reduceBEq, Nat.reduceAdd, Nat.reduceSub, Nat.reduceMul, Nat.reduceLeDiff, Nat.reduceEqDiff, Nat.reduceLT, Int.reduceNeg, Int.reduceAdd, Int.reduceSub, Int.reduceMul, Int.reduceLE, Int.reduceLT, Int.reduceEq, Int.reduceToNat, reduceCtorEq]
-- find147
theorem run_eqValueS (d : Nat) : EqOK (d + 2) 147 fdValue := by
  intro p q xs hp hq hb
  obtain ⟨cl, cont, rfl, hz⟩ := purS_Value hp
  obtain ⟨cl', cont', rfl, hz'⟩ := purS_Value hq
  simp only [LenF, big] at hb
  have hl := Zip2_len hz
  have hl' := Zip2_len hz'
  rw [retP, runD_eq find147 _ _ _ (by simp)]
  have hlp := eq_loop (run := runD tab noExt (d + 1)) (draw := drawI (runD tab noExt (d + 1))) (c := L147x0) (n0 := 0) (cl := cl) (cl' := cl') (sz := 3) hz hz' (fun K => by
        rw [LoopS_eq, ← hl]
        simp -implicitDefEqProofs only [go_sem, Nat.reduceBEq, Nat.reduceAdd, Nat.reduceSub, Nat.reduceMul, Nat.reduceLeDiff, Nat.reduceEqDiff, Nat.reduceLT, Int.reduceNeg, Int.reduceAdd, Int.reduceSub, Int.reduceMul, Int.reduceLE, Int.reduceLT, Int.reduceEq, Int.reduceToNat, reduceCtorEq, evL147x0, B147x0, Int.lt_irrefl]) (fun i cc cc' x K hc hc' hx hi hr hr' => by
        obtain ⟨a0, a1, a2, rfl, rfl⟩ := purR_Value hr
        obtain ⟨b0, b1, b2, rfl, e⟩ := purR_Value hr'
        simp only [List.cons.injEq, U.int.injEq, U.bool.injEq, U.str.injEq, U.sub.injEq, and_true] at e
        obtain ⟨rfl, rfl, rfl⟩ := e
        have he := run_eqValue d a0 a1 a2 
        rw [LoopS_eq]
        simp -implicitDefEqProofs (disch := omega) only [go_sem, Nat.reduceBEq, Nat.reduceAdd, Nat.reduceSub, Nat.reduceMul, Nat.reduceLeDiff, Nat.reduceEqDiff, Nat.reduceLT, Int.reduceNeg, Int.reduceAdd, Int.reduceSub, Int.reduceMul, Int.reduceLE, Int.reduceLT, Int.reduceEq, Int.reduceToNat, reduceCtorEq, evL147x0, B147x0, evC_draw, evD147x0, E147x0, hi, hc, hc', he, IntWalk.i64_in]) 1099511627775 (by omega)
  simp -implicitDefEqProofs (disch := omega) only [go_sem, Nat.reduceBEq, Nat.reduceAdd, Nat.reduceSub, Nat.reduceMul, Nat.reduceLeDiff, Nat.reduceEqDiff, Nat.reduceLT, Int.reduceNeg, Int.reduceAdd, Int.reduceSub, Int.reduceMul, Int.reduceLE, Int.reduceLT, Int.reduceEq, Int.reduceToNat, reduceCtorEq, hl, hl']
  rw [hlp]
  simp -implicitDefEqProofs only [go_sem, Nat.reduceBEq, Nat.reduceAdd, Nat.reduceSub, Nat.reduceMul, Nat.reduceLeDiff, Nat.reduceEqDiff, Nat.reduceLT, Int.reduceNeg, Int.reduceAdd, Int.reduceSub, Int.reduceMul, Int.reduceLE, Int.reduceLT, Int.reduceEq, Int.reduceToNat, reduceCtorEq]
-- find127
theorem run_heldValueS (d : Nat) : HeldOK (d + 2) 127 fdValue := by
  intro p xs k k' hp hh h0 h1 hb
  obtain ⟨cl, cont, rfl, hz⟩ := purS_Value hp
  simp only [LenF, big] at hb
  simp only [HeldF] at hh
  obtain ⟨xs', e, hh⟩ := hh
  injection e with e
  subst e
  have hl := Zip2_len hz
  rw [retP, runD_eq find127 _ _ _ (by simp)]
  have hlp := held_loop (run := runD tab noExt (d + 1)) (draw := drawI (runD tab noExt (d + 1))) (c := L127x0) (n0 := 0) (R := fun c x => PurR fdValue c x ∧ LenR big big fdValue x) (cl := cl) (sz := 3) (xs := xs) (cont := cont) (Zip2_len2 hz hb.2) (fun x k k' h => HeldR_le fdValue h) (fun k K => by
        rw [LoopS_eq]
        simp -implicitDefEqProofs only [go_sem, Nat.reduceBEq, Nat.reduceAdd, Nat.reduceSub, Nat.reduceMul, Nat.reduceLeDiff, Nat.reduceEqDiff, Nat.reduceLT, Int.reduceNeg, Int.reduceAdd, Int.reduceSub, Int.reduceMul, Int.reduceLE, Int.reduceLT, Int.reduceEq, Int.reduceToNat, reduceCtorEq, evL127x0, B127x0, Int.lt_irrefl]) (fun i cc x k m K hc hx hi hr hhr h0 h1 => by
        obtain ⟨a0, a1, a2, rfl, rfl⟩ := purR_Value hr.1
        have hle := HeldR_le _ hhr
        obtain ⟨e, em⟩ := heldR_Value hhr h0 h1
        subst em
        simp only [List.cons.injEq, U.int.injEq, U.bool.injEq, U.str.injEq, U.sub.injEq, and_true] at e
        obtain ⟨rfl, rfl, rfl⟩ := e
        have ht := fun j (g0 : 0 ≤ j) (g1 : j ≤ 4611686018427387904) => run_markText d j g0 g1
        rw [LoopS_eq]
        simp -implicitDefEqProofs (disch := omega) only [go_sem, Nat.reduceBEq, Nat.reduceAdd, Nat.reduceSub, Nat.reduceMul, Nat.reduceLeDiff, Nat.reduceEqDiff, Nat.reduceLT, Int.reduceNeg, Int.reduceAdd, Int.reduceSub, Int.reduceMul, Int.reduceLE, Int.reduceLT, Int.reduceEq, Int.reduceToNat, reduceCtorEq, evL127x0, B127x0, evC_draw, evD127x0, E127x0, hi, hc, ht, IntWalk.i64_in, IntWalk.u8_in, Int.add_assoc]) hh h0 h1 1099511627775 (by omega)
  simp -implicitDefEqProofs (disch := omega) only [go_sem, Nat.reduceBEq, Nat.reduceAdd, Nat.reduceSub, Nat.reduceMul, Nat.reduceLeDiff, Nat.reduceEqDiff, Nat.reduceLT, Int.reduceNeg, Int.reduceAdd, Int.reduceSub, Int.reduceMul, Int.reduceLE, Int.reduceLT, Int.reduceEq, Int.reduceToNat, reduceCtorEq]
  rw [hlp]
  simp -implicitDefEqProofs only [go_sem, Nat.reduceBEq, Nat.reduceAdd, Nat.reduceSub, Nat.reduceMul, Nat.reduceLeDiff, Nat.reduceEqDiff, Nat.reduceLT, Int.reduceNeg, Int.reduceAdd, Int.reduceSub, Int.reduceMul, Int.reduceLE, Int.reduceLT, Int.reduceEq, Int.reduceToNat, reduceCtorEq]
-- find115
theorem run_markValueS (d : Nat) : MarkOK (d + 2) 115 fdValue := by
  intro h v xs ids k ho hn hb h0 hk
  simp only [cntF] at hk ⊢
  simp only [LenF] at hb
  have ho' := ho
  simp only [OwnF] at ho
  obtain ⟨xs', e, ⟨cl, rfl, rfl, rfl⟩ | ⟨id, st, clip, cont, r, rfl, e2, rfl, ho⟩⟩ := ho <;> injection e with e <;> subst e
  · refine ⟨h, [], ?_, ho', by simp only [HeldF]; exact ⟨[], rfl, by simp [HeldZ, sumU]⟩, by simp [LenF, AllU], fun _ _ => rfl, rfl⟩
    simp only [callX, callK]
    rw [runD_eq find115 _ _ _ (by simp)]
    simp -implicitDefEqProofs (disch := omega) only [go_sem, Nat.reduceBEq, Nat.reduceAdd, Nat.reduceSub, Nat.reduceMul, Nat.reduceLeDiff, Nat.reduceEqDiff, Nat.reduceLT, Int.reduceNeg, Int.reduceAdd, Int.reduceSub, Int.reduceMul, Int.reduceLE, Int.reduceLT, Int.reduceEq, Int.reduceToNat, reduceCtorEq]
    rw [LoopK_eq]
    simp -implicitDefEqProofs only [go_sem, Nat.reduceBEq, Nat.reduceAdd, Nat.reduceSub, Nat.reduceMul, Nat.reduceLeDiff, Nat.reduceEqDiff, Nat.reduceLT, Int.reduceNeg, Int.reduceAdd, Int.reduceSub, Int.reduceMul, Int.reduceLE, Int.reduceLT, Int.reduceEq, Int.reduceToNat, reduceCtorEq, evL115x0, B115x0, Int.lt_irrefl, resOk, sumU, Int.add_zero]
  · have hl := Zip3_len ho
    have hlb : cont.length ≤ 1099511627775 := by have := hb.1; unfold big at this; omega
    obtain ⟨h', ys, f1, f2, f3, f4, f5, f6, f7⟩ := mark_loop (run := runD tab noExt (d + 1)) (draw := drawI (runD tab noExt (d + 1))) (c := L115x0) (fs := fdValue) (id := id) (st := st) (n := cont.length) (clip := clip) (xs := xs) (h := h) (cont := cont) (r := r) (k := k) (fun h k K => by
        rw [LoopK_eq]
        simp -implicitDefEqProofs only [go_sem, Nat.reduceBEq, Nat.reduceAdd, Nat.reduceSub, Nat.reduceMul, Nat.reduceLeDiff, Nat.reduceEqDiff, Nat.reduceLT, Int.reduceNeg, Int.reduceAdd, Int.reduceSub, Int.reduceMul, Int.reduceLE, Int.reduceLT, Int.reduceEq, Int.reduceToNat, reduceCtorEq, evL115x0, B115x0, Int.lt_irrefl]) (fun i h C cc x a k K hi hh hCl hC hr hx hid hnd h0 hk => by
        obtain ⟨a0, a1, a2, rfl, rfl, rfl⟩ := ownR_Value hr
        have hcnt : cntR fdValue [.int a0, .int a1, .str a2] = 1 + 1 + 1 := by simp only [fdValue, cntR, cntF_int, cntF_bool, cntF_str] <;> omega
        rw [hcnt] at hk ⊢
        have hh' : h[id]? = some (.rows st 3 C) := hh
        have hidl : id < h.length := (List.getElem?_eq_some_iff.1 hh').1
        have hi' : i < C.length := by omega
        have hi2 : i < cont.length := by omega
        have ht := fun j (g0 : 0 ≤ j) (g1 : j ≤ 4611686018427387904) => run_markText d j g0 g1
        refine ⟨h.set id (.rows st 3 (C.set i [.int .i64 k, .int .i64 (k + 1), .str (txt (k + 2))])), [.int .i64 k, .int .i64 (k + 1), .str (txt (k + 2))], [.int k, .int (k + 1), .str (txt (k + 2))], ?_, by rw [List.getElem?_set_self hidl]; rfl, ownR_mk_Value _ (k) ((k + 1)) ((txt (k + 2))), ?_, ⟨trivial, trivial, txt_big _, trivial⟩, (fun j hj hj2 => by rw [List.getElem?_set_ne (Ne.symm hj)]), by simp⟩
        · rw [LoopK_eq]
          simp -implicitDefEqProofs (disch := omega) only [go_sem, Nat.reduceBEq, Nat.reduceAdd, Nat.reduceSub, Nat.reduceMul, Nat.reduceLeDiff, Nat.reduceEqDiff, Nat.reduceLT, Int.reduceNeg, Int.reduceAdd, Int.reduceSub, Int.reduceMul, Int.reduceLE, Int.reduceLT, Int.reduceEq, Int.reduceToNat, reduceCtorEq, evL115x0, B115x0, hi, hi2, hh', hC, ht, IntWalk.i64_in, IntWalk.u8_in, refs, refC, frzs, List.contains_nil, List.getElem?_set_self, List.length_set, List.set_set, Int.add_assoc, Int.natCast_add, Int.natCast_one, Int.cast_ofNat_Int, pures, okN, hidl, hi']
        · have hq := heldR_mk_Value k h0 (by omega)
          first | exact hq | (refine cast ?_ hq; simp only [Int.add_assoc, Int.natCast_add, Int.natCast_one, Int.cast_ofNat_Int, Int.reduceAdd]) | (simpa only [Int.add_assoc, Int.natCast_add, Int.natCast_one, Int.cast_ofNat_Int, Int.reduceAdd] using hq)
        ) rfl e2 ho hn hb.2 h0 hk 1099511627775 (by omega)
    refine ⟨h', ys, ?_, f2, by simp only [HeldF]; exact ⟨ys, rfl, f3⟩, by simp only [LenF]; exact ⟨by omega, f5⟩, f6, f7⟩
    simp only [callX, callK]
    rw [runD_eq find115 _ _ _ (by simp)]
    simp -implicitDefEqProofs (disch := omega) only [go_sem, Nat.reduceBEq, Nat.reduceAdd, Nat.reduceSub, Nat.reduceMul, Nat.reduceLeDiff, Nat.reduceEqDiff, Nat.reduceLT, Int.reduceNeg, Int.reduceAdd, Int.reduceSub, Int.reduceMul, Int.reduceLE, Int.reduceLT, Int.reduceEq, Int.reduceToNat, reduceCtorEq]
    rw [f1]
    simp -implicitDefEqProofs only [go_sem, Nat.reduceBEq, Nat.reduceAdd, Nat.reduceSub, Nat.reduceMul, Nat.reduceLeDiff, Nat.reduceEqDiff, Nat.reduceLT, Int.reduceNeg, Int.reduceAdd, Int.reduceSub, Int.reduceMul, Int.reduceLE, Int.reduceLT, Int.reduceEq, Int.reduceToNat, reduceCtorEq, resOk]
/-! ### ValueS -/
def fdValueS : List Fd := [.sub fdValue]
/-! ### Write -/
def fdWrite : List Fd := [.int .i64, .sub fdValue, .bool]
theorem purR_Write {c : List V} {x : List U} (h : PurR fdWrite c x) : ∃ (a0 : Int) (p1 : V) (y1 : List (List U)) (a2 : Bool), c = [.int .i64 a0, p1, .bool a2] ∧ x = [.int a0, .sub y1, .bool a2] ∧ PurF (.sub fdValue) p1 (.sub y1) := by
  simp only [fdWrite, PurR] at h
  obtain ⟨v0, _, u0, _, rfl, rfl, g0, v1, _, u1, _, rfl, rfl, g1, v2, _, u2, _, rfl, rfl, g2, rfl, rfl⟩ := h
  simp only [PurF] at g0
  obtain ⟨a0, rfl, rfl⟩ := g0
  have g1' := g1
  simp only [PurF] at g1'
  obtain ⟨_, _, y1, _, rfl, _⟩ := g1'
  simp only [PurF] at g2
  obtain ⟨a2, rfl, rfl⟩ := g2
  exact ⟨a0, v1, y1, a2, rfl, rfl, g1⟩
theorem purR_mk_Write {a0 : Int} {p1 : V} {y1 : List (List U)} {a2 : Bool} (g1 : PurF (.sub fdValue) p1 (.sub y1)) : PurR fdWrite [.int .i64 a0, p1, .bool a2] [.int a0, .sub y1, .bool a2] := by
  simp only [fdWrite, PurR]
  exact ⟨_, _, _, _, rfl, rfl, (by simp only [PurF]; first | exact ⟨a0, rfl, rfl⟩ | exact ⟨a0, rfl⟩ | trivial), _, _, _, _, rfl, rfl, g1, _, _, _, _, rfl, rfl, (by simp only [PurF]; first | exact ⟨a2, rfl, rfl⟩ | exact ⟨a2, rfl⟩ | trivial), rfl, rfl⟩
theorem purS_Write {p : V} {xs : List (List U)} (hp : PurF (.sub fdWrite) p (.sub xs)) : ∃ cl cont, p = .sl cl 3 cont ∧ Zip2 (PurR fdWrite) cont xs := by
  simp only [PurF] at hp
  obtain ⟨cl, cont, xs', rfl, e, hz⟩ := hp
  injection e with e
  subst e
  exact ⟨cl, cont, rfl, hz⟩
theorem ownR_Write {h : Heap} {c : List V} {x : List U} {i : List Nat} (ho : OwnR h fdWrite c x i) : ∃ (a0 : Int) (p1 : V) (y1 : List (List U)) (a2 : Bool) (i1 : List Nat), c = [.int .i64 a0, p1, .bool a2] ∧ x = [.int a0, .sub y1, .bool a2] ∧ i = i1 ∧ OwnF h (.sub fdValue) p1 (.sub y1) i1 := by
  simp only [fdWrite, OwnR] at ho
  obtain ⟨v0, _, u0, _, i0, _, rfl, rfl, rfl, g0, v1, _, u1, _, i1, _, rfl, rfl, rfl, g1, v2, _, u2, _, i2, _, rfl, rfl, rfl, g2, rfl, rfl, rfl⟩ := ho
  simp only [OwnF] at g0
  obtain ⟨a0, rfl, rfl, rfl⟩ := g0
  have g1' := g1
  simp only [OwnF] at g1'
  obtain ⟨y1, rfl, _⟩ := g1'
  simp only [OwnF] at g2
  obtain ⟨a2, rfl, rfl, rfl⟩ := g2
  exact ⟨a0, v1, y1, a2, i1, rfl, rfl, by simp, g1⟩
theorem ownR_mk_Write {h : Heap} {a0 : Int} {p1 : V} {y1 : List (List U)} {a2 : Bool} {i1 : List Nat} (g1 : OwnF h (.sub fdValue) p1 (.sub y1) i1) : OwnR h fdWrite [.int .i64 a0, p1, .bool a2] [.int a0, .sub y1, .bool a2] (i1) := by
  simp only [fdWrite, OwnR]
  exact ⟨_, _, _, _, [], i1, rfl, rfl, (by simp), (by simp only [OwnF]; first | exact ⟨a0, rfl, rfl, rfl⟩ | exact ⟨a0, rfl, rfl, trivial⟩ | exact ⟨a0, rfl, rfl⟩ | exact ⟨a0, rfl⟩ | trivial), _, _, _, _, i1, [], rfl, rfl, (by simp), g1, _, _, _, _, [], [], rfl, rfl, (by simp), (by simp only [OwnF]; first | exact ⟨a2, rfl, rfl, rfl⟩ | exact ⟨a2, rfl, rfl, trivial⟩ | exact ⟨a2, rfl, rfl⟩ | exact ⟨a2, rfl⟩ | trivial), rfl, rfl, rfl⟩
theorem heldR_Write {x : List U} {k k' : Int} (h : HeldR fdWrite x k k') (h0 : 0 ≤ k) (h1 : k' ≤ 4611686018427387904) : ∃ (y1 : List (List U)) (m1 : Int), x = [.int k, .sub y1, .bool (decide (Int.tmod m1 3 = 0))] ∧ HeldF (.sub fdValue) (.sub y1) (k + 1) m1 ∧ k' = m1 + 1 := by
  simp only [fdWrite, HeldR] at h
  obtain ⟨u0, _, m0, rfl, g0, u1, _, m1, rfl, g1, u2, _, m2, rfl, g2, rfl, ek⟩ := h
  simp only [HeldF] at g0
  obtain ⟨rfl, rfl⟩ := g0
  have l1 := HeldF_le _ g1
  have g1' := g1
  simp only [HeldF] at g1'
  obtain ⟨y1, rfl, _⟩ := g1'
  simp only [HeldF] at g2
  obtain ⟨rfl, rfl⟩ := g2
  exact ⟨y1, m1, by simp (disch := omega) only [IntWalk.i64_in, Int.add_assoc, Int.reduceAdd], by simpa only [Int.add_assoc, Int.reduceAdd] using g1, by simp only [ek, Int.add_assoc, Int.reduceAdd]⟩
theorem heldR_mk_Write (k : Int) (y1 : List (List U)) (m1 : Int) (g1 : HeldF (.sub fdValue) (.sub y1) (k + 1) m1) (h0 : 0 ≤ k) (h1 : m1 + 1 ≤ 4611686018427387904) : HeldR fdWrite [.int k, .sub y1, .bool (decide (Int.tmod m1 3 = 0))] k (m1 + 1) := by
  have l1 := HeldF_le _ g1
  simp only [fdWrite, HeldR]
  exact ⟨_, _, (k + 1), rfl, (by simp only [HeldF]; first | trivial | exact ⟨rfl, by omega⟩ | exact ⟨by simp (disch := omega) only [IntWalk.i64_in], by omega⟩ | (simp (disch := omega) only [IntWalk.i64_in, true_and, Int.add_assoc, Int.reduceAdd]; done) | (simp (disch := omega) only [IntWalk.i64_in, true_and, Int.add_assoc, Int.reduceAdd]; omega)), _, _, m1, rfl, g1, _, _, (m1 + 1), rfl, (by simp only [HeldF]; first | trivial | exact ⟨rfl, by omega⟩ | exact ⟨by simp (disch := omega) only [IntWalk.i64_in], by omega⟩ | (simp (disch := omega) only [IntWalk.i64_in, true_and, Int.add_assoc, Int.reduceAdd]; done) | (simp (disch := omega) only [IntWalk.i64_in, true_and, Int.add_assoc, Int.reduceAdd]; omega)), rfl, by first | rfl | simp only [Int.add_assoc, Int.reduceAdd]⟩
-- find107
theorem run_szWrite (d : Nat) (a0 : Int) (p1 : V) (y1 : List (List U)) (a2 : Bool) (g1 : PurF (.sub fdValue) p1 (.sub y1)) (l : Int) (hb : LenR 9223372036854775807 9223372036854775807 fdWrite [.int a0, .sub y1, .bool a2]) (h0 : 0 ≤ l) (h1 : l ≤ 1048576) : retP (runD tab noExt (d + 3)) 107 [.agg [.int .i64 a0, p1, .bool a2], .int .i64 l] = some [.int .i64 (szR fdWrite [.int a0, .sub y1, .bool a2] l)] := by
  rw [retP, runD_eq find107 _ _ _ (by simp)]
  have e0 : (l < 0) = False := eq_false (by omega)
  simp only [fdWrite, LenR] at hb
  have he0 := run_szValueS d l g1 hb.2.1 (by omega) (by omega)
  have hm0 : szF (.sub fdValue) (.sub y1) l ≤ 1048576 := by have := szF_le (f := .sub fdValue) (u := .sub y1) (l := l) (by decide) (by omega) (by omega); omega
  generalize hr0 : szF (.sub fdValue) (.sub y1) l = r0 at he0 hm0
  by_cases e1 : r0 < 0
  · obtain ⟨cl1, ct1, rfl, hz1⟩ := purS_Value g1; simp -implicitDefEqProofs (disch := omega) only [go_sem, Nat.reduceBEq, Nat.reduceAdd, Nat.reduceSub, Nat.reduceMul, Nat.reduceLeDiff, Nat.reduceEqDiff, Nat.reduceLT, Int.reduceNeg, Int.reduceAdd, Int.reduceSub, Int.reduceMul, Int.reduceLE, Int.reduceLT, Int.reduceEq, Int.reduceToNat, reduceCtorEq, IntWalk.i64_in, szR, szF_int, szF_bool, szF_str, fdWrite, e0, hr0, he0, e1, if_true, if_false]
  · obtain ⟨cl1, ct1, rfl, hz1⟩ := purS_Value g1; simp -implicitDefEqProofs (disch := omega) only [go_sem, Nat.reduceBEq, Nat.reduceAdd, Nat.reduceSub, Nat.reduceMul, Nat.reduceLeDiff, Nat.reduceEqDiff, Nat.reduceLT, Int.reduceNeg, Int.reduceAdd, Int.reduceSub, Int.reduceMul, Int.reduceLE, Int.reduceLT, Int.reduceEq, Int.reduceToNat, reduceCtorEq, IntWalk.i64_in, szR, szF_int, szF_bool, szF_str, fdWrite, e0, hr0, he0, e1, if_true, if_false]
-- find62
theorem run_szWriteS (d : Nat) {p : V} {xs : List (List U)} (l : Int) (hp : PurF (.sub fdWrite) p (.sub xs)) (hb : LenF 9223372036854775807 9223372036854775807 (.sub fdWrite) (.sub xs)) (h0 : 0 ≤ l) (h1 : l ≤ 1048576) : retP (runD tab noExt (d + 4)) 62 [p, .int .i64 l] = some [.int .i64 (szF (.sub fdWrite) (.sub xs) l)] := by
  obtain ⟨cl, cont, rfl, hz⟩ := purS_Write hp
  simp only [LenF] at hb
  obtain ⟨hb1, hb2⟩ := hb
  have hl := Zip2_len hz
  rw [retP, runD_eq find62 _ _ _ (by simp)]
  rw [szF, ← hl]
  by_cases e : l - (cont.length : Int) < 0
  · simp -implicitDefEqProofs (disch := omega) only [go_sem, Nat.reduceBEq, Nat.reduceAdd, Nat.reduceSub, Nat.reduceMul, Nat.reduceLeDiff, Nat.reduceEqDiff, Nat.reduceLT, Int.reduceNeg, Int.reduceAdd, Int.reduceSub, Int.reduceMul, Int.reduceLE, Int.reduceLT, Int.reduceEq, Int.reduceToNat, reduceCtorEq, IntWalk.i64_in, e, if_true]
  · have hlp := sz_loop (run := runD tab noExt (d + 3)) (draw := drawI (runD tab noExt (d + 3))) (c := L62x0) (n0 := 0) (SR := szR fdWrite) (cl := cl) (sz := 3) hz (fun l K => by
        rw [LoopS_eq]
        simp -implicitDefEqProofs only [go_sem, Nat.reduceBEq, Nat.reduceAdd, Nat.reduceSub, Nat.reduceMul, Nat.reduceLeDiff, Nat.reduceEqDiff, Nat.reduceLT, Int.reduceNeg, Int.reduceAdd, Int.reduceSub, Int.reduceMul, Int.reduceLE, Int.reduceLT, Int.reduceEq, Int.reduceToNat, reduceCtorEq, evL62x0, B62x0, Int.lt_irrefl]) (fun i cc x l K hc hx hi hr h0 h1 => by
        obtain ⟨a0, p1, y1, a2, rfl, rfl, g1⟩ := purR_Write hr
        have hs := AllU_at hb2 hx
        have hm : szR fdWrite [.int a0, .sub y1, .bool a2] l ≤ l := szR_le (by decide) h0 h1
        have he := run_szWrite d a0 p1 y1 a2 g1 l hs h0 h1
        obtain ⟨cl1, cont1, rfl, hz1⟩ := purS_Value g1
        generalize szR fdWrite [.int a0, .sub y1, .bool a2] l = r at he hm ⊢
        rw [LoopS_eq]
        by_cases e : r < 0
        · refine .inl ⟨e, .int .i64 r, ?_⟩
          simp -implicitDefEqProofs (disch := omega) only [go_sem, Nat.reduceBEq, Nat.reduceAdd, Nat.reduceSub, Nat.reduceMul, Nat.reduceLeDiff, Nat.reduceEqDiff, Nat.reduceLT, Int.reduceNeg, Int.reduceAdd, Int.reduceSub, Int.reduceMul, Int.reduceLE, Int.reduceLT, Int.reduceEq, Int.reduceToNat, reduceCtorEq, evL62x0, B62x0, hi, hc, he, e, IntWalk.i64_in]
        · refine .inr ⟨by omega, hm, ?_⟩
          simp -implicitDefEqProofs (disch := omega) only [go_sem, Nat.reduceBEq, Nat.reduceAdd, Nat.reduceSub, Nat.reduceMul, Nat.reduceLeDiff, Nat.reduceEqDiff, Nat.reduceLT, Int.reduceNeg, Int.reduceAdd, Int.reduceSub, Int.reduceMul, Int.reduceLE, Int.reduceLT, Int.reduceEq, Int.reduceToNat, reduceCtorEq, evL62x0, B62x0, hi, hc, he, e, IntWalk.i64_in]) (l := l - cont.length) (by omega) (by omega) 1099511627775 (by omega)
    rw [if_neg e]
    simp -implicitDefEqProofs (disch := omega) only [go_sem, Nat.reduceBEq, Nat.reduceAdd, Nat.reduceSub, Nat.reduceMul, Nat.reduceLeDiff, Nat.reduceEqDiff, Nat.reduceLT, Int.reduceNeg, Int.reduceAdd, Int.reduceSub, Int.reduceMul, Int.reduceLE, Int.reduceLT, Int.reduceEq, Int.reduceToNat, reduceCtorEq, IntWalk.i64_in, e]
    rcases hlp with ⟨s1, v, s2⟩ | ⟨s1, s2⟩
    · rw [s2, szZ_neg (by omega) s1]
      simp -implicitDefEqProofs only [go_sem, Nat.reduceBEq, Nat.reduceAdd, Nat.reduceSub, Nat.reduceMul, Nat.reduceLeDiff, Nat.reduceEqDiff, Nat.reduceLT, Int.reduceNeg, Int.reduceAdd, Int.reduceSub, Int.reduceMul, Int.reduceLE, Int.reduceLT, Int.reduceEq, Int.reduceToNat, reduceCtorEq]
    · rw [s2]
      simp -implicitDefEqProofs only [go_sem, Nat.reduceBEq, Nat.reduceAdd, Nat.reduceSub, Nat.reduceMul, Nat.reduceLeDiff, Nat.reduceEqDiff, Nat.reduceLT, Int.reduceNeg, Int.reduceAdd, Int.reduceSub, Int.reduceMul, Int.reduceLE, Int.reduceLT, Int.reduceEq, Int.reduceToNat, reduceCtorEq]
-- find111
theorem run0_toWrite (d : Nat) (a0 : Int) (a2 : Bool) {p1 : V} {y1 : List (List U)} (g1 : PurF (.sub fdValue) p1 (.sub y1)) (b1 : LenF 1048576 1048576 (.sub fdValue) (.sub y1)) : ∃ cells hc ids, runD tab noExt (d + 3) 111 [.agg [.int .i64 a0, p1, .bool a2]] [] = some ([.agg cells], hc) ∧ OwnR hc fdWrite cells [.int a0, .sub y1, .bool a2] ids ∧ ids.Nodup ∧ cells.all scalar = false := by
  rw [runD_eq find111 _ _ _ (by simp)]
  obtain ⟨v1, hc1, j1, r1, o1, n1⟩ := run_toValueS d g1 (by have := b1; simp only [LenF] at this; exact this.1) (by have := b1; simp only [LenF] at this; exact this.2)
  obtain ⟨w1, k1, a1, c11, c12, c13, c14, c15, c16⟩ := own_call (h := ([.box [.int .i64 a0, p1, .bool a2], .box [.int .i64 0, .sl true 3 [], .bool false], .box [.int .i64 a0, .sl true 3 [], .bool false]] : Heap)) (args := [p1]) (by simp only [pureDAs, mapO, pureDA_pur g1]) r1 o1 n1
  have f10 : k1[0]? = some (.box [.int .i64 a0, p1, .bool a2]) := c15 0 (by simp)
  have f11 : k1[1]? = some (.box [.int .i64 0, .sl true 3 [], .bool false]) := c15 1 (by simp)
  have f12 : k1[2]? = some (.box [.int .i64 a0, .sl true 3 [], .bool false]) := c15 2 (by simp)
  have z1 : 2 < k1.length := (List.getElem?_eq_some_iff.1 f12).1
  have L : ∀ (h : Heap) (b c : Blk) (j : Nat), 3 ≤ j → ((h.set 2 b).set 1 c)[j]? = h[j]? := fun h b c j hj => by rw [List.getElem?_set_ne (by omega), List.getElem?_set_ne (by omega)]
  have hw1 := own_cases c12
  refine ⟨[.int .i64 a0, w1, .bool a2], (k1.set 2 (.box [.int .i64 a0, w1, .bool a2])).set 1 (.box [.int .i64 a0, w1, .bool a2]), a1, ?_, ownR_mk_Write ?_, ?_, ?_⟩
  · obtain ⟨cl1, ct1, rfl, hz1⟩ := purS_Value g1
    rcases hw1 with ⟨q1, rfl⟩ | ⟨q1, s1, t1, u1, rfl⟩ <;> simp -implicitDefEqProofs (disch := first | omega | (simp only [List.length_set]; omega)) only [go_sem, Nat.reduceBEq, Nat.reduceAdd, Nat.reduceSub, Nat.reduceMul, Nat.reduceLeDiff, Nat.reduceEqDiff, Nat.reduceLT, Int.reduceNeg, Int.reduceAdd, Int.reduceSub, Int.reduceMul, Int.reduceLE, Int.reduceLT, Int.reduceEq, Int.reduceToNat, reduceCtorEq, c11, f10, f11, f12, z1, List.getElem?_set_self, List.getElem?_set_ne, List.length_set, List.set_set, okN]
  · refine OwnF_frame _ c12 (fun j hj => ?_)
    have g1 := c14 j hj
    have g2 := OwnF_lt _ c12 j hj
    have g3 : 3 ≤ j := by simpa using g1
    rw [L _ _ _ j g3]
  · exact c13
  · rcases hw1 with ⟨q, rfl⟩ | ⟨q, s, t, u, rfl⟩ <;> simp [scalar]
theorem run_toWrite (d : Nat) (h : Heap) (a0 : Int) (a2 : Bool) {p1 : V} {y1 : List (List U)} (g1 : PurF (.sub fdValue) p1 (.sub y1)) (b1 : LenF 1048576 1048576 (.sub fdValue) (.sub y1)) : ∃ cells h' ids, callX (runD tab noExt (d + 3)) h 0 111 [.agg [.int .i64 a0, p1, .bool a2]] = some (.agg cells, h') ∧ OwnR h' fdWrite cells [.int a0, .sub y1, .bool a2] ids ∧ ids.Nodup ∧ (∀ j ∈ ids, h.length ≤ j) ∧ (∀ j, j < h.length → h'[j]? = h[j]?) ∧ h.length ≤ h'.length := by
  obtain ⟨cs, hc, ids, r0, o0, n0, s0⟩ := run0_toWrite d a0 a2 g1 b1
  exact own_callA (args := [.agg [.int .i64 a0, p1, .bool a2]]) (args' := [.agg [.int .i64 a0, p1, .bool a2]]) (by simp only [pureDAs, mapO, pureDA, pureD, deepest, Option.map_some, pureD_pur g1]) r0 o0 n0 s0
-- find66
theorem run_toWriteS (d : Nat) : ToOK (d + 4) 66 fdWrite := by
  intro p xs hp hx hb
  obtain ⟨cl, cont, rfl, hz⟩ := purS_Write hp
  have hl := Zip2_len hz
  rw [runD_eq find66 _ _ _ (by simp)]
  obtain ⟨h', r, e1, e2, e3⟩ := to_loop (run := runD tab noExt (d + 3)) (draw := drawI (runD tab noExt (d + 3))) (c := L66x0) (zero := [.int .i64 0, .sl true 3 [], .bool false]) (cl := cl) (sz := 3) hz (fun h K => by
        rw [LoopK_eq]
        simp -implicitDefEqProofs only [go_sem, Nat.reduceBEq, Nat.reduceAdd, Nat.reduceSub, Nat.reduceMul, Nat.reduceLeDiff, Nat.reduceEqDiff, Nat.reduceLT, Int.reduceNeg, Int.reduceAdd, Int.reduceSub, Int.reduceMul, Int.reduceLE, Int.reduceLT, Int.reduceEq, Int.reduceToNat, reduceCtorEq, evL66x0, B66x0, Int.lt_irrefl]) (fun i cc x h C K hc hx hi hr hh hC hCl => by
        obtain ⟨a0, p1, y1, a2, rfl, rfl, g1⟩ := purR_Write hr
        have hi' : i < C.length := by omega
        have hi2 : i < cont.length := by omega
        have hh' : h[0]? = some (.nest 0 3 C) := hh
        have h0 : 0 < h.length := (List.getElem?_eq_some_iff.1 hh).1
        have hs := AllU_at hb hx
        simp only [LenR, fdWrite] at hs
        obtain ⟨cs, h1, a, c1, c2, c3, c4, c5, c6⟩ := run_toWrite d h a0 a2 g1 hs.2.1
        have h01 : 0 < h1.length := by omega
        have hh1 : h1[0]? = some (.nest 0 3 C) := (c5 0 h0).trans hh'
        have ha0 : 0 ∉ a := fun hm => by have := c4 0 hm; omega
        obtain ⟨b0, w1, z1, b2, i1, rfl, ec, ei, o1⟩ := ownR_Write c2
        refine ⟨h1.set 0 (.nest 0 3 (C.set i _)), _, a, ?_, by rw [List.getElem?_set_self h01]; rfl, OwnR_frame _ c2 (fun j hj => by rw [List.getElem?_set_ne (by rintro rfl; exact ha0 hj)]), c3, c4, (fun j hj hlt => by rw [List.getElem?_set_ne (Ne.symm hj)]; exact c5 j hlt), by simpa using c6⟩
        rw [LoopK_eq]
        obtain ⟨cl1, cont1, rfl, hz1⟩ := purS_Value g1
        rcases own_cases o1 with ⟨k1, rfl⟩ | ⟨id1, st1, m1, k1, rfl⟩ <;> simp -implicitDefEqProofs (disch := omega) only [go_sem, Nat.reduceBEq, Nat.reduceAdd, Nat.reduceSub, Nat.reduceMul, Nat.reduceLeDiff, Nat.reduceEqDiff, Nat.reduceLT, Int.reduceNeg, Int.reduceAdd, Int.reduceSub, Int.reduceMul, Int.reduceLE, Int.reduceLT, Int.reduceEq, Int.reduceToNat, reduceCtorEq, evL66x0, B66x0, hi, hi2, hc, c1, hh1, hC, IntWalk.i64_in, okN]) (h := [.nest 0 3 (List.replicate cont.length [.int .i64 0, .sl true 3 [], .bool false])]) rfl 1099511627775 (by omega)
  have k1 : ((cont.length : Int) < 4294967296) = True := eq_true (by omega)
  simp -implicitDefEqProofs (disch := omega) only [go_sem, Nat.reduceBEq, Nat.reduceAdd, Nat.reduceSub, Nat.reduceMul, Nat.reduceLeDiff, Nat.reduceEqDiff, Nat.reduceLT, Int.reduceNeg, Int.reduceAdd, Int.reduceSub, Int.reduceMul, Int.reduceLE, Int.reduceLT, Int.reduceEq, Int.reduceToNat, reduceCtorEq, small, k1]
  rw [e1]
  simp -implicitDefEqProofs only [go_sem, Nat.reduceBEq, Nat.reduceAdd, Nat.reduceSub, Nat.reduceMul, Nat.reduceLeDiff, Nat.reduceEqDiff, Nat.reduceLT, Int.reduceNeg, Int.reduceAdd, Int.reduceSub, Int.reduceMul, Int.reduceLE, Int.reduceLT, Int.reduceEq, Int.reduceToNat, reduceCtorEq]
  exact ⟨_, _, _, rfl, e2, e3⟩
-- find114
theorem run_eqWrite (d : Nat) (a0 : Int) (a2 : Bool) {p1 p1q : V} {y1 : List (List U)} (g1 : PurF (.sub fdValue) p1 (.sub y1)) (q1 : PurF (.sub fdValue) p1q (.sub y1)) (b1 : LenF big big (.sub fdValue) (.sub y1)) : retP (runD tab noExt (d + 3)) 114 [.agg [.int .i64 a0, p1, .bool a2], .agg [.int .i64 a0, p1q, .bool a2]] = some [.bool true] := by
  rw [retP, runD_eq find114 _ _ _ (by simp)]
  have he1 := run_eqValueS d g1 q1 b1
  obtain ⟨cl1, ct1, rfl, hz1⟩ := purS_Value g1
  obtain ⟨cm1, cu1, rfl, hy1⟩ := purS_Value q1
  simp -implicitDefEqProofs (disch := omega) only [go_sem, Nat.reduceBEq, Nat.reduceAdd, Nat.reduceSub, Nat.reduceMul, Nat.reduceLeDiff, Nat.reduceEqDiff, Nat.reduceLT, Int.reduceNeg, Int.reduceAdd, Int.reduceSub, Int.reduceMul, Int.reduceLE, Int.reduceLT, Int.reduceEq, Int.reduceToNat, reduceCtorEq, he1]
-- find68
theorem run_eqWriteS (d : Nat) : EqOK (d + 4) 68 fdWrite := by
  intro p q xs hp hq hb
  obtain ⟨cl, cont, rfl, hz⟩ := purS_Write hp
  obtain ⟨cl', cont', rfl, hz'⟩ := purS_Write hq
  simp only [LenF, big] at hb
  have hl := Zip2_len hz
  have hl' := Zip2_len hz'
  rw [retP, runD_eq find68 _ _ _ (by simp)]
  have hlp := eq_loop (run := runD tab noExt (d + 3)) (draw := drawI (runD tab noExt (d + 3))) (c := L68x0) (n0 := 0) (cl := cl) (cl' := cl') (sz := 3) hz hz' (fun K => by
        rw [LoopS_eq, ← hl]
        simp -implicitDefEqProofs only [go_sem, Nat.reduceBEq, Nat.reduceAdd, Nat.reduceSub, Nat.reduceMul, Nat.reduceLeDiff, Nat.reduceEqDiff, Nat.reduceLT, Int.reduceNeg, Int.reduceAdd, Int.reduceSub, Int.reduceMul, Int.reduceLE, Int.reduceLT, Int.reduceEq, Int.reduceToNat, reduceCtorEq, evL68x0, B68x0, Int.lt_irrefl]) (fun i cc cc' x K hc hc' hx hi hr hr' => by
        obtain ⟨a0, p1, y1, a2, rfl, rfl, g1⟩ := purR_Write hr
        obtain ⟨b0, p1q, y1q, b2, rfl, e, q1⟩ := purR_Write hr'
        simp only [List.cons.injEq, U.int.injEq, U.bool.injEq, U.str.injEq, U.sub.injEq, and_true] at e
        obtain ⟨rfl, rfl, rfl⟩ := e
        have hs := AllU_at hb.2 hx
        simp only [LenR, fdWrite] at hs
        have he := run_eqWrite d a0 a2 g1 q1 hs.2.1
        obtain ⟨cl1, ct1, rfl, hz1⟩ := purS_Value g1
        obtain ⟨cm1, cu1, rfl, hy1⟩ := purS_Value q1
        rw [LoopS_eq]
        simp -implicitDefEqProofs (disch := omega) only [go_sem, Nat.reduceBEq, Nat.reduceAdd, Nat.reduceSub, Nat.reduceMul, Nat.reduceLeDiff, Nat.reduceEqDiff, Nat.reduceLT, Int.reduceNeg, Int.reduceAdd, Int.reduceSub, Int.reduceMul, Int.reduceLE, Int.reduceLT, Int.reduceEq, Int.reduceToNat, reduceCtorEq, evL68x0, B68x0, evC_draw, evD68x0, E68x0, hi, hc, hc', he, IntWalk.i64_in]) 1099511627775 (by omega)
  simp -implicitDefEqProofs (disch := omega) only [go_sem, Nat.reduceBEq, Nat.reduceAdd, Nat.reduceSub, Nat.reduceMul, Nat.reduceLeDiff, Nat.reduceEqDiff, Nat.reduceLT, Int.reduceNeg, Int.reduceAdd, Int.reduceSub, Int.reduceMul, Int.reduceLE, Int.reduceLT, Int.reduceEq, Int.reduceToNat, reduceCtorEq, hl, hl']
  rw [hlp]
  simp -implicitDefEqProofs only [go_sem, Nat.reduceBEq, Nat.reduceAdd, Nat.reduceSub, Nat.reduceMul, Nat.reduceLeDiff, Nat.reduceEqDiff, Nat.reduceLT, Int.reduceNeg, Int.reduceAdd, Int.reduceSub, Int.reduceMul, Int.reduceLE, Int.reduceLT, Int.reduceEq, Int.reduceToNat, reduceCtorEq]
-- find86
theorem run_heldWriteS (d : Nat) : HeldOK (d + 3) 86 fdWrite := by
  intro p xs k k' hp hh h0 h1 hb
  obtain ⟨cl, cont, rfl, hz⟩ := purS_Write hp
  simp only [LenF, big] at hb
  simp only [HeldF] at hh
  obtain ⟨xs', e, hh⟩ := hh
  injection e with e
  subst e
  have hl := Zip2_len hz
  rw [retP, runD_eq find86 _ _ _ (by simp)]
  have hlp := held_loop (run := runD tab noExt (d + 2)) (draw := drawI (runD tab noExt (d + 2))) (c := L86x0) (n0 := 0) (R := fun c x => PurR fdWrite c x ∧ LenR big big fdWrite x) (cl := cl) (sz := 3) (xs := xs) (cont := cont) (Zip2_len2 hz hb.2) (fun x k k' h => HeldR_le fdWrite h) (fun k K => by
        rw [LoopS_eq]
        simp -implicitDefEqProofs only [go_sem, Nat.reduceBEq, Nat.reduceAdd, Nat.reduceSub, Nat.reduceMul, Nat.reduceLeDiff, Nat.reduceEqDiff, Nat.reduceLT, Int.reduceNeg, Int.reduceAdd, Int.reduceSub, Int.reduceMul, Int.reduceLE, Int.reduceLT, Int.reduceEq, Int.reduceToNat, reduceCtorEq, evL86x0, B86x0, Int.lt_irrefl]) (fun i cc x k m K hc hx hi hr hhr h0 h1 => by
        obtain ⟨a0, p1, y1, a2, rfl, rfl, g1⟩ := purR_Write hr.1
        have hle := HeldR_le _ hhr
        have hs := hr.2
        simp only [LenR, fdWrite] at hs
        obtain ⟨z1, m1, e, k1, em⟩ := heldR_Write hhr h0 h1
        subst em
        simp only [List.cons.injEq, U.int.injEq, U.bool.injEq, U.str.injEq, U.sub.injEq, and_true] at e
        obtain ⟨rfl, rfl, rfl⟩ := e
        have l1 := HeldF_le _ k1
        have he1 := run_heldValueS d g1 k1 (by omega) (by omega) hs.2.1
        have f1 : (m1 < 0) = False := eq_false (by omega)
        obtain ⟨cl1, ct1, rfl, hz1⟩ := purS_Value g1
        rw [LoopS_eq]
        simp -implicitDefEqProofs (disch := omega) only [go_sem, Nat.reduceBEq, Nat.reduceAdd, Nat.reduceSub, Nat.reduceMul, Nat.reduceLeDiff, Nat.reduceEqDiff, Nat.reduceLT, Int.reduceNeg, Int.reduceAdd, Int.reduceSub, Int.reduceMul, Int.reduceLE, Int.reduceLT, Int.reduceEq, Int.reduceToNat, reduceCtorEq, evL86x0, B86x0, hi, hc, he1, f1, IntWalk.i64_in, IntWalk.u8_in, Int.add_assoc]) hh h0 h1 1099511627775 (by omega)
  simp -implicitDefEqProofs (disch := omega) only [go_sem, Nat.reduceBEq, Nat.reduceAdd, Nat.reduceSub, Nat.reduceMul, Nat.reduceLeDiff, Nat.reduceEqDiff, Nat.reduceLT, Int.reduceNeg, Int.reduceAdd, Int.reduceSub, Int.reduceMul, Int.reduceLE, Int.reduceLT, Int.reduceEq, Int.reduceToNat, reduceCtorEq]
  rw [hlp]
  simp -implicitDefEqProofs only [go_sem, Nat.reduceBEq, Nat.reduceAdd, Nat.reduceSub, Nat.reduceMul, Nat.reduceLeDiff, Nat.reduceEqDiff, Nat.reduceLT, Int.reduceNeg, Int.reduceAdd, Int.reduceSub, Int.reduceMul, Int.reduceLE, Int.reduceLT, Int.reduceEq, Int.reduceToNat, reduceCtorEq]
-- find69
theorem run_markWriteS (d : Nat) : MarkOK (d + 3) 69 fdWrite := by
  intro h v xs ids k ho hn hb h0 hk
  simp only [cntF] at hk ⊢
  simp only [LenF] at hb
  have ho' := ho
  simp only [OwnF] at ho
  obtain ⟨xs', e, ⟨cl, rfl, rfl, rfl⟩ | ⟨id, st, clip, cont, r, rfl, e2, rfl, ho⟩⟩ := ho <;> injection e with e <;> subst e
  · refine ⟨h, [], ?_, ho', by simp only [HeldF]; exact ⟨[], rfl, by simp [HeldZ, sumU]⟩, by simp [LenF, AllU], fun _ _ => rfl, rfl⟩
    simp only [callX, callK]
    rw [runD_eq find69 _ _ _ (by simp)]
    simp -implicitDefEqProofs (disch := omega) only [go_sem, Nat.reduceBEq, Nat.reduceAdd, Nat.reduceSub, Nat.reduceMul, Nat.reduceLeDiff, Nat.reduceEqDiff, Nat.reduceLT, Int.reduceNeg, Int.reduceAdd, Int.reduceSub, Int.reduceMul, Int.reduceLE, Int.reduceLT, Int.reduceEq, Int.reduceToNat, reduceCtorEq]
    rw [LoopK_eq]
    simp -implicitDefEqProofs only [go_sem, Nat.reduceBEq, Nat.reduceAdd, Nat.reduceSub, Nat.reduceMul, Nat.reduceLeDiff, Nat.reduceEqDiff, Nat.reduceLT, Int.reduceNeg, Int.reduceAdd, Int.reduceSub, Int.reduceMul, Int.reduceLE, Int.reduceLT, Int.reduceEq, Int.reduceToNat, reduceCtorEq, evL69x0, B69x0, Int.lt_irrefl, resOk, sumU, Int.add_zero]
  · have hl := Zip3_len ho
    have hlb : cont.length ≤ 1099511627775 := by have := hb.1; unfold big at this; omega
    obtain ⟨h', ys, f1, f2, f3, f4, f5, f6, f7⟩ := mark_loop (run := runD tab noExt (d + 2)) (draw := drawI (runD tab noExt (d + 2))) (c := L69x0) (fs := fdWrite) (id := id) (st := st) (n := cont.length) (clip := clip) (xs := xs) (h := h) (cont := cont) (r := r) (k := k) (fun h k K => by
        rw [LoopK_eq]
        simp -implicitDefEqProofs only [go_sem, Nat.reduceBEq, Nat.reduceAdd, Nat.reduceSub, Nat.reduceMul, Nat.reduceLeDiff, Nat.reduceEqDiff, Nat.reduceLT, Int.reduceNeg, Int.reduceAdd, Int.reduceSub, Int.reduceMul, Int.reduceLE, Int.reduceLT, Int.reduceEq, Int.reduceToNat, reduceCtorEq, evL69x0, B69x0, Int.lt_irrefl]) (fun i h C cc x a k K hi hh hCl hC hr hx hid hnd h0 hk => by
        obtain ⟨a0, p1, y1, a2, i1, rfl, rfl, rfl, g1⟩ := ownR_Write hr
        have hcnt : cntR fdWrite [.int a0, .sub y1, .bool a2] = 1 + cntF (.sub fdValue) (.sub y1) + 1 := by simp only [fdWrite, cntR, cntF_int, cntF_bool, cntF_str] <;> omega
        have hct1 : 0 ≤ cntF (.sub fdValue) (.sub y1) := Nat.zero_le _
        rw [hcnt] at hk ⊢
        generalize hcn1 : cntF (.sub fdValue) (.sub y1) = N1 at hk hct1 hcnt ⊢
        have hh' : h[id]? = some (.nest st 3 C) := hh
        have hidl : id < h.length := (List.getElem?_eq_some_iff.1 hh').1
        have hi' : i < C.length := by omega
        have hi2 : i < cont.length := by omega
        have hs := hx
        simp only [LenR, fdWrite] at hs
        obtain ⟨ha1, z1, m11, m12, m13, m14, m15, m16⟩ := run_markValueS d (h := (h.set id (.nest st 3 (C.set i [.int .i64 k, p1, .bool a2])))) (k := (k + 1)) (OwnF_frame _ g1 (fun j hj => by rw [List.getElem?_set_ne (by rintro rfl; exact hid hj)])) hnd hs.2.1 (by omega) (by rw [hcn1]; omega)
        rw [hcn1] at m11 m13
        have hr1 : ha1[id]? = some (.nest st 3 (C.set i [.int .i64 k, p1, .bool a2])) := (m15 id hid).trans (by rw [List.getElem?_set_self hidl])
        have hl1 : id < ha1.length := (List.getElem?_eq_some_iff.1 hr1).1
        refine ⟨ha1.set id (.nest st 3 (C.set i [.int .i64 k, p1, .bool (decide (Int.tmod (k + 1 + (N1 : Int)) 3 = 0))])), [.int .i64 k, p1, .bool (decide (Int.tmod (k + 1 + (N1 : Int)) 3 = 0))], [.int k, .sub z1, .bool (decide (Int.tmod (k + 1 + (N1 : Int)) 3 = 0))], ?_, by rw [List.getElem?_set_self hl1]; rfl, ownR_mk_Write (OwnF_frame _ m12 (fun j hj => by rw [List.getElem?_set_ne (by rintro rfl; exact hid hj)])), ?_, ⟨trivial, m14, trivial, trivial⟩, (fun j hj hj2 => by rw [List.getElem?_set_ne (Ne.symm hj), m15 j hj2, List.getElem?_set_ne (Ne.symm hj)]), by simp only [List.length_set, m16]⟩
        · rw [LoopK_eq]
          simp -implicitDefEqProofs (disch := omega) only [go_sem, Nat.reduceBEq, Nat.reduceAdd, Nat.reduceSub, Nat.reduceMul, Nat.reduceLeDiff, Nat.reduceEqDiff, Nat.reduceLT, Int.reduceNeg, Int.reduceAdd, Int.reduceSub, Int.reduceMul, Int.reduceLE, Int.reduceLT, Int.reduceEq, Int.reduceToNat, reduceCtorEq, evL69x0, B69x0, hi, hi2, hh', hC, m11, hr1, hl1, IntWalk.i64_in, IntWalk.u8_in, refs, refC, frzs, List.contains_nil, List.getElem?_set_self, List.length_set, List.set_set, Int.add_assoc, Int.natCast_add, Int.natCast_one, Int.cast_ofNat_Int, pures, okN, hidl, hi']
        · have hq := heldR_mk_Write k z1 _ m13 h0 (by omega)
          first | exact hq | (refine cast ?_ hq; simp only [Int.add_assoc, Int.natCast_add, Int.natCast_one, Int.cast_ofNat_Int, Int.reduceAdd]) | (simpa only [Int.add_assoc, Int.natCast_add, Int.natCast_one, Int.cast_ofNat_Int, Int.reduceAdd] using hq)
        ) rfl e2 ho hn hb.2 h0 hk 1099511627775 (by omega)
    refine ⟨h', ys, ?_, f2, by simp only [HeldF]; exact ⟨ys, rfl, f3⟩, by simp only [LenF]; exact ⟨by omega, f5⟩, f6, f7⟩
    simp only [callX, callK]
    rw [runD_eq find69 _ _ _ (by simp)]
    simp -implicitDefEqProofs (disch := omega) only [go_sem, Nat.reduceBEq, Nat.reduceAdd, Nat.reduceSub, Nat.reduceMul, Nat.reduceLeDiff, Nat.reduceEqDiff, Nat.reduceLT, Int.reduceNeg, Int.reduceAdd, Int.reduceSub, Int.reduceMul, Int.reduceLE, Int.reduceLT, Int.reduceEq, Int.reduceToNat, reduceCtorEq]
    rw [f1]
    simp -implicitDefEqProofs only [go_sem, Nat.reduceBEq, Nat.reduceAdd, Nat.reduceSub, Nat.reduceMul, Nat.reduceLeDiff, Nat.reduceEqDiff, Nat.reduceLT, Int.reduceNeg, Int.reduceAdd, Int.reduceSub, Int.reduceMul, Int.reduceLE, Int.reduceLT, Int.reduceEq, Int.reduceToNat, reduceCtorEq, resOk]
/-! ### Entry -/
def fdEntry : List Fd := [.int .i64, .sub fdWrite]
theorem purR_Entry {c : List V} {x : List U} (h : PurR fdEntry c x) : ∃ (a0 : Int) (p1 : V) (y1 : List (List U)), c = [.int .i64 a0, p1] ∧ x = [.int a0, .sub y1] ∧ PurF (.sub fdWrite) p1 (.sub y1) := by
  simp only [fdEntry, PurR] at h
  obtain ⟨v0, _, u0, _, rfl, rfl, g0, v1, _, u1, _, rfl, rfl, g1, rfl, rfl⟩ := h
  simp only [PurF] at g0
  obtain ⟨a0, rfl, rfl⟩ := g0
  have g1' := g1
  simp only [PurF] at g1'
  obtain ⟨_, _, y1, _, rfl, _⟩ := g1'
  exact ⟨a0, v1, y1, rfl, rfl, g1⟩
theorem purR_mk_Entry {a0 : Int} {p1 : V} {y1 : List (List U)} (g1 : PurF (.sub fdWrite) p1 (.sub y1)) : PurR fdEntry [.int .i64 a0, p1] [.int a0, .sub y1] := by
  simp only [fdEntry, PurR]
  exact ⟨_, _, _, _, rfl, rfl, (by simp only [PurF]; first | exact ⟨a0, rfl, rfl⟩ | exact ⟨a0, rfl⟩ | trivial), _, _, _, _, rfl, rfl, g1, rfl, rfl⟩
theorem purS_Entry {p : V} {xs : List (List U)} (hp : PurF (.sub fdEntry) p (.sub xs)) : ∃ cl cont, p = .sl cl 2 cont ∧ Zip2 (PurR fdEntry) cont xs := by
  simp only [PurF] at hp
  obtain ⟨cl, cont, xs', rfl, e, hz⟩ := hp
  injection e with e
  subst e
  exact ⟨cl, cont, rfl, hz⟩
theorem ownR_Entry {h : Heap} {c : List V} {x : List U} {i : List Nat} (ho : OwnR h fdEntry c x i) : ∃ (a0 : Int) (p1 : V) (y1 : List (List U)) (i1 : List Nat), c = [.int .i64 a0, p1] ∧ x = [.int a0, .sub y1] ∧ i = i1 ∧ OwnF h (.sub fdWrite) p1 (.sub y1) i1 := by
  simp only [fdEntry, OwnR] at ho
  obtain ⟨v0, _, u0, _, i0, _, rfl, rfl, rfl, g0, v1, _, u1, _, i1, _, rfl, rfl, rfl, g1, rfl, rfl, rfl⟩ := ho
  simp only [OwnF] at g0
  obtain ⟨a0, rfl, rfl, rfl⟩ := g0
  have g1' := g1
  simp only [OwnF] at g1'
  obtain ⟨y1, rfl, _⟩ := g1'
  exact ⟨a0, v1, y1, i1, rfl, rfl, by simp, g1⟩
theorem ownR_mk_Entry {h : Heap} {a0 : Int} {p1 : V} {y1 : List (List U)} {i1 : List Nat} (g1 : OwnF h (.sub fdWrite) p1 (.sub y1) i1) : OwnR h fdEntry [.int .i64 a0, p1] [.int a0, .sub y1] (i1) := by
  simp only [fdEntry, OwnR]
  exact ⟨_, _, _, _, [], i1, rfl, rfl, (by simp), (by simp only [OwnF]; first | exact ⟨a0, rfl, rfl, rfl⟩ | exact ⟨a0, rfl, rfl, trivial⟩ | exact ⟨a0, rfl, rfl⟩ | exact ⟨a0, rfl⟩ | trivial), _, _, _, _, i1, [], rfl, rfl, (by simp), g1, rfl, rfl, rfl⟩
theorem heldR_Entry {x : List U} {k k' : Int} (h : HeldR fdEntry x k k') (h0 : 0 ≤ k) (h1 : k' ≤ 4611686018427387904) : ∃ (y1 : List (List U)) (m1 : Int), x = [.int k, .sub y1] ∧ HeldF (.sub fdWrite) (.sub y1) (k + 1) m1 ∧ k' = m1 := by
  simp only [fdEntry, HeldR] at h
  obtain ⟨u0, _, m0, rfl, g0, u1, _, m1, rfl, g1, rfl, ek⟩ := h
  simp only [HeldF] at g0
  obtain ⟨rfl, rfl⟩ := g0
  have l1 := HeldF_le _ g1
  have g1' := g1
  simp only [HeldF] at g1'
  obtain ⟨y1, rfl, _⟩ := g1'
  exact ⟨y1, m1, by simp (disch := omega) only [IntWalk.i64_in, Int.add_assoc, Int.reduceAdd], by simpa only [Int.add_assoc, Int.reduceAdd] using g1, by simp only [ek, Int.add_assoc, Int.reduceAdd]⟩
theorem heldR_mk_Entry (k : Int) (y1 : List (List U)) (m1 : Int) (g1 : HeldF (.sub fdWrite) (.sub y1) (k + 1) m1) (h0 : 0 ≤ k) (h1 : m1 ≤ 4611686018427387904) : HeldR fdEntry [.int k, .sub y1] k (m1) := by
  have l1 := HeldF_le _ g1
  simp only [fdEntry, HeldR]
  exact ⟨_, _, (k + 1), rfl, (by simp only [HeldF]; first | trivial | exact ⟨rfl, by omega⟩ | exact ⟨by simp (disch := omega) only [IntWalk.i64_in], by omega⟩ | (simp (disch := omega) only [IntWalk.i64_in, true_and, Int.add_assoc, Int.reduceAdd]; done) | (simp (disch := omega) only [IntWalk.i64_in, true_and, Int.add_assoc, Int.reduceAdd]; omega)), _, _, m1, rfl, g1, rfl, by first | rfl | simp only [Int.add_assoc, Int.reduceAdd]⟩
-- find15
theorem run_szEntry (d : Nat) (a0 : Int) (p1 : V) (y1 : List (List U)) (g1 : PurF (.sub fdWrite) p1 (.sub y1)) (l : Int) (hb : LenR 9223372036854775807 9223372036854775807 fdEntry [.int a0, .sub y1]) (h0 : 0 ≤ l) (h1 : l ≤ 1048576) : retP (runD tab noExt (d + 5)) 15 [.agg [.int .i64 a0, p1], .int .i64 l] = some [.int .i64 (szR fdEntry [.int a0, .sub y1] l)] := by
  rw [retP, runD_eq find15 _ _ _ (by simp)]
  have e0 : (l < 0) = False := eq_false (by omega)
  simp only [fdEntry, LenR] at hb
  have he0 := run_szWriteS d l g1 hb.2.1 (by omega) (by omega)
  have hm0 : szF (.sub fdWrite) (.sub y1) l ≤ 1048576 := by have := szF_le (f := .sub fdWrite) (u := .sub y1) (l := l) (by decide) (by omega) (by omega); omega
  generalize hr0 : szF (.sub fdWrite) (.sub y1) l = r0 at he0 hm0
  by_cases e1 : r0 < 0
  · obtain ⟨cl1, ct1, rfl, hz1⟩ := purS_Write g1; simp -implicitDefEqProofs (disch := omega) only [go_sem, Nat.reduceBEq, Nat.reduceAdd, Nat.reduceSub, Nat.reduceMul, Nat.reduceLeDiff, Nat.reduceEqDiff, Nat.reduceLT, Int.reduceNeg, Int.reduceAdd, Int.reduceSub, Int.reduceMul, Int.reduceLE, Int.reduceLT, Int.reduceEq, Int.reduceToNat, reduceCtorEq, IntWalk.i64_in, szR, szF_int, szF_bool, szF_str, fdEntry, e0, hr0, he0, e1, if_true, if_false]
  · obtain ⟨cl1, ct1, rfl, hz1⟩ := purS_Write g1; simp -implicitDefEqProofs (disch := omega) only [go_sem, Nat.reduceBEq, Nat.reduceAdd, Nat.reduceSub, Nat.reduceMul, Nat.reduceLeDiff, Nat.reduceEqDiff, Nat.reduceLT, Int.reduceNeg, Int.reduceAdd, Int.reduceSub, Int.reduceMul, Int.reduceLE, Int.reduceLT, Int.reduceEq, Int.reduceToNat, reduceCtorEq, IntWalk.i64_in, szR, szF_int, szF_bool, szF_str, fdEntry, e0, hr0, he0, e1, if_true, if_false]
-- find40
theorem run_szEntryS (d : Nat) {p : V} {xs : List (List U)} (l : Int) (hp : PurF (.sub fdEntry) p (.sub xs)) (hb : LenF 9223372036854775807 9223372036854775807 (.sub fdEntry) (.sub xs)) (h0 : 0 ≤ l) (h1 : l ≤ 1048576) : retP (runD tab noExt (d + 6)) 40 [p, .int .i64 l] = some [.int .i64 (szF (.sub fdEntry) (.sub xs) l)] := by
  obtain ⟨cl, cont, rfl, hz⟩ := purS_Entry hp
  simp only [LenF] at hb
  obtain ⟨hb1, hb2⟩ := hb
  have hl := Zip2_len hz
  rw [retP, runD_eq find40 _ _ _ (by simp)]
  rw [szF, ← hl]
  by_cases e : l - (cont.length : Int) < 0
  · simp -implicitDefEqProofs (disch := omega) only [go_sem, Nat.reduceBEq, Nat.reduceAdd, Nat.reduceSub, Nat.reduceMul, Nat.reduceLeDiff, Nat.reduceEqDiff, Nat.reduceLT, Int.reduceNeg, Int.reduceAdd, Int.reduceSub, Int.reduceMul, Int.reduceLE, Int.reduceLT, Int.reduceEq, Int.reduceToNat, reduceCtorEq, IntWalk.i64_in, e, if_true]
  · have hlp := sz_loop (run := runD tab noExt (d + 5)) (draw := drawI (runD tab noExt (d + 5))) (c := L40x0) (n0 := 0) (SR := szR fdEntry) (cl := cl) (sz := 2) hz (fun l K => by
        rw [LoopS_eq]
        simp -implicitDefEqProofs only [go_sem, Nat.reduceBEq, Nat.reduceAdd, Nat.reduceSub, Nat.reduceMul, Nat.reduceLeDiff, Nat.reduceEqDiff, Nat.reduceLT, Int.reduceNeg, Int.reduceAdd, Int.reduceSub, Int.reduceMul, Int.reduceLE, Int.reduceLT, Int.reduceEq, Int.reduceToNat, reduceCtorEq, evL40x0, B40x0, Int.lt_irrefl]) (fun i cc x l K hc hx hi hr h0 h1 => by
        obtain ⟨a0, p1, y1, rfl, rfl, g1⟩ := purR_Entry hr
        have hs := AllU_at hb2 hx
        have hm : szR fdEntry [.int a0, .sub y1] l ≤ l := szR_le (by decide) h0 h1
        have he := run_szEntry d a0 p1 y1 g1 l hs h0 h1
        obtain ⟨cl1, cont1, rfl, hz1⟩ := purS_Write g1
        generalize szR fdEntry [.int a0, .sub y1] l = r at he hm ⊢
        rw [LoopS_eq]
        by_cases e : r < 0
        · refine .inl ⟨e, .int .i64 r, ?_⟩
          simp -implicitDefEqProofs (disch := omega) only [go_sem, Nat.reduceBEq, Nat.reduceAdd, Nat.reduceSub, Nat.reduceMul, Nat.reduceLeDiff, Nat.reduceEqDiff, Nat.reduceLT, Int.reduceNeg, Int.reduceAdd, Int.reduceSub, Int.reduceMul, Int.reduceLE, Int.reduceLT, Int.reduceEq, Int.reduceToNat, reduceCtorEq, evL40x0, B40x0, hi, hc, he, e, IntWalk.i64_in]
        · refine .inr ⟨by omega, hm, ?_⟩
          simp -implicitDefEqProofs (disch := omega) only [go_sem, Nat.reduceBEq, Nat.reduceAdd, Nat.reduceSub, Nat.reduceMul, Nat.reduceLeDiff, Nat.reduceEqDiff, Nat.reduceLT, Int.reduceNeg, Int.reduceAdd, Int.reduceSub, Int.reduceMul, Int.reduceLE, Int.reduceLT, Int.reduceEq, Int.reduceToNat, reduceCtorEq, evL40x0, B40x0, hi, hc, he, e, IntWalk.i64_in]) (l := l - cont.length) (by omega) (by omega) 1099511627775 (by omega)
    rw [if_neg e]
    simp -implicitDefEqProofs (disch := omega) only [go_sem, Nat.reduceBEq, Nat.reduceAdd, Nat.reduceSub, Nat.reduceMul, Nat.reduceLeDiff, Nat.reduceEqDiff, Nat.reduceLT, Int.reduceNeg, Int.reduceAdd, Int.reduceSub, Int.reduceMul, Int.reduceLE, Int.reduceLT, Int.reduceEq, Int.reduceToNat, reduceCtorEq, IntWalk.i64_in, e]
    rcases hlp with ⟨s1, v, s2⟩ | ⟨s1, s2⟩
    · rw [s2, szZ_neg (by omega) s1]
      simp -implicitDefEqProofs only [go_sem, Nat.reduceBEq, Nat.reduceAdd, Nat.reduceSub, Nat.reduceMul, Nat.reduceLeDiff, Nat.reduceEqDiff, Nat.reduceLT, Int.reduceNeg, Int.reduceAdd, Int.reduceSub, Int.reduceMul, Int.reduceLE, Int.reduceLT, Int.reduceEq, Int.reduceToNat, reduceCtorEq]
    · rw [s2]
      simp -implicitDefEqProofs only [go_sem, Nat.reduceBEq, Nat.reduceAdd, Nat.reduceSub, Nat.reduceMul, Nat.reduceLeDiff, Nat.reduceEqDiff, Nat.reduceLT, Int.reduceNeg, Int.reduceAdd, Int.reduceSub, Int.reduceMul, Int.reduceLE, Int.reduceLT, Int.reduceEq, Int.reduceToNat, reduceCtorEq]
-- find17
theorem run0_toEntry (d : Nat) (a0 : Int) {p1 : V} {y1 : List (List U)} (g1 : PurF (.sub fdWrite) p1 (.sub y1)) (b1 : LenF 1048576 1048576 (.sub fdWrite) (.sub y1)) : ∃ cells hc ids, runD tab noExt (d + 5) 17 [.agg [.int .i64 a0, p1]] [] = some ([.agg cells], hc) ∧ OwnR hc fdEntry cells [.int a0, .sub y1] ids ∧ ids.Nodup ∧ cells.all scalar = false := by
  rw [runD_eq find17 _ _ _ (by simp)]
  obtain ⟨v1, hc1, j1, r1, o1, n1⟩ := run_toWriteS d g1 (by have := b1; simp only [LenF] at this; exact this.1) (by have := b1; simp only [LenF] at this; exact this.2)
  obtain ⟨w1, k1, a1, c11, c12, c13, c14, c15, c16⟩ := own_call (h := ([.box [.int .i64 a0, p1], .box [.int .i64 0, .sl true 3 []], .box [.int .i64 a0, .sl true 3 []]] : Heap)) (args := [p1]) (by simp only [pureDAs, mapO, pureDA_pur g1]) r1 o1 n1
  have f10 : k1[0]? = some (.box [.int .i64 a0, p1]) := c15 0 (by simp)
  have f11 : k1[1]? = some (.box [.int .i64 0, .sl true 3 []]) := c15 1 (by simp)
  have f12 : k1[2]? = some (.box [.int .i64 a0, .sl true 3 []]) := c15 2 (by simp)
  have z1 : 2 < k1.length := (List.getElem?_eq_some_iff.1 f12).1
  have L : ∀ (h : Heap) (b c : Blk) (j : Nat), 3 ≤ j → ((h.set 2 b).set 1 c)[j]? = h[j]? := fun h b c j hj => by rw [List.getElem?_set_ne (by omega), List.getElem?_set_ne (by omega)]
  have hw1 := own_cases c12
  refine ⟨[.int .i64 a0, w1], (k1.set 2 (.box [.int .i64 a0, w1])).set 1 (.box [.int .i64 a0, w1]), a1, ?_, ownR_mk_Entry ?_, ?_, ?_⟩
  · obtain ⟨cl1, ct1, rfl, hz1⟩ := purS_Write g1
    rcases hw1 with ⟨q1, rfl⟩ | ⟨q1, s1, t1, u1, rfl⟩ <;> simp -implicitDefEqProofs (disch := first | omega | (simp only [List.length_set]; omega)) only [go_sem, Nat.reduceBEq, Nat.reduceAdd, Nat.reduceSub, Nat.reduceMul, Nat.reduceLeDiff, Nat.reduceEqDiff, Nat.reduceLT, Int.reduceNeg, Int.reduceAdd, Int.reduceSub, Int.reduceMul, Int.reduceLE, Int.reduceLT, Int.reduceEq, Int.reduceToNat, reduceCtorEq, c11, f10, f11, f12, z1, List.getElem?_set_self, List.getElem?_set_ne, List.length_set, List.set_set, okN]
  · refine OwnF_frame _ c12 (fun j hj => ?_)
    have g1 := c14 j hj
    have g2 := OwnF_lt _ c12 j hj
    have g3 : 3 ≤ j := by simpa using g1
    rw [L _ _ _ j g3]
  · exact c13
  · rcases hw1 with ⟨q, rfl⟩ | ⟨q, s, t, u, rfl⟩ <;> simp [scalar]
theorem run_toEntry (d : Nat) (h : Heap) (a0 : Int) {p1 : V} {y1 : List (List U)} (g1 : PurF (.sub fdWrite) p1 (.sub y1)) (b1 : LenF 1048576 1048576 (.sub fdWrite) (.sub y1)) : ∃ cells h' ids, callX (runD tab noExt (d + 5)) h 0 17 [.agg [.int .i64 a0, p1]] = some (.agg cells, h') ∧ OwnR h' fdEntry cells [.int a0, .sub y1] ids ∧ ids.Nodup ∧ (∀ j ∈ ids, h.length ≤ j) ∧ (∀ j, j < h.length → h'[j]? = h[j]?) ∧ h.length ≤ h'.length := by
  obtain ⟨cs, hc, ids, r0, o0, n0, s0⟩ := run0_toEntry d a0 g1 b1
  exact own_callA (args := [.agg [.int .i64 a0, p1]]) (args' := [.agg [.int .i64 a0, p1]]) (by simp only [pureDAs, mapO, pureDA, pureD, deepest, Option.map_some, pureD_pur g1]) r0 o0 n0 s0
-- find42
theorem run_toEntryS (d : Nat) : ToOK (d + 6) 42 fdEntry := by
  intro p xs hp hx hb
  obtain ⟨cl, cont, rfl, hz⟩ := purS_Entry hp
  have hl := Zip2_len hz
  rw [runD_eq find42 _ _ _ (by simp)]
  obtain ⟨h', r, e1, e2, e3⟩ := to_loop (run := runD tab noExt (d + 5)) (draw := drawI (runD tab noExt (d + 5))) (c := L42x0) (zero := [.int .i64 0, .sl true 3 []]) (cl := cl) (sz := 2) hz (fun h K => by
        rw [LoopK_eq]
        simp -implicitDefEqProofs only [go_sem, Nat.reduceBEq, Nat.reduceAdd, Nat.reduceSub, Nat.reduceMul, Nat.reduceLeDiff, Nat.reduceEqDiff, Nat.reduceLT, Int.reduceNeg, Int.reduceAdd, Int.reduceSub, Int.reduceMul, Int.reduceLE, Int.reduceLT, Int.reduceEq, Int.reduceToNat, reduceCtorEq, evL42x0, B42x0, Int.lt_irrefl]) (fun i cc x h C K hc hx hi hr hh hC hCl => by
        obtain ⟨a0, p1, y1, rfl, rfl, g1⟩ := purR_Entry hr
        have hi' : i < C.length := by omega
        have hi2 : i < cont.length := by omega
        have hh' : h[0]? = some (.nest 0 2 C) := hh
        have h0 : 0 < h.length := (List.getElem?_eq_some_iff.1 hh).1
        have hs := AllU_at hb hx
        simp only [LenR, fdEntry] at hs
        obtain ⟨cs, h1, a, c1, c2, c3, c4, c5, c6⟩ := run_toEntry d h a0 g1 hs.2.1
        have h01 : 0 < h1.length := by omega
        have hh1 : h1[0]? = some (.nest 0 2 C) := (c5 0 h0).trans hh'
        have ha0 : 0 ∉ a := fun hm => by have := c4 0 hm; omega
        obtain ⟨b0, w1, z1, i1, rfl, ec, ei, o1⟩ := ownR_Entry c2
        refine ⟨h1.set 0 (.nest 0 2 (C.set i _)), _, a, ?_, by rw [List.getElem?_set_self h01]; rfl, OwnR_frame _ c2 (fun j hj => by rw [List.getElem?_set_ne (by rintro rfl; exact ha0 hj)]), c3, c4, (fun j hj hlt => by rw [List.getElem?_set_ne (Ne.symm hj)]; exact c5 j hlt), by simpa using c6⟩
        rw [LoopK_eq]
        obtain ⟨cl1, cont1, rfl, hz1⟩ := purS_Write g1
        rcases own_cases o1 with ⟨k1, rfl⟩ | ⟨id1, st1, m1, k1, rfl⟩ <;> simp -implicitDefEqProofs (disch := omega) only [go_sem, Nat.reduceBEq, Nat.reduceAdd, Nat.reduceSub, Nat.reduceMul, Nat.reduceLeDiff, Nat.reduceEqDiff, Nat.reduceLT, Int.reduceNeg, Int.reduceAdd, Int.reduceSub, Int.reduceMul, Int.reduceLE, Int.reduceLT, Int.reduceEq, Int.reduceToNat, reduceCtorEq, evL42x0, B42x0, hi, hi2, hc, c1, hh1, hC, IntWalk.i64_in, okN]) (h := [.nest 0 2 (List.replicate cont.length [.int .i64 0, .sl true 3 []])]) rfl 1099511627775 (by omega)
  have k1 : ((cont.length : Int) < 4294967296) = True := eq_true (by omega)
  simp -implicitDefEqProofs (disch := omega) only [go_sem, Nat.reduceBEq, Nat.reduceAdd, Nat.reduceSub, Nat.reduceMul, Nat.reduceLeDiff, Nat.reduceEqDiff, Nat.reduceLT, Int.reduceNeg, Int.reduceAdd, Int.reduceSub, Int.reduceMul, Int.reduceLE, Int.reduceLT, Int.reduceEq, Int.reduceToNat, reduceCtorEq, small, k1]
  rw [e1]
  simp -implicitDefEqProofs only [go_sem, Nat.reduceBEq, Nat.reduceAdd, Nat.reduceSub, Nat.reduceMul, Nat.reduceLeDiff, Nat.reduceEqDiff, Nat.reduceLT, Int.reduceNeg, Int.reduceAdd, Int.reduceSub, Int.reduceMul, Int.reduceLE, Int.reduceLT, Int.reduceEq, Int.reduceToNat, reduceCtorEq]
  exact ⟨_, _, _, rfl, e2, e3⟩
-- find20
theorem run_eqEntry (d : Nat) (a0 : Int) {p1 p1q : V} {y1 : List (List U)} (g1 : PurF (.sub fdWrite) p1 (.sub y1)) (q1 : PurF (.sub fdWrite) p1q (.sub y1)) (b1 : LenF big big (.sub fdWrite) (.sub y1)) : retP (runD tab noExt (d + 5)) 20 [.agg [.int .i64 a0, p1], .agg [.int .i64 a0, p1q]] = some [.bool true] := by
  rw [retP, runD_eq find20 _ _ _ (by simp)]
  have he1 := run_eqWriteS d g1 q1 b1
  obtain ⟨cl1, ct1, rfl, hz1⟩ := purS_Write g1
  obtain ⟨cm1, cu1, rfl, hy1⟩ := purS_Write q1
  simp -implicitDefEqProofs (disch := omega) only [go_sem, Nat.reduceBEq, Nat.reduceAdd, Nat.reduceSub, Nat.reduceMul, Nat.reduceLeDiff, Nat.reduceEqDiff, Nat.reduceLT, Int.reduceNeg, Int.reduceAdd, Int.reduceSub, Int.reduceMul, Int.reduceLE, Int.reduceLT, Int.reduceEq, Int.reduceToNat, reduceCtorEq, he1]
-- find37
theorem run_eqEntryS (d : Nat) : EqOK (d + 6) 37 fdEntry := by
  intro p q xs hp hq hb
  obtain ⟨cl, cont, rfl, hz⟩ := purS_Entry hp
  obtain ⟨cl', cont', rfl, hz'⟩ := purS_Entry hq
  simp only [LenF, big] at hb
  have hl := Zip2_len hz
  have hl' := Zip2_len hz'
  rw [retP, runD_eq find37 _ _ _ (by simp)]
  have hlp := eq_loop (run := runD tab noExt (d + 5)) (draw := drawI (runD tab noExt (d + 5))) (c := L37x0) (n0 := 0) (cl := cl) (cl' := cl') (sz := 2) hz hz' (fun K => by
        rw [LoopS_eq, ← hl]
        simp -implicitDefEqProofs only [go_sem, Nat.reduceBEq, Nat.reduceAdd, Nat.reduceSub, Nat.reduceMul, Nat.reduceLeDiff, Nat.reduceEqDiff, Nat.reduceLT, Int.reduceNeg, Int.reduceAdd, Int.reduceSub, Int.reduceMul, Int.reduceLE, Int.reduceLT, Int.reduceEq, Int.reduceToNat, reduceCtorEq, evL37x0, B37x0, Int.lt_irrefl]) (fun i cc cc' x K hc hc' hx hi hr hr' => by
        obtain ⟨a0, p1, y1, rfl, rfl, g1⟩ := purR_Entry hr
        obtain ⟨b0, p1q, y1q, rfl, e, q1⟩ := purR_Entry hr'
        simp only [List.cons.injEq, U.int.injEq, U.bool.injEq, U.str.injEq, U.sub.injEq, and_true] at e
        obtain ⟨rfl, rfl⟩ := e
        have hs := AllU_at hb.2 hx
        simp only [LenR, fdEntry] at hs
        have he := run_eqEntry d a0 g1 q1 hs.2.1
        obtain ⟨cl1, ct1, rfl, hz1⟩ := purS_Write g1
        obtain ⟨cm1, cu1, rfl, hy1⟩ := purS_Write q1
        rw [LoopS_eq]
        simp -implicitDefEqProofs (disch := omega) only [go_sem, Nat.reduceBEq, Nat.reduceAdd, Nat.reduceSub, Nat.reduceMul, Nat.reduceLeDiff, Nat.reduceEqDiff, Nat.reduceLT, Int.reduceNeg, Int.reduceAdd, Int.reduceSub, Int.reduceMul, Int.reduceLE, Int.reduceLT, Int.reduceEq, Int.reduceToNat, reduceCtorEq, evL37x0, B37x0, evC_draw, evD37x0, E37x0, hi, hc, hc', he, IntWalk.i64_in]) 1099511627775 (by omega)
  simp -implicitDefEqProofs (disch := omega) only [go_sem, Nat.reduceBEq, Nat.reduceAdd, Nat.reduceSub, Nat.reduceMul, Nat.reduceLeDiff, Nat.reduceEqDiff, Nat.reduceLT, Int.reduceNeg, Int.reduceAdd, Int.reduceSub, Int.reduceMul, Int.reduceLE, Int.reduceLT, Int.reduceEq, Int.reduceToNat, reduceCtorEq, hl, hl']
  rw [hlp]
  simp -implicitDefEqProofs only [go_sem, Nat.reduceBEq, Nat.reduceAdd, Nat.reduceSub, Nat.reduceMul, Nat.reduceLeDiff, Nat.reduceEqDiff, Nat.reduceLT, Int.reduceNeg, Int.reduceAdd, Int.reduceSub, Int.reduceMul, Int.reduceLE, Int.reduceLT, Int.reduceEq, Int.reduceToNat, reduceCtorEq]
-- find39
theorem run_heldEntryS (d : Nat) : HeldOK (d + 4) 39 fdEntry := by
  intro p xs k k' hp hh h0 h1 hb
  obtain ⟨cl, cont, rfl, hz⟩ := purS_Entry hp
  simp only [LenF, big] at hb
  simp only [HeldF] at hh
  obtain ⟨xs', e, hh⟩ := hh
  injection e with e
  subst e
  have hl := Zip2_len hz
  rw [retP, runD_eq find39 _ _ _ (by simp)]
  have hlp := held_loop (run := runD tab noExt (d + 3)) (draw := drawI (runD tab noExt (d + 3))) (c := L39x0) (n0 := 0) (R := fun c x => PurR fdEntry c x ∧ LenR big big fdEntry x) (cl := cl) (sz := 2) (xs := xs) (cont := cont) (Zip2_len2 hz hb.2) (fun x k k' h => HeldR_le fdEntry h) (fun k K => by
        rw [LoopS_eq]
        simp -implicitDefEqProofs only [go_sem, Nat.reduceBEq, Nat.reduceAdd, Nat.reduceSub, Nat.reduceMul, Nat.reduceLeDiff, Nat.reduceEqDiff, Nat.reduceLT, Int.reduceNeg, Int.reduceAdd, Int.reduceSub, Int.reduceMul, Int.reduceLE, Int.reduceLT, Int.reduceEq, Int.reduceToNat, reduceCtorEq, evL39x0, B39x0, Int.lt_irrefl]) (fun i cc x k m K hc hx hi hr hhr h0 h1 => by
        obtain ⟨a0, p1, y1, rfl, rfl, g1⟩ := purR_Entry hr.1
        have hle := HeldR_le _ hhr
        have hs := hr.2
        simp only [LenR, fdEntry] at hs
        obtain ⟨z1, m1, e, k1, em⟩ := heldR_Entry hhr h0 h1
        rw [em]
        simp only [List.cons.injEq, U.int.injEq, U.bool.injEq, U.str.injEq, U.sub.injEq, and_true] at e
        obtain ⟨rfl, rfl⟩ := e
        have l1 := HeldF_le _ k1
        have he1 := run_heldWriteS d g1 k1 (by omega) (by omega) hs.2.1
        have f1 : (m1 < 0) = False := eq_false (by omega)
        obtain ⟨cl1, ct1, rfl, hz1⟩ := purS_Write g1
        rw [LoopS_eq]
        simp -implicitDefEqProofs (disch := omega) only [go_sem, Nat.reduceBEq, Nat.reduceAdd, Nat.reduceSub, Nat.reduceMul, Nat.reduceLeDiff, Nat.reduceEqDiff, Nat.reduceLT, Int.reduceNeg, Int.reduceAdd, Int.reduceSub, Int.reduceMul, Int.reduceLE, Int.reduceLT, Int.reduceEq, Int.reduceToNat, reduceCtorEq, evL39x0, B39x0, hi, hc, he1, f1, IntWalk.i64_in, IntWalk.u8_in, Int.add_assoc]) hh h0 h1 1099511627775 (by omega)
  simp -implicitDefEqProofs (disch := omega) only [go_sem, Nat.reduceBEq, Nat.reduceAdd, Nat.reduceSub, Nat.reduceMul, Nat.reduceLeDiff, Nat.reduceEqDiff, Nat.reduceLT, Int.reduceNeg, Int.reduceAdd, Int.reduceSub, Int.reduceMul, Int.reduceLE, Int.reduceLT, Int.reduceEq, Int.reduceToNat, reduceCtorEq]
  rw [hlp]
  simp -implicitDefEqProofs only [go_sem, Nat.reduceBEq, Nat.reduceAdd, Nat.reduceSub, Nat.reduceMul, Nat.reduceLeDiff, Nat.reduceEqDiff, Nat.reduceLT, Int.reduceNeg, Int.reduceAdd, Int.reduceSub, Int.reduceMul, Int.reduceLE, Int.reduceLT, Int.reduceEq, Int.reduceToNat, reduceCtorEq]
-- find38
theorem run_markEntryS (d : Nat) : MarkOK (d + 4) 38 fdEntry := by
  intro h v xs ids k ho hn hb h0 hk
  simp only [cntF] at hk ⊢
  simp only [LenF] at hb
  have ho' := ho
  simp only [OwnF] at ho
  obtain ⟨xs', e, ⟨cl, rfl, rfl, rfl⟩ | ⟨id, st, clip, cont, r, rfl, e2, rfl, ho⟩⟩ := ho <;> injection e with e <;> subst e
  · refine ⟨h, [], ?_, ho', by simp only [HeldF]; exact ⟨[], rfl, by simp [HeldZ, sumU]⟩, by simp [LenF, AllU], fun _ _ => rfl, rfl⟩
    simp only [callX, callK]
    rw [runD_eq find38 _ _ _ (by simp)]
    simp -implicitDefEqProofs (disch := omega) only [go_sem, Nat.reduceBEq, Nat.reduceAdd, Nat.reduceSub, Nat.reduceMul, Nat.reduceLeDiff, Nat.reduceEqDiff, Nat.reduceLT, Int.reduceNeg, Int.reduceAdd, Int.reduceSub, Int.reduceMul, Int.reduceLE, Int.reduceLT, Int.reduceEq, Int.reduceToNat, reduceCtorEq]
    rw [LoopK_eq]
    simp -implicitDefEqProofs only [go_sem, Nat.reduceBEq, Nat.reduceAdd, Nat.reduceSub, Nat.reduceMul, Nat.reduceLeDiff, Nat.reduceEqDiff, Nat.reduceLT, Int.reduceNeg, Int.reduceAdd, Int.reduceSub, Int.reduceMul, Int.reduceLE, Int.reduceLT, Int.reduceEq, Int.reduceToNat, reduceCtorEq, evL38x0, B38x0, Int.lt_irrefl, resOk, sumU, Int.add_zero]
  · have hl := Zip3_len ho
    have hlb : cont.length ≤ 1099511627775 := by have := hb.1; unfold big at this; omega
    obtain ⟨h', ys, f1, f2, f3, f4, f5, f6, f7⟩ := mark_loop (run := runD tab noExt (d + 3)) (draw := drawI (runD tab noExt (d + 3))) (c := L38x0) (fs := fdEntry) (id := id) (st := st) (n := cont.length) (clip := clip) (xs := xs) (h := h) (cont := cont) (r := r) (k := k) (fun h k K => by
        rw [LoopK_eq]
        simp -implicitDefEqProofs only [go_sem, Nat.reduceBEq, Nat.reduceAdd, Nat.reduceSub, Nat.reduceMul, Nat.reduceLeDiff, Nat.reduceEqDiff, Nat.reduceLT, Int.reduceNeg, Int.reduceAdd, Int.reduceSub, Int.reduceMul, Int.reduceLE, Int.reduceLT, Int.reduceEq, Int.reduceToNat, reduceCtorEq, evL38x0, B38x0, Int.lt_irrefl]) (fun i h C cc x a k K hi hh hCl hC hr hx hid hnd h0 hk => by
        obtain ⟨a0, p1, y1, i1, rfl, rfl, rfl, g1⟩ := ownR_Entry hr
        have hcnt : cntR fdEntry [.int a0, .sub y1] = 1 + cntF (.sub fdWrite) (.sub y1) := by simp only [fdEntry, cntR, cntF_int, cntF_bool, cntF_str] <;> omega
        have hct1 : 0 ≤ cntF (.sub fdWrite) (.sub y1) := Nat.zero_le _
        rw [hcnt] at hk ⊢
        generalize hcn1 : cntF (.sub fdWrite) (.sub y1) = N1 at hk hct1 hcnt ⊢
        have hh' : h[id]? = some (.nest st 2 C) := hh
        have hidl : id < h.length := (List.getElem?_eq_some_iff.1 hh').1
        have hi' : i < C.length := by omega
        have hi2 : i < cont.length := by omega
        have hs := hx
        simp only [LenR, fdEntry] at hs
        obtain ⟨ha1, z1, m11, m12, m13, m14, m15, m16⟩ := run_markWriteS d (h := (h.set id (.nest st 2 (C.set i [.int .i64 k, p1])))) (k := (k + 1)) (OwnF_frame _ g1 (fun j hj => by rw [List.getElem?_set_ne (by rintro rfl; exact hid hj)])) hnd hs.2.1 (by omega) (by rw [hcn1]; omega)
        rw [hcn1] at m11 m13
        have hr1 : ha1[id]? = some (.nest st 2 (C.set i [.int .i64 k, p1])) := (m15 id hid).trans (by rw [List.getElem?_set_self hidl])
        have hl1 : id < ha1.length := (List.getElem?_eq_some_iff.1 hr1).1
        refine ⟨ha1, [.int .i64 k, p1], [.int k, .sub z1], ?_, by rw [hr1]; first | rfl | (rw [set_same hC]; rfl), ownR_mk_Entry (OwnF_frame _ m12 (fun j hj => rfl)), ?_, ⟨trivial, m14, trivial⟩, (fun j hj hj2 => by rw [m15 j hj2, List.getElem?_set_ne (Ne.symm hj)]), by simp only [List.length_set, m16]⟩
        · rw [LoopK_eq]
          simp -implicitDefEqProofs (disch := omega) only [go_sem, Nat.reduceBEq, Nat.reduceAdd, Nat.reduceSub, Nat.reduceMul, Nat.reduceLeDiff, Nat.reduceEqDiff, Nat.reduceLT, Int.reduceNeg, Int.reduceAdd, Int.reduceSub, Int.reduceMul, Int.reduceLE, Int.reduceLT, Int.reduceEq, Int.reduceToNat, reduceCtorEq, evL38x0, B38x0, hi, hi2, hh', hC, m11, hr1, hl1, IntWalk.i64_in, IntWalk.u8_in, refs, refC, frzs, List.contains_nil, List.getElem?_set_self, List.length_set, List.set_set, Int.add_assoc, Int.natCast_add, Int.natCast_one, Int.cast_ofNat_Int, pures, okN, hidl, hi']
        · have hq := heldR_mk_Entry k z1 _ m13 h0 (by omega)
          first | exact hq | (refine cast ?_ hq; simp only [Int.add_assoc, Int.natCast_add, Int.natCast_one, Int.cast_ofNat_Int, Int.reduceAdd]) | (simpa only [Int.add_assoc, Int.natCast_add, Int.natCast_one, Int.cast_ofNat_Int, Int.reduceAdd] using hq)
        ) rfl e2 ho hn hb.2 h0 hk 1099511627775 (by omega)
    refine ⟨h', ys, ?_, f2, by simp only [HeldF]; exact ⟨ys, rfl, f3⟩, by simp only [LenF]; exact ⟨by omega, f5⟩, f6, f7⟩
    simp only [callX, callK]
    rw [runD_eq find38 _ _ _ (by simp)]
    simp -implicitDefEqProofs (disch := omega) only [go_sem, Nat.reduceBEq, Nat.reduceAdd, Nat.reduceSub, Nat.reduceMul, Nat.reduceLeDiff, Nat.reduceEqDiff, Nat.reduceLT, Int.reduceNeg, Int.reduceAdd, Int.reduceSub, Int.reduceMul, Int.reduceLE, Int.reduceLT, Int.reduceEq, Int.reduceToNat, reduceCtorEq]
    rw [f1]
    simp -implicitDefEqProofs only [go_sem, Nat.reduceBEq, Nat.reduceAdd, Nat.reduceSub, Nat.reduceMul, Nat.reduceLeDiff, Nat.reduceEqDiff, Nat.reduceLT, Int.reduceNeg, Int.reduceAdd, Int.reduceSub, Int.reduceMul, Int.reduceLE, Int.reduceLT, Int.reduceEq, Int.reduceToNat, reduceCtorEq, resOk]
-- find21
end Go.Proofs.Yteaojpfofifmnaa.PE
/- Steps of an exact statement. -/
set_option linter.unusedVariables false
set_option linter.unusedSimpArgs false
namespace Go.Proofs.Yteaojpfofifmnaa.PE
open Go.RowKit

theorem pureDA_int (h : Heap) (k : IntKind) (n : Int) : pureDA h (.int k n) = some (.int k n) := rfl
theorem pureDA_bool (h : Heap) (b : Bool) : pureDA h (.bool b) = some (.bool b) := rfl
theorem pureDA_str (h : Heap) (b : ByteArray) : pureDA h (.str b) = some (.str b) := rfl
theorem retP_some {run : Run} {f : Nat} {args rs : List V} (h : retP run f args = some rs) : ∃ r hc, run f args [] = some (r, hc) ∧ pureRs hc r = some rs := by
  unfold retP PureR at h
  rcases hr : run f args [] with _ | ⟨r, hc⟩
  · rw [hr] at h; cases h
  · rw [hr] at h; exact ⟨r, hc, rfl, h⟩
theorem call_specB {run : Run} {h : Heap} {f : Nat} {args args' rs : List V} (hp : pureDAs h args = some args') (hr : retP run f args' = some rs) : callX run h 1 f args = some (oneOf rs, h.map deadB) := by
  obtain ⟨r, hc, e1, e2⟩ := retP_some hr
  simp only [callX, callD, hp, e1, e2]
theorem pureD_bool {h : Heap} {n : Nat} {v : V} {b : Bool} (hp : pureD h n v = some (.bool b)) : v = .bool b := by
  cases v with
  | bool c => cases n <;> simp [pureD] at hp <;> rw [hp]
  | ref id st off len clip =>
    cases n with
    | zero => simp [pureD] at hp
    | succ n =>
      simp only [pureD] at hp
      split at hp
      · split at hp <;> cases hp
      · split at hp <;> cases hp
      · split at hp
        · obtain ⟨_, _, e⟩ := Option.map_eq_some_iff.1 hp; cases e
        · cases hp
      · cases hp
  | _ => cases n <;> simp [pureD] at hp
theorem pureD_int {h : Heap} {n : Nat} {v : V} {k : IntKind} {b : Int} (hp : pureD h n v = some (.int k b)) : v = .int k b := by
  cases v with
  | int c m => cases n <;> simp [pureD] at hp <;> obtain ⟨rfl, rfl⟩ := hp <;> rfl
  | ref id st off len clip =>
    cases n with
    | zero => simp [pureD] at hp
    | succ n =>
      simp only [pureD] at hp
      split at hp
      · split at hp <;> cases hp
      · split at hp <;> cases hp
      · split at hp
        · obtain ⟨_, _, e⟩ := Option.map_eq_some_iff.1 hp; cases e
        · cases hp
      · cases hp
  | _ => cases n <;> simp [pureD] at hp
theorem pureC_D {h : Heap} {v x : V} (hv : pureC h v = some x) : pureD h 1 v = some x := by
  cases v with
  | ref id st off len clip =>
    simp only [pureC] at hv
    simp only [pureD]
    split at hv
    · rename_i hb; rw [hb]; exact hv
    · rename_i hb; rw [hb]; exact hv
    · cases hv
  | _ => first | exact hv | (simp [pureC] at hv)
theorem pureA_C {h : Heap} {v x : V} (hv : pureA h v = some x) (hx : ∀ cs, x ≠ .agg cs) : pureC h v = some x := by
  unfold pureA at hv
  split at hv
  · obtain ⟨cs, _, e⟩ := Option.map_eq_some_iff.1 hv; exact absurd e.symm (hx cs)
  · exact hv
theorem pureRs_scal {h : Heap} {r : List V} {x : V} (hx : (∃ b, x = .bool b) ∨ ∃ k n, x = .int k n) (hp : pureRs h r = some [x]) : r = [x] := by
  have key : ∀ v, pureA h v = some x → v = x := by
    intro v hv
    have := pureC_D (pureA_C hv (by rintro cs rfl; rcases hx with ⟨b, e⟩ | ⟨k, n, e⟩ <;> cases e))
    rcases hx with ⟨b, rfl⟩ | ⟨k, n, rfl⟩
    · exact pureD_bool this
    · exact pureD_int this
  have key2 : ∀ v, pureDA h v = some x → v = x := by
    intro v hv
    unfold pureDA at hv
    split at hv
    · obtain ⟨_, _, e⟩ := Option.map_eq_some_iff.1 hv
      rcases hx with ⟨b, rfl⟩ | ⟨k, n, rfl⟩ <;> cases e
    · rcases hx with ⟨b, rfl⟩ | ⟨k, n, rfl⟩
      · exact pureD_bool hv
      · exact pureD_int hv
  unfold pureRs OrD at hp
  split at hp
  · rename_i r' hr
    injection hp with hp
    subst hp
    obtain ⟨a1, a2⟩ := pureAs_spec hr
    obtain ⟨v, hv, e⟩ := a2 0 x rfl
    match r, a1, hv with
    | [v'], _, hv => simp at hv; subst hv; rw [key _ e]
  · obtain ⟨a1, a2⟩ := pureDAs_spec hp
    obtain ⟨v, hv, e⟩ := a2 0 x rfl
    match r, a1, hv with
    | [v'], _, hv => simp at hv; subst hv; rw [key2 _ e]
theorem call_bool {run : Run} {h : Heap} {f : Nat} {args args' : List V} {b : Bool} (hp : pureDAs h args = some args') (hr : retP run f args' = some [.bool b]) : callX run h 0 f args = some (.bool b, h) := by
  obtain ⟨r, hc, e1, e2⟩ := retP_some hr
  have := pureRs_scal (.inl ⟨b, rfl⟩) e2
  subst this
  simp only [callX, callO, hp, e1]
  rfl
theorem call_int {run : Run} {h : Heap} {f : Nat} {args args' : List V} {k : IntKind} {b : Int} (hp : pureDAs h args = some args') (hr : retP run f args' = some [.int k b]) : callX run h 0 f args = some (.int k b, h) := by
  obtain ⟨r, hc, e1, e2⟩ := retP_some hr
  have := pureRs_scal (.inr ⟨k, b, rfl⟩) e2
  subst this
  simp only [callX, callO, hp, e1]
  rfl
theorem own_ids {h h' : Heap} {fs : List Fd} {v : V} {u : U} {ids : List Nat} (ho : OwnF h' (.sub fs) v u ids) (hl : ∀ j ∈ ids, h.length ≤ j) : ∀ j ∈ ids, h.length ≤ j ∧ j < h'.length := fun j hj => ⟨hl j hj, OwnF_lt _ ho j hj⟩
end Go.Proofs.Yteaojpfofifmnaa.PE
/- Contents of trees as columns, values, rows, numbers. -/
set_option linter.unusedVariables false
set_option linter.unusedSimpArgs false
namespace Go.Proofs.Yteaojpfofifmnaa.PE
open Go.RowKit

def colU (c : Col) : List U := [.int c.kind, .bool c.empty]
def valU (v : Val) : List U := [.int v.kind, .int v.n, .str v.s]
def vsU (vs : List Val) : List U := [.sub (vs.map valU)]
theorem typ_of {α : Type} {R : List V → List U → Prop} {f : α → List V} {g : α → List U} (h : ∀ c x, R c x → ∃ a, c = f a ∧ x = g a) : ∀ {l1 : List (List V)} {l2 : List (List U)}, Zip2 R l1 l2 → ∃ ls : List α, l1 = ls.map f ∧ l2 = ls.map g
  | [], [], _ => ⟨[], rfl, rfl⟩
  | c :: l1, x :: l2, ⟨h1, h2⟩ => by
    obtain ⟨a, rfl, rfl⟩ := h c x h1
    obtain ⟨ls, rfl, rfl⟩ := typ_of h h2
    exact ⟨a :: ls, rfl, rfl⟩
  | [], _ :: _, h => h.elim
  | _ :: _, [], h => h.elim
theorem zip_map {α : Type} {R : List V → List U → Prop} {f : α → List V} {g : α → List U} (h : ∀ a, R (f a) (g a)) : ∀ (ls : List α), Zip2 R (ls.map f) (ls.map g)
  | [] => trivial
  | a :: ls => ⟨h a, zip_map h ls⟩
theorem pur_map {α : Type} {fs : List Fd} {f : α → List V} {g : α → List U} (h : ∀ a, PurR fs (f a) (g a)) (c : Bool) (n : Nat) (hn : n = fs.length) (ls : List α) : PurF (.sub fs) (.sl c n (ls.map f)) (.sub (ls.map g)) := by
  subst hn
  simp only [PurF]
  exact ⟨c, _, _, rfl, rfl, zip_map h ls⟩
theorem valsU_of {l1 : List (List V)} {l2 : List (List U)} (h : Zip2 (PurR fdValue) l1 l2) : ∃ vs : List Val, l1 = vs.map Val.cells ∧ l2 = vs.map valU :=
  typ_of (fun c x hr => by obtain ⟨a, b, s, rfl, rfl⟩ := purR_Value hr; exact ⟨⟨a, b, s⟩, rfl, rfl⟩) h
theorem valU_inj {a b : Val} (h : valU a = valU b) : a = b := by
  cases a; cases b
  simp only [valU, List.cons.injEq, U.int.injEq, U.str.injEq, and_true] at h
  obtain ⟨rfl, rfl, rfl⟩ := h
  rfl
theorem map_inj {α β : Type} {g : α → β} (hg : ∀ a b, g a = g b → a = b) {l1 l2 : List α} (h : l1.map g = l2.map g) : l1 = l2 := (List.map_inj_right hg).1 h
theorem val_pur (v : Val) : PurR fdValue v.cells (valU v) := purR_mk_Value v.kind v.n v.s
/-- Values of one's own. -/
theorem own_flat {α : Type} {fs : List Fd} {f : α → List V} {g : α → List U} {h : Heap} (ho : ∀ a, OwnR h fs (f a) (g a) []) : ∀ (ls : List α), Zip3 (OwnR h fs) (ls.map f) (ls.map g) []
  | [] => rfl
  | a :: ls => ⟨[], [], rfl, ho a, own_flat ho ls⟩
theorem own_row {α : Type} {fs : List Fd} {f : α → List V} {g : α → List U} {h : Heap} {id st n : Nat} {clip : Bool} (hd : fs.any Fd.deep = false) (ls : List α) (hn : n = ls.length) (hb : h[id]? = some (.rows st fs.length (ls.map f))) (ho : ∀ a, OwnR h fs (f a) (g a) []) : OwnF h (.sub fs) (.ref id st 0 n clip) (.sub (ls.map g)) [id] := by
  simp only [OwnF]
  refine ⟨_, rfl, .inr ⟨id, st, clip, ls.map f, [], by rw [hn, List.length_map], ?_, rfl, own_flat ho ls⟩⟩
  rw [hb]
  unfold blkOf
  rw [hd]
  rfl
theorem own_nil {fs : List Fd} {h : Heap} {c : Bool} {n : Nat} (hn : n = fs.length) : OwnF h (.sub fs) (.sl c n []) (.sub []) [] := by
  subst hn
  rw [OwnF]
  exact ⟨[], rfl, .inl ⟨c, rfl, rfl, rfl⟩⟩
end Go.Proofs.Yteaojpfofifmnaa.PE
/- Rows and columns as trees: what their sizes say, that only their values matter. -/
set_option linter.unusedVariables false
set_option linter.unusedSimpArgs false
set_option maxHeartbeats 4000000
namespace Go.Proofs.Yteaojpfofifmnaa.PE
open Go.RowKit

def rowU (r : Row) : List U := vsU r.vs
end Go.Proofs.Yteaojpfofifmnaa.PE
/- Copies of rows, and whether lists of rows are the same. -/
set_option linter.unusedSimpArgs false
set_option linter.unusedVariables false
set_option maxHeartbeats 4000000
namespace Go.Proofs.Yteaojpfofifmnaa.PE
open Go.RowKit

theorem clipkVal (d : Nat) (l : List (List V)) (n : Nat) (hn : n = l.length) : callX (runD tab noExt (d + 1)) [.rows 0 3 l] 2 123 [.ref 0 0 0 n false] = some (.ref 0 0 0 n true, [.rows 0 3 l]) := by
  subst hn
  simp only [callX, callK]
  rw [runD_eq find123 _ _ _ (by simp)]
  simp -implicitDefEqProofs (disch := omega) only [go_sem, Nat.reduceBEq, Nat.reduceAdd, Nat.reduceSub, Nat.reduceMul, Nat.reduceLeDiff, Nat.reduceEqDiff, Nat.reduceLT, Int.reduceNeg, Int.reduceAdd, Int.reduceSub, Int.reduceMul, Int.reduceLE, Int.reduceLT, Int.reduceEq, Int.reduceToNat, reduceCtorEq, List.take_length, Bool.true_or, resOk]
theorem runcVal (d : Nat) (c : Bool) (l : List (List V)) (h0 : 0 < l.length) (hl : l.length < 4294967296) : runD tab noExt (d + 2) 81 [.sl c 3 l] [] = some ([.ref 0 0 0 l.length true], [.rows 0 3 l]) := by
  rw [runD_eq find81 _ _ _ (by simp)]
  match l, h0, hl with
  | [], h0, _ => exact absurd h0 (by decide)
  | x :: r, _, hl =>
    have h0 : ((r.length : Int) + 1 = 0) = False := eq_false (by omega)
    have h1 : r.length + 1 < 4294967296 := by simpa using hl
    have hc := clipkVal d (x :: r) (r.length + 1) (by simp)
    simp -implicitDefEqProofs (disch := omega) only [go_sem, Nat.reduceBEq, Nat.reduceAdd, Nat.reduceSub, Nat.reduceMul, Nat.reduceLeDiff, Nat.reduceEqDiff, Nat.reduceLT, Int.reduceNeg, Int.reduceAdd, Int.reduceSub, Int.reduceMul, Int.reduceLE, Int.reduceLT, Int.reduceEq, Int.reduceToNat, reduceCtorEq, List.length_cons, h0, h1, hc]
theorem runnVal (d : Nat) (c : Bool) : runD tab noExt (d + 2) 81 [.sl c 3 []] [] = some ([.sl true 3 []], []) := by
  rw [runD_eq find81 _ _ _ (by simp)]
  simp -implicitDefEqProofs (disch := omega) only [go_sem, Nat.reduceBEq, Nat.reduceAdd, Nat.reduceSub, Nat.reduceMul, Nat.reduceLeDiff, Nat.reduceEqDiff, Nat.reduceLT, Int.reduceNeg, Int.reduceAdd, Int.reduceSub, Int.reduceMul, Int.reduceLE, Int.reduceLT, Int.reduceEq, Int.reduceToNat, reduceCtorEq]
/-- A row of one's own. -/
def Row.own (b : Bool) (r : Row) : Row := ⟨b, r.vs⟩
def own (b : Bool) (rs : List Row) : List Row := rs.map (Row.own b)
theorem foldl_snoc {α β : Type} (g : α → β) : ∀ (l : List α) (b : List β), l.foldl (fun b x => b ++ [g x]) b = b ++ l.map g
  | [], b => by simp
  | x :: r, b => by simp [foldl_snoc g r]
def sameVs (a b : List Val) : Bool := decide (a = b)
def vss (rs : List Row) : List (List Val) := rs.map Row.vs
end Go.Proofs.Yteaojpfofifmnaa.PE
/- Rows of rows that grow, element by element, each of memory of its own. -/
set_option linter.unusedVariables false
set_option linter.unusedSimpArgs false
namespace Go.Proofs.Yteaojpfofifmnaa.PE
open Go.RowKit

/-- What has been gathered up to now. -/
def Grown (fs : List Fd) (id : Nat) (h : Heap) (done : List (List V)) (xs : List (List U)) : Prop :=
  h[id]? = some (blkOf fs done.length done) ∧ ∃ ids, Zip3 (OwnR h fs) done xs ids ∧ (id :: ids).Nodup
theorem Grown.nest {fs : List Fd} {id : Nat} {h : Heap} {done : List (List V)} {xs : List (List U)} (g : Grown fs id h done xs) (hd : fs.any Fd.deep = true) : h[id]? = some (.nest done.length fs.length done) := by
  have := g.1
  unfold blkOf at this
  rw [hd] at this
  exact this
theorem Grown.len {fs : List Fd} {id : Nat} {h : Heap} {done : List (List V)} {xs : List (List U)} (g : Grown fs id h done xs) : done.length = xs.length := by
  obtain ⟨_, ids, z, _⟩ := g
  exact Zip3_len z
theorem Grown.lt {fs : List Fd} {id : Nat} {h : Heap} {done : List (List V)} {xs : List (List U)} (g : Grown fs id h done xs) : id < h.length := (List.getElem?_eq_some_iff.1 g.1).1
theorem Grown.start {fs : List Fd} {id : Nat} {h : Heap} (hb : h[id]? = some (blkOf fs 0 [])) : Grown fs id h [] [] := ⟨hb, [], rfl, by simp⟩
theorem Grown.frame {fs : List Fd} {id : Nat} {h h1 : Heap} {done : List (List V)} {xs : List (List U)} (g : Grown fs id h done xs) (keep : ∀ j, j < h.length → h1[j]? = h[j]?) : Grown fs id h1 done xs := by
  obtain ⟨g1, ids, z, nd⟩ := g
  refine ⟨(keep id (List.getElem?_eq_some_iff.1 g1).1).trans g1, ids, ?_, nd⟩
  exact Zip3_mono (P := fun _ => True) (fun c x i hr _ => OwnR_frame _ hr (fun j hj => keep j (OwnR_lt _ hr j hj))) z (fun _ _ => trivial)
theorem Grown.add {fs : List Fd} {id : Nat} {h h1 h2 : Heap} {done : List (List V)} {xs : List (List U)} {cells : List V} {x : List U} {js : List Nat} (g : Grown fs id h done xs) (own : OwnR h1 fs cells x js) (nd : js.Nodup)
    (fresh : ∀ j ∈ js, h.length ≤ j) (keep : ∀ j, j < h.length → h1[j]? = h[j]?) (e2 : h2 = h1.set id (blkOf fs (done.length + 1) (done ++ [cells]))) : Grown fs id h2 (done ++ [cells]) (xs ++ [x]) := by
  subst e2
  have hlt := g.lt
  obtain ⟨g1, ids, z, nd1⟩ := g
  have hl1 : id < h1.length := by
    have := keep id hlt
    rw [List.getElem?_eq_getElem hlt] at this
    exact (List.getElem?_eq_some_iff.1 this).1
  obtain ⟨n1, n2⟩ := List.nodup_cons.1 nd1
  have hids : ∀ j ∈ ids, j < h.length := Zip3_all (fun c x i hr => OwnR_lt fs hr) z
  refine ⟨by rw [List.getElem?_set_self hl1, List.length_append]; rfl, ids ++ js, Zip3_app (Zip3_mono (P := fun j => j ∈ ids) (fun c x i hr hp => OwnR_frame fs hr (fun j hj => ?_)) z (fun _ hm => hm)) (Zip3_one (OwnR_frame fs own (fun j hj => ?_))), ?_⟩
  · have hne : id ≠ j := fun e => n1 (e ▸ hp j hj)
    rw [List.getElem?_set_ne hne]
    exact keep j (hids j (hp j hj))
  · have hne : id ≠ j := fun e => by have := fresh j hj; omega
    rw [List.getElem?_set_ne hne]
  · refine List.nodup_cons.2 ⟨fun hm => ?_, List.nodup_append.2 ⟨n2, nd, fun p hp q hq => ?_⟩⟩
    · rcases List.mem_append.1 hm with hm | hm
      · exact n1 hm
      · have := fresh id hm; omega
    · have := hids p hp
      have := fresh q hq
      omega
theorem Grown.set {fs : List Fd} {id : Nat} {h h1 : Heap} {done : List (List V)} {xs : List (List U)} {k : Nat} {b : Blk} (g : Grown fs id h done xs) (hk : h.length ≤ k) : Grown fs id (h.set k b) done xs := by
  rw [List.set_eq_of_length_le hk]
  exact g
theorem Grown.own {fs : List Fd} {id : Nat} {h : Heap} {done : List (List V)} {xs : List (List U)} {n : Nat} {clip : Bool} (g : Grown fs id h done xs) (hn : n = done.length) : ∃ ids, OwnF h (.sub fs) (.ref id n 0 n clip) (.sub xs) ids ∧ ids.Nodup := by
  subst hn
  obtain ⟨g1, ids, z, nd⟩ := g
  refine ⟨id :: ids, ?_, nd⟩
  simp only [OwnF]
  exact ⟨xs, rfl, .inr ⟨id, done.length, clip, done, ids, rfl, g1, rfl, z⟩⟩
end Go.Proofs.Yteaojpfofifmnaa.PE
/- Copies of rows as memory of one's own. -/
set_option linter.unusedVariables false
set_option linter.unusedSimpArgs false
set_option maxHeartbeats 4000000
namespace Go.Proofs.Yteaojpfofifmnaa.PE
open Go.RowKit

theorem val_own (h : Heap) (v : Val) : OwnR h fdValue v.cells (valU v) [] := ownR_mk_Value h v.kind v.n v.s
theorem own_cloneVal (d : Nat) (c : Bool) (vs : List Val) (hl : vs.length < 4294967296) : ∃ v hc ids, runD tab noExt (d + 2) 81 [.sl c 3 (vs.map Val.cells)] [] = some ([v], hc) ∧ OwnF hc (.sub fdValue) v (.sub (vs.map valU)) ids ∧ ids.Nodup := by
  match vs, hl with
  | [], _ => exact ⟨_, _, [], runnVal d c, own_nil rfl, List.nodup_nil⟩
  | x :: r, hl => exact ⟨_, _, [0], runcVal d c ((x :: r).map Val.cells) (by simp) (by simpa using hl), own_row rfl (x :: r) (by simp) rfl (val_own _), by simp⟩
end Go.Proofs.Yteaojpfofifmnaa.PE
/- Sizes of trees of values, rows, columns. -/
set_option linter.unusedVariables false
set_option linter.unusedSimpArgs false
namespace Go.Proofs.Yteaojpfofifmnaa.PE
open Go.RowKit

theorem sum_all {c : List U → Nat} {n : Nat} : ∀ {xs : List (List U)}, (∀ x ∈ xs, c x ≤ n) → sumU c xs ≤ n * xs.length
  | [], _ => by simp [sumU]
  | x :: xs, h => by
    have := sum_all (fun y hy => h y (List.mem_cons_of_mem _ hy)) (xs := xs)
    have := h x List.mem_cons_self
    simp only [sumU, List.length_cons, Nat.mul_add, Nat.mul_one]
    omega
theorem all_of {P : List U → Prop} : ∀ {xs : List (List U)}, (∀ x ∈ xs, P x) → AllU P xs
  | [], _ => trivial
  | x :: xs, h => ⟨h x List.mem_cons_self, all_of (fun y hy => h y (List.mem_cons_of_mem _ hy))⟩
theorem vals_len {n m : Nat} {vs : List Val} (h1 : vs.length ≤ n) (h2 : ∀ v ∈ vs, v.s.size ≤ m) : LenF n m (.sub fdValue) (.sub (vs.map valU)) := by
  simp only [LenF, List.length_map]
  refine ⟨h1, all_of (fun x hx => ?_)⟩
  obtain ⟨v, hv, rfl⟩ := List.mem_map.1 hx
  simp only [fdValue, valU, LenR, LenF, true_and, and_true]
  exact h2 v hv
theorem vals_cnt (vs : List Val) : cntF (.sub fdValue) (.sub (vs.map valU)) = 3 * vs.length := by
  simp only [cntF]
  induction vs with
  | nil => rfl
  | cons v vs ih =>
    have e : cntR fdValue (valU v) = 3 := rfl
    simp only [List.map_cons, sumU, e, ih, List.length_cons]
    omega
end Go.Proofs.Yteaojpfofifmnaa.PE
/- Whether two lists of values are the same. -/
set_option linter.unusedVariables false
set_option linter.unusedSimpArgs false
set_option maxHeartbeats 4000000
namespace Go.Proofs.Yteaojpfofifmnaa.PE
open Go.RowKit

end Go.Proofs.Yteaojpfofifmnaa.PE
/- Copies of writes and logs: the program's, as memory of one's own; the reference's. -/
set_option linter.unusedSimpArgs false
set_option linter.unusedVariables false
set_option maxHeartbeats 4000000
namespace Go.Proofs.Yteaojpfofifmnaa.PE
open Go.RowKit

def wrU (w : Wr) : List U := [.int w.key, .sub (w.row.vs.map valU), .bool w.gone]
def entU (e : Ent) : List U := [.int e.time, .sub (e.ws.map wrU)]
def FineW (ws : List Wr) : Prop := ws.length < 1099511627776 ∧ ws.length < 4294967296 ∧ ∀ w ∈ ws, w.row.vs.length < 4294967296
theorem grow_write {h : Heap} {done : List (List V)} {xs : List (List U)} (g : Grown fdWrite 0 h done xs) (d : Nat) (key : Int) (rc : Bool) (vs : List Val) (gone : Bool) (hl : vs.length < 4294967296) :
    ∃ v h1, callX (runD tab noExt (d + 2)) (h ++ [.box [.int .i64 key, .sl rc 3 (vs.map Val.cells), .bool gone]]) 0 81 [.sl rc 3 (vs.map Val.cells)] = some (v, h1) ∧ h1[h.length]? = some (.box [.int .i64 key, .sl rc 3 (vs.map Val.cells), .bool gone]) ∧ h.length < h1.length ∧ ((∃ c, v = .sl c 3 []) ∨ ∃ id st n clip, v = .ref id st 0 n clip) ∧
      (h1.set h.length (.box [.int .i64 key, v, .bool gone]))[0]? = some (.nest done.length 3 done) ∧
      Grown fdWrite 0 ((h1.set h.length (.box [.int .i64 key, v, .bool gone])).set 0 (.nest (done.length + 1) 3 (done ++ [[.int .i64 key, v, .bool gone]]))) (done ++ [[.int .i64 key, v, .bool gone]]) (xs ++ [[.int key, .sub (vs.map valU), .bool gone]]) := by
  obtain ⟨v, hc, is0, e1, e2, e3⟩ := own_cloneVal d rc vs hl
  obtain ⟨w, h1, js, k1, k2, k3, k4, k5, k6⟩ := own_call (h := h ++ [.box [.int .i64 key, .sl rc 3 (vs.map Val.cells), .bool gone]]) (args := [.sl rc 3 (vs.map Val.cells)]) (by simp only [pureDAs, mapO, pureDA, pureD]) e1 e2 e3
  have hl0 : (h ++ [Blk.box [.int .i64 key, .sl rc 3 (vs.map Val.cells), .bool gone]]).length = h.length + 1 := by simp
  rw [hl0] at k4 k5 k6
  have hb : h1[h.length]? = some (.box [.int .i64 key, .sl rc 3 (vs.map Val.cells), .bool gone]) := (k5 _ (by omega)).trans (by simp)
  have hlt := g.lt
  have k5' : ∀ j, j < h.length → (h1.set h.length (.box [.int .i64 key, w, .bool gone]))[j]? = h[j]? := fun j hj => by
    rw [List.getElem?_set_ne (by omega), k5 j (by omega), List.getElem?_append_left hj]
  refine ⟨w, h1, k1, hb, by omega, own_cases k2, (k5' 0 hlt).trans (g.nest (by rfl)), ?_⟩
  refine g.add (OwnR_frame _ (ownR_mk_Write k2) (fun j hj => ?_)) k3 (fun j hj => by have := k4 j hj; omega) k5' rfl
  have := k4 j hj
  rw [List.getElem?_set_ne (by omega)]
-- find77
theorem own_writesCopy (d : Nat) (c : Bool) (ws : List Wr) (hf : FineW ws) : ∃ v hc ids, runD tab noExt (d + 3) 77 [.sl c 3 (ws.map Wr.cells)] [] = some ([v], hc) ∧ OwnF hc (.sub fdWrite) v (.sub (ws.map wrU)) ids ∧ ids.Nodup := by
  obtain ⟨hf0, hf1, hf2⟩ := hf
  obtain ⟨⟨h', done⟩, ⟨g1, g2⟩, e⟩ := LoopK_inv (run := runD tab noExt (d + 2)) (draw := drawI (runD tab noExt (d + 2))) (live := [3, 6, 7, 8]) (out := [3]) (c := L77x0) ws.length
    (fun i (b : Heap × List (List V)) => Grown fdWrite 0 b.1 b.2 ((ws.take i).map wrU) ∧ b.2.length = i)
    (fun i b => [(3, .ref 0 b.2.length 0 b.2.length false), (6, .sl c 3 (ws.map Wr.cells)), (7, .int .i64 ws.length), (8, .int .i64 (i : Nat))]) (fun b => b.1) (fun b => some (.exit 0, [(3, .ref 0 b.2.length 0 b.2.length false)], b.1))
    (fun b K hb => by
      rw [LoopK_eq]
      simp -implicitDefEqProofs only [go_sem, Nat.reduceBEq, Nat.reduceAdd, Nat.reduceSub, Nat.reduceMul, Nat.reduceLeDiff, Nat.reduceEqDiff, Nat.reduceLT, Int.reduceNeg, Int.reduceAdd, Int.reduceSub, Int.reduceMul, Int.reduceLE, Int.reduceLT, Int.reduceEq, Int.reduceToNat, reduceCtorEq, evL77x0, B77x0, Int.lt_irrefl]) (fun i b K hi hb => by
      obtain ⟨h, done⟩ := b
      obtain ⟨g, glen⟩ := hb
      simp only at g glen ⊢
      have hx := List.getElem?_eq_getElem hi
      generalize ws[i] = w at hx
      have hfw := hf2 w (List.mem_of_getElem? hx)
      have hi' : (i : Int) < ws.length := by omega
      have hsm : done.length + 1 < 4294967296 := by omega
      rw [take_snoc hx, List.map_append]
      obtain ⟨key, ⟨rc, vs⟩, gone⟩ := w
      obtain ⟨v, h1, k1, k2, k3, kw, k5, g2⟩ := grow_write g d key rc vs gone hfw
      refine ⟨((h1.set h.length (.box [.int .i64 key, v, .bool gone])).set 0 (.nest (done.length + 1) 3 (done ++ [[.int .i64 key, v, .bool gone]])), done ++ [[.int .i64 key, v, .bool gone]]), ⟨g2, by simp; omega⟩, ?_⟩
      rw [LoopK_eq]
      rcases kw with ⟨c', rfl⟩ | ⟨id, st, n, clip, rfl⟩ <;> simp -implicitDefEqProofs (disch := omega) only [go_sem, Nat.reduceBEq, Nat.reduceAdd, Nat.reduceSub, Nat.reduceMul, Nat.reduceLeDiff, Nat.reduceEqDiff, Nat.reduceLT, Int.reduceNeg, Int.reduceAdd, Int.reduceSub, Int.reduceMul, Int.reduceLE, Int.reduceLT, Int.reduceEq, Int.reduceToNat, reduceCtorEq, evL77x0, B77x0, hi', hx, Wr.cells, Row.v, k1, k2, k3, k5, hsm, List.getElem?_set_self, at_end, at_end_add, set_end, set_end_add, elemsN, elemN, listN, appendN, okN, small, IntWalk.i64_in]) 1099511627775 (by omega) ([.nest 0 3 []], []) ⟨Grown.start rfl, rfl⟩
  simp only at g1 g2 e
  rw [List.take_of_length_le (Nat.le_refl _)] at g1
  obtain ⟨ids, o1, o2⟩ := g1.own (n := done.length) (clip := true) rfl
  refine ⟨_, h', ids, ?_, o1, o2⟩
  have hn := g1.nest (by rfl)
  have hc : callX (runD tab noExt (d + 2)) h' 2 121 [.ref 0 done.length 0 done.length false] = some (.ref 0 done.length 0 done.length true, h') := by
    simp only [callX, callK]
    rw [runD_eq find121 _ _ _ (by simp)]
    have hn' : h'[0]? = some (.nest done.length 3 done) := hn
    simp -implicitDefEqProofs (disch := omega) only [go_sem, Nat.reduceBEq, Nat.reduceAdd, Nat.reduceSub, Nat.reduceMul, Nat.reduceLeDiff, Nat.reduceEqDiff, Nat.reduceLT, Int.reduceNeg, Int.reduceAdd, Int.reduceSub, Int.reduceMul, Int.reduceLE, Int.reduceLT, Int.reduceEq, Int.reduceToNat, reduceCtorEq, Bool.true_or, resOk, hn']
  rw [runD_eq find77 _ _ _ (by simp)]
  simp -implicitDefEqProofs (disch := omega) only [go_sem, Nat.reduceBEq, Nat.reduceAdd, Nat.reduceSub, Nat.reduceMul, Nat.reduceLeDiff, Nat.reduceEqDiff, Nat.reduceLT, Int.reduceNeg, Int.reduceAdd, Int.reduceSub, Int.reduceMul, Int.reduceLE, Int.reduceLT, Int.reduceEq, Int.reduceToNat, reduceCtorEq]
  try simp -implicitDefEqProofs only [go_sem, Nat.reduceBEq, Nat.reduceAdd, Nat.reduceSub, Nat.reduceMul, Nat.reduceLeDiff, Nat.reduceEqDiff, Nat.reduceLT, Int.reduceNeg, Int.reduceAdd, Int.reduceSub, Int.reduceMul, Int.reduceLE, Int.reduceLT, Int.reduceEq, Int.reduceToNat, reduceCtorEq] at e
  rw [e]
  simp -implicitDefEqProofs (disch := omega) only [go_sem, Nat.reduceBEq, Nat.reduceAdd, Nat.reduceSub, Nat.reduceMul, Nat.reduceLeDiff, Nat.reduceEqDiff, Nat.reduceLT, Int.reduceNeg, Int.reduceAdd, Int.reduceSub, Int.reduceMul, Int.reduceLE, Int.reduceLT, Int.reduceEq, Int.reduceToNat, reduceCtorEq, hc]
end Go.Proofs.Yteaojpfofifmnaa.PE
/- Copies of logs: the program's, as memory of one's own; the reference's. -/
set_option linter.unusedSimpArgs false
set_option linter.unusedVariables false
set_option maxHeartbeats 4000000
namespace Go.Proofs.Yteaojpfofifmnaa.PE
open Go.RowKit

def FineE (l : List Ent) : Prop := l.length < 4294967296 ∧ ∀ e ∈ l, FineW e.ws
theorem grow_ent {h : Heap} {done : List (List V)} {xs : List (List U)} (g : Grown fdEntry 0 h done xs) (d : Nat) (time : Int) (wc : Bool) (ws : List Wr) (hl : FineW ws) :
    ∃ v h1, callX (runD tab noExt (d + 3)) (h ++ [.box [.int .i64 time, .sl wc 3 (ws.map Wr.cells)]]) 0 77 [.sl wc 3 (ws.map Wr.cells)] = some (v, h1) ∧ h1[h.length]? = some (.box [.int .i64 time, .sl wc 3 (ws.map Wr.cells)]) ∧ h.length < h1.length ∧ ((∃ c, v = .sl c 3 []) ∨ ∃ id st n clip, v = .ref id st 0 n clip) ∧
      h1[0]? = some (.nest done.length 2 done) ∧
      Grown fdEntry 0 (h1.set 0 (.nest (done.length + 1) 2 (done ++ [[.int .i64 time, v]]))) (done ++ [[.int .i64 time, v]]) (xs ++ [[.int time, .sub (ws.map wrU)]]) := by
  obtain ⟨v, hc, is0, e1, e2, e3⟩ := own_writesCopy d wc ws hl
  obtain ⟨w, h1, js, k1, k2, k3, k4, k5, k6⟩ := own_call (h := h ++ [.box [.int .i64 time, .sl wc 3 (ws.map Wr.cells)]]) (args := [.sl wc 3 (ws.map Wr.cells)]) (by simp only [pureDAs, mapO, pureDA, pureD]) e1 e2 e3
  have hl0 : (h ++ [Blk.box [.int .i64 time, .sl wc 3 (ws.map Wr.cells)]]).length = h.length + 1 := by simp
  rw [hl0] at k4 k5 k6
  have hb : h1[h.length]? = some (.box [.int .i64 time, .sl wc 3 (ws.map Wr.cells)]) := (k5 _ (by omega)).trans (by simp)
  have hlt := g.lt
  have k5' : ∀ j, j < h.length → h1[j]? = h[j]? := fun j hj => by
    rw [k5 j (by omega), List.getElem?_append_left hj]
  refine ⟨w, h1, k1, hb, by omega, own_cases k2, (k5' 0 hlt).trans (g.nest (by rfl)), ?_⟩
  exact g.add (ownR_mk_Entry k2) k3 (fun j hj => by have := k4 j hj; omega) k5' rfl
-- find88
theorem own_logCopy (d : Nat) (c : Bool) (l : List Ent) (hf : FineE l) : ∃ v hc ids, runD tab noExt (d + 4) 88 [.sl c 2 (l.map Ent.cells)] [] = some ([v], hc) ∧ OwnF hc (.sub fdEntry) v (.sub (l.map entU)) ids ∧ ids.Nodup := by
  obtain ⟨hf1, hf2⟩ := hf
  obtain ⟨⟨h', done⟩, ⟨g1, g2⟩, e⟩ := LoopK_inv (run := runD tab noExt (d + 3)) (draw := drawI (runD tab noExt (d + 3))) (live := [3, 6, 7, 8]) (out := [3]) (c := L88x0) l.length
    (fun i (b : Heap × List (List V)) => Grown fdEntry 0 b.1 b.2 ((l.take i).map entU) ∧ b.2.length = i)
    (fun i b => [(3, .ref 0 b.2.length 0 b.2.length false), (6, .sl c 2 (l.map Ent.cells)), (7, .int .i64 l.length), (8, .int .i64 (i : Nat))]) (fun b => b.1) (fun b => some (.exit 0, [(3, .ref 0 b.2.length 0 b.2.length false)], b.1))
    (fun b K hb => by
      rw [LoopK_eq]
      simp -implicitDefEqProofs only [go_sem, Nat.reduceBEq, Nat.reduceAdd, Nat.reduceSub, Nat.reduceMul, Nat.reduceLeDiff, Nat.reduceEqDiff, Nat.reduceLT, Int.reduceNeg, Int.reduceAdd, Int.reduceSub, Int.reduceMul, Int.reduceLE, Int.reduceLT, Int.reduceEq, Int.reduceToNat, reduceCtorEq, evL88x0, B88x0, Int.lt_irrefl]) (fun i b K hi hb => by
      obtain ⟨h, done⟩ := b
      obtain ⟨g, glen⟩ := hb
      simp only at g glen ⊢
      have hx := List.getElem?_eq_getElem hi
      generalize l[i] = w at hx
      have hfw := hf2 w (List.mem_of_getElem? hx)
      have hi' : (i : Int) < l.length := by omega
      have hsm : done.length + 1 < 4294967296 := by omega
      rw [take_snoc hx, List.map_append]
      obtain ⟨time, wc, ws⟩ := w
      obtain ⟨v, h1, k1, k2, k3, kw, k5, g2⟩ := grow_ent g d time wc ws hfw
      refine ⟨(h1.set 0 (.nest (done.length + 1) 2 (done ++ [[.int .i64 time, v]])), done ++ [[.int .i64 time, v]]), ⟨g2, by simp; omega⟩, ?_⟩
      rw [LoopK_eq]
      rcases kw with ⟨c', rfl⟩ | ⟨id, st, n, clip, rfl⟩ <;> simp -implicitDefEqProofs (disch := omega) only [go_sem, Nat.reduceBEq, Nat.reduceAdd, Nat.reduceSub, Nat.reduceMul, Nat.reduceLeDiff, Nat.reduceEqDiff, Nat.reduceLT, Int.reduceNeg, Int.reduceAdd, Int.reduceSub, Int.reduceMul, Int.reduceLE, Int.reduceLT, Int.reduceEq, Int.reduceToNat, reduceCtorEq, evL88x0, B88x0, evC_draw, evD88x0, E88x0, hi', hx, Ent.cells, Ent.v, k1, k2, k3, k5, hsm, List.getElem?_set_self, at_end, at_end_add, set_end, set_end_add, elemsN, elemN, listN, appendN, okN, small, IntWalk.i64_in]) 1099511627775 (by omega) ([.nest 0 2 []], []) ⟨Grown.start rfl, rfl⟩
  simp only at g1 g2 e
  rw [List.take_of_length_le (Nat.le_refl _)] at g1
  obtain ⟨ids, o1, o2⟩ := g1.own (n := done.length) (clip := true) rfl
  refine ⟨_, h', ids, ?_, o1, o2⟩
  have hn' : h'[0]? = some (.nest done.length 2 done) := g1.nest (by rfl)
  have hc : callX (runD tab noExt (d + 3)) h' 2 79 [.ref 0 done.length 0 done.length false] = some (.ref 0 done.length 0 done.length true, h') := by
    simp only [callX, callK]
    rw [runD_eq find79 _ _ _ (by simp)]
    simp -implicitDefEqProofs (disch := omega) only [go_sem, Nat.reduceBEq, Nat.reduceAdd, Nat.reduceSub, Nat.reduceMul, Nat.reduceLeDiff, Nat.reduceEqDiff, Nat.reduceLT, Int.reduceNeg, Int.reduceAdd, Int.reduceSub, Int.reduceMul, Int.reduceLE, Int.reduceLT, Int.reduceEq, Int.reduceToNat, reduceCtorEq, Bool.true_or, resOk, hn']
  rw [runD_eq find88 _ _ _ (by simp)]
  simp -implicitDefEqProofs (disch := omega) only [go_sem, Nat.reduceBEq, Nat.reduceAdd, Nat.reduceSub, Nat.reduceMul, Nat.reduceLeDiff, Nat.reduceEqDiff, Nat.reduceLT, Int.reduceNeg, Int.reduceAdd, Int.reduceSub, Int.reduceMul, Int.reduceLE, Int.reduceLT, Int.reduceEq, Int.reduceToNat, reduceCtorEq]
  try simp -implicitDefEqProofs only [go_sem, Nat.reduceBEq, Nat.reduceAdd, Nat.reduceSub, Nat.reduceMul, Nat.reduceLeDiff, Nat.reduceEqDiff, Nat.reduceLT, Int.reduceNeg, Int.reduceAdd, Int.reduceSub, Int.reduceMul, Int.reduceLE, Int.reduceLT, Int.reduceEq, Int.reduceToNat, reduceCtorEq] at e
  rw [e]
  simp -implicitDefEqProofs (disch := omega) only [go_sem, Nat.reduceBEq, Nat.reduceAdd, Nat.reduceSub, Nat.reduceMul, Nat.reduceLeDiff, Nat.reduceEqDiff, Nat.reduceLT, Int.reduceNeg, Int.reduceAdd, Int.reduceSub, Int.reduceMul, Int.reduceLE, Int.reduceLT, Int.reduceEq, Int.reduceToNat, reduceCtorEq, hc]
def Wr.own (w : Wr) : Wr := ⟨w.key, ⟨false, w.row.vs⟩, w.gone⟩
def Ent.own (e : Ent) : Ent := ⟨e.time, false, e.ws.map Wr.own⟩
-- find152
theorem run_own4 (d : Nat) (c : Bool) (l : List (List V)) (hl : l.length < 4294967296) : retP (runD tab noExt (d + 1)) 152 [.sl c 3 l] = some [.sl false 3 l] := by
  rw [retP, runD_eq find152 _ _ _ (by simp)]
  have hl' : 0 + l.length < 4294967296 := by omega
  simp -implicitDefEqProofs (disch := omega) only [go_sem, Nat.reduceBEq, Nat.reduceAdd, Nat.reduceSub, Nat.reduceMul, Nat.reduceLeDiff, Nat.reduceEqDiff, Nat.reduceLT, Int.reduceNeg, Int.reduceAdd, Int.reduceSub, Int.reduceMul, Int.reduceLE, Int.reduceLT, Int.reduceEq, Int.reduceToNat, reduceCtorEq, List.take_length, hl, hl']
theorem loop_l14 (d : Nat) (c : Bool) (ws : List Wr) (hf : FineW ws) (K : Nat) (hK : (ws).length ≤ K) (b0 : List Wr) (hb0 : (fun (i : Nat) (b : List Wr) => b.length ≤ i) 0 b0) : LoopS (runD tab noExt (d + 1)) (drawI (runD tab noExt (d + 1))) [0, 3, 4] [3] L128x0 ([.rows 0 3 [], .rows (b0).length 3 ((b0).map Wr.cells)] : Heap).length K [(0, .sl c 3 (ws.map Wr.cells)), (3, .ref 1 (b0).length 0 (b0).length false), (4, .int .i64 (0 : Nat))] [.rows 0 3 [], .rows (b0).length 3 ((b0).map Wr.cells)] = (some (.exit 0, [(3, .ref 1 (((ws).foldl (fun b x => b ++ [Wr.own x]) b0)).length 0 (((ws).foldl (fun b x => b ++ [Wr.own x]) b0)).length false)], [.rows 0 3 [], .rows (((ws).foldl (fun b x => b ++ [Wr.own x]) b0)).length 3 ((((ws).foldl (fun b x => b ++ [Wr.own x]) b0)).map Wr.cells)]) : Out) ∧ (fun (i : Nat) (b : List Wr) => b.length ≤ i) (ws).length ((ws).foldl (fun b x => b ++ [Wr.own x]) b0) := by
  have key := LoopS_foldI (run := (runD tab noExt (d + 1))) (draw := drawI (runD tab noExt (d + 1))) (live := [0, 3, 4]) (out := [3]) (c := L128x0) (n0 := ([.rows 0 3 [], .rows (b0).length 3 ((b0).map Wr.cells)] : Heap).length) (ws) (fun b x => b ++ [Wr.own x]) (fun (i : Nat) (b : List Wr) => b.length ≤ i) (fun (i : Nat) (b : List Wr) => [(0, .sl c 3 (ws.map Wr.cells)), (3, .ref 1 (b).length 0 (b).length false), (4, .int .i64 (i : Nat))]) (fun (i : Nat) (b : List Wr) => [.rows 0 3 [], .rows (b).length 3 ((b).map Wr.cells)]) (fun b => (some (.exit 0, [(3, .ref 1 (b).length 0 (b).length false)], [.rows 0 3 [], .rows (b).length 3 ((b).map Wr.cells)]) : Out)) (fun b K hb => ?_) (fun (i : Nat) (x : Wr) b K hi hx hb => ?_) K hK b0 hb0
  · simp only [Int.natCast_zero] at key
    exact key
  · rw [LoopS_eq]
    simp -implicitDefEqProofs only [go_sem, Nat.reduceBEq, Nat.reduceAdd, Nat.reduceSub, Nat.reduceMul, Nat.reduceLeDiff, Nat.reduceEqDiff, Nat.reduceLT, Int.reduceNeg, Int.reduceAdd, Int.reduceSub, Int.reduceMul, Int.reduceLE, Int.reduceLT, Int.reduceEq, Int.reduceToNat, reduceCtorEq, evL128x0, B128x0, Int.lt_irrefl]
  · have hown := run_own4 d x.row.clip (x.row.vs.map Val.cells) (by have := hf.2.2 x (List.mem_of_getElem? hx); simpa using this); have hsm : b.length + 1 < 4294967296 := (by have := hf.2.1; omega); have hlen0 := hf.1
    all_goals
      refine ⟨?_, ?_⟩
      · (simp; omega)
      · rw [LoopS_eq]
        simp -implicitDefEqProofs (disch := first | omega | assumption) only [go_sem, Nat.reduceBEq, Nat.reduceAdd, Nat.reduceSub, Nat.reduceMul, Nat.reduceLeDiff, Nat.reduceEqDiff, Nat.reduceLT, Int.reduceNeg, Int.reduceAdd, Int.reduceSub, Int.reduceMul, Int.reduceLE, Int.reduceLT, Int.reduceEq, Int.reduceToNat, reduceCtorEq, evL128x0, B128x0, hi, hx, IntWalk.i64_in, List.map_append, List.foldl_cons, hx, hown, hsm, Wr.cells, Row.v, Wr.own, List.map_cons, List.map_nil]
        skip
-- find128
theorem run_l14 (d : Nat) (c : Bool) (ws : List Wr) (hf : FineW ws) : retP (runD tab noExt (d + 2)) 128 [.sl c 3 (ws.map Wr.cells)] = some [.sl false 3 ((ws.map Wr.own).map Wr.cells)] := by
  rw [retP, runD_eq find128 _ _ _ (by simp)]
  obtain ⟨hl, _⟩ := loop_l14 d c ws hf 1099511627775 (by have := hf.1; omega) [] (by simp)
  rw [foldl_snoc, List.nil_append] at hl
  simp only [List.length_nil, List.map_nil, Int.natCast_zero] at hl
  simp -implicitDefEqProofs (disch := omega) only [go_sem, Nat.reduceBEq, Nat.reduceAdd, Nat.reduceSub, Nat.reduceMul, Nat.reduceLeDiff, Nat.reduceEqDiff, Nat.reduceLT, Int.reduceNeg, Int.reduceAdd, Int.reduceSub, Int.reduceMul, Int.reduceLE, Int.reduceLT, Int.reduceEq, Int.reduceToNat, reduceCtorEq]
  try simp -implicitDefEqProofs only [go_sem, Nat.reduceBEq, Nat.reduceAdd, Nat.reduceSub, Nat.reduceMul, Nat.reduceLeDiff, Nat.reduceEqDiff, Nat.reduceLT, Int.reduceNeg, Int.reduceAdd, Int.reduceSub, Int.reduceMul, Int.reduceLE, Int.reduceLT, Int.reduceEq, Int.reduceToNat, reduceCtorEq] at hl
  rw [hl]
  simp -implicitDefEqProofs (disch := omega) only [go_sem, Nat.reduceBEq, Nat.reduceAdd, Nat.reduceSub, Nat.reduceMul, Nat.reduceLeDiff, Nat.reduceEqDiff, Nat.reduceLT, Int.reduceNeg, Int.reduceAdd, Int.reduceSub, Int.reduceMul, Int.reduceLE, Int.reduceLT, Int.reduceEq, Int.reduceToNat, reduceCtorEq]
  first | rfl | (rw [List.take_of_length_le (by simp)])
theorem loop_l18 (d : Nat) (c : Bool) (l : List Ent) (hf : FineE l) (K : Nat) (hK : (l).length ≤ K) (b0 : List Ent) (hb0 : (fun (i : Nat) (b : List Ent) => b.length ≤ i) 0 b0) : LoopS (runD tab noExt (d + 2)) (drawI (runD tab noExt (d + 2))) [0, 3, 4] [3] L87x0 ([.rows 0 2 [], .rows (b0).length 2 ((b0).map Ent.cells)] : Heap).length K [(0, .sl c 2 (l.map Ent.cells)), (3, .ref 1 (b0).length 0 (b0).length false), (4, .int .i64 (0 : Nat))] [.rows 0 2 [], .rows (b0).length 2 ((b0).map Ent.cells)] = (some (.exit 0, [(3, .ref 1 (((l).foldl (fun b x => b ++ [Ent.own x]) b0)).length 0 (((l).foldl (fun b x => b ++ [Ent.own x]) b0)).length false)], [.rows 0 2 [], .rows (((l).foldl (fun b x => b ++ [Ent.own x]) b0)).length 2 ((((l).foldl (fun b x => b ++ [Ent.own x]) b0)).map Ent.cells)]) : Out) ∧ (fun (i : Nat) (b : List Ent) => b.length ≤ i) (l).length ((l).foldl (fun b x => b ++ [Ent.own x]) b0) := by
  have key := LoopS_foldI (run := (runD tab noExt (d + 2))) (draw := drawI (runD tab noExt (d + 2))) (live := [0, 3, 4]) (out := [3]) (c := L87x0) (n0 := ([.rows 0 2 [], .rows (b0).length 2 ((b0).map Ent.cells)] : Heap).length) (l) (fun b x => b ++ [Ent.own x]) (fun (i : Nat) (b : List Ent) => b.length ≤ i) (fun (i : Nat) (b : List Ent) => [(0, .sl c 2 (l.map Ent.cells)), (3, .ref 1 (b).length 0 (b).length false), (4, .int .i64 (i : Nat))]) (fun (i : Nat) (b : List Ent) => [.rows 0 2 [], .rows (b).length 2 ((b).map Ent.cells)]) (fun b => (some (.exit 0, [(3, .ref 1 (b).length 0 (b).length false)], [.rows 0 2 [], .rows (b).length 2 ((b).map Ent.cells)]) : Out)) (fun b K hb => ?_) (fun (i : Nat) (x : Ent) b K hi hx hb => ?_) K hK b0 hb0
  · simp only [Int.natCast_zero] at key
    exact key
  · rw [LoopS_eq]
    simp -implicitDefEqProofs only [go_sem, Nat.reduceBEq, Nat.reduceAdd, Nat.reduceSub, Nat.reduceMul, Nat.reduceLeDiff, Nat.reduceEqDiff, Nat.reduceLT, Int.reduceNeg, Int.reduceAdd, Int.reduceSub, Int.reduceMul, Int.reduceLE, Int.reduceLT, Int.reduceEq, Int.reduceToNat, reduceCtorEq, evL87x0, B87x0, Int.lt_irrefl]
  · have hown := run_l14 d x.wc x.ws (hf.2 x (List.mem_of_getElem? hx)); have hsm : b.length + 1 < 4294967296 := (by have := hf.1; omega); have hlen0 := hf.1
    all_goals
      refine ⟨?_, ?_⟩
      · (simp; omega)
      · rw [LoopS_eq]
        simp -implicitDefEqProofs (disch := first | omega | assumption) only [go_sem, Nat.reduceBEq, Nat.reduceAdd, Nat.reduceSub, Nat.reduceMul, Nat.reduceLeDiff, Nat.reduceEqDiff, Nat.reduceLT, Int.reduceNeg, Int.reduceAdd, Int.reduceSub, Int.reduceMul, Int.reduceLE, Int.reduceLT, Int.reduceEq, Int.reduceToNat, reduceCtorEq, evL87x0, B87x0, hi, hx, IntWalk.i64_in, List.map_append, List.foldl_cons, evC_draw, evD87x0, E87x0, hx, hown, hsm, Ent.cells, Ent.v, Ent.own, List.map_cons, List.map_nil]
        skip
-- find87
theorem run_l18 (d : Nat) (c : Bool) (l : List Ent) (hf : FineE l) : retP (runD tab noExt (d + 3)) 87 [.sl c 2 (l.map Ent.cells)] = some [.sl false 2 ((l.map Ent.own).map Ent.cells)] := by
  rw [retP, runD_eq find87 _ _ _ (by simp)]
  obtain ⟨hl, _⟩ := loop_l18 d c l hf 1099511627775 (by have := hf.1; omega) [] (by simp)
  rw [foldl_snoc, List.nil_append] at hl
  simp only [List.length_nil, List.map_nil, Int.natCast_zero] at hl
  simp -implicitDefEqProofs (disch := omega) only [go_sem, Nat.reduceBEq, Nat.reduceAdd, Nat.reduceSub, Nat.reduceMul, Nat.reduceLeDiff, Nat.reduceEqDiff, Nat.reduceLT, Int.reduceNeg, Int.reduceAdd, Int.reduceSub, Int.reduceMul, Int.reduceLE, Int.reduceLT, Int.reduceEq, Int.reduceToNat, reduceCtorEq]
  try simp -implicitDefEqProofs only [go_sem, Nat.reduceBEq, Nat.reduceAdd, Nat.reduceSub, Nat.reduceMul, Nat.reduceLeDiff, Nat.reduceEqDiff, Nat.reduceLT, Int.reduceNeg, Int.reduceAdd, Int.reduceSub, Int.reduceMul, Int.reduceLE, Int.reduceLT, Int.reduceEq, Int.reduceToNat, reduceCtorEq] at hl
  rw [hl]
  simp -implicitDefEqProofs (disch := omega) only [go_sem, Nat.reduceBEq, Nat.reduceAdd, Nat.reduceSub, Nat.reduceMul, Nat.reduceLeDiff, Nat.reduceEqDiff, Nat.reduceLT, Int.reduceNeg, Int.reduceAdd, Int.reduceSub, Int.reduceMul, Int.reduceLE, Int.reduceLT, Int.reduceEq, Int.reduceToNat, reduceCtorEq]
  first | rfl | (rw [List.take_of_length_le (by simp)])
/-! ### logs as trees -/
theorem wr_pur (w : Wr) : PurR fdWrite w.cells (wrU w) := purR_mk_Write (pur_map val_pur _ 3 rfl _)
theorem ent_pur (e : Ent) : PurR fdEntry e.cells (entU e) := purR_mk_Entry (pur_map wr_pur _ 3 rfl _)
theorem wrs_each {y : List (List U)} {p : V} (h : PurF (.sub fdWrite) p (.sub y)) : ∃ (c : Bool) (ws : List Wr), p = .sl c 3 (ws.map Wr.cells) ∧ y = ws.map wrU := by
  obtain ⟨c, ct, rfl, hz⟩ := purS_Write h
  obtain ⟨ws, rfl, rfl⟩ := typ_of (f := Wr.cells) (g := wrU) (fun c x hr => by
    obtain ⟨a0, p1, y1, a2, rfl, rfl, g⟩ := purR_Write hr
    obtain ⟨cl, ct, rfl, hz⟩ := purS_Value g
    obtain ⟨vs, rfl, rfl⟩ := valsU_of hz
    exact ⟨⟨a0, ⟨cl, vs⟩, a2⟩, rfl, rfl⟩) hz
  exact ⟨c, ws, rfl, rfl⟩
theorem ents_each {y : List (List U)} {p : V} (h : PurF (.sub fdEntry) p (.sub y)) : ∃ (c : Bool) (l : List Ent), p = .sl c 2 (l.map Ent.cells) ∧ y = l.map entU := by
  obtain ⟨c, ct, rfl, hz⟩ := purS_Entry h
  obtain ⟨l, rfl, rfl⟩ := typ_of (f := Ent.cells) (g := entU) (fun c x hr => by
    obtain ⟨a0, p1, y1, rfl, rfl, g⟩ := purR_Entry hr
    obtain ⟨cl, ws, rfl, rfl⟩ := wrs_each g
    exact ⟨⟨a0, cl, ws⟩, rfl, rfl⟩) hz
  exact ⟨c, l, rfl, rfl⟩
theorem wrU_inj {a b : Wr} (h : wrU a = wrU b) : a.own = b.own := by
  simp only [wrU, List.cons.injEq, U.int.injEq, U.sub.injEq, U.bool.injEq, and_true] at h
  obtain ⟨h1, h2, h3⟩ := h
  have := map_inj (fun _ _ => valU_inj) h2
  simp only [Wr.own, h1, this, h3]
theorem map_same {α β γ : Type} {f : α → β} {g : α → γ} (h : ∀ a b, f a = f b → g a = g b) : ∀ {l l2 : List α}, l.map f = l2.map f → l.map g = l2.map g
  | [], [], _ => rfl
  | x :: a, y :: b, e => by
    simp only [List.map_cons, List.cons.injEq] at e
    rw [List.map_cons, List.map_cons, h _ _ e.1, map_same h e.2]
  | [], _ :: _, e => by simp at e
  | _ :: _, [], e => by simp at e
theorem entU_inj {a b : Ent} (h : entU a = entU b) : a.own = b.own := by
  simp only [entU, List.cons.injEq, U.int.injEq, U.sub.injEq, and_true] at h
  obtain ⟨h1, h2⟩ := h
  simp only [Ent.own, h1, map_same (fun _ _ => wrU_inj) h2]
theorem entU_own (e : Ent) : entU e.own = entU e := by
  simp only [entU, Ent.own, List.map_map]
  rfl
theorem prevsG_map {α β : Type} (f : α → β) : ∀ (l : List α) (o : Option α), prevsG (o.map f) (l.map f) = (prevsG o l).map fun p => (p.1.map f, f p.2)
  | [], _ => rfl
  | v :: r, o => by
    have := prevsG_map f r (some v)
    simp only [Option.map_some] at this
    simp only [List.map_cons, prevsG, this]
theorem wrsOk_own (l : List Wr) : wrsOk (l.map Wr.own) = wrsOk l := by
  have := prevsG_map Wr.own l none
  simp only [Option.map_none] at this
  unfold wrsOk
  rw [this, List.all_map]
  congr 1
  funext p
  obtain ⟨o, v⟩ := p
  cases o <;> rfl
theorem logOk_own (l : List Ent) : logOk (l.map Ent.own) = logOk l := by
  have := prevsG_map Ent.own l none
  simp only [Option.map_none] at this
  unfold logOk
  rw [this, List.all_map, List.length_map]
  congr 2
  funext p
  obtain ⟨o, v⟩ := p
  have e : v.own.one = v.one := by unfold Ent.one Ent.own; simp only [wrsOk_own]
  cases o <;> simp only [Function.comp, entOk, e, Option.map_none, Option.map_some] <;> rfl
theorem logOk_vs {a b : List Ent} (h : a.map entU = b.map entU) : logOk a = logOk b := by rw [← logOk_own a, ← logOk_own b, map_same (fun _ _ => entU_inj) h]
/-- What a size says of a log. -/
def LimE (l : List Ent) : Prop := l.length ≤ 1048576 ∧ ∀ e ∈ l, e.ws.length ≤ 1048576 ∧ ∀ w ∈ e.ws, w.row.vs.length ≤ 1048576 ∧ ∀ v ∈ w.row.vs, v.s.size ≤ 1048576
theorem wrs_lim {ws : List Wr} (L : LenF 1048576 1048576 (.sub fdWrite) (.sub (ws.map wrU))) : ws.length ≤ 1048576 ∧ ∀ w ∈ ws, w.row.vs.length ≤ 1048576 ∧ ∀ v ∈ w.row.vs, v.s.size ≤ 1048576 := by
  simp only [LenF, List.length_map] at L
  refine ⟨L.1, fun w hw => ?_⟩
  obtain ⟨i, hi⟩ := List.getElem?_of_mem hw
  have := AllU_at L.2 (map_at wrU hi)
  simp only [fdWrite, wrU, LenR, LenF, List.length_map, true_and, and_true] at this
  refine ⟨this.1, fun v hv => ?_⟩
  obtain ⟨j, hj⟩ := List.getElem?_of_mem hv
  have := AllU_at this.2 (map_at valU hj)
  simp only [fdValue, valU, LenR, LenF, true_and, and_true] at this
  exact this
theorem ents_lim {l : List Ent} (L : LenF 1048576 1048576 (.sub fdEntry) (.sub (l.map entU))) : LimE l := by
  simp only [LenF, List.length_map] at L
  refine ⟨L.1, fun e he => ?_⟩
  obtain ⟨i, hi⟩ := List.getElem?_of_mem he
  have := AllU_at L.2 (map_at entU hi)
  simp only [fdEntry, entU, LenR, LenF, true_and, and_true] at this
  exact wrs_lim (by simp only [LenF]; exact this)
theorem LimE.fine {l : List Ent} (h : LimE l) : FineE l ∧ ShortE l ∧ l.length < 1099511627776 := by
  obtain ⟨h1, h2⟩ := h
  refine ⟨⟨by omega, fun e he => ?_⟩, fun e he => ?_, by omega⟩
  · obtain ⟨h3, h4⟩ := h2 e he
    exact ⟨by omega, by omega, fun w hw => by have := (h4 w hw).1; omega⟩
  · obtain ⟨h3, h4⟩ := h2 e he
    exact ⟨by omega, fun w hw => ⟨by have := (h4 w hw).1; omega, fun v hv => by have := (h4 w hw).2 v hv; omega⟩⟩
theorem LimE.sub {l l2 : List Ent} (h : LimE l) (hn : l2.length ≤ 1048576) (hs : ∀ e ∈ l2, e ∈ l) : LimE l2 := ⟨hn, fun e he => h.2 e (hs e he)⟩
theorem wrs_len2 {n m : Nat} {ws : List Wr} (h0 : ws.length ≤ n) (h : ∀ w ∈ ws, w.row.vs.length ≤ n ∧ ∀ v ∈ w.row.vs, v.s.size ≤ m) : LenF n m (.sub fdWrite) (.sub (ws.map wrU)) := by
  simp only [LenF, List.length_map]
  refine ⟨h0, all_of (fun x hx => ?_)⟩
  obtain ⟨w, hw, rfl⟩ := List.mem_map.1 hx
  have := vals_len (h w hw).1 (h w hw).2
  simp only [fdWrite, wrU, LenR]
  exact ⟨by simp [LenF], this, by simp [LenF], trivial⟩
theorem ents_len {l : List Ent} (h : LimE l) : LenF 1048576 1048576 (.sub fdEntry) (.sub (l.map entU)) := by
  simp only [LenF, List.length_map]
  refine ⟨h.1, all_of (fun x hx => ?_)⟩
  obtain ⟨e, he, rfl⟩ := List.mem_map.1 hx
  obtain ⟨h1, h2⟩ := h.2 e he
  have := wrs_len2 h1 h2
  simp only [fdEntry, entU, LenR]
  exact ⟨by simp [LenF], this, trivial⟩
end Go.Proofs.Yteaojpfofifmnaa.PE
/- Calls whose results are memory of one's own, and a number beside it. -/
set_option linter.unusedVariables false
set_option linter.unusedSimpArgs false
namespace Go.Proofs.Yteaojpfofifmnaa.PE
open Go.RowKit

end Go.Proofs.Yteaojpfofifmnaa.PE
/- Steps of exact statements of structs. -/
set_option linter.unusedVariables false
set_option linter.unusedSimpArgs false
namespace Go.Proofs.Yteaojpfofifmnaa.PE
open Go.RowKit

theorem pureDA_of {h : Heap} {fs : List Fd} {v q : V} {u : U} {ids : List Nat} (ho : OwnF h (.sub fs) v u ids) (e : pureD h 6 v = some q) : pureDA h v = some q := by
  rcases own_cases ho with ⟨c, rfl⟩ | ⟨id, st, n, clip, rfl⟩ <;> exact e
theorem pureDA_agg (h : Heap) (cs : List V) : pureDA h (.agg cs) = (mapO (pureD h 6) cs).map .agg := rfl
theorem pureD_intv (h : Heap) (n : Nat) (k : IntKind) (m : Int) : pureD h n (.int k m) = some (.int k m) := by cases n <;> rfl
theorem pureD_boolv (h : Heap) (n : Nat) (b : Bool) : pureD h n (.bool b) = some (.bool b) := by cases n <;> rfl
theorem pureD_strv (h : Heap) (n : Nat) (b : ByteArray) : pureD h n (.str b) = some (.str b) := by cases n <;> rfl
end Go.Proofs.Yteaojpfofifmnaa.PE
/- What a follower has of a log; a backup and the log behind it. -/
set_option linter.unusedSimpArgs false
set_option linter.unusedVariables false
set_option maxHeartbeats 4000000
namespace Go.Proofs.Yteaojpfofifmnaa.PE
open Go.RowKit

def icell (x : Int) : List V := [.int .i64 x]
def icU (x : Int) : List U := [.int x]
def fol1 (m : Nat) (b : Nat) (x : Int) : Nat := if x = b ∧ (b : Int) < m then b + 1 else b
def fol (m : Nat) (xs : List Int) : Nat := xs.foldl (fol1 m) 0
theorem prevsG_mem {α : Type} {f : Option α × α → Bool} : ∀ {l : List α} {o : Option α}, (prevsG o l).all f = true → ∀ x ∈ l, ∃ p, f (p, x) = true
  | [], _, _, x, hx => by cases hx
  | v :: r, o, h, x, hx => by
    simp only [prevsG, List.all_cons, Bool.and_eq_true] at h
    rcases List.mem_cons.1 hx with rfl | hx
    · exact ⟨o, h.1⟩
    · exact prevsG_mem h.2 x hx
theorem logOk_one {l : List Ent} (h : logOk l = true) : ∀ e ∈ l, e.one = true := by
  intro e he
  simp only [logOk, Bool.and_eq_true] at h
  obtain ⟨p, hp⟩ := prevsG_mem h.1 e he
  simp only [entOk, Bool.and_eq_true] at hp
  exact hp.1
theorem ent_cnt {e : Ent} (h : e.one = true) : cntR fdEntry (entU e) ≤ 100 := by
  simp only [Ent.one, Bool.and_eq_true] at h
  have h5 := wrs_len5 h.2
  have hw : ∀ w ∈ e.ws, w.row.vs.length ≤ 4 := by
    intro w hw
    simp only [wrsOk] at h
    obtain ⟨p, hp⟩ := prevsG_mem h.2 w hw
    simp only [wrOk, Wr.one, rowOk, Bool.and_eq_true, decide_eq_true_eq] at hp
    exact hp.1.2.1.2
  have := sum_all (c := cntR fdWrite) (n := 14) (xs := e.ws.map wrU) (fun x hx => by
    obtain ⟨w, hw', rfl⟩ := List.mem_map.1 hx
    have e1 : cntR fdWrite (wrU w) = 1 + cntF (.sub fdValue) (.sub (w.row.vs.map valU)) + 1 := by simp only [fdWrite, wrU, cntR, cntF_int, cntF_bool]; omega
    have := hw w hw'
    rw [e1, vals_cnt]
    omega)
  rw [List.length_map] at this
  have e2 : cntR fdEntry (entU e) = 1 + sumU (cntR fdWrite) (e.ws.map wrU) := by simp only [fdEntry, entU, cntR, cntF_int, cntF]; omega
  rw [e2]
  omega
theorem ents_cnt {l : List Ent} (h : ∀ e ∈ l, e.one = true) (hn : l.length ≤ 1048576) : (cntF (.sub fdEntry) (.sub (l.map entU)) : Int) ≤ 2305843009213693952 := by
  have := sum_all (c := cntR fdEntry) (n := 100) (xs := l.map entU) (fun x hx => by
    obtain ⟨e, he, rfl⟩ := List.mem_map.1 hx
    exact ent_cnt (h e he))
  rw [List.length_map] at this
  simp only [cntF]
  omega
theorem entsU_own (l : List Ent) : (l.map Ent.own).map entU = l.map entU := by
  rw [List.map_map]
  exact List.map_congr_left (fun e _ => entU_own e)
theorem ents_own_pur (c : Bool) (l : List Ent) : PurF (.sub fdEntry) (.sl c 2 ((l.map Ent.own).map Ent.cells)) (.sub (l.map entU)) := by
  have := pur_map ent_pur c 2 rfl (l.map Ent.own)
  rw [entsU_own] at this
  exact this
end Go.Proofs.Yteaojpfofifmnaa.PE
