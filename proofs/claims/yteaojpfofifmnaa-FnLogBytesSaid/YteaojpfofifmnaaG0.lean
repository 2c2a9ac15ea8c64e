/- Texts of this claim, one behind the other: Pv1, Pv2, Pv3, Pv5, Pw1, Pl0, Pl1, Pu1, Pu2, Pu3, Pu4, Pu5, Pu6, Pn1, Pnr, Pq0, Png, Pnc, Psz, Pvq, Pl2, Pl3, Pb1, Pb2, Pf1, Pb3, Pu7, Pu8, Pb4, Pb5, Pf2, Pf3, Pf4, Pf5, Pf6, Pf7, Pf8, Pb6, Pf9, Pfa, Pfb, Pfc, Pfd, Pru, Pl4, Pl6. -/
import Derived.Test.YteaojpfofifmnaaPeT
import Derived.Test.YteaojpfofifmnaaPeX
import Derived.IntWalk
import Derived.Test.YteaojpfofifmnaaPeZ
/- Values of the tables: what the small functions come to. -/
set_option linter.unusedSimpArgs false
namespace Go.Proofs.Yteaojpfofifmnaa.PE
open Go.RowKit

/-- A value. -/
structure Val where
  kind : Int
  n : Int
  s : ByteArray
  deriving DecidableEq

def Val.cells (v : Val) : List V := [.int .i64 v.kind, .int .i64 v.n, .str v.s]
def Val.enc (v : Val) : V := .agg [.int .i64 v.kind, .int .i64 v.n, .str v.s]

def letterB (b : UInt8) : Bool := decide (97 ≤ (b.toNat : Int) ∧ (b.toNat : Int) ≤ 122)
def lettersB (s : ByteArray) : Bool := s.data.toList.all letterB

/-- Is a value one? -/
def Val.ok (v : Val) : Bool :=
  if v.kind = 0 then decide (v.n = 0) && decide (v.s = ⟨#[]⟩)
  else if v.kind = 1 then decide (v.s = ⟨#[]⟩) && (decide (-9999 ≤ v.n) && decide (v.n ≤ 9999))
  else if v.kind = 2 then decide (v.n = 0) && decide ((v.s.size : Int) ≤ 6) && lettersB v.s
  else if v.kind = 3 then decide (v.s = ⟨#[]⟩) && (decide (0 ≤ v.n) && decide (v.n ≤ 1))
  else false

theorem run_between (d : Nat) (n lo hi : Int) : retP (runD tab noExt (d + 1)) 72 [.int .i64 n, .int .i64 lo, .int .i64 hi] = some [.bool (decide (lo ≤ n ∧ n ≤ hi))] := by
  rw [retP, runD_eq find72 _ _ _ (by simp)]
  simp -implicitDefEqProofs (disch := omega) only [go_sem, Nat.reduceBEq, Nat.reduceAdd, Nat.reduceSub, Nat.reduceMul, Nat.reduceLeDiff, Nat.reduceEqDiff, Nat.reduceLT, Int.reduceNeg, Int.reduceAdd, Int.reduceSub, Int.reduceMul, Int.reduceLE, Int.reduceLT, Int.reduceEq, Int.reduceToNat, reduceCtorEq]
  repeat' ((first | rw [GuardI_ndec] | rw [CondC_ndec] | rw [GuardQ_ndec] | rw [GuardI_dec] | rw [CondC_dec] | rw [GuardQ_dec] | rw [GuardI_nby] | rw [CondC_nby] | rw [GuardQ_nby] | rw [GuardQ_by] | rw [GuardI_by] | rw [CondC_by]) <;> split <;> simp -implicitDefEqProofs (disch := omega) only [go_sem, Nat.reduceBEq, Nat.reduceAdd, Nat.reduceSub, Nat.reduceMul, Nat.reduceLeDiff, Nat.reduceEqDiff, Nat.reduceLT, Int.reduceNeg, Int.reduceAdd, Int.reduceSub, Int.reduceMul, Int.reduceLE, Int.reduceLT, Int.reduceEq, Int.reduceToNat, reduceCtorEq, *])
  all_goals simp_all
theorem run_l1In (d : Nat) (n lo hi : Int) : retP (runD tab noExt (d + 1)) 95 [.int .i64 n, .int .i64 lo, .int .i64 hi] = some [.bool (decide (lo ≤ n ∧ n ≤ hi))] := by
  rw [retP, runD_eq find95 _ _ _ (by simp)]
  simp -implicitDefEqProofs (disch := omega) only [go_sem, Nat.reduceBEq, Nat.reduceAdd, Nat.reduceSub, Nat.reduceMul, Nat.reduceLeDiff, Nat.reduceEqDiff, Nat.reduceLT, Int.reduceNeg, Int.reduceAdd, Int.reduceSub, Int.reduceMul, Int.reduceLE, Int.reduceLT, Int.reduceEq, Int.reduceToNat, reduceCtorEq]
  repeat' ((first | rw [GuardI_ndec] | rw [CondC_ndec] | rw [GuardQ_ndec] | rw [GuardI_dec] | rw [CondC_dec] | rw [GuardQ_dec] | rw [GuardI_nby] | rw [CondC_nby] | rw [GuardQ_nby] | rw [GuardQ_by] | rw [GuardI_by] | rw [CondC_by]) <;> split <;> simp -implicitDefEqProofs (disch := omega) only [go_sem, Nat.reduceBEq, Nat.reduceAdd, Nat.reduceSub, Nat.reduceMul, Nat.reduceLeDiff, Nat.reduceEqDiff, Nat.reduceLT, Int.reduceNeg, Int.reduceAdd, Int.reduceSub, Int.reduceMul, Int.reduceLE, Int.reduceLT, Int.reduceEq, Int.reduceToNat, reduceCtorEq, *])
  all_goals simp_all

theorem str_len (s : ByteArray) : s.data.toList.length = s.size := by rw [Array.length_toList]; rfl
/-- From an index on to the end. -/
theorem drop_ind {α : Type} (l : List α) (M : Nat → List α → Prop) (h0 : M l.length []) (h1 : ∀ i x r, i < l.length → l[i]? = some x → M (i + 1) r → M i (x :: r)) : ∀ rest i, l.drop i = rest → i ≤ l.length → M i rest
  | [], i, hd, hi => by
    have := List.drop_eq_nil_iff.1 hd
    have e : i = l.length := by omega
    subst e
    exact h0
  | x :: r, i, hd, hi => by
    have hlt : i < l.length := by
      rcases Nat.lt_or_ge i l.length with h2 | h2
      · exact h2
      · rw [List.drop_eq_nil_of_le h2] at hd; cases hd
    have hx : l[i]? = some x := by rw [← List.head?_drop, hd]; rfl
    have hr : l.drop (i + 1) = r := by rw [← List.drop_drop, hd]; rfl
    exact h1 i x r hlt hx (drop_ind l M h0 h1 r (i + 1) hr (by omega))

theorem ofBytes_at {l : List UInt8} {i : Nat} {b : UInt8} (h : l[i]? = some b) : (cellsOfBytes l)[i]? = some [.int .u8 b.toNat] := by simp [cellsOfBytes, h]

theorem loop_letters (d : Nat) (draw : Draw) (l : List UInt8) (hl : l.length < 1099511627776) : ∀ (rest : List UInt8) (i : Nat), l.drop i = rest → i ≤ l.length → ∀ k, rest.length ≤ k →
    LoopS (runD tab noExt (d + 1)) draw [6, 7, 8] [2] L124x0 0 k [(6, .sl false 1 (cellsOfBytes l)), (7, .int .i64 l.length), (8, .int .i64 i)] [] =
    if rest.all letterB then some (.exit 0, [(2, .undef)], []) else some (.ret, [(2, .bool false)], []) := by
  refine drop_ind l (fun i rest => _) ?_ ?_
  · intro k hk
    rw [LoopS_eq]
    simp [go_sem, Nat.reduceBEq, Nat.reduceAdd, Nat.reduceSub, Nat.reduceMul, Nat.reduceLeDiff, Nat.reduceEqDiff, Nat.reduceLT, Int.reduceNeg, Int.reduceAdd, Int.reduceSub, Int.reduceMul, Int.reduceLE, Int.reduceLT, Int.reduceEq, Int.reduceToNat, reduceCtorEq, evL124x0, B124x0, Int.lt_irrefl]
  · intro i b r hlt hb ih k hk
    have hi : (i : Int) < l.length := by omega
    have hb8 := b.toNat_lt
    obtain ⟨k, rfl⟩ : ∃ k', k = k' + 1 := ⟨k - 1, by simp at hk; omega⟩
    have ih' := ih k (by simp at hk; omega)
    simp only [Int.natCast_add, Int.natCast_one] at ih'
    rw [LoopS_eq]
    simp -implicitDefEqProofs (disch := omega) only [go_sem, Nat.reduceBEq, Nat.reduceAdd, Nat.reduceSub, Nat.reduceMul, Nat.reduceLeDiff, Nat.reduceEqDiff, Nat.reduceLT, Int.reduceNeg, Int.reduceAdd, Int.reduceSub, Int.reduceMul, Int.reduceLE, Int.reduceLT, Int.reduceEq, Int.reduceToNat, reduceCtorEq, evL124x0, B124x0, hi, ofBytes_at hb, run_between, IntWalk.i64_in]
    have e1 : letterB b = decide (97 ≤ (b.toNat : Int) ∧ (b.toNat : Int) ≤ 122) := rfl
    rw [← e1]
    rcases Bool.eq_false_or_eq_true (letterB b) with hlb | hlb
    · simp -implicitDefEqProofs (disch := omega) only [go_sem, Nat.reduceBEq, Nat.reduceAdd, Nat.reduceSub, Nat.reduceMul, Nat.reduceLeDiff, Nat.reduceEqDiff, Nat.reduceLT, Int.reduceNeg, Int.reduceAdd, Int.reduceSub, Int.reduceMul, Int.reduceLE, Int.reduceLT, Int.reduceEq, Int.reduceToNat, reduceCtorEq, hlb, IntWalk.i64_in, ih']
    · simp -implicitDefEqProofs only [go_sem, Nat.reduceBEq, Nat.reduceAdd, Nat.reduceSub, Nat.reduceMul, Nat.reduceLeDiff, Nat.reduceEqDiff, Nat.reduceLT, Int.reduceNeg, Int.reduceAdd, Int.reduceSub, Int.reduceMul, Int.reduceLE, Int.reduceLT, Int.reduceEq, Int.reduceToNat, reduceCtorEq, hlb]

theorem loop_l1Text (d : Nat) (draw : Draw) (s : ByteArray) (hl : s.size < 1099511627776) : ∀ (rest : List UInt8) (i : Nat), s.data.toList.drop i = rest → i ≤ s.data.toList.length → ∀ k, rest.length ≤ k →
    LoopS (runD tab noExt d) draw [0, 3] [0, 2] L162x0 0 k [(0, .str s), (3, .int .i64 i)] [] =
    if rest.all letterB then some (.exit 0, [(0, .str s), (2, .undef)], []) else some (.ret, [(0, .str s), (2, .bool false)], []) := by
  have hsz := str_len s
  refine drop_ind s.data.toList (fun i rest => _) ?_ ?_
  · intro k hk
    rw [LoopS_eq, hsz]
    simp [go_sem, Nat.reduceBEq, Nat.reduceAdd, Nat.reduceSub, Nat.reduceMul, Nat.reduceLeDiff, Nat.reduceEqDiff, Nat.reduceLT, Int.reduceNeg, Int.reduceAdd, Int.reduceSub, Int.reduceMul, Int.reduceLE, Int.reduceLT, Int.reduceEq, Int.reduceToNat, reduceCtorEq, evL162x0, B162x0, Int.lt_irrefl]
  · intro i b r hlt hb ih k hk
    have hi : (i : Int) < s.size := by omega
    have hb8 := b.toNat_lt
    obtain ⟨k, rfl⟩ : ∃ k', k = k' + 1 := ⟨k - 1, by simp at hk; omega⟩
    have ih' := ih k (by simp at hk; omega)
    simp only [Int.natCast_add, Int.natCast_one] at ih'
    rw [LoopS_eq]
    simp -implicitDefEqProofs (disch := omega) only [go_sem, Nat.reduceBEq, Nat.reduceAdd, Nat.reduceSub, Nat.reduceMul, Nat.reduceLeDiff, Nat.reduceEqDiff, Nat.reduceLT, Int.reduceNeg, Int.reduceAdd, Int.reduceSub, Int.reduceMul, Int.reduceLE, Int.reduceLT, Int.reduceEq, Int.reduceToNat, reduceCtorEq, evL162x0, B162x0, hi, hb, IntWalk.i64_in]
    have e1 : letterB b = decide (97 ≤ (b.toNat : Int) ∧ (b.toNat : Int) ≤ 122) := rfl
    by_cases h1 : (b.toNat : Int) < 97
    · have hlb : letterB b = false := by rw [e1]; simp; omega
      simp -implicitDefEqProofs (disch := omega) only [go_sem, Nat.reduceBEq, Nat.reduceAdd, Nat.reduceSub, Nat.reduceMul, Nat.reduceLeDiff, Nat.reduceEqDiff, Nat.reduceLT, Int.reduceNeg, Int.reduceAdd, Int.reduceSub, Int.reduceMul, Int.reduceLE, Int.reduceLT, Int.reduceEq, Int.reduceToNat, reduceCtorEq, h1, hlb]
    · by_cases h2 : 122 < (b.toNat : Int)
      · have hlb : letterB b = false := by rw [e1]; simp; omega
        simp -implicitDefEqProofs (disch := omega) only [go_sem, Nat.reduceBEq, Nat.reduceAdd, Nat.reduceSub, Nat.reduceMul, Nat.reduceLeDiff, Nat.reduceEqDiff, Nat.reduceLT, Int.reduceNeg, Int.reduceAdd, Int.reduceSub, Int.reduceMul, Int.reduceLE, Int.reduceLT, Int.reduceEq, Int.reduceToNat, reduceCtorEq, hb, h1, h2, hlb]
      · have hlb : letterB b = true := by rw [e1]; simp; omega
        simp -implicitDefEqProofs (disch := omega) only [go_sem, Nat.reduceBEq, Nat.reduceAdd, Nat.reduceSub, Nat.reduceMul, Nat.reduceLeDiff, Nat.reduceEqDiff, Nat.reduceLT, Int.reduceNeg, Int.reduceAdd, Int.reduceSub, Int.reduceMul, Int.reduceLE, Int.reduceLT, Int.reduceEq, Int.reduceToNat, reduceCtorEq, hb, h1, h2, hlb, IntWalk.i64_in, ih']

-- find124
theorem run_letters (d : Nat) (s : ByteArray) (hs : s.size < 1099511627776) : retP (runD tab noExt (d + 2)) 124 [.str s] = some [.bool (lettersB s)] := by
  rw [retP, runD_eq find124 _ _ _ (by simp)]
  have hl := loop_letters d (drawI (runD tab noExt (d + 1))) s.data.toList (by rw [str_len]; exact hs) s.data.toList 0 rfl (Nat.zero_le _) 1099511627775 (by rw [str_len]; omega)
  simp -implicitDefEqProofs only [go_sem, Nat.reduceBEq, Nat.reduceAdd, Nat.reduceSub, Nat.reduceMul, Nat.reduceLeDiff, Nat.reduceEqDiff, Nat.reduceLT, Int.reduceNeg, Int.reduceAdd, Int.reduceSub, Int.reduceMul, Int.reduceLE, Int.reduceLT, Int.reduceEq, Int.reduceToNat, reduceCtorEq, cellsOfBytes, List.length_map]
  simp only [cellsOfBytes, Int.natCast_zero] at hl
  rw [hl]
  split <;> simp -implicitDefEqProofs only [go_sem, Nat.reduceBEq, Nat.reduceAdd, Nat.reduceSub, Nat.reduceMul, Nat.reduceLeDiff, Nat.reduceEqDiff, Nat.reduceLT, Int.reduceNeg, Int.reduceAdd, Int.reduceSub, Int.reduceMul, Int.reduceLE, Int.reduceLT, Int.reduceEq, Int.reduceToNat, reduceCtorEq, lettersB, *]

theorem Val.eta (v : Val) : (⟨v.kind, v.n, v.s⟩ : Val) = v := rfl

theorem run_ok (d : Nat) (k n : Int) (s : ByteArray) : retP (runD tab noExt (d + 3)) 82 [.agg [.int .i64 k, .int .i64 n, .str s]] = some [.bool (Val.ok ⟨k, n, s⟩)] := by
  rw [retP, runD_eq find82 _ _ _ (by simp)]
  simp -implicitDefEqProofs (disch := omega) only [go_sem, Nat.reduceBEq, Nat.reduceAdd, Nat.reduceSub, Nat.reduceMul, Nat.reduceLeDiff, Nat.reduceEqDiff, Nat.reduceLT, Int.reduceNeg, Int.reduceAdd, Int.reduceSub, Int.reduceMul, Int.reduceLE, Int.reduceLT, Int.reduceEq, Int.reduceToNat, reduceCtorEq, run_between, run_letters]
  repeat' ((first | rw [GuardI_ndec] | rw [CondC_ndec] | rw [GuardQ_ndec] | rw [GuardI_dec] | rw [CondC_dec] | rw [GuardQ_dec] | rw [GuardI_nby] | rw [CondC_nby] | rw [GuardQ_nby] | rw [GuardQ_by] | rw [GuardI_by] | rw [CondC_by]) <;> split <;> simp -implicitDefEqProofs (disch := omega) only [go_sem, Nat.reduceBEq, Nat.reduceAdd, Nat.reduceSub, Nat.reduceMul, Nat.reduceLeDiff, Nat.reduceEqDiff, Nat.reduceLT, Int.reduceNeg, Int.reduceAdd, Int.reduceSub, Int.reduceMul, Int.reduceLE, Int.reduceLT, Int.reduceEq, Int.reduceToNat, reduceCtorEq, run_between, run_letters, *])
  all_goals (simp_all [Val.ok]; try omega)
theorem run_ValueOk (d : Nat) (k n : Int) (s : ByteArray) : retP (runD tab noExt (d + 4)) 74 [.agg [.int .i64 k, .int .i64 n, .str s]] = some [.bool (Val.ok ⟨k, n, s⟩)] := by
  rw [retP, runD_eq find74 _ _ _ (by simp)]
  simp -implicitDefEqProofs (disch := omega) only [go_sem, Nat.reduceBEq, Nat.reduceAdd, Nat.reduceSub, Nat.reduceMul, Nat.reduceLeDiff, Nat.reduceEqDiff, Nat.reduceLT, Int.reduceNeg, Int.reduceAdd, Int.reduceSub, Int.reduceMul, Int.reduceLE, Int.reduceLT, Int.reduceEq, Int.reduceToNat, reduceCtorEq, run_ok]
  repeat' ((first | rw [GuardI_ndec] | rw [CondC_ndec] | rw [GuardQ_ndec] | rw [GuardI_dec] | rw [CondC_dec] | rw [GuardQ_dec] | rw [GuardI_nby] | rw [CondC_nby] | rw [GuardQ_nby] | rw [GuardQ_by] | rw [GuardI_by] | rw [CondC_by]) <;> split <;> simp -implicitDefEqProofs (disch := omega) only [go_sem, Nat.reduceBEq, Nat.reduceAdd, Nat.reduceSub, Nat.reduceMul, Nat.reduceLeDiff, Nat.reduceEqDiff, Nat.reduceLT, Int.reduceNeg, Int.reduceAdd, Int.reduceSub, Int.reduceMul, Int.reduceLE, Int.reduceLT, Int.reduceEq, Int.reduceToNat, reduceCtorEq, run_ok, *])
  all_goals simp_all
def cmpI (a b : Int) : Int := if a < b then -1 else if b < a then 1 else 0
def ltS (a b : ByteArray) : Bool := decide (a.data.toList < b.data.toList)
def cmpS (a b : ByteArray) : Int := if ltS a b then -1 else if ltS b a then 1 else 0
/-- The order of values. -/
def Val.cmp (v w : Val) : Int := if cmpI v.kind w.kind ≠ 0 then cmpI v.kind w.kind else if cmpI v.n w.n ≠ 0 then cmpI v.n w.n else cmpS v.s w.s

-- find162
theorem run_l1Text (d : Nat) (s : ByteArray) (hs : s.size < 1099511627776) : retP (runD tab noExt (d + 1)) 162 [.str s] = some [.bool (lettersB s && decide ((s.size : Int) ≤ 6))] := by
  rw [retP, runD_eq find162 _ _ _ (by simp)]
  have hl := loop_l1Text d (drawI (runD tab noExt d)) s hs s.data.toList 0 rfl (Nat.zero_le _) 1099511627775 (by rw [str_len]; omega)
  simp only [Int.natCast_zero] at hl
  simp -implicitDefEqProofs only [go_sem, Nat.reduceBEq, Nat.reduceAdd, Nat.reduceSub, Nat.reduceMul, Nat.reduceLeDiff, Nat.reduceEqDiff, Nat.reduceLT, Int.reduceNeg, Int.reduceAdd, Int.reduceSub, Int.reduceMul, Int.reduceLE, Int.reduceLT, Int.reduceEq, Int.reduceToNat, reduceCtorEq]
  rw [hl]
  split <;> simp -implicitDefEqProofs only [go_sem, Nat.reduceBEq, Nat.reduceAdd, Nat.reduceSub, Nat.reduceMul, Nat.reduceLeDiff, Nat.reduceEqDiff, Nat.reduceLT, Int.reduceNeg, Int.reduceAdd, Int.reduceSub, Int.reduceMul, Int.reduceLE, Int.reduceLT, Int.reduceEq, Int.reduceToNat, reduceCtorEq, lettersB, *]

theorem run_specValueOk (d : Nat) (k n : Int) (s : ByteArray) (hs : s.size < 1099511627776) : retP (runD tab noExt (d + 2)) 157 [.agg [.int .i64 k, .int .i64 n, .str s]] = some [.bool (Val.ok ⟨k, n, s⟩)] := by
  rw [retP, runD_eq find157 _ _ _ (by simp)]
  simp -implicitDefEqProofs (disch := omega) only [go_sem, Nat.reduceBEq, Nat.reduceAdd, Nat.reduceSub, Nat.reduceMul, Nat.reduceLeDiff, Nat.reduceEqDiff, Nat.reduceLT, Int.reduceNeg, Int.reduceAdd, Int.reduceSub, Int.reduceMul, Int.reduceLE, Int.reduceLT, Int.reduceEq, Int.reduceToNat, reduceCtorEq, run_l1In, run_l1Text]
  repeat' ((first | rw [GuardI_ndec] | rw [CondC_ndec] | rw [GuardQ_ndec] | rw [GuardI_dec] | rw [CondC_dec] | rw [GuardQ_dec] | rw [GuardI_nby] | rw [CondC_nby] | rw [GuardQ_nby] | rw [GuardQ_by] | rw [GuardI_by] | rw [CondC_by]) <;> split <;> simp -implicitDefEqProofs (disch := omega) only [go_sem, Nat.reduceBEq, Nat.reduceAdd, Nat.reduceSub, Nat.reduceMul, Nat.reduceLeDiff, Nat.reduceEqDiff, Nat.reduceLT, Int.reduceNeg, Int.reduceAdd, Int.reduceSub, Int.reduceMul, Int.reduceLE, Int.reduceLT, Int.reduceEq, Int.reduceToNat, reduceCtorEq, run_l1In, run_l1Text, *])
  all_goals (simp_all [Val.ok, Bool.and_comm]; try omega)
end Go.Proofs.Yteaojpfofifmnaa.PE
/- What is known of values: what the functions come to. -/
set_option linter.unusedSimpArgs false
namespace Go.Proofs.Yteaojpfofifmnaa.PE
open Go.RowKit

/-- What is known of values. -/
structure Kn where
  many : Int
  sum : Int
  least : Val
  most : Val
  deriving DecidableEq

def Val.ord (v w : Val) : Int := if v.ok && w.ok then v.cmp w else 0
def Val.zero : Val := ⟨0, 0, ⟨#[]⟩⟩
def Kn.zero : Kn := ⟨0, 0, .zero, .zero⟩
def Kn.ok (k : Kn) : Bool :=
  if k.many = 0 then decide (k = .zero)
  else decide (1 ≤ k.many) && decide (k.many ≤ 100) && (decide (-9999 * k.many ≤ k.sum) && decide (k.sum ≤ 9999 * k.many)) && k.least.ok && k.most.ok &&
    decide (k.least.kind = k.most.kind) && !decide (k.least.kind = 0) && decide (k.least.cmp k.most ≤ 0) && (decide (k.least.kind = 1) || decide (k.sum = 0))

end Go.Proofs.Yteaojpfofifmnaa.PE
/- The reader of the drawn bytes. -/
set_option linter.unusedSimpArgs false
set_option linter.unusedVariables false
namespace Go.Proofs.Yteaojpfofifmnaa.PE
open Go.RowKit

theorem ofBytes_lt {l : List UInt8} {i : Nat} (h : i < l.length) : (cellsOfBytes l)[i]? = some [.int .u8 ((l.getD i 0).toNat : Int)] := by
  simp [cellsOfBytes, List.getElem?_eq_getElem h, List.getD_eq_getElem?_getD]
theorem ofBytes_len (l : List UInt8) : (cellsOfBytes l).length = l.length := by simp [cellsOfBytes]
theorem tmod_idx {a : Int} {n : Nat} (h : 0 ≤ a) (hn : 0 < n) : (a.tmod (n : Int)).toNat < n := by
  rw [Int.tmod_eq_emod_of_nonneg h]
  have := Int.emod_lt_of_pos a (show (0 : Int) < n by omega)
  omega
theorem tmod_nn {a n : Int} (h : 0 ≤ a) (hn : 0 < n) : 0 ≤ a.tmod n := by
  rw [Int.tmod_eq_emod_of_nonneg h]
  exact Int.emod_nonneg a (by omega)
theorem tmod_lt {a n : Int} (h : 0 ≤ a) (hn : 0 < n) : a.tmod n < n := by
  rw [Int.tmod_eq_emod_of_nonneg h]
  exact Int.emod_lt_of_pos a (by omega)
theorem tmod_nn' {a : Int} {n : Nat} (h : 0 ≤ a) (hn : 0 < n) : (0 ≤ a.tmod (n : Int)) = True := by simp [tmod_nn h (show (0 : Int) < n by omega)]
theorem tdiv_in {a n : Int} (h : 0 ≤ a) (hn : 0 < n) : 0 ≤ a.tdiv n ∧ a.tdiv n ≤ a := by
  rw [Int.tdiv_eq_ediv_of_nonneg h]
  exact ⟨Int.ediv_nonneg h (by omega), Int.ediv_le_self n h⟩
theorem tdiv64 {a : Int} (h : 0 ≤ a) : a.tdiv 64 = a / 64 := Int.tdiv_eq_ediv_of_nonneg h
theorem xor_nn {a b : Int} (ha : 0 ≤ a) (ha' : a < 9223372036854775808) (hb : 0 ≤ b) (hb' : b < 9223372036854775808) :
    0 ≤ IntKind.i64.wrap ((BitVec.ofInt IntKind.i64.bits a ^^^ BitVec.ofInt IntKind.i64.bits b).toNat : Int) := by
  have h1 : (BitVec.ofInt IntKind.i64.bits a ^^^ BitVec.ofInt IntKind.i64.bits b).toNat < 2 ^ 63 := by
    rw [BitVec.toNat_xor]
    have e : ∀ x : Int, 0 ≤ x → x < 9223372036854775808 → (BitVec.ofInt IntKind.i64.bits x).toNat < 2 ^ 63 := by
      intro x h0 h1
      rw [BitVec.toNat_ofInt]
      have : ((2 ^ IntKind.i64.bits : Nat) : Int) = 18446744073709551616 := rfl
      rw [this, Int.emod_eq_of_lt h0 (by omega)]
      have : (2 : Nat) ^ 63 = 9223372036854775808 := rfl
      omega
    exact Nat.xor_lt_two_pow (e a ha ha') (e b hb hb')
  have h2 : (2 : Nat) ^ 63 = 9223372036854775808 := rfl
  rw [IntWalk.i64_in _ (by omega)]
  omega
theorem u8_lt (l : List UInt8) (i : Nat) : ((l.getD i 0).toNat : Int) < 256 := by
  have := (l.getD i 0).toNat_lt
  omega
theorem u8_nn (l : List UInt8) (i : Nat) : (0 : Int) ≤ ((l.getD i 0).toNat : Int) := by omega
theorem i64_u8 (l : List UInt8) (i : Nat) : IntKind.i64.wrap ((l.getD i 0).toNat : Int) = ((l.getD i 0).toNat : Int) := by
  have := u8_lt l i
  exact IntWalk.i64_in _ (by omega)

/-- A number below n, or 0. -/
def Pk (n m : Int) : Prop := 0 ≤ m ∧ (m < n ∨ m = 0 ∧ n < 1)

-- find116
theorem ex_pick {d : Nat} {hp t : Heap} {c : Bool} {bs : List UInt8} {p n : Int} {X : Option (V × Heap)} (hx : callS (runD tab noExt (d + 1)) (hp ++ .box [.sl c 1 (cellsOfBytes bs), .int .i64 (p)] :: t) 116 [.ptr hp.length 0 0 0, .int .i64 n] false = X)
    (hp0 : 0 ≤ p) (hq : p ≤ 1099511627776) (hb : bs.length ≤ 2000) (hhp : plainH hp = true) (ht : plainH t = true) :
    ∃ m, X = some (.int .i64 m, hp ++ .box [.sl c 1 (cellsOfBytes bs), .int .i64 (p+1)] :: t) ∧ Pk n m := by
  subst hx
  have hh : ∀ n, t.all (hiB n) = true := fun n => plainH_hi ht n
  have hhq : ∀ n, hp.all (hiB n) = true := fun n => plainH_hi hhp n
  rw [callS_eq, runD_eq find116 _ _ _ (by simp)]
  by_cases h1 : n < 1
  · simp -implicitDefEqProofs (disch := omega) only [go_sem, Nat.reduceBEq, Nat.reduceAdd, Nat.reduceSub, Nat.reduceMul, Nat.reduceLeDiff, Nat.reduceEqDiff, Nat.reduceLT, Int.reduceNeg, Int.reduceAdd, Int.reduceSub, Int.reduceMul, Int.reduceLE, Int.reduceLT, Int.reduceEq, Int.reduceToNat, reduceCtorEq, IntWalk.i64_in, hh, hhq, List.all_append, h1]
    exact ⟨0, rfl, by omega, .inr ⟨rfl, h1⟩⟩
  · by_cases h2 : bs.length = 0
    · have h2' : (bs.length : Int) = 0 := by omega
      simp -implicitDefEqProofs (disch := omega) only [go_sem, Nat.reduceBEq, Nat.reduceAdd, Nat.reduceSub, Nat.reduceMul, Nat.reduceLeDiff, Nat.reduceEqDiff, Nat.reduceLT, Int.reduceNeg, Int.reduceAdd, Int.reduceSub, Int.reduceMul, Int.reduceLE, Int.reduceLT, Int.reduceEq, Int.reduceToNat, reduceCtorEq, IntWalk.i64_in, hh, hhq, List.all_append, h1, h2', ofBytes_len]
      exact ⟨0, rfl, by omega, .inl (by omega)⟩
    · have h2' : ((bs.length : Int) = 0) = False := eq_false (by omega)
      by_cases h3 : p < bs.length
      · have h4 : p.toNat < bs.length := by omega
        simp -implicitDefEqProofs (disch := omega) only [go_sem, Nat.reduceBEq, Nat.reduceAdd, Nat.reduceSub, Nat.reduceMul, Nat.reduceLeDiff, Nat.reduceEqDiff, Nat.reduceLT, Int.reduceNeg, Int.reduceAdd, Int.reduceSub, Int.reduceMul, Int.reduceLE, Int.reduceLT, Int.reduceEq, Int.reduceToNat, reduceCtorEq, IntWalk.i64_in, hh, hhq, List.all_append, h1, h2', h3, ofBytes_len, ofBytes_lt h4, Int.add_sub_cancel, hp0, i64_u8, (eq_false (by omega) : (n = 0) = False)]
        exact ⟨_, rfl, tmod_nn (u8_nn _ _) (by omega), .inl (tmod_lt (u8_nn _ _) (by omega))⟩
      · have k1 := tmod_idx hp0 (show 0 < bs.length by omega)
        have k2 := tmod_idx (show 0 ≤ p * 7 + 3 by omega) (show 0 < bs.length by omega)
        have k3 := tmod_nn' hp0 (show 0 < bs.length by omega)
        have k4 := tmod_nn' (show 0 ≤ p * 7 + 3 by omega) (show 0 < bs.length by omega)
        have k5 := u8_lt bs (p.tmod bs.length).toNat
        have k6 := u8_lt bs ((p * 7 + 3).tmod bs.length).toNat
        have k7 := tdiv_in hp0 (show (0 : Int) < bs.length by omega)
        simp -implicitDefEqProofs (disch := omega) only [go_sem, Nat.reduceBEq, Nat.reduceAdd, Nat.reduceSub, Nat.reduceMul, Nat.reduceLeDiff, Nat.reduceEqDiff, Nat.reduceLT, Int.reduceNeg, Int.reduceAdd, Int.reduceSub, Int.reduceMul, Int.reduceLE, Int.reduceLT, Int.reduceEq, Int.reduceToNat, reduceCtorEq, evC_draw, evD116x0, E116x0, IntWalk.i64_in, hh, hhq, List.all_append, h1, h2', h3, ofBytes_len, Int.add_sub_cancel, hp0, i64_u8, (eq_false (by omega) : (n = 0) = False), k3, k4, ofBytes_lt k1, ofBytes_lt k2, tdiv64]
        refine ⟨_, rfl, tmod_nn (xor_nn ?_ ?_ ?_ ?_) (by omega), .inl (tmod_lt (xor_nn ?_ ?_ ?_ ?_) (by omega))⟩ <;> omega

-- find118
theorem ex_odd {d : Nat} {hp t : Heap} {c : Bool} {bs : List UInt8} {p n : Int} {X : Option (V × Heap)} (hx : callS (runD tab noExt (d + 2)) (hp ++ .box [.sl c 1 (cellsOfBytes bs), .int .i64 (p)] :: t) 118 [.ptr hp.length 0 0 0, .int .i64 n] false = X)
    (hp0 : 0 ≤ p) (hq : p ≤ 1099511627776) (hb : bs.length ≤ 2000) (hhp : plainH hp = true) (ht : plainH t = true) :
    ∃ b p', X = some (.bool b, hp ++ .box [.sl c 1 (cellsOfBytes bs), .int .i64 (p')] :: t) ∧ p ≤ p' ∧ p' ≤ p + 1 ∧ (n ≤ 0 → b = false) := by
  subst hx
  have hh : ∀ n, t.all (hiB n) = true := fun n => plainH_hi ht n
  have hhq : ∀ n, hp.all (hiB n) = true := fun n => plainH_hi hhp n
  rw [callS_eq, runD_eq find118 _ _ _ (by simp)]
  by_cases h1 : 0 < n
  · generalize hP : (fun (p' : Int) (b : Bool) => p ≤ p' ∧ p' ≤ p + 1 ∧ (n ≤ 0 → b = false)) = P
    simp -implicitDefEqProofs only [go_sem, Nat.reduceBEq, Nat.reduceAdd, Nat.reduceSub, Nat.reduceMul, Nat.reduceLeDiff, Nat.reduceEqDiff, Nat.reduceLT, Int.reduceNeg, Int.reduceAdd, Int.reduceSub, Int.reduceMul, Int.reduceLE, Int.reduceLT, Int.reduceEq, Int.reduceToNat, reduceCtorEq, h1]
    generalize hx : callS (runD tab noExt _) _ 116 _ _ = X
    obtain ⟨m, rfl, hm⟩ := ex_pick hx hp0 hq hb hhp ht
    simp -implicitDefEqProofs only [go_sem, Nat.reduceBEq, Nat.reduceAdd, Nat.reduceSub, Nat.reduceMul, Nat.reduceLeDiff, Nat.reduceEqDiff, Nat.reduceLT, Int.reduceNeg, Int.reduceAdd, Int.reduceSub, Int.reduceMul, Int.reduceLE, Int.reduceLT, Int.reduceEq, Int.reduceToNat, reduceCtorEq, hh, hhq, List.all_append]
    exact ⟨_, _, rfl, by omega, by omega, fun h => by omega⟩
  · simp -implicitDefEqProofs only [go_sem, Nat.reduceBEq, Nat.reduceAdd, Nat.reduceSub, Nat.reduceMul, Nat.reduceLeDiff, Nat.reduceEqDiff, Nat.reduceLT, Int.reduceNeg, Int.reduceAdd, Int.reduceSub, Int.reduceMul, Int.reduceLE, Int.reduceLT, Int.reduceEq, Int.reduceToNat, reduceCtorEq, hh, hhq, List.all_append, h1]
    exact ⟨_, _, rfl, by omega, by omega, fun _ => rfl⟩
end Go.Proofs.Yteaojpfofifmnaa.PE
/- Columns and rows: what the reference's small functions come to. -/
set_option linter.unusedSimpArgs false
set_option linter.unusedVariables false
set_option maxHeartbeats 4000000
namespace Go.Proofs.Yteaojpfofifmnaa.PE
open Go.RowKit

theorem at_getD {α : Type} {l : List α} {i : Nat} (d : α) (h : i < l.length) : l[i]? = some (l.getD i d) := by
  rw [List.getD_eq_getElem?_getD, List.getElem?_eq_getElem h]; rfl
structure Col where
  kind : Int
  empty : Bool
  deriving DecidableEq
def Col.cells (c : Col) : List V := [.int .i64 c.kind, .bool c.empty]
def Col.ok (c : Col) : Bool := decide (1 ≤ c.kind ∧ c.kind ≤ 3)
def colsOk (cs : List Col) : Bool := cs.all Col.ok && decide (cs.length ≤ 4)
/-- A row as it lies in a list of rows: whether it is clipped, and its values. -/
structure Row where
  clip : Bool
  vs : List Val
def Row.v (r : Row) : V := .sl r.clip 3 (r.vs.map Val.cells)
def Row.cells (r : Row) : List V := [r.v]
def short (vs : List Val) : Prop := ∀ v ∈ vs, v.s.size < 1099511627776
def rowOk (vs : List Val) : Bool := vs.all Val.ok && decide (vs.length ≤ 4)
theorem short_at {vs : List Val} (h : short vs) {i : Nat} {x : Val} (hx : vs[i]? = some x) : x.s.size < 1099511627776 := h x (List.mem_of_getElem? hx)

theorem loop_rowOk (d : Nat) (c : Bool) (vs : List Val) (hs : vs.length < 1099511627776) (hsh : short vs) (K : Nat) (hK : (vs).length ≤ K) : LoopS (runD tab noExt (d + 2)) (drawI (runD tab noExt (d + 2))) [0, 3] [0, 2] L144x0 ([] : Heap).length K [(0, .sl c 3 (vs.map Val.cells)), (3, .int .i64 0)] [] = if (vs).all (Val.ok) then (some (.exit 0, [(0, .sl c 3 (vs.map Val.cells)), (2, .undef)], []) : Out) else (some (.ret, [(0, .sl c 3 (vs.map Val.cells)), (2, .bool false)], []) : Out) := by
  have key := LoopS_all (run := (runD tab noExt (d + 2))) (draw := drawI (runD tab noExt (d + 2))) (live := [0, 3]) (out := [0, 2]) (c := L144x0) (n0 := ([] : Heap).length) (vs) (Val.ok) (fun (i : Nat) => [(0, .sl c 3 (vs.map Val.cells)), (3, .int .i64 i)]) [] (some (.exit 0, [(0, .sl c 3 (vs.map Val.cells)), (2, .undef)], []) : Out) (some (.ret, [(0, .sl c 3 (vs.map Val.cells)), (2, .bool false)], []) : Out) (fun K => ?_) (fun (i : Nat) (x : Val) K hi hx => ?_) K hK
  · simp only [Int.natCast_zero] at key
    exact key
  · rw [LoopS_eq]
    simp -implicitDefEqProofs only [go_sem, Nat.reduceBEq, Nat.reduceAdd, Nat.reduceSub, Nat.reduceMul, Nat.reduceLeDiff, Nat.reduceEqDiff, Nat.reduceLT, Int.reduceNeg, Int.reduceAdd, Int.reduceSub, Int.reduceMul, Int.reduceLE, Int.reduceLT, Int.reduceEq, Int.reduceToNat, reduceCtorEq, evL144x0, B144x0, Int.lt_irrefl, run_specValueOk, Val.cells, Val.eta]
  · have hxs := short_at hsh hx
    rw [LoopS_eq]
    simp -implicitDefEqProofs (disch := omega) only [go_sem, Nat.reduceBEq, Nat.reduceAdd, Nat.reduceSub, Nat.reduceMul, Nat.reduceLeDiff, Nat.reduceEqDiff, Nat.reduceLT, Int.reduceNeg, Int.reduceAdd, Int.reduceSub, Int.reduceMul, Int.reduceLE, Int.reduceLT, Int.reduceEq, Int.reduceToNat, reduceCtorEq, evL144x0, B144x0, hi, hx, IntWalk.i64_in, run_specValueOk, Val.cells, Val.eta, *]
    repeat' ((first | rw [GuardI_ndec] | rw [CondC_ndec] | rw [GuardQ_ndec] | rw [GuardI_dec] | rw [CondC_dec] | rw [GuardQ_dec] | rw [GuardI_nby] | rw [CondC_nby] | rw [GuardQ_nby] | rw [GuardQ_by] | rw [GuardI_by] | rw [CondC_by]) <;> split <;> simp -implicitDefEqProofs (disch := omega) only [go_sem, Nat.reduceBEq, Nat.reduceAdd, Nat.reduceSub, Nat.reduceMul, Nat.reduceLeDiff, Nat.reduceEqDiff, Nat.reduceLT, Int.reduceNeg, Int.reduceAdd, Int.reduceSub, Int.reduceMul, Int.reduceLE, Int.reduceLT, Int.reduceEq, Int.reduceToNat, reduceCtorEq, hi, hx, IntWalk.i64_in, run_specValueOk, Val.cells, Val.eta, *, *])
    all_goals first | rfl | (simp_all []; done) | (simp_all []; omega)
-- find144
theorem run_rowOk (d : Nat) (c : Bool) (vs : List Val) (hs : vs.length < 1099511627776) (hsh : short vs) : retP (runD tab noExt (d + 3)) 144 [.sl c 3 (vs.map Val.cells)] = some [.bool (rowOk vs)] := by
  rw [retP, runD_eq find144 _ _ _ (by simp)]
  have hl := loop_rowOk d c vs hs hsh 1099511627775 (by omega)
  simp -implicitDefEqProofs only [go_sem, Nat.reduceBEq, Nat.reduceAdd, Nat.reduceSub, Nat.reduceMul, Nat.reduceLeDiff, Nat.reduceEqDiff, Nat.reduceLT, Int.reduceNeg, Int.reduceAdd, Int.reduceSub, Int.reduceMul, Int.reduceLE, Int.reduceLT, Int.reduceEq, Int.reduceToNat, reduceCtorEq] at hl ⊢
  rw [hl]
  split <;> simp -implicitDefEqProofs only [go_sem, Nat.reduceBEq, Nat.reduceAdd, Nat.reduceSub, Nat.reduceMul, Nat.reduceLeDiff, Nat.reduceEqDiff, Nat.reduceLT, Int.reduceNeg, Int.reduceAdd, Int.reduceSub, Int.reduceMul, Int.reduceLE, Int.reduceLT, Int.reduceEq, Int.reduceToNat, reduceCtorEq, rowOk, *]
  norm_cast

def fits1 (p : Col × Val) : Bool := decide (p.2.kind = p.1.kind) || (decide (p.2.kind = 0) && p.1.empty)
def fitsRow (cs : List Col) (vs : List Val) : Bool := colsOk cs && rowOk vs && decide (vs.length = cs.length) && (cs.zip vs).all fits1
def rowsFit (cs : List Col) (rs : List Row) : Bool := rs.all fun r => fitsRow cs r.vs
def rowsOk (cs : List Col) (rs : List Row) : Bool := rowsFit cs rs && colsOk cs
def Short (rs : List Row) : Prop := ∀ r ∈ rs, r.vs.length < 1099511627776 ∧ short r.vs
/-- Rows that are not too long for memory. -/
def Fine (rs : List Row) : Prop := rs.length < 4294967296 ∧ ∀ r ∈ rs, r.vs.length < 4294967296
end Go.Proofs.Yteaojpfofifmnaa.PE
/- Lists that are looked through by a closure; columns and rows: the program's. -/
set_option linter.unusedSimpArgs false
set_option linter.unusedVariables false
set_option maxHeartbeats 4000000
namespace Go.Proofs.Yteaojpfofifmnaa.PE
open Go.RowKit

def intC (n : Int) : List V := [.int .i64 n]

theorem loop_idxVal (d : Nat) (h : Heap) (c : Bool) (g : Nat) (caps : List V) (xs : List (Val)) (P : Val → Bool) (hs : xs.length < 1099511627776) (hhi : h.all (hiB h.length) = true) (hcap : caps.all (hi0 h.length) = true)
    (hg : ∀ x ∈ xs, callS (runD tab noExt d) h g (V.agg (Val.cells x) :: caps) false = some (.bool (P x), h)) (K : Nat) (hK : xs.length ≤ K) :
    LoopS (runD tab noExt d) (drawI (runD tab noExt d)) [0, 1, 7, 8] [4] L151x0 h.length K [(0, .sl c 3 (xs.map Val.cells)), (1, .clo g caps), (7, .int .i64 xs.length), (8, .int .i64 0)] h =
      (match xs.findIdx? P with
        | some k => (some (.ret, [(4, .int .i64 (k : Int))], h) : Out)
        | none => some (.exit 0, [(4, .undef)], h)) := by
  have key := LoopS_rec (run := runD tab noExt d) (draw := drawI (runD tab noExt d)) (live := [0, 1, 7, 8]) (out := [4]) (c := L151x0) (n0 := h.length) xs (fun (i : Nat) (_ : Unit) => [(0, .sl c 3 (xs.map Val.cells)), (1, .clo g caps), (7, .int .i64 xs.length), (8, .int .i64 i)]) (fun _ _ => h)
    (fun r _ => match r.findIdx? P with
        | some k => (some (.ret, [(4, .int .i64 (xs.length - r.length + k : Int))], h) : Out)
        | none => some (.exit 0, [(4, .undef)], h)) (fun _ K => ?_) (fun (i : Nat) x r _ K hi hx hr ih => ?_) K hK ()
  · simp only [Int.natCast_zero, Int.sub_self, Int.zero_add] at key
    exact key
  · rw [LoopS_eq]
    simp -implicitDefEqProofs only [go_sem, Nat.reduceBEq, Nat.reduceAdd, Nat.reduceSub, Nat.reduceMul, Nat.reduceLeDiff, Nat.reduceEqDiff, Nat.reduceLT, Int.reduceNeg, Int.reduceAdd, Int.reduceSub, Int.reduceMul, Int.reduceLE, Int.reduceLT, Int.reduceEq, Int.reduceToNat, reduceCtorEq, evL151x0, B151x0, hhi, hcap, Int.lt_irrefl, List.findIdx?_nil]
  · have hgx := hg x (List.mem_of_getElem? hx)
    try simp only [Val.cells] at hgx
    have hlen : (xs.length : Int) - (r.length + 1) = i := by omega
    rw [LoopS_eq]
    simp -implicitDefEqProofs (disch := omega) only [go_sem, Nat.reduceBEq, Nat.reduceAdd, Nat.reduceSub, Nat.reduceMul, Nat.reduceLeDiff, Nat.reduceEqDiff, Nat.reduceLT, Int.reduceNeg, Int.reduceAdd, Int.reduceSub, Int.reduceMul, Int.reduceLE, Int.reduceLT, Int.reduceEq, Int.reduceToNat, reduceCtorEq, evL151x0, B151x0, hhi, hcap, hi, hx, hgx, Val.cells, Val.cells, IntWalk.i64_in]
    rw [List.findIdx?_cons]
    cases hp : P x
    · simp -implicitDefEqProofs (disch := omega) only [go_sem, Nat.reduceBEq, Nat.reduceAdd, Nat.reduceSub, Nat.reduceMul, Nat.reduceLeDiff, Nat.reduceEqDiff, Nat.reduceLT, Int.reduceNeg, Int.reduceAdd, Int.reduceSub, Int.reduceMul, Int.reduceLE, Int.reduceLT, Int.reduceEq, Int.reduceToNat, reduceCtorEq, hhi, hcap, IntWalk.i64_in, hp]
      have ih' := ih ()
      simp only [Int.natCast_add, Int.natCast_one] at ih'
      rw [ih']
      cases hf : r.findIdx? P with
      | none => rfl
      | some k => simp; omega
    · simp -implicitDefEqProofs only [go_sem, Nat.reduceBEq, Nat.reduceAdd, Nat.reduceSub, Nat.reduceMul, Nat.reduceLeDiff, Nat.reduceEqDiff, Nat.reduceLT, Int.reduceNeg, Int.reduceAdd, Int.reduceSub, Int.reduceMul, Int.reduceLE, Int.reduceLT, Int.reduceEq, Int.reduceToNat, reduceCtorEq, hp, List.length_cons, Int.natCast_add, Int.natCast_one, hlen]
      simp
theorem idxVal (d : Nat) (h : Heap) (c : Bool) (g : Nat) (caps : List V) (xs : List (Val)) (P : Val → Bool) (hs : xs.length < 1099511627776) (hhi : h.all (hiB h.length) = true) (hcap : caps.all (hi0 h.length) = true)
    (hg : ∀ x ∈ xs, callS (runD tab noExt d) h g (V.agg (Val.cells x) :: caps) false = some (.bool (P x), h)) :
    callS (runD tab noExt (d + 1)) h 151 [.sl c 3 (xs.map Val.cells), .clo g caps] false = some (.int .i64 (match xs.findIdx? P with | some k => (k : Int) | none => -1), h) := by
  rw [callS_eq, runD_eq find151 _ _ _ (by simp)]
  have hl := loop_idxVal d h c g caps xs P hs hhi hcap hg 1099511627775 (by omega)
  simp -implicitDefEqProofs (disch := omega) only [go_sem, Nat.reduceBEq, Nat.reduceAdd, Nat.reduceSub, Nat.reduceMul, Nat.reduceLeDiff, Nat.reduceEqDiff, Nat.reduceLT, Int.reduceNeg, Int.reduceAdd, Int.reduceSub, Int.reduceMul, Int.reduceLE, Int.reduceLT, Int.reduceEq, Int.reduceToNat, reduceCtorEq, hhi, hcap]
  rw [hl]
  cases hf : xs.findIdx? P <;> simp -implicitDefEqProofs only [go_sem, Nat.reduceBEq, Nat.reduceAdd, Nat.reduceSub, Nat.reduceMul, Nat.reduceLeDiff, Nat.reduceEqDiff, Nat.reduceLT, Int.reduceNeg, Int.reduceAdd, Int.reduceSub, Int.reduceMul, Int.reduceLE, Int.reduceLT, Int.reduceEq, Int.reduceToNat, reduceCtorEq, hhi, hcap]
theorem conVal (d : Nat) (h : Heap) (c : Bool) (g : Nat) (caps : List V) (xs : List (Val)) (P : Val → Bool) (hs : xs.length < 1099511627776) (hhi : h.all (hiB h.length) = true) (hcap : caps.all (hi0 h.length) = true)
    (hg : ∀ x ∈ xs, callS (runD tab noExt d) h g (V.agg (Val.cells x) :: caps) false = some (.bool (P x), h)) :
    callS (runD tab noExt (d + 2)) h 125 [.sl c 3 (xs.map Val.cells), .clo g caps] false = some (.bool (xs.any P), h) := by
  rw [callS_eq, runD_eq find125 _ _ _ (by simp)]
  have hl := idxVal d h c g caps xs P hs hhi hcap hg
  simp -implicitDefEqProofs (disch := omega) only [go_sem, Nat.reduceBEq, Nat.reduceAdd, Nat.reduceSub, Nat.reduceMul, Nat.reduceLeDiff, Nat.reduceEqDiff, Nat.reduceLT, Int.reduceNeg, Int.reduceAdd, Int.reduceSub, Int.reduceMul, Int.reduceLE, Int.reduceLT, Int.reduceEq, Int.reduceToNat, reduceCtorEq, hl, hhi, hcap]
  have e : xs.any P = (xs.findIdx? P).isSome := by simp [List.findIdx?_isSome]
  rw [e]
  cases hf : xs.findIdx? P <;> simp -implicitDefEqProofs only [go_sem, Nat.reduceBEq, Nat.reduceAdd, Nat.reduceSub, Nat.reduceMul, Nat.reduceLeDiff, Nat.reduceEqDiff, Nat.reduceLT, Int.reduceNeg, Int.reduceAdd, Int.reduceSub, Int.reduceMul, Int.reduceLE, Int.reduceLT, Int.reduceEq, Int.reduceToNat, reduceCtorEq, Option.isSome_some, Option.isSome_none]




-- find126
theorem clo_row (d : Nat) (h : Heap) (hh : h.all (hiB h.length) = true) (x : Val) : callS (runD tab noExt (d + 4)) h 126 [.agg (Val.cells x)] false = some (.bool (!x.ok), h) := by
  rw [callS_eq, runD_eq find126 _ _ _ (by simp)]
  simp -implicitDefEqProofs (disch := omega) only [go_sem, Nat.reduceBEq, Nat.reduceAdd, Nat.reduceSub, Nat.reduceMul, Nat.reduceLeDiff, Nat.reduceEqDiff, Nat.reduceLT, Int.reduceNeg, Int.reduceAdd, Int.reduceSub, Int.reduceMul, Int.reduceLE, Int.reduceLT, Int.reduceEq, Int.reduceToNat, reduceCtorEq, run_ok, Val.cells, hh, List.all_append, Val.eta]
-- find83
theorem run_rowOkI (d : Nat) (c : Bool) (vs : List Val) (hs : vs.length < 1099511627776) : retP (runD tab noExt (d + 7)) 83 [.sl c 3 (vs.map Val.cells)] = some [.bool (rowOk vs)] := by
  rw [retP, runD_eq find83 _ _ _ (by simp)]
  have hcon := conVal (d + 4) [] c 126 [] vs (fun x => !x.ok) hs rfl rfl (fun x _ => clo_row d [] rfl x)
  simp -implicitDefEqProofs (disch := omega) only [go_sem, Nat.reduceBEq, Nat.reduceAdd, Nat.reduceSub, Nat.reduceMul, Nat.reduceLeDiff, Nat.reduceEqDiff, Nat.reduceLT, Int.reduceNeg, Int.reduceAdd, Int.reduceSub, Int.reduceMul, Int.reduceLE, Int.reduceLT, Int.reduceEq, Int.reduceToNat, reduceCtorEq, hcon]
  repeat' ((first | rw [GuardI_ndec] | rw [CondC_ndec] | rw [GuardQ_ndec] | rw [GuardI_dec] | rw [CondC_dec] | rw [GuardQ_dec] | rw [GuardI_nby] | rw [CondC_nby] | rw [GuardQ_nby] | rw [GuardQ_by] | rw [GuardI_by] | rw [CondC_by]) <;> split <;> simp -implicitDefEqProofs (disch := omega) only [go_sem, Nat.reduceBEq, Nat.reduceAdd, Nat.reduceSub, Nat.reduceMul, Nat.reduceLeDiff, Nat.reduceEqDiff, Nat.reduceLT, Int.reduceNeg, Int.reduceAdd, Int.reduceSub, Int.reduceMul, Int.reduceLE, Int.reduceLT, Int.reduceEq, Int.reduceToNat, reduceCtorEq, hcon, *])
  all_goals (simp_all [rowOk, List.any_eq_not_all_not]; try omega)
end Go.Proofs.Yteaojpfofifmnaa.PE
/- Writes: what is ok, in plain words; both functions tell it. -/
set_option linter.unusedSimpArgs false
set_option linter.unusedVariables false
set_option maxHeartbeats 4000000
namespace Go.Proofs.Yteaojpfofifmnaa.PE
open Go.RowKit

structure Wr where
  key : Int
  row : Row
  gone : Bool
def Wr.cells (w : Wr) : List V := [.int .i64 w.key, w.row.v, .bool w.gone]
/-- Each element with the one ahead of it. -/
def prevsG {α : Type} : Option α → List α → List (Option α × α)
  | _, [] => []
  | o, v :: r => (o, v) :: prevsG (some v) r
theorem prevsG_len {α : Type} : ∀ (l : List α) (o : Option α), (prevsG o l).length = l.length
  | [], _ => rfl
  | v :: r, o => by simp [prevsG, prevsG_len r]
theorem prevsG_at {α : Type} : ∀ {l : List α} {o : Option α} {i : Nat} {p : Option α} {v : α}, (prevsG o l)[i]? = some (p, v) → l[i]? = some v ∧ (i = 0 → p = o) ∧ ∀ j, i = j + 1 → p = l[j]?
  | [], _, i, _, _, h => by simp [prevsG] at h
  | w :: r, o, 0, p, v, h => by
    simp only [prevsG, List.getElem?_cons_zero, Option.some.injEq, Prod.mk.injEq] at h
    obtain ⟨rfl, rfl⟩ := h
    exact ⟨rfl, fun _ => rfl, fun j hj => by omega⟩
  | w :: r, o, i + 1, p, v, h => by
    simp only [prevsG, List.getElem?_cons_succ] at h
    obtain ⟨h1, h2, h3⟩ := prevsG_at h
    refine ⟨by simpa using h1, fun e => by omega, fun j hj => ?_⟩
    have : j = i := by omega
    subst this
    cases j with
    | zero => rw [h2 rfl]; rfl
    | succ j => rw [h3 j rfl]; simp
def Wr.one (w : Wr) : Bool := decide (0 ≤ w.key ∧ w.key ≤ 4) && (rowOk w.row.vs && !(w.gone && decide ((0 : Int) < w.row.vs.length)))
def wrAhead (p : Option Wr) (v : Wr) : Bool := match p with
  | none => true
  | some q => decide (q.key < v.key)
def wrOk (p : Option Wr × Wr) : Bool := p.2.one && wrAhead p.1 p.2
def wrsOk (ws : List Wr) : Bool := (prevsG none ws).all wrOk
def ShortWs (ws : List Wr) : Prop := ∀ w ∈ ws, w.row.vs.length < 1099511627776 ∧ short w.row.vs
/-- Keys ascend, so there are at most five. -/
theorem wrs_len : ∀ (l : List Wr) (o : Option Wr) (n : Int), (prevsG o l).all wrOk = true → (∀ q, o = some q → n ≤ q.key) → (o = none → n = -1) → n ≤ 4 → (l.length : Int) ≤ 4 - n
  | [], _, n, _, _, _, h => by simp; omega
  | w :: r, o, n, h, h1, h2, h3 => by
    simp only [prevsG, List.all_cons, Bool.and_eq_true] at h
    obtain ⟨h4, h5⟩ := h
    simp only [wrOk, wrAhead, Wr.one, Bool.and_eq_true, decide_eq_true_eq] at h4
    have hk : n < w.key := by
      cases o with
      | none => have := h2 rfl; omega
      | some q => have := h1 q rfl; have := h4.2; simp at this; omega
    have := wrs_len r (some w) w.key h5 (fun q hq => by cases hq; omega) (fun h => by cases h) (by omega)
    simp only [List.length_cons]
    push_cast
    omega
theorem wrs_len5 {l : List Wr} (h : wrsOk l = true) : (l.length : Int) ≤ 5 := by
  have := wrs_len l none (-1) h (fun q hq => by cases hq) (fun _ => rfl) (by omega)
  omega
-- find108
theorem loop_wrsS (d : Nat) (c : Bool) (l : List Wr) (hs : l.length < 1099511627776) (hsh : ShortWs l) (K : Nat) (hK : (prevsG none l).length ≤ K) :
    LoopS (runD tab noExt (d + 3)) (drawI (runD tab noExt (d + 3))) [0, 3] [2] L108x0 0 K [(0, .sl c 3 (l.map Wr.cells)), (3, .int .i64 0)] [] = if (prevsG none l).all wrOk then (some (.exit 0, [(2, .undef)], []) : Out) else some (.ret, [(2, .bool false)], []) := by
  have key := LoopS_all (run := (runD tab noExt (d + 3))) (draw := drawI (runD tab noExt (d + 3))) (live := [0, 3]) (out := [2]) (c := L108x0) (n0 := 0) (prevsG none l) wrOk (fun (i : Nat) => [(0, .sl c 3 (l.map Wr.cells)), (3, .int .i64 (i : Int))]) [] (some (.exit 0, [(2, .undef)], [])) (some (.ret, [(2, .bool false)], [])) (fun K => ?_) (fun (i : Nat) x K hi hx0 => ?_) K hK
  · simp only [Int.natCast_zero] at key
    exact key
  · rw [LoopS_eq, prevsG_len]
    simp -implicitDefEqProofs only [go_sem, Nat.reduceBEq, Nat.reduceAdd, Nat.reduceSub, Nat.reduceMul, Nat.reduceLeDiff, Nat.reduceEqDiff, Nat.reduceLT, Int.reduceNeg, Int.reduceAdd, Int.reduceSub, Int.reduceMul, Int.reduceLE, Int.reduceLT, Int.reduceEq, Int.reduceToNat, reduceCtorEq, evL108x0, B108x0, Int.lt_irrefl]
  · obtain ⟨p, v⟩ := x
    rw [prevsG_len] at hi
    obtain ⟨hx, g2, g3⟩ := prevsG_at hx0
    obtain ⟨h1, h2⟩ := hsh v (List.mem_of_getElem? hx)
    have hr := run_rowOk d v.row.clip v.row.vs h1 h2
    clear hx0
    rw [LoopS_eq]
    have bad : v.one = false → ∀ (A B : Out), (if wrOk (p, v) = true then A else B) = B := fun h A B => by simp only [wrOk, h, Bool.false_and, Bool.false_eq_true, if_false]
    by_cases k1 : 0 ≤ v.key ∧ v.key ≤ 4
    rotate_left
    · rw [bad (by simp [Wr.one, k1])]
      simp -implicitDefEqProofs (disch := omega) only [go_sem, Nat.reduceBEq, Nat.reduceAdd, Nat.reduceSub, Nat.reduceMul, Nat.reduceLeDiff, Nat.reduceEqDiff, Nat.reduceLT, Int.reduceNeg, Int.reduceAdd, Int.reduceSub, Int.reduceMul, Int.reduceLE, Int.reduceLT, Int.reduceEq, Int.reduceToNat, reduceCtorEq, evL108x0, B108x0, evC_draw, evD108x0, E108x0, IntWalk.i64_in, Wr.cells, Row.v, hr, hx, beq_ft, beq_tf, Bool.true_or, Bool.false_or, run_l1In, wrAhead, hi, (eq_false k1 : (0 ≤ v.key ∧ v.key ≤ 4) = False)]
    cases k2 : rowOk v.row.vs
    · rw [bad (by simp [Wr.one, k2])]
      rw [k2] at hr
      simp -implicitDefEqProofs (disch := omega) only [go_sem, Nat.reduceBEq, Nat.reduceAdd, Nat.reduceSub, Nat.reduceMul, Nat.reduceLeDiff, Nat.reduceEqDiff, Nat.reduceLT, Int.reduceNeg, Int.reduceAdd, Int.reduceSub, Int.reduceMul, Int.reduceLE, Int.reduceLT, Int.reduceEq, Int.reduceToNat, reduceCtorEq, evL108x0, B108x0, evC_draw, evD108x0, E108x0, IntWalk.i64_in, Wr.cells, Row.v, hr, hx, beq_ft, beq_tf, Bool.true_or, Bool.false_or, run_l1In, wrAhead, hi, (eq_true k1 : (0 ≤ v.key ∧ v.key ≤ 4) = True)]
    rw [k2] at hr
    have hg : (v.gone = true ∧ (0 : Int) < v.row.vs.length) ∨ (v.gone = true ∧ ¬ (0 : Int) < v.row.vs.length) ∨ v.gone = false := by
      cases hgo : v.gone
      · exact .inr (.inr rfl)
      · by_cases h0 : (0 : Int) < v.row.vs.length
        · exact .inl ⟨rfl, h0⟩
        · exact .inr (.inl ⟨rfl, h0⟩)
    rcases hg with ⟨k3, k4⟩ | hg
    · rw [bad (by unfold Wr.one; rw [k3, decide_eq_true k4]; simp)]
      simp -implicitDefEqProofs (disch := omega) only [go_sem, Nat.reduceBEq, Nat.reduceAdd, Nat.reduceSub, Nat.reduceMul, Nat.reduceLeDiff, Nat.reduceEqDiff, Nat.reduceLT, Int.reduceNeg, Int.reduceAdd, Int.reduceSub, Int.reduceMul, Int.reduceLE, Int.reduceLT, Int.reduceEq, Int.reduceToNat, reduceCtorEq, evL108x0, B108x0, evC_draw, evD108x0, E108x0, IntWalk.i64_in, Wr.cells, Row.v, hr, hx, beq_ft, beq_tf, Bool.true_or, Bool.false_or, run_l1In, wrAhead, hi, k3, k4, (eq_true k1 : (0 ≤ v.key ∧ v.key ≤ 4) = True)]
    have hone : v.one = true := by
      unfold Wr.one
      rw [decide_eq_true k1, k2]
      rcases hg with ⟨k3, k4⟩ | k3
      · rw [k3, decide_eq_false k4]; rfl
      · rw [k3]; rfl
    have e : wrOk (p, v) = wrAhead p v := by simp [wrOk, hone]
    clear bad
    rw [e]
    cases i with
    | zero =>
      obtain rfl := g2 rfl
      have hi0 : (0 : Int) < l.length := by omega
      rcases hg with ⟨k3, k4⟩ | k3
      · simp -implicitDefEqProofs (disch := omega) only [go_sem, Nat.reduceBEq, Nat.reduceAdd, Nat.reduceSub, Nat.reduceMul, Nat.reduceLeDiff, Nat.reduceEqDiff, Nat.reduceLT, Int.reduceNeg, Int.reduceAdd, Int.reduceSub, Int.reduceMul, Int.reduceLE, Int.reduceLT, Int.reduceEq, Int.reduceToNat, reduceCtorEq, evL108x0, B108x0, evC_draw, evD108x0, E108x0, IntWalk.i64_in, Wr.cells, Row.v, hr, hx, beq_ft, beq_tf, Bool.true_or, Bool.false_or, run_l1In, wrAhead, hi0, k3, k4, (eq_true k1 : (0 ≤ v.key ∧ v.key ≤ 4) = True), Int.natCast_zero, Int.lt_irrefl]
      · simp -implicitDefEqProofs (disch := omega) only [go_sem, Nat.reduceBEq, Nat.reduceAdd, Nat.reduceSub, Nat.reduceMul, Nat.reduceLeDiff, Nat.reduceEqDiff, Nat.reduceLT, Int.reduceNeg, Int.reduceAdd, Int.reduceSub, Int.reduceMul, Int.reduceLE, Int.reduceLT, Int.reduceEq, Int.reduceToNat, reduceCtorEq, evL108x0, B108x0, evC_draw, evD108x0, E108x0, IntWalk.i64_in, Wr.cells, Row.v, hr, hx, beq_ft, beq_tf, Bool.true_or, Bool.false_or, run_l1In, wrAhead, hi0, k3, (eq_true k1 : (0 ≤ v.key ∧ v.key ≤ 4) = True), Int.natCast_zero, Int.lt_irrefl]
    | succ j =>
      have hj : j < l.length := by omega
      have hw := List.getElem?_eq_getElem hj
      obtain rfl := (g3 j rfl).trans hw
      generalize l[j] = w at hw
      have hp : (0 : Int) < (j : Int) + 1 := by omega
      have hj' : (j : Int) < l.length := by omega
      have hp0 : (0 : Int) ≤ (j : Int) + 1 := by omega
      have htn : ((j : Int) + 1).toNat = j + 1 := by omega
      have hi' : (j : Int) + 1 < l.length := by omega
      by_cases k5 : w.key < v.key
      · have k6 : ¬ v.key ≤ w.key := by omega
        rcases hg with ⟨k3, k4⟩ | k3
        · simp -implicitDefEqProofs (disch := omega) only [go_sem, Nat.reduceBEq, Nat.reduceAdd, Nat.reduceSub, Nat.reduceMul, Nat.reduceLeDiff, Nat.reduceEqDiff, Nat.reduceLT, Int.reduceNeg, Int.reduceAdd, Int.reduceSub, Int.reduceMul, Int.reduceLE, Int.reduceLT, Int.reduceEq, Int.reduceToNat, reduceCtorEq, evL108x0, B108x0, evC_draw, evD108x0, E108x0, IntWalk.i64_in, Wr.cells, Row.v, hr, hx, beq_ft, beq_tf, Bool.true_or, Bool.false_or, run_l1In, wrAhead, hi', hj', hp0, htn, hp, hw, Int.add_sub_cancel, Int.add_assoc, k3, k4, (eq_true k1 : (0 ≤ v.key ∧ v.key ≤ 4) = True), (eq_true k5 : (w.key < v.key) = True), (eq_false k6 : (v.key ≤ w.key) = False)]
        · simp -implicitDefEqProofs (disch := omega) only [go_sem, Nat.reduceBEq, Nat.reduceAdd, Nat.reduceSub, Nat.reduceMul, Nat.reduceLeDiff, Nat.reduceEqDiff, Nat.reduceLT, Int.reduceNeg, Int.reduceAdd, Int.reduceSub, Int.reduceMul, Int.reduceLE, Int.reduceLT, Int.reduceEq, Int.reduceToNat, reduceCtorEq, evL108x0, B108x0, evC_draw, evD108x0, E108x0, IntWalk.i64_in, Wr.cells, Row.v, hr, hx, beq_ft, beq_tf, Bool.true_or, Bool.false_or, run_l1In, wrAhead, hi', hj', hp0, htn, hp, hw, Int.add_sub_cancel, Int.add_assoc, k3, (eq_true k1 : (0 ≤ v.key ∧ v.key ≤ 4) = True), (eq_true k5 : (w.key < v.key) = True), (eq_false k6 : (v.key ≤ w.key) = False)]
      · have k6 : v.key ≤ w.key := by omega
        rcases hg with ⟨k3, k4⟩ | k3
        · simp -implicitDefEqProofs (disch := omega) only [go_sem, Nat.reduceBEq, Nat.reduceAdd, Nat.reduceSub, Nat.reduceMul, Nat.reduceLeDiff, Nat.reduceEqDiff, Nat.reduceLT, Int.reduceNeg, Int.reduceAdd, Int.reduceSub, Int.reduceMul, Int.reduceLE, Int.reduceLT, Int.reduceEq, Int.reduceToNat, reduceCtorEq, evL108x0, B108x0, evC_draw, evD108x0, E108x0, IntWalk.i64_in, Wr.cells, Row.v, hr, hx, beq_ft, beq_tf, Bool.true_or, Bool.false_or, run_l1In, wrAhead, hi', hj', hp0, htn, hp, hw, Int.add_sub_cancel, Int.add_assoc, k3, k4, (eq_true k1 : (0 ≤ v.key ∧ v.key ≤ 4) = True), (eq_false k5 : (w.key < v.key) = False), (eq_true k6 : (v.key ≤ w.key) = True)]
        · simp -implicitDefEqProofs (disch := omega) only [go_sem, Nat.reduceBEq, Nat.reduceAdd, Nat.reduceSub, Nat.reduceMul, Nat.reduceLeDiff, Nat.reduceEqDiff, Nat.reduceLT, Int.reduceNeg, Int.reduceAdd, Int.reduceSub, Int.reduceMul, Int.reduceLE, Int.reduceLT, Int.reduceEq, Int.reduceToNat, reduceCtorEq, evL108x0, B108x0, evC_draw, evD108x0, E108x0, IntWalk.i64_in, Wr.cells, Row.v, hr, hx, beq_ft, beq_tf, Bool.true_or, Bool.false_or, run_l1In, wrAhead, hi', hj', hp0, htn, hp, hw, Int.add_sub_cancel, Int.add_assoc, k3, (eq_true k1 : (0 ≤ v.key ∧ v.key ≤ 4) = True), (eq_false k5 : (w.key < v.key) = False), (eq_true k6 : (v.key ≤ w.key) = True)]
theorem run_wrsS (d : Nat) (c : Bool) (l : List Wr) (hs : l.length < 1099511627776) (hsh : ShortWs l) : retP (runD tab noExt (d + 4)) 108 [.sl c 3 (l.map Wr.cells)] = some [.bool (wrsOk l)] := by
  rw [retP, runD_eq find108 _ _ _ (by simp)]
  have hl := loop_wrsS d c l hs hsh 1099511627775 (by rw [prevsG_len]; omega)
  simp -implicitDefEqProofs (disch := omega) only [go_sem, Nat.reduceBEq, Nat.reduceAdd, Nat.reduceSub, Nat.reduceMul, Nat.reduceLeDiff, Nat.reduceEqDiff, Nat.reduceLT, Int.reduceNeg, Int.reduceAdd, Int.reduceSub, Int.reduceMul, Int.reduceLE, Int.reduceLT, Int.reduceEq, Int.reduceToNat, reduceCtorEq]
  rw [hl]
  unfold wrsOk
  cases h : (prevsG none l).all wrOk <;> simp -implicitDefEqProofs (disch := omega) only [go_sem, Nat.reduceBEq, Nat.reduceAdd, Nat.reduceSub, Nat.reduceMul, Nat.reduceLeDiff, Nat.reduceEqDiff, Nat.reduceLT, Int.reduceNeg, Int.reduceAdd, Int.reduceSub, Int.reduceMul, Int.reduceLE, Int.reduceLT, Int.reduceEq, Int.reduceToNat, reduceCtorEq]
theorem run_keyOkW (d : Nat) (n : Int) : retP (runD tab noExt (d + 2)) 119 [.int .i64 n] = some [.bool (decide (0 ≤ n ∧ n ≤ 4))] := by
  rw [retP, runD_eq find119 _ _ _ (by simp)]
  simp -implicitDefEqProofs (disch := omega) only [go_sem, Nat.reduceBEq, Nat.reduceAdd, Nat.reduceSub, Nat.reduceMul, Nat.reduceLeDiff, Nat.reduceEqDiff, Nat.reduceLT, Int.reduceNeg, Int.reduceAdd, Int.reduceSub, Int.reduceMul, Int.reduceLE, Int.reduceLT, Int.reduceEq, Int.reduceToNat, reduceCtorEq, run_between]
  repeat' ((first | rw [GuardI_ndec] | rw [CondC_ndec] | rw [GuardQ_ndec] | rw [GuardI_dec] | rw [CondC_dec] | rw [GuardQ_dec] | rw [GuardI_nby] | rw [CondC_nby] | rw [GuardQ_nby] | rw [GuardQ_by] | rw [GuardI_by] | rw [CondC_by]) <;> split <;> simp -implicitDefEqProofs (disch := omega) only [go_sem, Nat.reduceBEq, Nat.reduceAdd, Nat.reduceSub, Nat.reduceMul, Nat.reduceLeDiff, Nat.reduceEqDiff, Nat.reduceLT, Int.reduceNeg, Int.reduceAdd, Int.reduceSub, Int.reduceMul, Int.reduceLE, Int.reduceLT, Int.reduceEq, Int.reduceToNat, reduceCtorEq, run_between, *])
  all_goals simp_all
-- find73
theorem loop_wrsI (d : Nat) (c : Bool) (l : List Wr) (hs : l.length < 1099511627776) (hsh : ShortWs l) (K : Nat) (hK : (prevsG none l).length ≤ K) :
    LoopS (runD tab noExt (d + 7)) (drawI (runD tab noExt (d + 7))) [0, 5, 6, 7] [0, 2] L73x0 0 K [(0, .sl c 3 (l.map Wr.cells)), (5, .sl c 3 (l.map Wr.cells)), (6, .int .i64 l.length), (7, .int .i64 0)] [] = if (prevsG none l).all wrOk then (some (.exit 0, [(0, .sl c 3 (l.map Wr.cells)), (2, .undef)], []) : Out) else some (.ret, [(0, .sl c 3 (l.map Wr.cells)), (2, .bool false)], []) := by
  have key := LoopS_all (run := (runD tab noExt (d + 7))) (draw := drawI (runD tab noExt (d + 7))) (live := [0, 5, 6, 7]) (out := [0, 2]) (c := L73x0) (n0 := 0) (prevsG none l) wrOk (fun (i : Nat) => [(0, .sl c 3 (l.map Wr.cells)), (5, .sl c 3 (l.map Wr.cells)), (6, .int .i64 l.length), (7, .int .i64 (i : Int))]) [] (some (.exit 0, [(0, .sl c 3 (l.map Wr.cells)), (2, .undef)], [])) (some (.ret, [(0, .sl c 3 (l.map Wr.cells)), (2, .bool false)], [])) (fun K => ?_) (fun (i : Nat) x K hi hx0 => ?_) K hK
  · simp only [Int.natCast_zero] at key
    exact key
  · rw [LoopS_eq, prevsG_len]
    simp -implicitDefEqProofs only [go_sem, Nat.reduceBEq, Nat.reduceAdd, Nat.reduceSub, Nat.reduceMul, Nat.reduceLeDiff, Nat.reduceEqDiff, Nat.reduceLT, Int.reduceNeg, Int.reduceAdd, Int.reduceSub, Int.reduceMul, Int.reduceLE, Int.reduceLT, Int.reduceEq, Int.reduceToNat, reduceCtorEq, evL73x0, B73x0, Int.lt_irrefl]
  · obtain ⟨p, v⟩ := x
    rw [prevsG_len] at hi
    obtain ⟨hx, g2, g3⟩ := prevsG_at hx0
    obtain ⟨h1, h2⟩ := hsh v (List.mem_of_getElem? hx)
    have hr := run_rowOkI d v.row.clip v.row.vs h1
    clear hx0
    rw [LoopS_eq]
    have bad : v.one = false → ∀ (A B : Out), (if wrOk (p, v) = true then A else B) = B := fun h A B => by simp only [wrOk, h, Bool.false_and, Bool.false_eq_true, if_false]
    by_cases k1 : 0 ≤ v.key ∧ v.key ≤ 4
    rotate_left
    · rw [bad (by simp [Wr.one, k1])]
      simp -implicitDefEqProofs (disch := omega) only [go_sem, Nat.reduceBEq, Nat.reduceAdd, Nat.reduceSub, Nat.reduceMul, Nat.reduceLeDiff, Nat.reduceEqDiff, Nat.reduceLT, Int.reduceNeg, Int.reduceAdd, Int.reduceSub, Int.reduceMul, Int.reduceLE, Int.reduceLT, Int.reduceEq, Int.reduceToNat, reduceCtorEq, evL73x0, B73x0, evC_draw, evD73x0, E73x0, IntWalk.i64_in, Wr.cells, Row.v, hr, hx, beq_ft, beq_tf, Bool.true_or, Bool.false_or, run_keyOkW, wrAhead, hi, (eq_false k1 : (0 ≤ v.key ∧ v.key ≤ 4) = False)]
    cases k2 : rowOk v.row.vs
    · rw [bad (by simp [Wr.one, k2])]
      rw [k2] at hr
      simp -implicitDefEqProofs (disch := omega) only [go_sem, Nat.reduceBEq, Nat.reduceAdd, Nat.reduceSub, Nat.reduceMul, Nat.reduceLeDiff, Nat.reduceEqDiff, Nat.reduceLT, Int.reduceNeg, Int.reduceAdd, Int.reduceSub, Int.reduceMul, Int.reduceLE, Int.reduceLT, Int.reduceEq, Int.reduceToNat, reduceCtorEq, evL73x0, B73x0, evC_draw, evD73x0, E73x0, IntWalk.i64_in, Wr.cells, Row.v, hr, hx, beq_ft, beq_tf, Bool.true_or, Bool.false_or, run_keyOkW, wrAhead, hi, (eq_true k1 : (0 ≤ v.key ∧ v.key ≤ 4) = True)]
    rw [k2] at hr
    have hg : (v.gone = true ∧ (0 : Int) < v.row.vs.length) ∨ (v.gone = true ∧ ¬ (0 : Int) < v.row.vs.length) ∨ v.gone = false := by
      cases hgo : v.gone
      · exact .inr (.inr rfl)
      · by_cases h0 : (0 : Int) < v.row.vs.length
        · exact .inl ⟨rfl, h0⟩
        · exact .inr (.inl ⟨rfl, h0⟩)
    rcases hg with ⟨k3, k4⟩ | hg
    · rw [bad (by unfold Wr.one; rw [k3, decide_eq_true k4]; simp)]
      simp -implicitDefEqProofs (disch := omega) only [go_sem, Nat.reduceBEq, Nat.reduceAdd, Nat.reduceSub, Nat.reduceMul, Nat.reduceLeDiff, Nat.reduceEqDiff, Nat.reduceLT, Int.reduceNeg, Int.reduceAdd, Int.reduceSub, Int.reduceMul, Int.reduceLE, Int.reduceLT, Int.reduceEq, Int.reduceToNat, reduceCtorEq, evL73x0, B73x0, evC_draw, evD73x0, E73x0, IntWalk.i64_in, Wr.cells, Row.v, hr, hx, beq_ft, beq_tf, Bool.true_or, Bool.false_or, run_keyOkW, wrAhead, hi, k3, k4, (eq_true k1 : (0 ≤ v.key ∧ v.key ≤ 4) = True)]
    have hone : v.one = true := by
      unfold Wr.one
      rw [decide_eq_true k1, k2]
      rcases hg with ⟨k3, k4⟩ | k3
      · rw [k3, decide_eq_false k4]; rfl
      · rw [k3]; rfl
    have e : wrOk (p, v) = wrAhead p v := by simp [wrOk, hone]
    clear bad
    rw [e]
    cases i with
    | zero =>
      obtain rfl := g2 rfl
      have hi0 : (0 : Int) < l.length := by omega
      rcases hg with ⟨k3, k4⟩ | k3
      · simp -implicitDefEqProofs (disch := omega) only [go_sem, Nat.reduceBEq, Nat.reduceAdd, Nat.reduceSub, Nat.reduceMul, Nat.reduceLeDiff, Nat.reduceEqDiff, Nat.reduceLT, Int.reduceNeg, Int.reduceAdd, Int.reduceSub, Int.reduceMul, Int.reduceLE, Int.reduceLT, Int.reduceEq, Int.reduceToNat, reduceCtorEq, evL73x0, B73x0, evC_draw, evD73x0, E73x0, IntWalk.i64_in, Wr.cells, Row.v, hr, hx, beq_ft, beq_tf, Bool.true_or, Bool.false_or, run_keyOkW, wrAhead, hi0, k3, k4, (eq_true k1 : (0 ≤ v.key ∧ v.key ≤ 4) = True), Int.natCast_zero, Int.lt_irrefl]
      · simp -implicitDefEqProofs (disch := omega) only [go_sem, Nat.reduceBEq, Nat.reduceAdd, Nat.reduceSub, Nat.reduceMul, Nat.reduceLeDiff, Nat.reduceEqDiff, Nat.reduceLT, Int.reduceNeg, Int.reduceAdd, Int.reduceSub, Int.reduceMul, Int.reduceLE, Int.reduceLT, Int.reduceEq, Int.reduceToNat, reduceCtorEq, evL73x0, B73x0, evC_draw, evD73x0, E73x0, IntWalk.i64_in, Wr.cells, Row.v, hr, hx, beq_ft, beq_tf, Bool.true_or, Bool.false_or, run_keyOkW, wrAhead, hi0, k3, (eq_true k1 : (0 ≤ v.key ∧ v.key ≤ 4) = True), Int.natCast_zero, Int.lt_irrefl]
    | succ j =>
      have hj : j < l.length := by omega
      have hw := List.getElem?_eq_getElem hj
      obtain rfl := (g3 j rfl).trans hw
      generalize l[j] = w at hw
      have hp : (0 : Int) < (j : Int) + 1 := by omega
      have hj' : (j : Int) < l.length := by omega
      have hp0 : (0 : Int) ≤ (j : Int) + 1 := by omega
      have htn : ((j : Int) + 1).toNat = j + 1 := by omega
      have hi' : (j : Int) + 1 < l.length := by omega
      by_cases k5 : w.key < v.key
      · have k6 : ¬ v.key ≤ w.key := by omega
        rcases hg with ⟨k3, k4⟩ | k3
        · simp -implicitDefEqProofs (disch := omega) only [go_sem, Nat.reduceBEq, Nat.reduceAdd, Nat.reduceSub, Nat.reduceMul, Nat.reduceLeDiff, Nat.reduceEqDiff, Nat.reduceLT, Int.reduceNeg, Int.reduceAdd, Int.reduceSub, Int.reduceMul, Int.reduceLE, Int.reduceLT, Int.reduceEq, Int.reduceToNat, reduceCtorEq, evL73x0, B73x0, evC_draw, evD73x0, E73x0, IntWalk.i64_in, Wr.cells, Row.v, hr, hx, beq_ft, beq_tf, Bool.true_or, Bool.false_or, run_keyOkW, wrAhead, hi', hj', hp0, htn, hp, hw, Int.add_sub_cancel, Int.add_assoc, k3, k4, (eq_true k1 : (0 ≤ v.key ∧ v.key ≤ 4) = True), (eq_true k5 : (w.key < v.key) = True), (eq_false k6 : (v.key ≤ w.key) = False)]
        · simp -implicitDefEqProofs (disch := omega) only [go_sem, Nat.reduceBEq, Nat.reduceAdd, Nat.reduceSub, Nat.reduceMul, Nat.reduceLeDiff, Nat.reduceEqDiff, Nat.reduceLT, Int.reduceNeg, Int.reduceAdd, Int.reduceSub, Int.reduceMul, Int.reduceLE, Int.reduceLT, Int.reduceEq, Int.reduceToNat, reduceCtorEq, evL73x0, B73x0, evC_draw, evD73x0, E73x0, IntWalk.i64_in, Wr.cells, Row.v, hr, hx, beq_ft, beq_tf, Bool.true_or, Bool.false_or, run_keyOkW, wrAhead, hi', hj', hp0, htn, hp, hw, Int.add_sub_cancel, Int.add_assoc, k3, (eq_true k1 : (0 ≤ v.key ∧ v.key ≤ 4) = True), (eq_true k5 : (w.key < v.key) = True), (eq_false k6 : (v.key ≤ w.key) = False)]
      · have k6 : v.key ≤ w.key := by omega
        rcases hg with ⟨k3, k4⟩ | k3
        · simp -implicitDefEqProofs (disch := omega) only [go_sem, Nat.reduceBEq, Nat.reduceAdd, Nat.reduceSub, Nat.reduceMul, Nat.reduceLeDiff, Nat.reduceEqDiff, Nat.reduceLT, Int.reduceNeg, Int.reduceAdd, Int.reduceSub, Int.reduceMul, Int.reduceLE, Int.reduceLT, Int.reduceEq, Int.reduceToNat, reduceCtorEq, evL73x0, B73x0, evC_draw, evD73x0, E73x0, IntWalk.i64_in, Wr.cells, Row.v, hr, hx, beq_ft, beq_tf, Bool.true_or, Bool.false_or, run_keyOkW, wrAhead, hi', hj', hp0, htn, hp, hw, Int.add_sub_cancel, Int.add_assoc, k3, k4, (eq_true k1 : (0 ≤ v.key ∧ v.key ≤ 4) = True), (eq_false k5 : (w.key < v.key) = False), (eq_true k6 : (v.key ≤ w.key) = True)]
        · simp -implicitDefEqProofs (disch := omega) only [go_sem, Nat.reduceBEq, Nat.reduceAdd, Nat.reduceSub, Nat.reduceMul, Nat.reduceLeDiff, Nat.reduceEqDiff, Nat.reduceLT, Int.reduceNeg, Int.reduceAdd, Int.reduceSub, Int.reduceMul, Int.reduceLE, Int.reduceLT, Int.reduceEq, Int.reduceToNat, reduceCtorEq, evL73x0, B73x0, evC_draw, evD73x0, E73x0, IntWalk.i64_in, Wr.cells, Row.v, hr, hx, beq_ft, beq_tf, Bool.true_or, Bool.false_or, run_keyOkW, wrAhead, hi', hj', hp0, htn, hp, hw, Int.add_sub_cancel, Int.add_assoc, k3, (eq_true k1 : (0 ≤ v.key ∧ v.key ≤ 4) = True), (eq_false k5 : (w.key < v.key) = False), (eq_true k6 : (v.key ≤ w.key) = True)]
theorem run_wrsI (d : Nat) (c : Bool) (l : List Wr) (hs : l.length < 1099511627776) (hsh : ShortWs l) : retP (runD tab noExt (d + 8)) 73 [.sl c 3 (l.map Wr.cells)] = some [.bool (wrsOk l)] := by
  rw [retP, runD_eq find73 _ _ _ (by simp)]
  have hl := loop_wrsI d c l hs hsh 1099511627775 (by rw [prevsG_len]; omega)
  simp -implicitDefEqProofs (disch := omega) only [go_sem, Nat.reduceBEq, Nat.reduceAdd, Nat.reduceSub, Nat.reduceMul, Nat.reduceLeDiff, Nat.reduceEqDiff, Nat.reduceLT, Int.reduceNeg, Int.reduceAdd, Int.reduceSub, Int.reduceMul, Int.reduceLE, Int.reduceLT, Int.reduceEq, Int.reduceToNat, reduceCtorEq]
  rw [hl]
  cases h : wrsOk l
  · unfold wrsOk at h
    rw [h]
    simp -implicitDefEqProofs (disch := omega) only [go_sem, Nat.reduceBEq, Nat.reduceAdd, Nat.reduceSub, Nat.reduceMul, Nat.reduceLeDiff, Nat.reduceEqDiff, Nat.reduceLT, Int.reduceNeg, Int.reduceAdd, Int.reduceSub, Int.reduceMul, Int.reduceLE, Int.reduceLT, Int.reduceEq, Int.reduceToNat, reduceCtorEq]
  · have h5 := wrs_len5 h
    unfold wrsOk at h
    rw [h]
    simp -implicitDefEqProofs (disch := omega) only [go_sem, Nat.reduceBEq, Nat.reduceAdd, Nat.reduceSub, Nat.reduceMul, Nat.reduceLeDiff, Nat.reduceEqDiff, Nat.reduceLT, Int.reduceNeg, Int.reduceAdd, Int.reduceSub, Int.reduceMul, Int.reduceLE, Int.reduceLT, Int.reduceEq, Int.reduceToNat, reduceCtorEq, (eq_true h5 : ((l.length : Int) ≤ 5) = True)]
end Go.Proofs.Yteaojpfofifmnaa.PE
/- Logs: what is ok, in plain words; both functions tell it. -/
set_option linter.unusedSimpArgs false
set_option linter.unusedVariables false
set_option maxHeartbeats 4000000
namespace Go.Proofs.Yteaojpfofifmnaa.PE
open Go.RowKit

structure Ent where
  time : Int
  wc : Bool
  ws : List Wr
def Ent.v (e : Ent) : V := .sl e.wc 3 (e.ws.map Wr.cells)
def Ent.cells (e : Ent) : List V := [.int .i64 e.time, e.v]
def Ent.one (e : Ent) : Bool := decide (1 ≤ e.time ∧ e.time ≤ 40) && wrsOk e.ws
def entAhead (p : Option Ent) (v : Ent) : Bool := match p with
  | none => true
  | some q => decide (q.time < v.time)
def entOk (p : Option Ent × Ent) : Bool := p.2.one && entAhead p.1 p.2
def logOk (l : List Ent) : Bool := (prevsG none l).all entOk && decide ((l.length : Int) ≤ 12)
def ShortE (l : List Ent) : Prop := ∀ e ∈ l, e.ws.length < 1099511627776 ∧ ShortWs e.ws
-- find63
theorem loop_logS (d : Nat) (c : Bool) (l : List Ent) (hs : l.length < 1099511627776) (hsh : ShortE l) (K : Nat) (hK : (prevsG none l).length ≤ K) :
    LoopS (runD tab noExt (d + 4)) (drawI (runD tab noExt (d + 4))) [0, 3] [0, 2] L63x0 0 K [(0, .sl c 2 (l.map Ent.cells)), (3, .int .i64 0)] [] = if (prevsG none l).all entOk then (some (.exit 0, [(0, .sl c 2 (l.map Ent.cells)), (2, .undef)], []) : Out) else some (.ret, [(0, .sl c 2 (l.map Ent.cells)), (2, .bool false)], []) := by
  have key := LoopS_all (run := (runD tab noExt (d + 4))) (draw := drawI (runD tab noExt (d + 4))) (live := [0, 3]) (out := [0, 2]) (c := L63x0) (n0 := 0) (prevsG none l) entOk (fun (i : Nat) => [(0, .sl c 2 (l.map Ent.cells)), (3, .int .i64 (i : Int))]) [] (some (.exit 0, [(0, .sl c 2 (l.map Ent.cells)), (2, .undef)], [])) (some (.ret, [(0, .sl c 2 (l.map Ent.cells)), (2, .bool false)], [])) (fun K => ?_) (fun (i : Nat) x K hi hx0 => ?_) K hK
  · simp only [Int.natCast_zero] at key
    exact key
  · rw [LoopS_eq, prevsG_len]
    simp -implicitDefEqProofs only [go_sem, Nat.reduceBEq, Nat.reduceAdd, Nat.reduceSub, Nat.reduceMul, Nat.reduceLeDiff, Nat.reduceEqDiff, Nat.reduceLT, Int.reduceNeg, Int.reduceAdd, Int.reduceSub, Int.reduceMul, Int.reduceLE, Int.reduceLT, Int.reduceEq, Int.reduceToNat, reduceCtorEq, evL63x0, B63x0, Int.lt_irrefl]
  · obtain ⟨p, v⟩ := x
    rw [prevsG_len] at hi
    obtain ⟨hx, g2, g3⟩ := prevsG_at hx0
    obtain ⟨h1, h2⟩ := hsh v (List.mem_of_getElem? hx)
    have hr := run_wrsS d v.wc v.ws h1 h2
    clear hx0
    rw [LoopS_eq]
    have bad : v.one = false → ∀ (A B : Out), (if entOk (p, v) = true then A else B) = B := fun h A B => by simp only [entOk, h, Bool.false_and, Bool.false_eq_true, if_false]
    by_cases k1 : 1 ≤ v.time ∧ v.time ≤ 40
    rotate_left
    · rw [bad (by unfold Ent.one; rw [decide_eq_false k1]; rfl)]
      simp -implicitDefEqProofs (disch := omega) only [go_sem, Nat.reduceBEq, Nat.reduceAdd, Nat.reduceSub, Nat.reduceMul, Nat.reduceLeDiff, Nat.reduceEqDiff, Nat.reduceLT, Int.reduceNeg, Int.reduceAdd, Int.reduceSub, Int.reduceMul, Int.reduceLE, Int.reduceLT, Int.reduceEq, Int.reduceToNat, reduceCtorEq, evL63x0, B63x0, evC_draw, evD63x0, E63x0, IntWalk.i64_in, Ent.cells, Ent.v, hr, hx, beq_ft, beq_tf, Bool.true_or, Bool.false_or, run_l1In, entAhead, hi, (eq_false k1 : (1 ≤ v.time ∧ v.time ≤ 40) = False)]
    cases i with
    | zero =>
      obtain rfl := g2 rfl
      have hi0 : (0 : Int) < l.length := by omega
      cases k2 : wrsOk v.ws
      · rw [bad (by unfold Ent.one; rw [k2, Bool.and_false])]
        rw [k2] at hr
        simp -implicitDefEqProofs (disch := omega) only [go_sem, Nat.reduceBEq, Nat.reduceAdd, Nat.reduceSub, Nat.reduceMul, Nat.reduceLeDiff, Nat.reduceEqDiff, Nat.reduceLT, Int.reduceNeg, Int.reduceAdd, Int.reduceSub, Int.reduceMul, Int.reduceLE, Int.reduceLT, Int.reduceEq, Int.reduceToNat, reduceCtorEq, evL63x0, B63x0, evC_draw, evD63x0, E63x0, IntWalk.i64_in, Ent.cells, Ent.v, hr, hx, beq_ft, beq_tf, Bool.true_or, Bool.false_or, run_l1In, entAhead, hi0, (eq_true k1 : (1 ≤ v.time ∧ v.time ≤ 40) = True), Int.natCast_zero, Int.lt_irrefl]
      · have e : entOk (none, v) = true := by unfold entOk Ent.one; simp only; rw [decide_eq_true k1, k2]; rfl
        rw [k2] at hr
        rw [e]
        simp -implicitDefEqProofs (disch := omega) only [go_sem, Nat.reduceBEq, Nat.reduceAdd, Nat.reduceSub, Nat.reduceMul, Nat.reduceLeDiff, Nat.reduceEqDiff, Nat.reduceLT, Int.reduceNeg, Int.reduceAdd, Int.reduceSub, Int.reduceMul, Int.reduceLE, Int.reduceLT, Int.reduceEq, Int.reduceToNat, reduceCtorEq, evL63x0, B63x0, evC_draw, evD63x0, E63x0, IntWalk.i64_in, Ent.cells, Ent.v, hr, hx, beq_ft, beq_tf, Bool.true_or, Bool.false_or, run_l1In, entAhead, hi0, (eq_true k1 : (1 ≤ v.time ∧ v.time ≤ 40) = True), Int.natCast_zero, Int.lt_irrefl]
    | succ j =>
      have hj : j < l.length := by omega
      have hw := List.getElem?_eq_getElem hj
      obtain rfl := (g3 j rfl).trans hw
      generalize l[j] = w at hw bad
      have hp : (0 : Int) < (j : Int) + 1 := by omega
      have hj' : (j : Int) < l.length := by omega
      have hp0 : (0 : Int) ≤ (j : Int) + 1 := by omega
      have htn : ((j : Int) + 1).toNat = j + 1 := by omega
      have hi' : (j : Int) + 1 < l.length := by omega
      cases k2 : wrsOk v.ws
      · rw [bad (by unfold Ent.one; rw [k2, Bool.and_false])]
        rw [k2] at hr
        by_cases k5 : w.time < v.time
        · have k6 : ¬ v.time ≤ w.time := by omega
          simp -implicitDefEqProofs (disch := omega) only [go_sem, Nat.reduceBEq, Nat.reduceAdd, Nat.reduceSub, Nat.reduceMul, Nat.reduceLeDiff, Nat.reduceEqDiff, Nat.reduceLT, Int.reduceNeg, Int.reduceAdd, Int.reduceSub, Int.reduceMul, Int.reduceLE, Int.reduceLT, Int.reduceEq, Int.reduceToNat, reduceCtorEq, evL63x0, B63x0, evC_draw, evD63x0, E63x0, IntWalk.i64_in, Ent.cells, Ent.v, hr, hx, beq_ft, beq_tf, Bool.true_or, Bool.false_or, run_l1In, entAhead, hi', hj', hp0, htn, hp, hw, Int.add_sub_cancel, Int.add_assoc, (eq_true k1 : (1 ≤ v.time ∧ v.time ≤ 40) = True), (eq_true k5 : (w.time < v.time) = True), (eq_false k6 : (v.time ≤ w.time) = False)]
        · have k6 : v.time ≤ w.time := by omega
          simp -implicitDefEqProofs (disch := omega) only [go_sem, Nat.reduceBEq, Nat.reduceAdd, Nat.reduceSub, Nat.reduceMul, Nat.reduceLeDiff, Nat.reduceEqDiff, Nat.reduceLT, Int.reduceNeg, Int.reduceAdd, Int.reduceSub, Int.reduceMul, Int.reduceLE, Int.reduceLT, Int.reduceEq, Int.reduceToNat, reduceCtorEq, evL63x0, B63x0, evC_draw, evD63x0, E63x0, IntWalk.i64_in, Ent.cells, Ent.v, hr, hx, beq_ft, beq_tf, Bool.true_or, Bool.false_or, run_l1In, entAhead, hi', hj', hp0, htn, hp, hw, Int.add_sub_cancel, Int.add_assoc, (eq_true k1 : (1 ≤ v.time ∧ v.time ≤ 40) = True), (eq_false k5 : (w.time < v.time) = False), (eq_true k6 : (v.time ≤ w.time) = True)]
      · have e : entOk (some w, v) = entAhead (some w) v := by unfold entOk Ent.one; simp only; rw [decide_eq_true k1, k2]; rfl
        rw [k2] at hr
        rw [e]
        by_cases k5 : w.time < v.time
        · have k6 : ¬ v.time ≤ w.time := by omega
          simp -implicitDefEqProofs (disch := omega) only [go_sem, Nat.reduceBEq, Nat.reduceAdd, Nat.reduceSub, Nat.reduceMul, Nat.reduceLeDiff, Nat.reduceEqDiff, Nat.reduceLT, Int.reduceNeg, Int.reduceAdd, Int.reduceSub, Int.reduceMul, Int.reduceLE, Int.reduceLT, Int.reduceEq, Int.reduceToNat, reduceCtorEq, evL63x0, B63x0, evC_draw, evD63x0, E63x0, IntWalk.i64_in, Ent.cells, Ent.v, hr, hx, beq_ft, beq_tf, Bool.true_or, Bool.false_or, run_l1In, entAhead, hi', hj', hp0, htn, hp, hw, Int.add_sub_cancel, Int.add_assoc, (eq_true k1 : (1 ≤ v.time ∧ v.time ≤ 40) = True), (eq_true k5 : (w.time < v.time) = True), (eq_false k6 : (v.time ≤ w.time) = False)]
        · have k6 : v.time ≤ w.time := by omega
          simp -implicitDefEqProofs (disch := omega) only [go_sem, Nat.reduceBEq, Nat.reduceAdd, Nat.reduceSub, Nat.reduceMul, Nat.reduceLeDiff, Nat.reduceEqDiff, Nat.reduceLT, Int.reduceNeg, Int.reduceAdd, Int.reduceSub, Int.reduceMul, Int.reduceLE, Int.reduceLT, Int.reduceEq, Int.reduceToNat, reduceCtorEq, evL63x0, B63x0, evC_draw, evD63x0, E63x0, IntWalk.i64_in, Ent.cells, Ent.v, hr, hx, beq_ft, beq_tf, Bool.true_or, Bool.false_or, run_l1In, entAhead, hi', hj', hp0, htn, hp, hw, Int.add_sub_cancel, Int.add_assoc, (eq_true k1 : (1 ≤ v.time ∧ v.time ≤ 40) = True), (eq_false k5 : (w.time < v.time) = False), (eq_true k6 : (v.time ≤ w.time) = True)]
-- find25
theorem loop_logI (d : Nat) (c : Bool) (l : List Ent) (hs : l.length < 1099511627776) (hsh : ShortE l) (K : Nat) (hK : (prevsG none l).length ≤ K) :
    LoopS (runD tab noExt (d + 8)) (drawI (runD tab noExt (d + 8))) [0, 5, 6, 7] [0, 2] L25x0 0 K [(0, .sl c 2 (l.map Ent.cells)), (5, .sl c 2 (l.map Ent.cells)), (6, .int .i64 l.length), (7, .int .i64 0)] [] = if (prevsG none l).all entOk then (some (.exit 0, [(0, .sl c 2 (l.map Ent.cells)), (2, .undef)], []) : Out) else some (.ret, [(0, .sl c 2 (l.map Ent.cells)), (2, .bool false)], []) := by
  have key := LoopS_all (run := (runD tab noExt (d + 8))) (draw := drawI (runD tab noExt (d + 8))) (live := [0, 5, 6, 7]) (out := [0, 2]) (c := L25x0) (n0 := 0) (prevsG none l) entOk (fun (i : Nat) => [(0, .sl c 2 (l.map Ent.cells)), (5, .sl c 2 (l.map Ent.cells)), (6, .int .i64 l.length), (7, .int .i64 (i : Int))]) [] (some (.exit 0, [(0, .sl c 2 (l.map Ent.cells)), (2, .undef)], [])) (some (.ret, [(0, .sl c 2 (l.map Ent.cells)), (2, .bool false)], [])) (fun K => ?_) (fun (i : Nat) x K hi hx0 => ?_) K hK
  · simp only [Int.natCast_zero] at key
    exact key
  · rw [LoopS_eq, prevsG_len]
    simp -implicitDefEqProofs only [go_sem, Nat.reduceBEq, Nat.reduceAdd, Nat.reduceSub, Nat.reduceMul, Nat.reduceLeDiff, Nat.reduceEqDiff, Nat.reduceLT, Int.reduceNeg, Int.reduceAdd, Int.reduceSub, Int.reduceMul, Int.reduceLE, Int.reduceLT, Int.reduceEq, Int.reduceToNat, reduceCtorEq, evL25x0, B25x0, Int.lt_irrefl]
  · obtain ⟨p, v⟩ := x
    rw [prevsG_len] at hi
    obtain ⟨hx, g2, g3⟩ := prevsG_at hx0
    obtain ⟨h1, h2⟩ := hsh v (List.mem_of_getElem? hx)
    have hr := run_wrsI d v.wc v.ws h1 h2
    clear hx0
    rw [LoopS_eq]
    have bad : v.one = false → ∀ (A B : Out), (if entOk (p, v) = true then A else B) = B := fun h A B => by simp only [entOk, h, Bool.false_and, Bool.false_eq_true, if_false]
    by_cases k1 : 1 ≤ v.time ∧ v.time ≤ 40
    rotate_left
    · rw [bad (by unfold Ent.one; rw [decide_eq_false k1]; rfl)]
      simp -implicitDefEqProofs (disch := omega) only [go_sem, Nat.reduceBEq, Nat.reduceAdd, Nat.reduceSub, Nat.reduceMul, Nat.reduceLeDiff, Nat.reduceEqDiff, Nat.reduceLT, Int.reduceNeg, Int.reduceAdd, Int.reduceSub, Int.reduceMul, Int.reduceLE, Int.reduceLT, Int.reduceEq, Int.reduceToNat, reduceCtorEq, evL25x0, B25x0, evC_draw, evD25x0, E25x0, IntWalk.i64_in, Ent.cells, Ent.v, hr, hx, beq_ft, beq_tf, Bool.true_or, Bool.false_or, run_between, entAhead, hi, (eq_false k1 : (1 ≤ v.time ∧ v.time ≤ 40) = False)]
    cases i with
    | zero =>
      obtain rfl := g2 rfl
      have hi0 : (0 : Int) < l.length := by omega
      cases k2 : wrsOk v.ws
      · rw [bad (by unfold Ent.one; rw [k2, Bool.and_false])]
        rw [k2] at hr
        simp -implicitDefEqProofs (disch := omega) only [go_sem, Nat.reduceBEq, Nat.reduceAdd, Nat.reduceSub, Nat.reduceMul, Nat.reduceLeDiff, Nat.reduceEqDiff, Nat.reduceLT, Int.reduceNeg, Int.reduceAdd, Int.reduceSub, Int.reduceMul, Int.reduceLE, Int.reduceLT, Int.reduceEq, Int.reduceToNat, reduceCtorEq, evL25x0, B25x0, evC_draw, evD25x0, E25x0, IntWalk.i64_in, Ent.cells, Ent.v, hr, hx, beq_ft, beq_tf, Bool.true_or, Bool.false_or, run_between, entAhead, hi0, (eq_true k1 : (1 ≤ v.time ∧ v.time ≤ 40) = True), Int.natCast_zero, Int.lt_irrefl]
      · have e : entOk (none, v) = true := by unfold entOk Ent.one; simp only; rw [decide_eq_true k1, k2]; rfl
        rw [k2] at hr
        rw [e]
        simp -implicitDefEqProofs (disch := omega) only [go_sem, Nat.reduceBEq, Nat.reduceAdd, Nat.reduceSub, Nat.reduceMul, Nat.reduceLeDiff, Nat.reduceEqDiff, Nat.reduceLT, Int.reduceNeg, Int.reduceAdd, Int.reduceSub, Int.reduceMul, Int.reduceLE, Int.reduceLT, Int.reduceEq, Int.reduceToNat, reduceCtorEq, evL25x0, B25x0, evC_draw, evD25x0, E25x0, IntWalk.i64_in, Ent.cells, Ent.v, hr, hx, beq_ft, beq_tf, Bool.true_or, Bool.false_or, run_between, entAhead, hi0, (eq_true k1 : (1 ≤ v.time ∧ v.time ≤ 40) = True), Int.natCast_zero, Int.lt_irrefl]
    | succ j =>
      have hj : j < l.length := by omega
      have hw := List.getElem?_eq_getElem hj
      obtain rfl := (g3 j rfl).trans hw
      generalize l[j] = w at hw bad
      have hp : (0 : Int) < (j : Int) + 1 := by omega
      have hj' : (j : Int) < l.length := by omega
      have hp0 : (0 : Int) ≤ (j : Int) + 1 := by omega
      have htn : ((j : Int) + 1).toNat = j + 1 := by omega
      have hi' : (j : Int) + 1 < l.length := by omega
      cases k2 : wrsOk v.ws
      · rw [bad (by unfold Ent.one; rw [k2, Bool.and_false])]
        rw [k2] at hr
        by_cases k5 : w.time < v.time
        · have k6 : ¬ v.time ≤ w.time := by omega
          simp -implicitDefEqProofs (disch := omega) only [go_sem, Nat.reduceBEq, Nat.reduceAdd, Nat.reduceSub, Nat.reduceMul, Nat.reduceLeDiff, Nat.reduceEqDiff, Nat.reduceLT, Int.reduceNeg, Int.reduceAdd, Int.reduceSub, Int.reduceMul, Int.reduceLE, Int.reduceLT, Int.reduceEq, Int.reduceToNat, reduceCtorEq, evL25x0, B25x0, evC_draw, evD25x0, E25x0, IntWalk.i64_in, Ent.cells, Ent.v, hr, hx, beq_ft, beq_tf, Bool.true_or, Bool.false_or, run_between, entAhead, hi', hj', hp0, htn, hp, hw, Int.add_sub_cancel, Int.add_assoc, (eq_true k1 : (1 ≤ v.time ∧ v.time ≤ 40) = True), (eq_true k5 : (w.time < v.time) = True), (eq_false k6 : (v.time ≤ w.time) = False)]
        · have k6 : v.time ≤ w.time := by omega
          simp -implicitDefEqProofs (disch := omega) only [go_sem, Nat.reduceBEq, Nat.reduceAdd, Nat.reduceSub, Nat.reduceMul, Nat.reduceLeDiff, Nat.reduceEqDiff, Nat.reduceLT, Int.reduceNeg, Int.reduceAdd, Int.reduceSub, Int.reduceMul, Int.reduceLE, Int.reduceLT, Int.reduceEq, Int.reduceToNat, reduceCtorEq, evL25x0, B25x0, evC_draw, evD25x0, E25x0, IntWalk.i64_in, Ent.cells, Ent.v, hr, hx, beq_ft, beq_tf, Bool.true_or, Bool.false_or, run_between, entAhead, hi', hj', hp0, htn, hp, hw, Int.add_sub_cancel, Int.add_assoc, (eq_true k1 : (1 ≤ v.time ∧ v.time ≤ 40) = True), (eq_false k5 : (w.time < v.time) = False), (eq_true k6 : (v.time ≤ w.time) = True)]
      · have e : entOk (some w, v) = entAhead (some w) v := by unfold entOk Ent.one; simp only; rw [decide_eq_true k1, k2]; rfl
        rw [k2] at hr
        rw [e]
        by_cases k5 : w.time < v.time
        · have k6 : ¬ v.time ≤ w.time := by omega
          simp -implicitDefEqProofs (disch := omega) only [go_sem, Nat.reduceBEq, Nat.reduceAdd, Nat.reduceSub, Nat.reduceMul, Nat.reduceLeDiff, Nat.reduceEqDiff, Nat.reduceLT, Int.reduceNeg, Int.reduceAdd, Int.reduceSub, Int.reduceMul, Int.reduceLE, Int.reduceLT, Int.reduceEq, Int.reduceToNat, reduceCtorEq, evL25x0, B25x0, evC_draw, evD25x0, E25x0, IntWalk.i64_in, Ent.cells, Ent.v, hr, hx, beq_ft, beq_tf, Bool.true_or, Bool.false_or, run_between, entAhead, hi', hj', hp0, htn, hp, hw, Int.add_sub_cancel, Int.add_assoc, (eq_true k1 : (1 ≤ v.time ∧ v.time ≤ 40) = True), (eq_true k5 : (w.time < v.time) = True), (eq_false k6 : (v.time ≤ w.time) = False)]
        · have k6 : v.time ≤ w.time := by omega
          simp -implicitDefEqProofs (disch := omega) only [go_sem, Nat.reduceBEq, Nat.reduceAdd, Nat.reduceSub, Nat.reduceMul, Nat.reduceLeDiff, Nat.reduceEqDiff, Nat.reduceLT, Int.reduceNeg, Int.reduceAdd, Int.reduceSub, Int.reduceMul, Int.reduceLE, Int.reduceLT, Int.reduceEq, Int.reduceToNat, reduceCtorEq, evL25x0, B25x0, evC_draw, evD25x0, E25x0, IntWalk.i64_in, Ent.cells, Ent.v, hr, hx, beq_ft, beq_tf, Bool.true_or, Bool.false_or, run_between, entAhead, hi', hj', hp0, htn, hp, hw, Int.add_sub_cancel, Int.add_assoc, (eq_true k1 : (1 ≤ v.time ∧ v.time ≤ 40) = True), (eq_false k5 : (w.time < v.time) = False), (eq_true k6 : (v.time ≤ w.time) = True)]
-- find63
theorem run_logS (d : Nat) (c : Bool) (l : List Ent) (hs : l.length < 1099511627776) (hsh : ShortE l) : retP (runD tab noExt (d + 5)) 63 [.sl c 2 (l.map Ent.cells)] = some [.bool (logOk l)] := by
  rw [retP, runD_eq find63 _ _ _ (by simp)]
  have hl := loop_logS d c l hs hsh 1099511627775 (by rw [prevsG_len]; omega)
  simp -implicitDefEqProofs (disch := omega) only [go_sem, Nat.reduceBEq, Nat.reduceAdd, Nat.reduceSub, Nat.reduceMul, Nat.reduceLeDiff, Nat.reduceEqDiff, Nat.reduceLT, Int.reduceNeg, Int.reduceAdd, Int.reduceSub, Int.reduceMul, Int.reduceLE, Int.reduceLT, Int.reduceEq, Int.reduceToNat, reduceCtorEq]
  rw [hl]
  unfold logOk
  cases h : (prevsG none l).all entOk
  · simp -implicitDefEqProofs (disch := omega) only [go_sem, Nat.reduceBEq, Nat.reduceAdd, Nat.reduceSub, Nat.reduceMul, Nat.reduceLeDiff, Nat.reduceEqDiff, Nat.reduceLT, Int.reduceNeg, Int.reduceAdd, Int.reduceSub, Int.reduceMul, Int.reduceLE, Int.reduceLT, Int.reduceEq, Int.reduceToNat, reduceCtorEq]
  · by_cases h60 : (l.length : Int) ≤ 12 <;> simp -implicitDefEqProofs (disch := omega) only [go_sem, Nat.reduceBEq, Nat.reduceAdd, Nat.reduceSub, Nat.reduceMul, Nat.reduceLeDiff, Nat.reduceEqDiff, Nat.reduceLT, Int.reduceNeg, Int.reduceAdd, Int.reduceSub, Int.reduceMul, Int.reduceLE, Int.reduceLT, Int.reduceEq, Int.reduceToNat, reduceCtorEq, h60]
-- find25
theorem run_logI (d : Nat) (c : Bool) (l : List Ent) (hs : l.length < 1099511627776) (hsh : ShortE l) : retP (runD tab noExt (d + 9)) 25 [.sl c 2 (l.map Ent.cells)] = some [.bool (logOk l)] := by
  rw [retP, runD_eq find25 _ _ _ (by simp)]
  have hl := loop_logI d c l hs hsh 1099511627775 (by rw [prevsG_len]; omega)
  simp -implicitDefEqProofs (disch := omega) only [go_sem, Nat.reduceBEq, Nat.reduceAdd, Nat.reduceSub, Nat.reduceMul, Nat.reduceLeDiff, Nat.reduceEqDiff, Nat.reduceLT, Int.reduceNeg, Int.reduceAdd, Int.reduceSub, Int.reduceMul, Int.reduceLE, Int.reduceLT, Int.reduceEq, Int.reduceToNat, reduceCtorEq]
  rw [hl]
  unfold logOk
  cases h : (prevsG none l).all entOk
  · simp -implicitDefEqProofs (disch := omega) only [go_sem, Nat.reduceBEq, Nat.reduceAdd, Nat.reduceSub, Nat.reduceMul, Nat.reduceLeDiff, Nat.reduceEqDiff, Nat.reduceLT, Int.reduceNeg, Int.reduceAdd, Int.reduceSub, Int.reduceMul, Int.reduceLE, Int.reduceLT, Int.reduceEq, Int.reduceToNat, reduceCtorEq]
  · by_cases h60 : (l.length : Int) ≤ 12 <;> simp -implicitDefEqProofs (disch := omega) only [go_sem, Nat.reduceBEq, Nat.reduceAdd, Nat.reduceSub, Nat.reduceMul, Nat.reduceLeDiff, Nat.reduceEqDiff, Nat.reduceLT, Int.reduceNeg, Int.reduceAdd, Int.reduceSub, Int.reduceMul, Int.reduceLE, Int.reduceLT, Int.reduceEq, Int.reduceToNat, reduceCtorEq, h60]
end Go.Proofs.Yteaojpfofifmnaa.PE
/- Trees of memory of one's own: what lies in them, that they stay ays they are, how they are told ays values, how a call hands them over. -/
set_option linter.unusedVariables false
set_option linter.unusedSimpArgs false
namespace Go.Proofs.Yteaojpfofifmnaa.PE
open Go.RowKit

/-- The kind of a cell. -/
inductive Fd where
  | int (k : IntKind)
  | bool
  | str
  | sub (fs : List Fd)
/-- What lies in a cell. -/
inductive U where
  | int (n : Int)
  | bool (b : Bool)
  | str (s : ByteArray)
  | sub (xs : List (List U))
def Fd.deep : Fd → Bool
  | .sub _ => true
  | _ => false
def blkOf (fs : List Fd) (st : Nat) (cont : List (List V)) : Blk := if fs.any Fd.deep then .nest st fs.length cont else .rows st fs.length cont

def Zip3 {α β : Type} (R : α → β → List Nat → Prop) : List α → List β → List Nat → Prop
  | [], [], ids => ids = []
  | a :: ays, b :: bs, ids => ∃ i j, ids = i ++ j ∧ R a b i ∧ Zip3 R ays bs j
  | _, _, _ => False
def Zip2 {α β : Type} (R : α → β → Prop) : List α → List β → Prop
  | [], [] => True
  | a :: ays, b :: bs => R a b ∧ Zip2 R ays bs
  | _, _ => False

mutual
/-- A cell whose memory is one's own: the blocks that it lies in. -/
def OwnF (h : Heap) : Fd → V → U → List Nat → Prop
  | .int k, v, u, ids => ∃ n, v = .int k n ∧ u = .int n ∧ ids = []
  | .bool, v, u, ids => ∃ b, v = .bool b ∧ u = .bool b ∧ ids = []
  | .str, v, u, ids => ∃ s, v = .str s ∧ u = .str s ∧ ids = []
  | .sub fs, v, u, ids => ∃ xs, u = .sub xs ∧ ((∃ c, v = .sl c fs.length [] ∧ xs = [] ∧ ids = []) ∨
      ∃ id st clip cont r, v = .ref id st 0 cont.length clip ∧ h[id]? = some (blkOf fs st cont) ∧ ids = id :: r ∧ Zip3 (OwnR h fs) cont xs r)
def OwnR (h : Heap) : List Fd → List V → List U → List Nat → Prop
  | [], c, x, ids => c = [] ∧ x = [] ∧ ids = []
  | f :: fs, c, x, ids => ∃ v c' u x' i j, c = v :: c' ∧ x = u :: x' ∧ ids = i ++ j ∧ OwnF h f v u i ∧ OwnR h fs c' x' j
end
mutual
/-- A cell of a value. -/
def PurF : Fd → V → U → Prop
  | .int k, v, u => ∃ n, v = .int k n ∧ u = .int n
  | .bool, v, u => ∃ b, v = .bool b ∧ u = .bool b
  | .str, v, u => ∃ s, v = .str s ∧ u = .str s
  | .sub fs, v, u => ∃ c cont xs, v = .sl c fs.length cont ∧ u = .sub xs ∧ Zip2 (PurR fs) cont xs
def PurR : List Fd → List V → List U → Prop
  | [], c, x => c = [] ∧ x = []
  | f :: fs, c, x => ∃ v c' u x', c = v :: c' ∧ x = u :: x' ∧ PurF f v u ∧ PurR fs c' x'
end

theorem Zip3_len {α β : Type} {R : α → β → List Nat → Prop} : ∀ {ays : List α} {bs : List β} {ids : List Nat}, Zip3 R ays bs ids → ays.length = bs.length
  | [], [], _, _ => rfl
  | a :: ays, b :: bs, ids, ⟨i, j, _, _, h⟩ => by simp [Zip3_len h]
  | [], _ :: _, _, h => h.elim
  | _ :: _, [], _, h => h.elim
theorem Zip3_mono {α β : Type} {R S : α → β → List Nat → Prop} {P : Nat → Prop} (f : ∀ a b i, R a b i → (∀ id ∈ i, P id) → S a b i) : ∀ {ays : List α} {bs : List β} {ids : List Nat}, Zip3 R ays bs ids → (∀ id ∈ ids, P id) → Zip3 S ays bs ids
  | [], [], _, h, _ => h
  | a :: ays, b :: bs, _, ⟨i, j, e, h1, h2⟩, hp => ⟨i, j, e, f a b i h1 (fun id hid => hp id (e ▸ List.mem_append_left _ hid)), Zip3_mono f h2 (fun id hid => hp id (e ▸ List.mem_append_right _ hid))⟩
  | [], _ :: _, _, h, _ => h.elim
  | _ :: _, [], _, h, _ => h.elim
theorem Zip3_map {α β : Type} {R S : α → β → List Nat → Prop} {g : α → α} {m : Nat → Nat} (f : ∀ a b i, R a b i → S (g a) b (i.map m)) : ∀ {ays : List α} {bs : List β} {ids : List Nat}, Zip3 R ays bs ids → Zip3 S (ays.map g) bs (ids.map m)
  | [], [], _, h => by cases h; rfl
  | a :: ays, b :: bs, _, ⟨i, j, e, h1, h2⟩ => ⟨i.map m, j.map m, by rw [e, List.map_append], f a b i h1, Zip3_map f h2⟩
  | [], _ :: _, _, h => h.elim
  | _ :: _, [], _, h => h.elim
theorem Zip3_app {α β : Type} {R : α → β → List Nat → Prop} : ∀ {ays : List α} {bs : List β} {ids : List Nat} {a2 : List α} {b2 : List β} {i2 : List Nat}, Zip3 R ays bs ids → Zip3 R a2 b2 i2 → Zip3 R (ays ++ a2) (bs ++ b2) (ids ++ i2)
  | [], [], _, _, _, _, h, h2 => by cases h; exact h2
  | a :: ays, b :: bs, _, _, _, _, ⟨i, j, e, h1, h3⟩, h2 => ⟨i, j ++ _, by rw [e, List.append_assoc], h1, Zip3_app h3 h2⟩
  | [], _ :: _, _, _, _, _, h, _ => h.elim
  | _ :: _, [], _, _, _, _, h, _ => h.elim
theorem Zip3_one {α β : Type} {R : α → β → List Nat → Prop} {a : α} {b : β} {i : List Nat} (h : R a b i) : Zip3 R [a] [b] i := ⟨i, [], by simp, h, rfl⟩

/-! ### they stay where the blocks stay -/
mutual
theorem OwnF_frame {h h' : Heap} : ∀ (f : Fd) {v : V} {u : U} {ids : List Nat}, OwnF h f v u ids → (∀ id ∈ ids, h'[id]? = h[id]?) → OwnF h' f v u ids
  | .int k, _, _, _, ho, _ => by simpa only [OwnF] using ho
  | .bool, _, _, _, ho, _ => by simpa only [OwnF] using ho
  | .str, _, _, _, ho, _ => by simpa only [OwnF] using ho
  | .sub fs, v, u, ids, ho, hk => by
    simp only [OwnF] at ho ⊢
    obtain ⟨xs, e, ho | ⟨id, st, clip, cont, r, e1, e2, e3, ho⟩⟩ := ho
    · exact ⟨xs, e, .inl ho⟩
    · subst e3
      exact ⟨xs, e, .inr ⟨id, st, clip, cont, r, e1, (hk id List.mem_cons_self).trans e2, rfl, Zip3_mono (fun c x i hr hp => OwnR_frame fs hr hp) ho (fun i hi => hk i (List.mem_cons_of_mem _ hi))⟩⟩
theorem OwnR_frame {h h' : Heap} : ∀ (fs : List Fd) {c : List V} {x : List U} {ids : List Nat}, OwnR h fs c x ids → (∀ id ∈ ids, h'[id]? = h[id]?) → OwnR h' fs c x ids
  | [], _, _, _, ho, _ => by simpa only [OwnR] using ho
  | f :: fs, c, x, ids, ho, hk => by
    simp only [OwnR] at ho ⊢
    obtain ⟨v, c', u, x', i, j, e1, e2, e3, h1, h2⟩ := ho
    subst e3
    exact ⟨v, c', u, x', i, j, e1, e2, rfl, OwnF_frame f h1 (fun id hid => hk id (List.mem_append_left _ hid)), OwnR_frame fs h2 (fun id hid => hk id (List.mem_append_right _ hid))⟩
end
theorem Zip3_all {α β : Type} {R : α → β → List Nat → Prop} {P : Nat → Prop} (f : ∀ a b i, R a b i → ∀ id ∈ i, P id) : ∀ {ays : List α} {bs : List β} {ids : List Nat}, Zip3 R ays bs ids → ∀ id ∈ ids, P id
  | [], [], _, h => by cases h; intro _ hm; cases hm
  | a :: ays, b :: bs, _, ⟨i, j, e, h1, h2⟩ => by
    subst e
    intro id hm
    rcases List.mem_append.1 hm with hm | hm
    · exact f a b i h1 id hm
    · exact Zip3_all f h2 id hm
  | [], _ :: _, _, h => h.elim
  | _ :: _, [], _, h => h.elim
mutual
theorem OwnF_lt {h : Heap} : ∀ (f : Fd) {v : V} {u : U} {ids : List Nat}, OwnF h f v u ids → ∀ id ∈ ids, id < h.length
  | .int k, _, _, _, ho => by simp only [OwnF] at ho; obtain ⟨_, _, _, rfl⟩ := ho; intro _ hm; cases hm
  | .bool, _, _, _, ho => by simp only [OwnF] at ho; obtain ⟨_, _, _, rfl⟩ := ho; intro _ hm; cases hm
  | .str, _, _, _, ho => by simp only [OwnF] at ho; obtain ⟨_, _, _, rfl⟩ := ho; intro _ hm; cases hm
  | .sub fs, v, u, ids, ho => by
    simp only [OwnF] at ho
    obtain ⟨xs, e, ⟨_, _, _, rfl⟩ | ⟨id, st, clip, cont, r, e1, e2, rfl, ho⟩⟩ := ho
    · intro _ hm; cases hm
    · intro i hm
      rcases List.mem_cons.1 hm with rfl | hm
      · exact (List.getElem?_eq_some_iff.1 e2).1
      · exact Zip3_all (fun c x i hr => OwnR_lt fs hr) ho i hm
theorem OwnR_lt {h : Heap} : ∀ (fs : List Fd) {c : List V} {x : List U} {ids : List Nat}, OwnR h fs c x ids → ∀ id ∈ ids, id < h.length
  | [], _, _, _, ho => by simp only [OwnR] at ho; obtain ⟨_, _, rfl⟩ := ho; intro _ hm; cases hm
  | f :: fs, c, x, ids, ho => by
    simp only [OwnR] at ho
    obtain ⟨v, c', u, x', i, j, e1, e2, rfl, h1, h2⟩ := ho
    intro id hm
    rcases List.mem_append.1 hm with hm | hm
    · exact OwnF_lt f h1 id hm
    · exact OwnR_lt fs h2 id hm
end

/-! ### told ays values -/
def dep : Fd → Nat
  | .sub fs => depR fs + 1
  | _ => 0
where depR : List Fd → Nat
  | [] => 0
  | f :: fs => max (dep f) (depR fs)
theorem mapO_zip {α β γ' : Type} {R : α → β → List Nat → Prop} {S : γ' → β → Prop} {f : α → Option γ'} (hf : ∀ a b i, R a b i → ∃ c, f a = some c ∧ S c b) : ∀ {ays : List α} {bs : List β} {ids : List Nat}, Zip3 R ays bs ids → ∃ cs, mapO f ays = some cs ∧ Zip2 S cs bs
  | [], [], _, _ => ⟨[], rfl, trivial⟩
  | a :: ays, b :: bs, _, ⟨i, j, _, h1, h2⟩ => by
    obtain ⟨c, e1, s1⟩ := hf a b i h1
    obtain ⟨cs, e2, s2⟩ := mapO_zip hf h2
    exact ⟨c :: cs, by simp only [mapO, e1, e2], s1, s2⟩
  | [], _ :: _, _, h => h.elim
  | _ :: _, [], _, h => h.elim
theorem Zip3_to2 {α β : Type} {R : α → β → List Nat → Prop} {S : α → β → Prop} (f : ∀ a b i, R a b i → S a b) : ∀ {ays : List α} {bs : List β} {ids : List Nat}, Zip3 R ays bs ids → Zip2 S ays bs
  | [], [], _, _ => trivial
  | a :: ays, b :: bs, _, ⟨i, j, _, h1, h2⟩ => ⟨f a b i h1, Zip3_to2 f h2⟩
  | [], _ :: _, _, h => h.elim
  | _ :: _, [], _, h => h.elim
/-- Rows whose cells are no slices lie ays they are told. -/
theorem OwnR_flat {h : Heap} : ∀ (fs : List Fd) {c : List V} {x : List U} {ids : List Nat}, fs.any Fd.deep = false → OwnR h fs c x ids → PurR fs c x
  | [], _, _, _, _, ho => by simp only [OwnR] at ho; simp only [PurR]; exact ⟨ho.1, ho.2.1⟩
  | f :: fs, c, x, ids, hd, ho => by
    simp only [OwnR] at ho
    simp only [PurR]
    simp only [List.any_cons, Bool.or_eq_false_iff] at hd
    obtain ⟨v, c', u, x', i, j, e1, e2, e3, h1, h2⟩ := ho
    refine ⟨v, c', u, x', e1, e2, ?_, OwnR_flat fs hd.2 h2⟩
    cases f with
    | int k => simp only [OwnF] at h1; simp only [PurF]; obtain ⟨n, a, b, _⟩ := h1; exact ⟨n, a, b⟩
    | bool => simp only [OwnF] at h1; simp only [PurF]; obtain ⟨n, a, b, _⟩ := h1; exact ⟨n, a, b⟩
    | str => simp only [OwnF] at h1; simp only [PurF]; obtain ⟨n, a, b, _⟩ := h1; exact ⟨n, a, b⟩
    | sub gs => simp [Fd.deep] at hd
mutual
theorem OwnF_pure {h : Heap} : ∀ (f : Fd) (d : Nat) {v : V} {u : U} {ids : List Nat}, dep f ≤ d → OwnF h f v u ids → ∃ p, pureD h d v = some p ∧ PurF f p u
  | .int k, d, _, _, _, _, ho => by
    simp only [OwnF] at ho
    obtain ⟨n, rfl, rfl, _⟩ := ho
    exact ⟨.int k n, by cases d <;> rfl, by simp only [PurF]; exact ⟨n, rfl, rfl⟩⟩
  | .bool, d, _, _, _, _, ho => by
    simp only [OwnF] at ho
    obtain ⟨n, rfl, rfl, _⟩ := ho
    exact ⟨.bool n, by cases d <;> rfl, by simp only [PurF]; exact ⟨n, rfl, rfl⟩⟩
  | .str, d, _, _, _, _, ho => by
    simp only [OwnF] at ho
    obtain ⟨n, rfl, rfl, _⟩ := ho
    exact ⟨.str n, by cases d <;> rfl, by simp only [PurF]; exact ⟨n, rfl, rfl⟩⟩
  | .sub fs, d, v, u, ids, hd, ho => by
    simp only [OwnF] at ho
    obtain ⟨xs, rfl, ⟨c, rfl, rfl, _⟩ | ⟨id, st, clip, cont, r, rfl, e2, _, ho⟩⟩ := ho
    · exact ⟨.sl c fs.length [], by cases d <;> rfl, by simp only [PurF]; exact ⟨c, [], [], rfl, rfl, trivial⟩⟩
    · obtain ⟨d, rfl⟩ : ∃ m, d = m + 1 := ⟨d - 1, by simp only [dep] at hd; omega⟩
      have hd' : dep.depR fs ≤ d := by simp only [dep] at hd; omega
      cases hdeep : fs.any Fd.deep
      · refine ⟨.sl clip fs.length cont, ?_, ?_⟩
        · simp only [pureD, e2, blkOf, hdeep, Bool.false_eq_true, if_false, if_true, List.drop_zero, List.take_length]
        · simp only [PurF]
          exact ⟨clip, cont, xs, rfl, rfl, Zip3_to2 (fun c x i hr => OwnR_flat fs hdeep hr) ho⟩
      · obtain ⟨cs, m1, m2⟩ := mapO_zip (f := mapO (pureD h d)) (S := PurR fs) (fun c x i hr => OwnR_pure fs d hd' hr) ho
        refine ⟨.sl clip fs.length cs, ?_, ?_⟩
        · simp only [pureD, e2, blkOf, hdeep, if_true, List.drop_zero, List.take_length, m1, Option.map_some]
        · simp only [PurF]
          exact ⟨clip, cs, xs, rfl, rfl, m2⟩
theorem OwnR_pure {h : Heap} : ∀ (fs : List Fd) (d : Nat) {c : List V} {x : List U} {ids : List Nat}, dep.depR fs ≤ d → OwnR h fs c x ids → ∃ p, mapO (pureD h d) c = some p ∧ PurR fs p x
  | [], d, _, _, _, _, ho => by
    simp only [OwnR] at ho
    obtain ⟨rfl, rfl, _⟩ := ho
    exact ⟨[], rfl, by simp [PurR]⟩
  | f :: fs, d, c, x, ids, hd, ho => by
    simp only [OwnR] at ho
    simp only [dep.depR] at hd
    obtain ⟨v, c', u, x', i, j, rfl, rfl, _, h1, h2⟩ := ho
    obtain ⟨p, e1, p1⟩ := OwnF_pure f d (by omega) h1
    obtain ⟨q, e2, q1⟩ := OwnR_pure fs d (by omega) h2
    exact ⟨p :: q, by simp only [mapO, e1, e2], by simp only [PurR]; exact ⟨p, q, u, x', rfl, rfl, p1, q1⟩⟩
end

/-! ### handed over by a call -/
theorem Zip3_fresh {α β : Type} {R : α → β → List Nat → Prop} {P : α → Bool} (f : ∀ a b i, R a b i → P a = true) : ∀ {ays : List α} {bs : List β} {ids : List Nat}, Zip3 R ays bs ids → ays.all P = true
  | [], [], _, _ => rfl
  | a :: ays, b :: bs, _, ⟨i, j, _, h1, h2⟩ => by rw [List.all_cons, f a b i h1, Zip3_fresh f h2]; rfl
  | [], _ :: _, _, h => h.elim
  | _ :: _, [], _, h => h.elim
theorem OwnF_fresh {h : Heap} (f : Fd) {v : V} {u : U} {ids : List Nat} (ho : OwnF h f v u ids) : freshC v = true := by
  cases f with
  | int k => simp only [OwnF] at ho; obtain ⟨_, rfl, _⟩ := ho; rfl
  | bool => simp only [OwnF] at ho; obtain ⟨_, rfl, _⟩ := ho; rfl
  | str => simp only [OwnF] at ho; obtain ⟨_, rfl, _⟩ := ho; rfl
  | sub fs =>
    simp only [OwnF] at ho
    obtain ⟨xs, _, ⟨c, rfl, _⟩ | ⟨id, st, clip, cont, r, rfl, _⟩⟩ := ho <;> rfl
theorem OwnR_fresh {h : Heap} : ∀ (fs : List Fd) {c : List V} {x : List U} {ids : List Nat}, OwnR h fs c x ids → c.all freshC = true
  | [], _, _, _, ho => by simp only [OwnR] at ho; rw [ho.1]; rfl
  | f :: fs, c, x, ids, ho => by
    simp only [OwnR] at ho
    obtain ⟨v, c', u, x', i, j, rfl, _, _, h1, h2⟩ := ho
    rw [List.all_cons, OwnF_fresh f h1, OwnR_fresh fs h2]
    rfl
theorem moved_get {h hc : Heap} {id : Nat} {b : Blk} (hb : hc[id]? = some b) : (h ++ movedH h.length hc)[id + h.length]? = some (shB h.length (clean b)) := by
  rw [List.getElem?_append_right (by omega), Nat.add_sub_cancel]
  simp [movedH, hb]
mutual
theorem OwnF_moved {h hc : Heap} : ∀ (f : Fd) {v : V} {u : U} {ids : List Nat}, OwnF hc f v u ids → OwnF (h ++ movedH h.length hc) f (shC h.length v) u (ids.map (· + h.length))
  | .int k, _, _, _, ho => by simp only [OwnF] at ho ⊢; obtain ⟨n, rfl, rfl, rfl⟩ := ho; exact ⟨n, rfl, rfl, rfl⟩
  | .bool, _, _, _, ho => by simp only [OwnF] at ho ⊢; obtain ⟨n, rfl, rfl, rfl⟩ := ho; exact ⟨n, rfl, rfl, rfl⟩
  | .str, _, _, _, ho => by simp only [OwnF] at ho ⊢; obtain ⟨n, rfl, rfl, rfl⟩ := ho; exact ⟨n, rfl, rfl, rfl⟩
  | .sub fs, v, u, ids, ho => by
    simp only [OwnF] at ho ⊢
    obtain ⟨xs, e, ⟨c, rfl, e1, rfl⟩ | ⟨id, st, clip, cont, r, rfl, e2, rfl, ho⟩⟩ := ho
    · exact ⟨xs, e, .inl ⟨c, rfl, e1, rfl⟩⟩
    · have hz := Zip3_map (S := OwnR (h ++ movedH h.length hc) fs) (g := fun x => x.map (shC h.length)) (m := (· + h.length)) (fun c x i hr => OwnR_moved fs hr) ho
      have hf : cont.all (fun x => x.all freshC) = true := Zip3_fresh (fun c x i hr => OwnR_fresh fs hr) ho
      have hg := moved_get (h := h) e2
      refine ⟨xs, e, .inr ⟨id + h.length, st, clip, cont.map (fun x => x.map (shC h.length)), r.map (· + h.length), by rw [List.length_map]; rfl, ?_, rfl, hz⟩⟩
      rw [hg]
      unfold blkOf
      cases hdeep : fs.any Fd.deep
      · have hid : cont.map (fun x => x.map (shC h.length)) = cont := by
          have := Zip3_to2 (S := fun (c : List V) (_ : List U) => c.map (shC h.length) = c) (fun c x i hr => OwnR_shift fs h.length hdeep hr) ho
          clear hz hf hg e2 ho
          revert this
          generalize xs = ys
          intro hz
          induction cont generalizing ys with
          | nil => rfl
          | cons a ays ih =>
            cases ys with
            | nil => exact hz.elim
            | cons b bs => rw [List.map_cons, hz.1, ih bs hz.2]
        simp only [Bool.false_eq_true, if_false, clean, hf, if_true, shB, hid]
      · simp only [if_true, clean, hf, shB]
theorem OwnR_moved {h hc : Heap} : ∀ (fs : List Fd) {c : List V} {x : List U} {ids : List Nat}, OwnR hc fs c x ids → OwnR (h ++ movedH h.length hc) fs (c.map (shC h.length)) x (ids.map (· + h.length))
  | [], _, _, _, ho => by simp only [OwnR] at ho ⊢; obtain ⟨rfl, rfl, rfl⟩ := ho; exact ⟨rfl, rfl, rfl⟩
  | f :: fs, c, x, ids, ho => by
    simp only [OwnR] at ho ⊢
    obtain ⟨v, c', u, x', i, j, rfl, rfl, rfl, h1, h2⟩ := ho
    exact ⟨shC h.length v, c'.map (shC h.length), u, x', i.map (· + h.length), j.map (· + h.length), rfl, rfl, by rw [List.map_append], OwnF_moved f h1, OwnR_moved fs h2⟩
theorem OwnR_shift {h : Heap} : ∀ (fs : List Fd) (n : Nat) {c : List V} {x : List U} {ids : List Nat}, fs.any Fd.deep = false → OwnR h fs c x ids → c.map (shC n) = c
  | [], _, _, _, _, _, ho => by simp only [OwnR] at ho; rw [ho.1]; rfl
  | f :: fs, n, c, x, ids, hd, ho => by
    simp only [OwnR] at ho
    simp only [List.any_cons, Bool.or_eq_false_iff] at hd
    obtain ⟨v, c', u, x', i, j, rfl, rfl, rfl, h1, h2⟩ := ho
    rw [List.map_cons, OwnR_shift fs n hd.2 h2]
    cases f with
    | int k => simp only [OwnF] at h1; obtain ⟨_, rfl, _⟩ := h1; rfl
    | bool => simp only [OwnF] at h1; obtain ⟨_, rfl, _⟩ := h1; rfl
    | str => simp only [OwnF] at h1; obtain ⟨_, rfl, _⟩ := h1; rfl
    | sub gs => simp [Fd.deep] at hd
end
end Go.Proofs.Yteaojpfofifmnaa.PE
/- What the functions of an exact statement do with such trees: sizes, copies, comparisons, marks; their loops. -/
set_option linter.unusedVariables false
set_option linter.unusedSimpArgs false
namespace Go.Proofs.Yteaojpfofifmnaa.PE
open Go.RowKit

/-! ### loops by what holds at their head -/
section
variable {run : Run} {draw : Draw} {live out : List Nat} {c : C} {n0 : Nat}
theorem LoopK_inv {σ : Type} (n : Nat) (Inv : Nat → σ → Prop) (E : Nat → σ → Env) (H : σ → Heap) (fin : σ → Out)
    (h0 : ∀ b K, Inv n b → LoopK run draw live out c K (E n b) (H b) = fin b)
    (h1 : ∀ (i : Nat) b K, i < n → Inv i b → ∃ b', Inv (i + 1) b' ∧ LoopK run draw live out c (K + 1) (E i b) (H b) = LoopK run draw live out c K (E (i + 1) b') (H b'))
    (K : Nat) (hK : n ≤ K) (b : σ) (hb : Inv 0 b) : ∃ b', Inv n b' ∧ LoopK run draw live out c K (E 0 b) (H b) = fin b' := by
  have key : ∀ (m i K : Nat) b, i + m = n → m ≤ K → Inv i b → ∃ b', Inv n b' ∧ LoopK run draw live out c K (E i b) (H b) = fin b' := by
    intro m
    induction m with
    | zero => intro i K b hi _ hb; have : i = n := by omega
              subst this; exact ⟨b, hb, h0 b K hb⟩
    | succ m ih =>
      intro i K b hi hK hb
      obtain ⟨K, rfl⟩ : ∃ K', K = K' + 1 := ⟨K - 1, by omega⟩
      obtain ⟨b', hb', e⟩ := h1 i b K (by omega) hb
      obtain ⟨b2, hb2, e2⟩ := ih (i + 1) K b' (by omega) (by omega) hb'
      exact ⟨b2, hb2, e.trans e2⟩
  exact key n 0 K b (by omega) hK hb
theorem LoopS_inv {σ : Type} (n : Nat) (Inv : Nat → σ → Prop) (E : Nat → σ → Env) (H : σ → Heap) (fin : σ → Out)
    (h0 : ∀ b K, Inv n b → LoopS run draw live out c n0 K (E n b) (H b) = fin b)
    (h1 : ∀ (i : Nat) b K, i < n → Inv i b → ∃ b', Inv (i + 1) b' ∧ LoopS run draw live out c n0 (K + 1) (E i b) (H b) = LoopS run draw live out c n0 K (E (i + 1) b') (H b'))
    (K : Nat) (hK : n ≤ K) (b : σ) (hb : Inv 0 b) : ∃ b', Inv n b' ∧ LoopS run draw live out c n0 K (E 0 b) (H b) = fin b' := by
  have key : ∀ (m i K : Nat) b, i + m = n → m ≤ K → Inv i b → ∃ b', Inv n b' ∧ LoopS run draw live out c n0 K (E i b) (H b) = fin b' := by
    intro m
    induction m with
    | zero => intro i K b hi _ hb; have : i = n := by omega
              subst this; exact ⟨b, hb, h0 b K hb⟩
    | succ m ih =>
      intro i K b hi hK hb
      obtain ⟨K, rfl⟩ : ∃ K', K = K' + 1 := ⟨K - 1, by omega⟩
      obtain ⟨b', hb', e⟩ := h1 i b K (by omega) hb
      obtain ⟨b2, hb2, e2⟩ := ih (i + 1) K b' (by omega) (by omega) hb'
      exact ⟨b2, hb2, e.trans e2⟩
  exact key n 0 K b (by omega) hK hb
end

/-! ### sizes -/
def szZ (R : List U → Int → Int) : List (List U) → Int → Int
  | [], l => l
  | x :: xs, l => if R x l < 0 then -1 else szZ R xs (R x l)
mutual
def szF : Fd → U → Int → Int
  | .str, .str s, l => if l - s.size < 0 then -1 else l - s.size
  | .sub fs, .sub xs, l => if l - xs.length < 0 then -1 else szZ (szR fs) xs (l - xs.length)
  | _, _, l => l
def szR : List Fd → List U → Int → Int
  | f :: fs, u :: x, l => if szF f u l < 0 then -1 else szR fs x (szF f u l)
  | _, _, l => l
end
def AllU (P : List U → Prop) : List (List U) → Prop
  | [] => True
  | x :: xs => P x ∧ AllU P xs
mutual
def LenF (n m : Nat) : Fd → U → Prop
  | .str, .str s => s.size ≤ m
  | .sub fs, .sub xs => xs.length ≤ n ∧ AllU (LenR n m fs) xs
  | _, _ => True
def LenR (n m : Nat) : List Fd → List U → Prop
  | f :: fs, u :: x => LenF n m f u ∧ LenR n m fs x
  | _, _ => True
end
/-- How many numbers are in it. -/
def sumU (c : List U → Nat) : List (List U) → Nat
  | [] => 0
  | x :: xs => c x + sumU c xs
mutual
def cntF : Fd → U → Nat
  | .sub fs, .sub xs => sumU (cntR fs) xs
  | _, _ => 1
def cntR : List Fd → List U → Nat
  | f :: fs, u :: x => cntF f u + cntR fs x
  | _, _ => 0
end
theorem AllU_mono {P Q : List U → Prop} (f : ∀ x, P x → Q x) : ∀ {xs : List (List U)}, AllU P xs → AllU Q xs
  | [], _ => trivial
  | x :: xs, ⟨h1, h2⟩ => ⟨f x h1, AllU_mono f h2⟩
theorem AllU_at {P : List U → Prop} : ∀ {xs : List (List U)}, AllU P xs → ∀ {i : Nat} {x : List U}, xs[i]? = some x → P x
  | x :: xs, ⟨h1, h2⟩, 0, y, hy => by simp at hy; subst hy; exact h1
  | x :: xs, ⟨h1, h2⟩, i + 1, y, hy => by simp at hy; exact AllU_at h2 hy
  | [], _, i, y, hy => by simp at hy
mutual
theorem LenF_mono {n m n' m' : Nat} (hn : n ≤ n') (hm : m ≤ m') : ∀ (f : Fd) {u : U}, LenF n m f u → LenF n' m' f u
  | .str, .str s, h => by simp only [LenF] at h ⊢; omega
  | .sub fs, .sub xs, h => by simp only [LenF] at h ⊢; exact ⟨by omega, AllU_mono (fun x hx => LenR_mono hn hm fs hx) h.2⟩
  | .int _, _, _ => by simp [LenF]
  | .bool, _, _ => by simp [LenF]
  | .str, .int _, _ => by simp [LenF]
  | .str, .bool _, _ => by simp [LenF]
  | .str, .sub _, _ => by simp [LenF]
  | .sub _, .int _, _ => by simp [LenF]
  | .sub _, .bool _, _ => by simp [LenF]
  | .sub _, .str _, _ => by simp [LenF]
theorem LenR_mono {n m n' m' : Nat} (hn : n ≤ n') (hm : m ≤ m') : ∀ (fs : List Fd) {x : List U}, LenR n m fs x → LenR n' m' fs x
  | f :: fs, u :: x, h => by simp only [LenR] at h ⊢; exact ⟨LenF_mono hn hm f h.1, LenR_mono hn hm fs h.2⟩
  | [], _, _ => by simp [LenR]
  | _ :: _, [], _ => by simp [LenR]
end
theorem szZ_spec {N : Nat} {R : List U → Int → Int} {P : List U → Prop} {c : List U → Nat} (hR : ∀ x (l : Int), l ≤ N → 0 ≤ R x l → 0 ≤ l → R x l ≤ l ∧ P x ∧ (c x : Int) ≤ 16 * (l - R x l) + 16) : ∀ (xs : List (List U)) (l : Int), l ≤ N → 0 ≤ szZ R xs l → 0 ≤ l →
    szZ R xs l ≤ l ∧ AllU P xs ∧ (sumU c xs : Int) ≤ 16 * (l - szZ R xs l) + 16 * xs.length
  | [], l, _, _, _ => by simp [szZ, AllU, sumU]
  | x :: xs, l, hl, h, h0 => by
    simp only [szZ] at h ⊢
    by_cases hx : R x l < 0
    · rw [if_pos hx] at h; omega
    · rw [if_neg hx] at h ⊢
      obtain ⟨a1, a2, a3⟩ := hR x l hl (by omega) h0
      obtain ⟨b1, b2, b3⟩ := szZ_spec hR xs (R x l) (by omega) h (by omega)
      refine ⟨by omega, ⟨a2, b2⟩, ?_⟩
      simp only [sumU, List.length_cons]
      push_cast
      omega
mutual
def okFd : Fd → Bool
  | .sub fs => decide (fs.length ≤ 16) && okFds fs
  | _ => true
def okFds : List Fd → Bool
  | [] => true
  | f :: fs => okFd f && okFds fs
end
mutual
theorem szF_spec {N : Nat} : ∀ (f : Fd) (u : U) (l : Int), okFd f = true → l ≤ N → 0 ≤ szF f u l → 0 ≤ l → szF f u l ≤ l ∧ LenF N N f u ∧ (cntF f u : Int) ≤ 16 * (l - szF f u l) + 1
  | .str, .str s, l, _, hl, h, h0 => by
    simp only [szF, LenF, cntF] at h ⊢
    split at h
    · omega
    · rename_i hc; rw [if_neg hc]; omega
  | .sub fs, .sub xs, l, hk, hl, h, h0 => by
    simp only [szF, LenF, cntF] at h ⊢
    simp only [okFd, Bool.and_eq_true, decide_eq_true_eq] at hk
    split at h
    · omega
    · rename_i hc
      rw [if_neg hc]
      obtain ⟨b1, b2, b3⟩ := szZ_spec (N := N) (R := szR fs) (P := LenR N N fs) (c := cntR fs) (fun x l hl h h0 => by
        obtain ⟨c1, c2, c3⟩ := szR_spec (N := N) fs x l hk.2 hl h h0
        exact ⟨c1, c2, by omega⟩) xs (l - xs.length) (by omega) h (by omega)
      exact ⟨by omega, ⟨by omega, b2⟩, by omega⟩
  | .int _, _, l, _, _, h, h0 => by simp [szF, LenF, cntF]
  | .bool, _, l, _, _, h, h0 => by simp [szF, LenF, cntF]
  | .str, .int _, l, _, _, h, h0 => by simp [szF, LenF, cntF]
  | .str, .bool _, l, _, _, h, h0 => by simp [szF, LenF, cntF]
  | .str, .sub _, l, _, _, h, h0 => by simp [szF, LenF, cntF]
  | .sub _, .int _, l, _, _, h, h0 => by simp [szF, LenF, cntF]
  | .sub _, .bool _, l, _, _, h, h0 => by simp [szF, LenF, cntF]
  | .sub _, .str _, l, _, _, h, h0 => by simp [szF, LenF, cntF]
theorem szR_spec {N : Nat} : ∀ (fs : List Fd) (x : List U) (l : Int), okFds fs = true → l ≤ N → 0 ≤ szR fs x l → 0 ≤ l → szR fs x l ≤ l ∧ LenR N N fs x ∧ (cntR fs x : Int) ≤ 16 * (l - szR fs x l) + fs.length
  | f :: fs, u :: x, l, hk, hl, h, h0 => by
    simp only [szR, LenR, cntR] at h ⊢
    simp only [okFds, Bool.and_eq_true] at hk
    split at h
    · omega
    · rename_i hc
      rw [if_neg hc]
      obtain ⟨a1, a2, a3⟩ := szF_spec (N := N) f u l hk.1 hl (by omega) h0
      obtain ⟨b1, b2, b3⟩ := szR_spec (N := N) fs x (szF f u l) hk.2 (by omega) h (by omega)
      refine ⟨by omega, ⟨a2, b2⟩, ?_⟩
      simp only [List.length_cons]
      push_cast
      omega
  | [], _, l, _, _, h, h0 => by simp [szR, LenR, cntR]
  | _ :: _, [], l, _, _, h, h0 => by simp [szR, LenR, cntR]; omega
end
/-! ### marks -/
/-- The digits of a number, ahead of others. -/
def digs : Nat → Nat → ByteArray → ByteArray
  | 0, _, s => s
  | f + 1, n, s => if n = 0 then s else digs f (n / 10) (⟨#[UInt8.ofNat (48 + n % 10)]⟩ ++ s)
def txt (k : Int) : ByteArray := if k ≤ 0 then ⟨#[109, 48]⟩ else ⟨#[109]⟩ ++ digs 20 k.toNat ⟨#[]⟩
def HeldZ (R : List U → Int → Int → Prop) : List (List U) → Int → Int → Prop
  | [], k, k' => k' = k
  | x :: xs, k, k' => ∃ m, R x k m ∧ HeldZ R xs m k'
mutual
def HeldF : Fd → U → Int → Int → Prop
  | .int kk, u, k, k' => u = .int (kk.wrap k) ∧ k' = k + 1
  | .bool, u, k, k' => u = .bool (decide (k.tmod 3 = 0)) ∧ k' = k + 1
  | .str, u, k, k' => u = .str (txt k) ∧ k' = k + 1
  | .sub fs, u, k, k' => ∃ xs, u = .sub xs ∧ HeldZ (HeldR fs) xs k k'
def HeldR : List Fd → List U → Int → Int → Prop
  | [], x, k, k' => x = [] ∧ k' = k
  | f :: fs, x, k, k' => ∃ u x' m, x = u :: x' ∧ HeldF f u k m ∧ HeldR fs x' m k'
end
theorem HeldZ_le {R : List U → Int → Int → Prop} (hR : ∀ x k k', R x k k' → k ≤ k') : ∀ {xs : List (List U)} {k k' : Int}, HeldZ R xs k k' → k ≤ k'
  | [], k, k', h => by simp only [HeldZ] at h; omega
  | x :: xs, k, k', ⟨m, h1, h2⟩ => by have := hR x k m h1; have := HeldZ_le hR h2; omega
mutual
theorem HeldF_le : ∀ (f : Fd) {u : U} {k k' : Int}, HeldF f u k k' → k ≤ k'
  | .int kk, _, _, _, h => by simp only [HeldF] at h; omega
  | .bool, _, _, _, h => by simp only [HeldF] at h; omega
  | .str, _, _, _, h => by simp only [HeldF] at h; omega
  | .sub fs, _, _, _, h => by
    simp only [HeldF] at h
    obtain ⟨xs, _, h⟩ := h
    exact HeldZ_le (fun x k k' => HeldR_le fs) h
theorem HeldR_le : ∀ (fs : List Fd) {x : List U} {k k' : Int}, HeldR fs x k k' → k ≤ k'
  | [], _, _, _, h => by simp only [HeldR] at h; omega
  | f :: fs, _, _, _, h => by
    simp only [HeldR] at h
    obtain ⟨u, x', m, _, h1, h2⟩ := h
    have := HeldF_le f h1
    have := HeldR_le fs h2
    omega
end
end Go.Proofs.Yteaojpfofifmnaa.PE
/- The loops of copies, comparisons, sizes and marks, by what one round does. -/
set_option linter.unusedVariables false
set_option linter.unusedSimpArgs false
namespace Go.Proofs.Yteaojpfofifmnaa.PE
open Go.RowKit

def big : Nat := 1099511627775
section
variable {run : Run} {draw : Draw} {c : C} {n0 : Nat}
theorem take_snoc {α : Type} {l : List α} {i : Nat} {x : α} (hx : l[i]? = some x) : l.take (i + 1) = l.take i ++ [x] := by
  rw [List.take_add_one, hx]; rfl
end
end Go.Proofs.Yteaojpfofifmnaa.PE
/- What the functions of exact statements promise; the text of a mark. -/
set_option linter.unusedVariables false
set_option linter.unusedSimpArgs false
set_option maxHeartbeats 4000000
namespace Go.Proofs.Yteaojpfofifmnaa.PE
open Go.RowKit

/-! ### copies -/
def ToOK (d f : Nat) (fs : List Fd) : Prop := ∀ {p : V} {xs : List (List U)}, PurF (.sub fs) p (.sub xs) → xs.length ≤ 1048576 → AllU (LenR 1048576 1048576 fs) xs → ∃ v hc ids, runD tab noExt d f [p] [] = some ([v], hc) ∧ OwnF hc (.sub fs) v (.sub xs) ids ∧ ids.Nodup

theorem own_cases {h : Heap} {fs : List Fd} {v : V} {u : U} {ids : List Nat} (ho : OwnF h (.sub fs) v u ids) : (∃ c, v = .sl c fs.length []) ∨ ∃ id st n clip, v = .ref id st 0 n clip := by
  simp only [OwnF] at ho
  obtain ⟨xs, _, ⟨c, e, _⟩ | ⟨id, st, clip, cont, r, e, _⟩⟩ := ho
  · exact .inl ⟨c, e⟩
  · exact .inr ⟨id, st, _, clip, e⟩
theorem own_call {run : Run} {h : Heap} {f : Nat} {args args' : List V} {v : V} {hc : Heap} {fs : List Fd} {u : U} {ids : List Nat} (hp : pureDAs h args = some args') (hr : run f args' [] = some ([v], hc)) (ho : OwnF hc (.sub fs) v u ids) (hn : ids.Nodup) :
    ∃ v' h' ids', callX run h 0 f args = some (v', h') ∧ OwnF h' (.sub fs) v' u ids' ∧ ids'.Nodup ∧ (∀ j ∈ ids', h.length ≤ j) ∧ (∀ j, j < h.length → h'[j]? = h[j]?) ∧ h.length ≤ h'.length := by
  have hs : [v].all scalarA = false := by
    rcases own_cases ho with ⟨c, rfl⟩ | ⟨id, st, n, clip, rfl⟩ <;> rfl
  have hf : [v].all freshA = true := by
    rcases own_cases ho with ⟨c, rfl⟩ | ⟨id, st, n, clip, rfl⟩ <;> rfl
  have ha : shA h.length v = shC h.length v := by
    rcases own_cases ho with ⟨c, rfl⟩ | ⟨id, st, n, clip, rfl⟩ <;> rfl
  refine ⟨shC h.length v, h ++ movedH h.length hc, ids.map (· + h.length), ?_, OwnF_moved _ ho, ?_, fun j hj => ?_, fun j hj => by rw [List.getElem?_append_left hj], by simp⟩
  · simp only [callX, callO, hp, hr, BackO, hs, hf, Bool.false_eq_true, if_false, if_true, List.map_cons, List.map_nil, oneOf, ha]
  · exact (List.pairwise_map.2 (List.Pairwise.imp (fun {a b} hab => by simp only [ne_eq] at hab ⊢; omega) hn))
  · obtain ⟨i, _, rfl⟩ := List.mem_map.1 hj
    omega
def EqOK (d f : Nat) (fs : List Fd) : Prop := ∀ {p q : V} {xs : List (List U)}, PurF (.sub fs) p (.sub xs) → PurF (.sub fs) q (.sub xs) → LenF big big (.sub fs) (.sub xs) → retP (runD tab noExt d) f [p, q] = some [.bool true]

def HeldOK (d f : Nat) (fs : List Fd) : Prop := ∀ {p : V} {xs : List (List U)} {k k' : Int}, PurF (.sub fs) p (.sub xs) → HeldF (.sub fs) (.sub xs) k k' → 0 ≤ k → k' ≤ 4611686018427387904 → LenF big big (.sub fs) (.sub xs) → retP (runD tab noExt d) f [p, .int .i64 k] = some [.int .i64 k']

def MarkOK (d f : Nat) (fs : List Fd) : Prop := ∀ {h : Heap} {v : V} {xs : List (List U)} {ids : List Nat} {k : Int}, OwnF h (.sub fs) v (.sub xs) ids → ids.Nodup → LenF big big (.sub fs) (.sub xs) → 0 ≤ k → k + cntF (.sub fs) (.sub xs) ≤ 4611686018427387904 →
  ∃ h' ys, callX (runD tab noExt d) h 2 f [v, .int .i64 k] = some (.int .i64 (k + cntF (.sub fs) (.sub xs)), h') ∧ OwnF h' (.sub fs) v (.sub ys) ids ∧ HeldF (.sub fs) (.sub ys) k (k + cntF (.sub fs) (.sub xs)) ∧ LenF big big (.sub fs) (.sub ys) ∧ (∀ j, j ∉ ids → h'[j]? = h[j]?) ∧ h'.length = h.length

end Go.Proofs.Yteaojpfofifmnaa.PE
/- What sizes, copies, comparisons and marks do, type by type. -/
set_option linter.unusedVariables false
set_option linter.unusedSimpArgs false
set_option maxHeartbeats 4000000
namespace Go.Proofs.Yteaojpfofifmnaa.PE
open Go.RowKit

/-! ### Int -/
def fdInt : List Fd := [.int .i64]
/-! ### Byte -/
def fdByte : List Fd := [.int .u8]
theorem purR_Byte {c : List V} {x : List U} (h : PurR fdByte c x) : ∃ (a0 : Int), c = [.int .u8 a0] ∧ x = [.int a0] := by
  simp only [fdByte, PurR] at h
  obtain ⟨v0, _, u0, _, rfl, rfl, g0, rfl, rfl⟩ := h
  simp only [PurF] at g0
  obtain ⟨a0, rfl, rfl⟩ := g0
  exact ⟨a0, rfl, rfl⟩
theorem purS_Byte {p : V} {xs : List (List U)} (hp : PurF (.sub fdByte) p (.sub xs)) : ∃ cl cont, p = .sl cl 1 cont ∧ Zip2 (PurR fdByte) cont xs := by
  simp only [PurF] at hp
  obtain ⟨cl, cont, xs', rfl, e, hz⟩ := hp
  injection e with e
  subst e
  exact ⟨cl, cont, rfl, hz⟩
theorem ownR_Byte {h : Heap} {c : List V} {x : List U} {i : List Nat} (ho : OwnR h fdByte c x i) : ∃ (a0 : Int) , c = [.int .u8 a0] ∧ x = [.int a0] ∧ i = [] := by
  simp only [fdByte, OwnR] at ho
  obtain ⟨v0, _, u0, _, i0, _, rfl, rfl, rfl, g0, rfl, rfl, rfl⟩ := ho
  simp only [OwnF] at g0
  obtain ⟨a0, rfl, rfl, rfl⟩ := g0
  exact ⟨a0, rfl, rfl, by simp⟩
theorem ownR_mk_Byte (h : Heap) (a0 : Int) : OwnR h fdByte [.int .u8 a0] [.int a0] [] := by
  simp only [fdByte, OwnR]
  exact ⟨_, _, _, _, [], [], rfl, rfl, (by simp), (by simp only [OwnF]; first | exact ⟨a0, rfl, rfl, rfl⟩ | exact ⟨a0, rfl, rfl, trivial⟩ | exact ⟨a0, rfl, rfl⟩ | exact ⟨a0, rfl⟩ | trivial), rfl, rfl, rfl⟩
/-! ### Column -/
def fdColumn : List Fd := [.int .i64, .bool]
/-! ### Value -/
def fdValue : List Fd := [.int .i64, .int .i64, .str]
theorem purR_Value {c : List V} {x : List U} (h : PurR fdValue c x) : ∃ (a0 : Int) (a1 : Int) (a2 : ByteArray), c = [.int .i64 a0, .int .i64 a1, .str a2] ∧ x = [.int a0, .int a1, .str a2] := by
  simp only [fdValue, PurR] at h
  obtain ⟨v0, _, u0, _, rfl, rfl, g0, v1, _, u1, _, rfl, rfl, g1, v2, _, u2, _, rfl, rfl, g2, rfl, rfl⟩ := h
  simp only [PurF] at g0
  obtain ⟨a0, rfl, rfl⟩ := g0
  simp only [PurF] at g1
  obtain ⟨a1, rfl, rfl⟩ := g1
  simp only [PurF] at g2
  obtain ⟨a2, rfl, rfl⟩ := g2
  exact ⟨a0, a1, a2, rfl, rfl⟩
theorem purS_Value {p : V} {xs : List (List U)} (hp : PurF (.sub fdValue) p (.sub xs)) : ∃ cl cont, p = .sl cl 3 cont ∧ Zip2 (PurR fdValue) cont xs := by
  simp only [PurF] at hp
  obtain ⟨cl, cont, xs', rfl, e, hz⟩ := hp
  injection e with e
  subst e
  exact ⟨cl, cont, rfl, hz⟩
theorem ownR_mk_Value (h : Heap) (a0 : Int) (a1 : Int) (a2 : ByteArray) : OwnR h fdValue [.int .i64 a0, .int .i64 a1, .str a2] [.int a0, .int a1, .str a2] [] := by
  simp only [fdValue, OwnR]
  exact ⟨_, _, _, _, [], [], rfl, rfl, (by simp), (by simp only [OwnF]; first | exact ⟨a0, rfl, rfl, rfl⟩ | exact ⟨a0, rfl, rfl, trivial⟩ | exact ⟨a0, rfl, rfl⟩ | exact ⟨a0, rfl⟩ | trivial), _, _, _, _, [], [], rfl, rfl, (by simp), (by simp only [OwnF]; first | exact ⟨a1, rfl, rfl, rfl⟩ | exact ⟨a1, rfl, rfl, trivial⟩ | exact ⟨a1, rfl, rfl⟩ | exact ⟨a1, rfl⟩ | trivial), _, _, _, _, [], [], rfl, rfl, (by simp), (by simp only [OwnF]; first | exact ⟨a2, rfl, rfl, rfl⟩ | exact ⟨a2, rfl, rfl, trivial⟩ | exact ⟨a2, rfl, rfl⟩ | exact ⟨a2, rfl⟩ | trivial), rfl, rfl, rfl⟩
/-! ### ValueS -/
def fdValueS : List Fd := [.sub fdValue]
/-! ### Write -/
def fdWrite : List Fd := [.int .i64, .sub fdValue, .bool]
theorem purR_Write {c : List V} {x : List U} (h : PurR fdWrite c x) : ∃ (a0 : Int) (p1 : V) (y1 : List (List U)) (a2 : Bool), c = [.int .i64 a0, p1, .bool a2] ∧ x = [.int a0, .sub y1, .bool a2] ∧ PurF (.sub fdValue) p1 (.sub y1) := by
  simp only [fdWrite, PurR] at h
  obtain ⟨v0, _, u0, _, rfl, rfl, g0, v1, _, u1, _, rfl, rfl, g1, v2, _, u2, _, rfl, rfl, g2, rfl, rfl⟩ := h
  simp only [PurF] at g0
  obtain ⟨a0, rfl, rfl⟩ := g0
  have g1' := g1
  simp only [PurF] at g1'
  obtain ⟨_, _, y1, _, rfl, _⟩ := g1'
  simp only [PurF] at g2
  obtain ⟨a2, rfl, rfl⟩ := g2
  exact ⟨a0, v1, y1, a2, rfl, rfl, g1⟩
theorem purS_Write {p : V} {xs : List (List U)} (hp : PurF (.sub fdWrite) p (.sub xs)) : ∃ cl cont, p = .sl cl 3 cont ∧ Zip2 (PurR fdWrite) cont xs := by
  simp only [PurF] at hp
  obtain ⟨cl, cont, xs', rfl, e, hz⟩ := hp
  injection e with e
  subst e
  exact ⟨cl, cont, rfl, hz⟩
theorem ownR_mk_Write {h : Heap} {a0 : Int} {p1 : V} {y1 : List (List U)} {a2 : Bool} {i1 : List Nat} (g1 : OwnF h (.sub fdValue) p1 (.sub y1) i1) : OwnR h fdWrite [.int .i64 a0, p1, .bool a2] [.int a0, .sub y1, .bool a2] (i1) := by
  simp only [fdWrite, OwnR]
  exact ⟨_, _, _, _, [], i1, rfl, rfl, (by simp), (by simp only [OwnF]; first | exact ⟨a0, rfl, rfl, rfl⟩ | exact ⟨a0, rfl, rfl, trivial⟩ | exact ⟨a0, rfl, rfl⟩ | exact ⟨a0, rfl⟩ | trivial), _, _, _, _, i1, [], rfl, rfl, (by simp), g1, _, _, _, _, [], [], rfl, rfl, (by simp), (by simp only [OwnF]; first | exact ⟨a2, rfl, rfl, rfl⟩ | exact ⟨a2, rfl, rfl, trivial⟩ | exact ⟨a2, rfl, rfl⟩ | exact ⟨a2, rfl⟩ | trivial), rfl, rfl, rfl⟩
/-! ### Entry -/
def fdEntry : List Fd := [.int .i64, .sub fdWrite]
theorem purR_Entry {c : List V} {x : List U} (h : PurR fdEntry c x) : ∃ (a0 : Int) (p1 : V) (y1 : List (List U)), c = [.int .i64 a0, p1] ∧ x = [.int a0, .sub y1] ∧ PurF (.sub fdWrite) p1 (.sub y1) := by
  simp only [fdEntry, PurR] at h
  obtain ⟨v0, _, u0, _, rfl, rfl, g0, v1, _, u1, _, rfl, rfl, g1, rfl, rfl⟩ := h
  simp only [PurF] at g0
  obtain ⟨a0, rfl, rfl⟩ := g0
  have g1' := g1
  simp only [PurF] at g1'
  obtain ⟨_, _, y1, _, rfl, _⟩ := g1'
  exact ⟨a0, v1, y1, rfl, rfl, g1⟩
theorem purS_Entry {p : V} {xs : List (List U)} (hp : PurF (.sub fdEntry) p (.sub xs)) : ∃ cl cont, p = .sl cl 2 cont ∧ Zip2 (PurR fdEntry) cont xs := by
  simp only [PurF] at hp
  obtain ⟨cl, cont, xs', rfl, e, hz⟩ := hp
  injection e with e
  subst e
  exact ⟨cl, cont, rfl, hz⟩
theorem ownR_Entry {h : Heap} {c : List V} {x : List U} {i : List Nat} (ho : OwnR h fdEntry c x i) : ∃ (a0 : Int) (p1 : V) (y1 : List (List U)) (i1 : List Nat), c = [.int .i64 a0, p1] ∧ x = [.int a0, .sub y1] ∧ i = i1 ∧ OwnF h (.sub fdWrite) p1 (.sub y1) i1 := by
  simp only [fdEntry, OwnR] at ho
  obtain ⟨v0, _, u0, _, i0, _, rfl, rfl, rfl, g0, v1, _, u1, _, i1, _, rfl, rfl, rfl, g1, rfl, rfl, rfl⟩ := ho
  simp only [OwnF] at g0
  obtain ⟨a0, rfl, rfl, rfl⟩ := g0
  have g1' := g1
  simp only [OwnF] at g1'
  obtain ⟨y1, rfl, _⟩ := g1'
  exact ⟨a0, v1, y1, i1, rfl, rfl, by simp, g1⟩
theorem ownR_mk_Entry {h : Heap} {a0 : Int} {p1 : V} {y1 : List (List U)} {i1 : List Nat} (g1 : OwnF h (.sub fdWrite) p1 (.sub y1) i1) : OwnR h fdEntry [.int .i64 a0, p1] [.int a0, .sub y1] (i1) := by
  simp only [fdEntry, OwnR]
  exact ⟨_, _, _, _, [], i1, rfl, rfl, (by simp), (by simp only [OwnF]; first | exact ⟨a0, rfl, rfl, rfl⟩ | exact ⟨a0, rfl, rfl, trivial⟩ | exact ⟨a0, rfl, rfl⟩ | exact ⟨a0, rfl⟩ | trivial), _, _, _, _, i1, [], rfl, rfl, (by simp), g1, rfl, rfl, rfl⟩
end Go.Proofs.Yteaojpfofifmnaa.PE
/- Steps of an exact statement. -/
set_option linter.unusedVariables false
set_option linter.unusedSimpArgs false
namespace Go.Proofs.Yteaojpfofifmnaa.PE
open Go.RowKit

theorem pureDA_int (h : Heap) (k : IntKind) (n : Int) : pureDA h (.int k n) = some (.int k n) := rfl
theorem retP_some {run : Run} {f : Nat} {args rs : List V} (h : retP run f args = some rs) : ∃ r hc, run f args [] = some (r, hc) ∧ pureRs hc r = some rs := by
  unfold retP PureR at h
  rcases hr : run f args [] with _ | ⟨r, hc⟩
  · rw [hr] at h; cases h
  · rw [hr] at h; exact ⟨r, hc, rfl, h⟩
theorem pureD_bool {h : Heap} {n : Nat} {v : V} {b : Bool} (hp : pureD h n v = some (.bool b)) : v = .bool b := by
  cases v with
  | bool c => cases n <;> simp [pureD] at hp <;> rw [hp]
  | ref id st off len clip =>
    cases n with
    | zero => simp [pureD] at hp
    | succ n =>
      simp only [pureD] at hp
      split at hp
      · split at hp <;> cases hp
      · split at hp <;> cases hp
      · split at hp
        · obtain ⟨_, _, e⟩ := Option.map_eq_some_iff.1 hp; cases e
        · cases hp
      · cases hp
  | _ => cases n <;> simp [pureD] at hp
theorem pureD_int {h : Heap} {n : Nat} {v : V} {k : IntKind} {b : Int} (hp : pureD h n v = some (.int k b)) : v = .int k b := by
  cases v with
  | int c m => cases n <;> simp [pureD] at hp <;> obtain ⟨rfl, rfl⟩ := hp <;> rfl
  | ref id st off len clip =>
    cases n with
    | zero => simp [pureD] at hp
    | succ n =>
      simp only [pureD] at hp
      split at hp
      · split at hp <;> cases hp
      · split at hp <;> cases hp
      · split at hp
        · obtain ⟨_, _, e⟩ := Option.map_eq_some_iff.1 hp; cases e
        · cases hp
      · cases hp
  | _ => cases n <;> simp [pureD] at hp
theorem pureC_D {h : Heap} {v x : V} (hv : pureC h v = some x) : pureD h 1 v = some x := by
  cases v with
  | ref id st off len clip =>
    simp only [pureC] at hv
    simp only [pureD]
    split at hv
    · rename_i hb; rw [hb]; exact hv
    · rename_i hb; rw [hb]; exact hv
    · cases hv
  | _ => first | exact hv | (simp [pureC] at hv)
theorem pureA_C {h : Heap} {v x : V} (hv : pureA h v = some x) (hx : ∀ cs, x ≠ .agg cs) : pureC h v = some x := by
  unfold pureA at hv
  split at hv
  · obtain ⟨cs, _, e⟩ := Option.map_eq_some_iff.1 hv; exact absurd e.symm (hx cs)
  · exact hv
theorem pureRs_scal {h : Heap} {r : List V} {x : V} (hx : (∃ b, x = .bool b) ∨ ∃ k n, x = .int k n) (hp : pureRs h r = some [x]) : r = [x] := by
  have key : ∀ v, pureA h v = some x → v = x := by
    intro v hv
    have := pureC_D (pureA_C hv (by rintro cs rfl; rcases hx with ⟨b, e⟩ | ⟨k, n, e⟩ <;> cases e))
    rcases hx with ⟨b, rfl⟩ | ⟨k, n, rfl⟩
    · exact pureD_bool this
    · exact pureD_int this
  have key2 : ∀ v, pureDA h v = some x → v = x := by
    intro v hv
    unfold pureDA at hv
    split at hv
    · obtain ⟨_, _, e⟩ := Option.map_eq_some_iff.1 hv
      rcases hx with ⟨b, rfl⟩ | ⟨k, n, rfl⟩ <;> cases e
    · rcases hx with ⟨b, rfl⟩ | ⟨k, n, rfl⟩
      · exact pureD_bool hv
      · exact pureD_int hv
  unfold pureRs OrD at hp
  split at hp
  · rename_i r' hr
    injection hp with hp
    subst hp
    obtain ⟨a1, a2⟩ := pureAs_spec hr
    obtain ⟨v, hv, e⟩ := a2 0 x rfl
    match r, a1, hv with
    | [v'], _, hv => simp at hv; subst hv; rw [key _ e]
  · obtain ⟨a1, a2⟩ := pureDAs_spec hp
    obtain ⟨v, hv, e⟩ := a2 0 x rfl
    match r, a1, hv with
    | [v'], _, hv => simp at hv; subst hv; rw [key2 _ e]
theorem call_bool {run : Run} {h : Heap} {f : Nat} {args args' : List V} {b : Bool} (hp : pureDAs h args = some args') (hr : retP run f args' = some [.bool b]) : callX run h 0 f args = some (.bool b, h) := by
  obtain ⟨r, hc, e1, e2⟩ := retP_some hr
  have := pureRs_scal (.inl ⟨b, rfl⟩) e2
  subst this
  simp only [callX, callO, hp, e1]
  rfl
end Go.Proofs.Yteaojpfofifmnaa.PE
/- Contents of trees as columns, values, rows, numbers. -/
set_option linter.unusedVariables false
set_option linter.unusedSimpArgs false
namespace Go.Proofs.Yteaojpfofifmnaa.PE
open Go.RowKit

def colU (c : Col) : List U := [.int c.kind, .bool c.empty]
def valU (v : Val) : List U := [.int v.kind, .int v.n, .str v.s]
def vsU (vs : List Val) : List U := [.sub (vs.map valU)]
theorem typ_of {α : Type} {R : List V → List U → Prop} {f : α → List V} {g : α → List U} (h : ∀ c x, R c x → ∃ a, c = f a ∧ x = g a) : ∀ {l1 : List (List V)} {l2 : List (List U)}, Zip2 R l1 l2 → ∃ ls : List α, l1 = ls.map f ∧ l2 = ls.map g
  | [], [], _ => ⟨[], rfl, rfl⟩
  | c :: l1, x :: l2, ⟨h1, h2⟩ => by
    obtain ⟨a, rfl, rfl⟩ := h c x h1
    obtain ⟨ls, rfl, rfl⟩ := typ_of h h2
    exact ⟨a :: ls, rfl, rfl⟩
  | [], _ :: _, h => h.elim
  | _ :: _, [], h => h.elim
theorem valsU_of {l1 : List (List V)} {l2 : List (List U)} (h : Zip2 (PurR fdValue) l1 l2) : ∃ vs : List Val, l1 = vs.map Val.cells ∧ l2 = vs.map valU :=
  typ_of (fun c x hr => by obtain ⟨a, b, s, rfl, rfl⟩ := purR_Value hr; exact ⟨⟨a, b, s⟩, rfl, rfl⟩) h
theorem valU_inj {a b : Val} (h : valU a = valU b) : a = b := by
  cases a; cases b
  simp only [valU, List.cons.injEq, U.int.injEq, U.str.injEq, and_true] at h
  obtain ⟨rfl, rfl, rfl⟩ := h
  rfl
theorem map_inj {α β : Type} {g : α → β} (hg : ∀ a b, g a = g b → a = b) {l1 l2 : List α} (h : l1.map g = l2.map g) : l1 = l2 := (List.map_inj_right hg).1 h
/-- Values of one's own. -/
theorem own_flat {α : Type} {fs : List Fd} {f : α → List V} {g : α → List U} {h : Heap} (ho : ∀ a, OwnR h fs (f a) (g a) []) : ∀ (ls : List α), Zip3 (OwnR h fs) (ls.map f) (ls.map g) []
  | [] => rfl
  | a :: ls => ⟨[], [], rfl, ho a, own_flat ho ls⟩
theorem own_row {α : Type} {fs : List Fd} {f : α → List V} {g : α → List U} {h : Heap} {id st n : Nat} {clip : Bool} (hd : fs.any Fd.deep = false) (ls : List α) (hn : n = ls.length) (hb : h[id]? = some (.rows st fs.length (ls.map f))) (ho : ∀ a, OwnR h fs (f a) (g a) []) : OwnF h (.sub fs) (.ref id st 0 n clip) (.sub (ls.map g)) [id] := by
  simp only [OwnF]
  refine ⟨_, rfl, .inr ⟨id, st, clip, ls.map f, [], by rw [hn, List.length_map], ?_, rfl, own_flat ho ls⟩⟩
  rw [hb]
  unfold blkOf
  rw [hd]
  rfl
theorem own_nil {fs : List Fd} {h : Heap} {c : Bool} {n : Nat} (hn : n = fs.length) : OwnF h (.sub fs) (.sl c n []) (.sub []) [] := by
  subst hn
  rw [OwnF]
  exact ⟨[], rfl, .inl ⟨c, rfl, rfl, rfl⟩⟩
end Go.Proofs.Yteaojpfofifmnaa.PE
/- Rows and columns as trees: what their sizes say, that only their values matter. -/
set_option linter.unusedVariables false
set_option linter.unusedSimpArgs false
set_option maxHeartbeats 4000000
namespace Go.Proofs.Yteaojpfofifmnaa.PE
open Go.RowKit

def rowU (r : Row) : List U := vsU r.vs
end Go.Proofs.Yteaojpfofifmnaa.PE
/- Copies of rows, and whether lists of rows are the same. -/
set_option linter.unusedSimpArgs false
set_option linter.unusedVariables false
set_option maxHeartbeats 4000000
namespace Go.Proofs.Yteaojpfofifmnaa.PE
open Go.RowKit

theorem clipkVal (d : Nat) (l : List (List V)) (n : Nat) (hn : n = l.length) : callX (runD tab noExt (d + 1)) [.rows 0 3 l] 2 123 [.ref 0 0 0 n false] = some (.ref 0 0 0 n true, [.rows 0 3 l]) := by
  subst hn
  simp only [callX, callK]
  rw [runD_eq find123 _ _ _ (by simp)]
  simp -implicitDefEqProofs (disch := omega) only [go_sem, Nat.reduceBEq, Nat.reduceAdd, Nat.reduceSub, Nat.reduceMul, Nat.reduceLeDiff, Nat.reduceEqDiff, Nat.reduceLT, Int.reduceNeg, Int.reduceAdd, Int.reduceSub, Int.reduceMul, Int.reduceLE, Int.reduceLT, Int.reduceEq, Int.reduceToNat, reduceCtorEq, List.take_length, Bool.true_or, resOk]
theorem runcVal (d : Nat) (c : Bool) (l : List (List V)) (h0 : 0 < l.length) (hl : l.length < 4294967296) : runD tab noExt (d + 2) 81 [.sl c 3 l] [] = some ([.ref 0 0 0 l.length true], [.rows 0 3 l]) := by
  rw [runD_eq find81 _ _ _ (by simp)]
  match l, h0, hl with
  | [], h0, _ => exact absurd h0 (by decide)
  | x :: r, _, hl =>
    have h0 : ((r.length : Int) + 1 = 0) = False := eq_false (by omega)
    have h1 : r.length + 1 < 4294967296 := by simpa using hl
    have hc := clipkVal d (x :: r) (r.length + 1) (by simp)
    simp -implicitDefEqProofs (disch := omega) only [go_sem, Nat.reduceBEq, Nat.reduceAdd, Nat.reduceSub, Nat.reduceMul, Nat.reduceLeDiff, Nat.reduceEqDiff, Nat.reduceLT, Int.reduceNeg, Int.reduceAdd, Int.reduceSub, Int.reduceMul, Int.reduceLE, Int.reduceLT, Int.reduceEq, Int.reduceToNat, reduceCtorEq, List.length_cons, h0, h1, hc]
theorem runnVal (d : Nat) (c : Bool) : runD tab noExt (d + 2) 81 [.sl c 3 []] [] = some ([.sl true 3 []], []) := by
  rw [runD_eq find81 _ _ _ (by simp)]
  simp -implicitDefEqProofs (disch := omega) only [go_sem, Nat.reduceBEq, Nat.reduceAdd, Nat.reduceSub, Nat.reduceMul, Nat.reduceLeDiff, Nat.reduceEqDiff, Nat.reduceLT, Int.reduceNeg, Int.reduceAdd, Int.reduceSub, Int.reduceMul, Int.reduceLE, Int.reduceLT, Int.reduceEq, Int.reduceToNat, reduceCtorEq]
/-- A row of one's own. -/
def Row.own (b : Bool) (r : Row) : Row := ⟨b, r.vs⟩
def own (b : Bool) (rs : List Row) : List Row := rs.map (Row.own b)
def sameVs (a b : List Val) : Bool := decide (a = b)
theorem loop_sameRow (d : Nat) (c c' : Bool) (a b : List Val) (hs : a.length < 1099511627776) (hlen : a.length = b.length) (K : Nat) (hK : (a.zip b).length ≤ K) : LoopS (runD tab noExt d) (drawI (runD tab noExt d)) [0, 1, 5] [4] L122x0 ([] : Heap).length K [(0, .sl c 3 (a.map Val.cells)), (1, .sl c' 3 (b.map Val.cells)), (5, .int .i64 0)] [] = if (a.zip b).all (fun p => decide (p.1 = p.2)) then (some (.exit 0, [(4, .undef)], []) : Out) else (some (.ret, [(4, .bool false)], []) : Out) := by
  have key := LoopS_all (run := (runD tab noExt d)) (draw := drawI (runD tab noExt d)) (live := [0, 1, 5]) (out := [4]) (c := L122x0) (n0 := ([] : Heap).length) (a.zip b) (fun p => decide (p.1 = p.2)) (fun (i : Nat) => [(0, .sl c 3 (a.map Val.cells)), (1, .sl c' 3 (b.map Val.cells)), (5, .int .i64 i)]) [] (some (.exit 0, [(4, .undef)], []) : Out) (some (.ret, [(4, .bool false)], []) : Out) (fun K => ?_) (fun (i : Nat) (x : Val × Val) K hi hx => ?_) K hK
  · simp only [Int.natCast_zero] at key
    exact key
  · rw [LoopS_eq]
    simp -implicitDefEqProofs only [go_sem, Nat.reduceBEq, Nat.reduceAdd, Nat.reduceSub, Nat.reduceMul, Nat.reduceLeDiff, Nat.reduceEqDiff, Nat.reduceLT, Int.reduceNeg, Int.reduceAdd, Int.reduceSub, Int.reduceMul, Int.reduceLE, Int.reduceLT, Int.reduceEq, Int.reduceToNat, reduceCtorEq, evL122x0, B122x0, Int.lt_irrefl, List.length_zip, hlen, Nat.min_self, evC_draw, evD122x0, E122x0, Val.cells]
  · obtain ⟨g1, g2⟩ := List.getElem?_zip_eq_some.1 hx; rw [List.length_zip, hlen, Nat.min_self] at hi; obtain ⟨⟨k1, n1, s1⟩, ⟨k2, n2, s2⟩⟩ := x
    rw [LoopS_eq]
    simp -implicitDefEqProofs (disch := omega) only [go_sem, Nat.reduceBEq, Nat.reduceAdd, Nat.reduceSub, Nat.reduceMul, Nat.reduceLeDiff, Nat.reduceEqDiff, Nat.reduceLT, Int.reduceNeg, Int.reduceAdd, Int.reduceSub, Int.reduceMul, Int.reduceLE, Int.reduceLT, Int.reduceEq, Int.reduceToNat, reduceCtorEq, evL122x0, B122x0, hi, hx, IntWalk.i64_in, List.length_zip, hlen, Nat.min_self, evC_draw, evD122x0, E122x0, Val.cells, *]
    repeat' ((first | rw [GuardI_ndec] | rw [CondC_ndec] | rw [GuardQ_ndec] | rw [GuardI_dec] | rw [CondC_dec] | rw [GuardQ_dec] | rw [GuardI_nby] | rw [CondC_nby] | rw [GuardQ_nby] | rw [GuardQ_by] | rw [GuardI_by] | rw [CondC_by]) <;> split <;> simp -implicitDefEqProofs (disch := omega) only [go_sem, Nat.reduceBEq, Nat.reduceAdd, Nat.reduceSub, Nat.reduceMul, Nat.reduceLeDiff, Nat.reduceEqDiff, Nat.reduceLT, Int.reduceNeg, Int.reduceAdd, Int.reduceSub, Int.reduceMul, Int.reduceLE, Int.reduceLT, Int.reduceEq, Int.reduceToNat, reduceCtorEq, hi, hx, IntWalk.i64_in, List.length_zip, hlen, Nat.min_self, evC_draw, evD122x0, E122x0, Val.cells, *, *])
    all_goals first | rfl | (simp_all [Val.mk.injEq]; done) | (simp_all [Val.mk.injEq]; omega)
theorem zip_same {α : Type} [DecidableEq α] : ∀ (a b : List α), a.length = b.length → ((a.zip b).all fun p => decide (p.1 = p.2)) = decide (a = b)
  | [], [], _ => by simp
  | x :: a, y :: b, h => by
    have := zip_same a b (by simpa using h)
    simp only [List.zip_cons_cons, List.all_cons, this]
    by_cases h1 : x = y <;> by_cases h2 : a = b <;> simp [h1, h2]
  | [], _ :: _, h => by simp at h
  | _ :: _, [], h => by simp at h
-- find122
theorem run_sameRow (d : Nat) (c c' : Bool) (a b : List Val) (hs : a.length < 1099511627776) : retP (runD tab noExt (d + 1)) 122 [.sl c 3 (a.map Val.cells), .sl c' 3 (b.map Val.cells)] = some [.bool (decide (a = b))] := by
  rw [retP, runD_eq find122 _ _ _ (by simp)]
  by_cases hlen : a.length = b.length
  · have hl := loop_sameRow d c c' a b hs hlen 1099511627775 (by simp; omega)
    simp -implicitDefEqProofs only [go_sem, Nat.reduceBEq, Nat.reduceAdd, Nat.reduceSub, Nat.reduceMul, Nat.reduceLeDiff, Nat.reduceEqDiff, Nat.reduceLT, Int.reduceNeg, Int.reduceAdd, Int.reduceSub, Int.reduceMul, Int.reduceLE, Int.reduceLT, Int.reduceEq, Int.reduceToNat, reduceCtorEq, hlen] at hl ⊢
    rw [hl, zip_same a b hlen]
    by_cases h : a = b <;> simp -implicitDefEqProofs only [go_sem, Nat.reduceBEq, Nat.reduceAdd, Nat.reduceSub, Nat.reduceMul, Nat.reduceLeDiff, Nat.reduceEqDiff, Nat.reduceLT, Int.reduceNeg, Int.reduceAdd, Int.reduceSub, Int.reduceMul, Int.reduceLE, Int.reduceLT, Int.reduceEq, Int.reduceToNat, reduceCtorEq, h]
  · have h1 : ((a.length : Int) = b.length) = False := eq_false (by omega)
    have h2 : ¬ a = b := fun e => hlen (by rw [e])
    simp -implicitDefEqProofs only [go_sem, Nat.reduceBEq, Nat.reduceAdd, Nat.reduceSub, Nat.reduceMul, Nat.reduceLeDiff, Nat.reduceEqDiff, Nat.reduceLT, Int.reduceNeg, Int.reduceAdd, Int.reduceSub, Int.reduceMul, Int.reduceLE, Int.reduceLT, Int.reduceEq, Int.reduceToNat, reduceCtorEq, h1, h2]
def vss (rs : List Row) : List (List Val) := rs.map Row.vs
end Go.Proofs.Yteaojpfofifmnaa.PE
/- Rows of rows that grow, element by element, each of memory of its own. -/
set_option linter.unusedVariables false
set_option linter.unusedSimpArgs false
namespace Go.Proofs.Yteaojpfofifmnaa.PE
open Go.RowKit

/-- What has been gathered up to now. -/
def Grown (fs : List Fd) (id : Nat) (h : Heap) (done : List (List V)) (xs : List (List U)) : Prop :=
  h[id]? = some (blkOf fs done.length done) ∧ ∃ ids, Zip3 (OwnR h fs) done xs ids ∧ (id :: ids).Nodup
theorem Grown.nest {fs : List Fd} {id : Nat} {h : Heap} {done : List (List V)} {xs : List (List U)} (g : Grown fs id h done xs) (hd : fs.any Fd.deep = true) : h[id]? = some (.nest done.length fs.length done) := by
  have := g.1
  unfold blkOf at this
  rw [hd] at this
  exact this
theorem Grown.len {fs : List Fd} {id : Nat} {h : Heap} {done : List (List V)} {xs : List (List U)} (g : Grown fs id h done xs) : done.length = xs.length := by
  obtain ⟨_, ids, z, _⟩ := g
  exact Zip3_len z
theorem Grown.lt {fs : List Fd} {id : Nat} {h : Heap} {done : List (List V)} {xs : List (List U)} (g : Grown fs id h done xs) : id < h.length := (List.getElem?_eq_some_iff.1 g.1).1
theorem Grown.start {fs : List Fd} {id : Nat} {h : Heap} (hb : h[id]? = some (blkOf fs 0 [])) : Grown fs id h [] [] := ⟨hb, [], rfl, by simp⟩
theorem Grown.frame {fs : List Fd} {id : Nat} {h h1 : Heap} {done : List (List V)} {xs : List (List U)} (g : Grown fs id h done xs) (keep : ∀ j, j < h.length → h1[j]? = h[j]?) : Grown fs id h1 done xs := by
  obtain ⟨g1, ids, z, nd⟩ := g
  refine ⟨(keep id (List.getElem?_eq_some_iff.1 g1).1).trans g1, ids, ?_, nd⟩
  exact Zip3_mono (P := fun _ => True) (fun c x i hr _ => OwnR_frame _ hr (fun j hj => keep j (OwnR_lt _ hr j hj))) z (fun _ _ => trivial)
theorem Grown.add {fs : List Fd} {id : Nat} {h h1 h2 : Heap} {done : List (List V)} {xs : List (List U)} {cells : List V} {x : List U} {js : List Nat} (g : Grown fs id h done xs) (own : OwnR h1 fs cells x js) (nd : js.Nodup)
    (fresh : ∀ j ∈ js, h.length ≤ j) (keep : ∀ j, j < h.length → h1[j]? = h[j]?) (e2 : h2 = h1.set id (blkOf fs (done.length + 1) (done ++ [cells]))) : Grown fs id h2 (done ++ [cells]) (xs ++ [x]) := by
  subst e2
  have hlt := g.lt
  obtain ⟨g1, ids, z, nd1⟩ := g
  have hl1 : id < h1.length := by
    have := keep id hlt
    rw [List.getElem?_eq_getElem hlt] at this
    exact (List.getElem?_eq_some_iff.1 this).1
  obtain ⟨n1, n2⟩ := List.nodup_cons.1 nd1
  have hids : ∀ j ∈ ids, j < h.length := Zip3_all (fun c x i hr => OwnR_lt fs hr) z
  refine ⟨by rw [List.getElem?_set_self hl1, List.length_append]; rfl, ids ++ js, Zip3_app (Zip3_mono (P := fun j => j ∈ ids) (fun c x i hr hp => OwnR_frame fs hr (fun j hj => ?_)) z (fun _ hm => hm)) (Zip3_one (OwnR_frame fs own (fun j hj => ?_))), ?_⟩
  · have hne : id ≠ j := fun e => n1 (e ▸ hp j hj)
    rw [List.getElem?_set_ne hne]
    exact keep j (hids j (hp j hj))
  · have hne : id ≠ j := fun e => by have := fresh j hj; omega
    rw [List.getElem?_set_ne hne]
  · refine List.nodup_cons.2 ⟨fun hm => ?_, List.nodup_append.2 ⟨n2, nd, fun p hp q hq => ?_⟩⟩
    · rcases List.mem_append.1 hm with hm | hm
      · exact n1 hm
      · have := fresh id hm; omega
    · have := hids p hp
      have := fresh q hq
      omega
theorem Grown.set {fs : List Fd} {id : Nat} {h h1 : Heap} {done : List (List V)} {xs : List (List U)} {k : Nat} {b : Blk} (g : Grown fs id h done xs) (hk : h.length ≤ k) : Grown fs id (h.set k b) done xs := by
  rw [List.set_eq_of_length_le hk]
  exact g
theorem Grown.own {fs : List Fd} {id : Nat} {h : Heap} {done : List (List V)} {xs : List (List U)} {n : Nat} {clip : Bool} (g : Grown fs id h done xs) (hn : n = done.length) : ∃ ids, OwnF h (.sub fs) (.ref id n 0 n clip) (.sub xs) ids ∧ ids.Nodup := by
  subst hn
  obtain ⟨g1, ids, z, nd⟩ := g
  refine ⟨id :: ids, ?_, nd⟩
  simp only [OwnF]
  exact ⟨xs, rfl, .inr ⟨id, done.length, clip, done, ids, rfl, g1, rfl, z⟩⟩
end Go.Proofs.Yteaojpfofifmnaa.PE
/- Copies of rows as memory of one's own. -/
set_option linter.unusedVariables false
set_option linter.unusedSimpArgs false
set_option maxHeartbeats 4000000
namespace Go.Proofs.Yteaojpfofifmnaa.PE
open Go.RowKit

theorem val_own (h : Heap) (v : Val) : OwnR h fdValue v.cells (valU v) [] := ownR_mk_Value h v.kind v.n v.s
theorem own_cloneVal (d : Nat) (c : Bool) (vs : List Val) (hl : vs.length < 4294967296) : ∃ v hc ids, runD tab noExt (d + 2) 81 [.sl c 3 (vs.map Val.cells)] [] = some ([v], hc) ∧ OwnF hc (.sub fdValue) v (.sub (vs.map valU)) ids ∧ ids.Nodup := by
  match vs, hl with
  | [], _ => exact ⟨_, _, [], runnVal d c, own_nil rfl, List.nodup_nil⟩
  | x :: r, hl => exact ⟨_, _, [0], runcVal d c ((x :: r).map Val.cells) (by simp) (by simpa using hl), own_row rfl (x :: r) (by simp) rfl (val_own _), by simp⟩
end Go.Proofs.Yteaojpfofifmnaa.PE
/- Sizes of trees of values, rows, columns. -/
set_option linter.unusedVariables false
set_option linter.unusedSimpArgs false
namespace Go.Proofs.Yteaojpfofifmnaa.PE
open Go.RowKit

theorem all_of {P : List U → Prop} : ∀ {xs : List (List U)}, (∀ x ∈ xs, P x) → AllU P xs
  | [], _ => trivial
  | x :: xs, h => ⟨h x List.mem_cons_self, all_of (fun y hy => h y (List.mem_cons_of_mem _ hy))⟩
theorem vals_len {n m : Nat} {vs : List Val} (h1 : vs.length ≤ n) (h2 : ∀ v ∈ vs, v.s.size ≤ m) : LenF n m (.sub fdValue) (.sub (vs.map valU)) := by
  simp only [LenF, List.length_map]
  refine ⟨h1, all_of (fun x hx => ?_)⟩
  obtain ⟨v, hv, rfl⟩ := List.mem_map.1 hx
  simp only [fdValue, valU, LenR, LenF, true_and, and_true]
  exact h2 v hv
end Go.Proofs.Yteaojpfofifmnaa.PE
/- Whether two lists of values are the same. -/
set_option linter.unusedVariables false
set_option linter.unusedSimpArgs false
set_option maxHeartbeats 4000000
namespace Go.Proofs.Yteaojpfofifmnaa.PE
open Go.RowKit

end Go.Proofs.Yteaojpfofifmnaa.PE
/- Copies of writes and logs: the program's, as memory of one's own; the reference's. -/
set_option linter.unusedSimpArgs false
set_option linter.unusedVariables false
set_option maxHeartbeats 4000000
namespace Go.Proofs.Yteaojpfofifmnaa.PE
open Go.RowKit

def wrU (w : Wr) : List U := [.int w.key, .sub (w.row.vs.map valU), .bool w.gone]
def entU (e : Ent) : List U := [.int e.time, .sub (e.ws.map wrU)]
def FineW (ws : List Wr) : Prop := ws.length < 1099511627776 ∧ ws.length < 4294967296 ∧ ∀ w ∈ ws, w.row.vs.length < 4294967296
theorem grow_write {h : Heap} {done : List (List V)} {xs : List (List U)} (g : Grown fdWrite 0 h done xs) (d : Nat) (key : Int) (rc : Bool) (vs : List Val) (gone : Bool) (hl : vs.length < 4294967296) :
    ∃ v h1, callX (runD tab noExt (d + 2)) (h ++ [.box [.int .i64 key, .sl rc 3 (vs.map Val.cells), .bool gone]]) 0 81 [.sl rc 3 (vs.map Val.cells)] = some (v, h1) ∧ h1[h.length]? = some (.box [.int .i64 key, .sl rc 3 (vs.map Val.cells), .bool gone]) ∧ h.length < h1.length ∧ ((∃ c, v = .sl c 3 []) ∨ ∃ id st n clip, v = .ref id st 0 n clip) ∧
      (h1.set h.length (.box [.int .i64 key, v, .bool gone]))[0]? = some (.nest done.length 3 done) ∧
      Grown fdWrite 0 ((h1.set h.length (.box [.int .i64 key, v, .bool gone])).set 0 (.nest (done.length + 1) 3 (done ++ [[.int .i64 key, v, .bool gone]]))) (done ++ [[.int .i64 key, v, .bool gone]]) (xs ++ [[.int key, .sub (vs.map valU), .bool gone]]) := by
  obtain ⟨v, hc, is0, e1, e2, e3⟩ := own_cloneVal d rc vs hl
  obtain ⟨w, h1, js, k1, k2, k3, k4, k5, k6⟩ := own_call (h := h ++ [.box [.int .i64 key, .sl rc 3 (vs.map Val.cells), .bool gone]]) (args := [.sl rc 3 (vs.map Val.cells)]) (by simp only [pureDAs, mapO, pureDA, pureD]) e1 e2 e3
  have hl0 : (h ++ [Blk.box [.int .i64 key, .sl rc 3 (vs.map Val.cells), .bool gone]]).length = h.length + 1 := by simp
  rw [hl0] at k4 k5 k6
  have hb : h1[h.length]? = some (.box [.int .i64 key, .sl rc 3 (vs.map Val.cells), .bool gone]) := (k5 _ (by omega)).trans (by simp)
  have hlt := g.lt
  have k5' : ∀ j, j < h.length → (h1.set h.length (.box [.int .i64 key, w, .bool gone]))[j]? = h[j]? := fun j hj => by
    rw [List.getElem?_set_ne (by omega), k5 j (by omega), List.getElem?_append_left hj]
  refine ⟨w, h1, k1, hb, by omega, own_cases k2, (k5' 0 hlt).trans (g.nest (by rfl)), ?_⟩
  refine g.add (OwnR_frame _ (ownR_mk_Write k2) (fun j hj => ?_)) k3 (fun j hj => by have := k4 j hj; omega) k5' rfl
  have := k4 j hj
  rw [List.getElem?_set_ne (by omega)]
-- find77
theorem own_writesCopy (d : Nat) (c : Bool) (ws : List Wr) (hf : FineW ws) : ∃ v hc ids, runD tab noExt (d + 3) 77 [.sl c 3 (ws.map Wr.cells)] [] = some ([v], hc) ∧ OwnF hc (.sub fdWrite) v (.sub (ws.map wrU)) ids ∧ ids.Nodup := by
  obtain ⟨hf0, hf1, hf2⟩ := hf
  obtain ⟨⟨h', done⟩, ⟨g1, g2⟩, e⟩ := LoopK_inv (run := runD tab noExt (d + 2)) (draw := drawI (runD tab noExt (d + 2))) (live := [3, 6, 7, 8]) (out := [3]) (c := L77x0) ws.length
    (fun i (b : Heap × List (List V)) => Grown fdWrite 0 b.1 b.2 ((ws.take i).map wrU) ∧ b.2.length = i)
    (fun i b => [(3, .ref 0 b.2.length 0 b.2.length false), (6, .sl c 3 (ws.map Wr.cells)), (7, .int .i64 ws.length), (8, .int .i64 (i : Nat))]) (fun b => b.1) (fun b => some (.exit 0, [(3, .ref 0 b.2.length 0 b.2.length false)], b.1))
    (fun b K hb => by
      rw [LoopK_eq]
      simp -implicitDefEqProofs only [go_sem, Nat.reduceBEq, Nat.reduceAdd, Nat.reduceSub, Nat.reduceMul, Nat.reduceLeDiff, Nat.reduceEqDiff, Nat.reduceLT, Int.reduceNeg, Int.reduceAdd, Int.reduceSub, Int.reduceMul, Int.reduceLE, Int.reduceLT, Int.reduceEq, Int.reduceToNat, reduceCtorEq, evL77x0, B77x0, Int.lt_irrefl]) (fun i b K hi hb => by
      obtain ⟨h, done⟩ := b
      obtain ⟨g, glen⟩ := hb
      simp only at g glen ⊢
      have hx := List.getElem?_eq_getElem hi
      generalize ws[i] = w at hx
      have hfw := hf2 w (List.mem_of_getElem? hx)
      have hi' : (i : Int) < ws.length := by omega
      have hsm : done.length + 1 < 4294967296 := by omega
      rw [take_snoc hx, List.map_append]
      obtain ⟨key, ⟨rc, vs⟩, gone⟩ := w
      obtain ⟨v, h1, k1, k2, k3, kw, k5, g2⟩ := grow_write g d key rc vs gone hfw
      refine ⟨((h1.set h.length (.box [.int .i64 key, v, .bool gone])).set 0 (.nest (done.length + 1) 3 (done ++ [[.int .i64 key, v, .bool gone]])), done ++ [[.int .i64 key, v, .bool gone]]), ⟨g2, by simp; omega⟩, ?_⟩
      rw [LoopK_eq]
      rcases kw with ⟨c', rfl⟩ | ⟨id, st, n, clip, rfl⟩ <;> simp -implicitDefEqProofs (disch := omega) only [go_sem, Nat.reduceBEq, Nat.reduceAdd, Nat.reduceSub, Nat.reduceMul, Nat.reduceLeDiff, Nat.reduceEqDiff, Nat.reduceLT, Int.reduceNeg, Int.reduceAdd, Int.reduceSub, Int.reduceMul, Int.reduceLE, Int.reduceLT, Int.reduceEq, Int.reduceToNat, reduceCtorEq, evL77x0, B77x0, hi', hx, Wr.cells, Row.v, k1, k2, k3, k5, hsm, List.getElem?_set_self, at_end, at_end_add, set_end, set_end_add, elemsN, elemN, listN, appendN, okN, small, IntWalk.i64_in]) 1099511627775 (by omega) ([.nest 0 3 []], []) ⟨Grown.start rfl, rfl⟩
  simp only at g1 g2 e
  rw [List.take_of_length_le (Nat.le_refl _)] at g1
  obtain ⟨ids, o1, o2⟩ := g1.own (n := done.length) (clip := true) rfl
  refine ⟨_, h', ids, ?_, o1, o2⟩
  have hn := g1.nest (by rfl)
  have hc : callX (runD tab noExt (d + 2)) h' 2 121 [.ref 0 done.length 0 done.length false] = some (.ref 0 done.length 0 done.length true, h') := by
    simp only [callX, callK]
    rw [runD_eq find121 _ _ _ (by simp)]
    have hn' : h'[0]? = some (.nest done.length 3 done) := hn
    simp -implicitDefEqProofs (disch := omega) only [go_sem, Nat.reduceBEq, Nat.reduceAdd, Nat.reduceSub, Nat.reduceMul, Nat.reduceLeDiff, Nat.reduceEqDiff, Nat.reduceLT, Int.reduceNeg, Int.reduceAdd, Int.reduceSub, Int.reduceMul, Int.reduceLE, Int.reduceLT, Int.reduceEq, Int.reduceToNat, reduceCtorEq, Bool.true_or, resOk, hn']
  rw [runD_eq find77 _ _ _ (by simp)]
  simp -implicitDefEqProofs (disch := omega) only [go_sem, Nat.reduceBEq, Nat.reduceAdd, Nat.reduceSub, Nat.reduceMul, Nat.reduceLeDiff, Nat.reduceEqDiff, Nat.reduceLT, Int.reduceNeg, Int.reduceAdd, Int.reduceSub, Int.reduceMul, Int.reduceLE, Int.reduceLT, Int.reduceEq, Int.reduceToNat, reduceCtorEq]
  try simp -implicitDefEqProofs only [go_sem, Nat.reduceBEq, Nat.reduceAdd, Nat.reduceSub, Nat.reduceMul, Nat.reduceLeDiff, Nat.reduceEqDiff, Nat.reduceLT, Int.reduceNeg, Int.reduceAdd, Int.reduceSub, Int.reduceMul, Int.reduceLE, Int.reduceLT, Int.reduceEq, Int.reduceToNat, reduceCtorEq] at e
  rw [e]
  simp -implicitDefEqProofs (disch := omega) only [go_sem, Nat.reduceBEq, Nat.reduceAdd, Nat.reduceSub, Nat.reduceMul, Nat.reduceLeDiff, Nat.reduceEqDiff, Nat.reduceLT, Int.reduceNeg, Int.reduceAdd, Int.reduceSub, Int.reduceMul, Int.reduceLE, Int.reduceLT, Int.reduceEq, Int.reduceToNat, reduceCtorEq, hc]
end Go.Proofs.Yteaojpfofifmnaa.PE
/- Copies of logs: the program's, as memory of one's own; the reference's. -/
set_option linter.unusedSimpArgs false
set_option linter.unusedVariables false
set_option maxHeartbeats 4000000
namespace Go.Proofs.Yteaojpfofifmnaa.PE
open Go.RowKit

def FineE (l : List Ent) : Prop := l.length < 4294967296 ∧ ∀ e ∈ l, FineW e.ws
def Wr.own (w : Wr) : Wr := ⟨w.key, ⟨false, w.row.vs⟩, w.gone⟩
def Ent.own (e : Ent) : Ent := ⟨e.time, false, e.ws.map Wr.own⟩
-- find152
/-! ### logs as trees -/
theorem wrs_each {y : List (List U)} {p : V} (h : PurF (.sub fdWrite) p (.sub y)) : ∃ (c : Bool) (ws : List Wr), p = .sl c 3 (ws.map Wr.cells) ∧ y = ws.map wrU := by
  obtain ⟨c, ct, rfl, hz⟩ := purS_Write h
  obtain ⟨ws, rfl, rfl⟩ := typ_of (f := Wr.cells) (g := wrU) (fun c x hr => by
    obtain ⟨a0, p1, y1, a2, rfl, rfl, g⟩ := purR_Write hr
    obtain ⟨cl, ct, rfl, hz⟩ := purS_Value g
    obtain ⟨vs, rfl, rfl⟩ := valsU_of hz
    exact ⟨⟨a0, ⟨cl, vs⟩, a2⟩, rfl, rfl⟩) hz
  exact ⟨c, ws, rfl, rfl⟩
theorem ents_each {y : List (List U)} {p : V} (h : PurF (.sub fdEntry) p (.sub y)) : ∃ (c : Bool) (l : List Ent), p = .sl c 2 (l.map Ent.cells) ∧ y = l.map entU := by
  obtain ⟨c, ct, rfl, hz⟩ := purS_Entry h
  obtain ⟨l, rfl, rfl⟩ := typ_of (f := Ent.cells) (g := entU) (fun c x hr => by
    obtain ⟨a0, p1, y1, rfl, rfl, g⟩ := purR_Entry hr
    obtain ⟨cl, ws, rfl, rfl⟩ := wrs_each g
    exact ⟨⟨a0, cl, ws⟩, rfl, rfl⟩) hz
  exact ⟨c, l, rfl, rfl⟩
theorem wrU_inj {a b : Wr} (h : wrU a = wrU b) : a.own = b.own := by
  simp only [wrU, List.cons.injEq, U.int.injEq, U.sub.injEq, U.bool.injEq, and_true] at h
  obtain ⟨h1, h2, h3⟩ := h
  have := map_inj (fun _ _ => valU_inj) h2
  simp only [Wr.own, h1, this, h3]
theorem map_same {α β γ : Type} {f : α → β} {g : α → γ} (h : ∀ a b, f a = f b → g a = g b) : ∀ {l l2 : List α}, l.map f = l2.map f → l.map g = l2.map g
  | [], [], _ => rfl
  | x :: a, y :: b, e => by
    simp only [List.map_cons, List.cons.injEq] at e
    rw [List.map_cons, List.map_cons, h _ _ e.1, map_same h e.2]
  | [], _ :: _, e => by simp at e
  | _ :: _, [], e => by simp at e
theorem entU_inj {a b : Ent} (h : entU a = entU b) : a.own = b.own := by
  simp only [entU, List.cons.injEq, U.int.injEq, U.sub.injEq, and_true] at h
  obtain ⟨h1, h2⟩ := h
  simp only [Ent.own, h1, map_same (fun _ _ => wrU_inj) h2]
theorem prevsG_map {α β : Type} (f : α → β) : ∀ (l : List α) (o : Option α), prevsG (o.map f) (l.map f) = (prevsG o l).map fun p => (p.1.map f, f p.2)
  | [], _ => rfl
  | v :: r, o => by
    have := prevsG_map f r (some v)
    simp only [Option.map_some] at this
    simp only [List.map_cons, prevsG, this]
theorem wrsOk_own (l : List Wr) : wrsOk (l.map Wr.own) = wrsOk l := by
  have := prevsG_map Wr.own l none
  simp only [Option.map_none] at this
  unfold wrsOk
  rw [this, List.all_map]
  congr 1
  funext p
  obtain ⟨o, v⟩ := p
  cases o <;> rfl
theorem logOk_own (l : List Ent) : logOk (l.map Ent.own) = logOk l := by
  have := prevsG_map Ent.own l none
  simp only [Option.map_none] at this
  unfold logOk
  rw [this, List.all_map, List.length_map]
  congr 2
  funext p
  obtain ⟨o, v⟩ := p
  have e : v.own.one = v.one := by unfold Ent.one Ent.own; simp only [wrsOk_own]
  cases o <;> simp only [Function.comp, entOk, e, Option.map_none, Option.map_some] <;> rfl
theorem logOk_vs {a b : List Ent} (h : a.map entU = b.map entU) : logOk a = logOk b := by rw [← logOk_own a, ← logOk_own b, map_same (fun _ _ => entU_inj) h]
/-- What a size says of a log. -/
def LimE (l : List Ent) : Prop := l.length ≤ 1048576 ∧ ∀ e ∈ l, e.ws.length ≤ 1048576 ∧ ∀ w ∈ e.ws, w.row.vs.length ≤ 1048576 ∧ ∀ v ∈ w.row.vs, v.s.size ≤ 1048576
theorem wrs_lim {ws : List Wr} (L : LenF 1048576 1048576 (.sub fdWrite) (.sub (ws.map wrU))) : ws.length ≤ 1048576 ∧ ∀ w ∈ ws, w.row.vs.length ≤ 1048576 ∧ ∀ v ∈ w.row.vs, v.s.size ≤ 1048576 := by
  simp only [LenF, List.length_map] at L
  refine ⟨L.1, fun w hw => ?_⟩
  obtain ⟨i, hi⟩ := List.getElem?_of_mem hw
  have := AllU_at L.2 (map_at wrU hi)
  simp only [fdWrite, wrU, LenR, LenF, List.length_map, true_and, and_true] at this
  refine ⟨this.1, fun v hv => ?_⟩
  obtain ⟨j, hj⟩ := List.getElem?_of_mem hv
  have := AllU_at this.2 (map_at valU hj)
  simp only [fdValue, valU, LenR, LenF, true_and, and_true] at this
  exact this
theorem ents_lim {l : List Ent} (L : LenF 1048576 1048576 (.sub fdEntry) (.sub (l.map entU))) : LimE l := by
  simp only [LenF, List.length_map] at L
  refine ⟨L.1, fun e he => ?_⟩
  obtain ⟨i, hi⟩ := List.getElem?_of_mem he
  have := AllU_at L.2 (map_at entU hi)
  simp only [fdEntry, entU, LenR, LenF, true_and, and_true] at this
  exact wrs_lim (by simp only [LenF]; exact this)
theorem LimE.fine {l : List Ent} (h : LimE l) : FineE l ∧ ShortE l ∧ l.length < 1099511627776 := by
  obtain ⟨h1, h2⟩ := h
  refine ⟨⟨by omega, fun e he => ?_⟩, fun e he => ?_, by omega⟩
  · obtain ⟨h3, h4⟩ := h2 e he
    exact ⟨by omega, by omega, fun w hw => by have := (h4 w hw).1; omega⟩
  · obtain ⟨h3, h4⟩ := h2 e he
    exact ⟨by omega, fun w hw => ⟨by have := (h4 w hw).1; omega, fun v hv => by have := (h4 w hw).2 v hv; omega⟩⟩
theorem LimE.sub {l l2 : List Ent} (h : LimE l) (hn : l2.length ≤ 1048576) (hs : ∀ e ∈ l2, e ∈ l) : LimE l2 := ⟨hn, fun e he => h.2 e (hs e he)⟩
theorem wrs_len2 {n m : Nat} {ws : List Wr} (h0 : ws.length ≤ n) (h : ∀ w ∈ ws, w.row.vs.length ≤ n ∧ ∀ v ∈ w.row.vs, v.s.size ≤ m) : LenF n m (.sub fdWrite) (.sub (ws.map wrU)) := by
  simp only [LenF, List.length_map]
  refine ⟨h0, all_of (fun x hx => ?_)⟩
  obtain ⟨w, hw, rfl⟩ := List.mem_map.1 hx
  have := vals_len (h w hw).1 (h w hw).2
  simp only [fdWrite, wrU, LenR]
  exact ⟨by simp [LenF], this, by simp [LenF], trivial⟩
theorem ents_len {l : List Ent} (h : LimE l) : LenF 1048576 1048576 (.sub fdEntry) (.sub (l.map entU)) := by
  simp only [LenF, List.length_map]
  refine ⟨h.1, all_of (fun x hx => ?_)⟩
  obtain ⟨e, he, rfl⟩ := List.mem_map.1 hx
  obtain ⟨h1, h2⟩ := h.2 e he
  have := wrs_len2 h1 h2
  simp only [fdEntry, entU, LenR]
  exact ⟨by simp [LenF], this, trivial⟩
end Go.Proofs.Yteaojpfofifmnaa.PE
/- Bytes of values: both functions tell them. -/
set_option linter.unusedSimpArgs false
set_option linter.unusedVariables false
set_option maxHeartbeats 4000000
namespace Go.Proofs.Yteaojpfofifmnaa.PE
open Go.RowKit

def u8s (l : List Int) : List (List V) := l.map fun n => [.int .u8 n]
theorem u8s_app (a b : List Int) : u8s (a ++ b) = u8s a ++ u8s b := List.map_append
theorem u8s_len (a : List Int) : (u8s a).length = a.length := List.length_map _
def strB (s : ByteArray) : List Int := s.data.toList.map fun b => (b.toNat : Int)
theorem cells_strB (s : ByteArray) : cellsOfBytes s.data.toList = u8s (strB s) := by simp [cellsOfBytes, u8s, strB]
theorem strB_len (s : ByteArray) : (strB s).length = s.size := by rw [strB, List.length_map, str_len]
def Val.tail (v : Val) : List Int := if v.kind = 1 then [(v.n + 10000) / 256, (v.n + 10000) % 256] else if v.kind = 2 then (v.s.size : Int) :: strB v.s else if v.kind = 3 then [v.n] else []
def Val.bytes (v : Val) : List Int := v.kind :: v.tail
theorem ok_kinds {v : Val} (h : v.ok = true) : (v.kind = 0 ∧ v.n = 0 ∧ v.s = ⟨#[]⟩) ∨ (v.kind = 1 ∧ v.s = ⟨#[]⟩ ∧ -9999 ≤ v.n ∧ v.n ≤ 9999) ∨ (v.kind = 2 ∧ v.n = 0 ∧ (v.s.size : Int) ≤ 6) ∨ (v.kind = 3 ∧ v.s = ⟨#[]⟩ ∧ 0 ≤ v.n ∧ v.n ≤ 1) := by
  unfold Val.ok at h
  split at h
  · rename_i k; simp only [Bool.and_eq_true, decide_eq_true_eq] at h; exact .inl ⟨k, h.1, h.2⟩
  · split at h
    · rename_i k; simp only [Bool.and_eq_true, decide_eq_true_eq] at h; exact .inr (.inl ⟨k, h.1, h.2.1, h.2.2⟩)
    · split at h
      · rename_i k; simp only [Bool.and_eq_true, decide_eq_true_eq] at h; exact .inr (.inr (.inl ⟨k, h.1.1, h.1.2⟩))
      · split at h
        · rename_i k; simp only [Bool.and_eq_true, decide_eq_true_eq] at h; exact .inr (.inr (.inr ⟨k, h.1, h.2.1, h.2.2⟩))
        · cases h
theorem ok_size {v : Val} (h : v.ok = true) : v.s.size ≤ 6 := by
  rcases ok_kinds h with ⟨_, _, k⟩ | ⟨_, k, _⟩ | ⟨_, _, k⟩ | ⟨_, k, _⟩
  · rw [k]; decide
  · rw [k]; decide
  · omega
  · rw [k]; decide
theorem fdiv256 {n : Int} (h : 0 ≤ n) : n.fdiv 256 = n / 256 := Int.fdiv_eq_ediv_of_nonneg _ (by omega)
theorem tdiv256 {n : Int} (h : 0 ≤ n) : n.tdiv 256 = n / 256 := Int.tdiv_eq_ediv_of_nonneg h
theorem tmod256 {n : Int} (h : 0 ≤ n) : n.tmod 256 = n % 256 := Int.tmod_eq_emod_of_nonneg h
theorem mod_div {n : Int} (h : 0 ≤ n ∧ n < 65536) : n / 256 % 256 = n / 256 := by omega
theorem mod_mod (n : Int) : n % 256 % 256 = n % 256 := by omega
theorem mod_in {n : Int} (h : 0 ≤ n ∧ n < 256) : n % 256 = n := by omega
theorem pow8' : (2 : Int) ^ (min 8 64 : Nat) = 256 := by decide
theorem pow8 : (2 : Int) ^ (min (8 : Int).toNat IntKind.i64.bits) = 256 := by decide

-- find145
theorem run_vbytesS (d : Nat) (v : Val) (h : v.ok = true) : retP (runD tab noExt (d + 3)) 145 [.agg v.cells] = some [.sl false 1 (u8s v.bytes)] := by
  have hsz := ok_size h
  have hv := run_specValueOk d v.kind v.n v.s (by omega)
  rw [Val.eta, h] at hv
  rw [retP, runD_eq find145 _ _ _ (by simp)]
  rcases ok_kinds h with ⟨k, k1, k2⟩ | ⟨k, k1, k2⟩ | ⟨k, k1, k2⟩ | ⟨k, k1, k2⟩
  all_goals
    obtain ⟨kd, n, s⟩ := v
    simp only at k k1 k2 hsz
    have hlt : (2 + (strB s).length < 4294967296) = True := eq_true (by rw [strB_len]; omega)
    subst k
    simp only at hv
    simp -implicitDefEqProofs (disch := omega) only [go_sem, Nat.reduceBEq, Nat.reduceAdd, Nat.reduceSub, Nat.reduceMul, Nat.reduceLeDiff, Nat.reduceEqDiff, Nat.reduceLT, Int.reduceNeg, Int.reduceAdd, Int.reduceSub, Int.reduceMul, Int.reduceLE, Int.reduceLT, Int.reduceEq, Int.reduceToNat, reduceCtorEq, evC_draw, evD145x0, E145x0, Val.cells, hv, IntKind.wrap_u8, IntWalk.i64_in, fdiv256, tdiv256, tmod256, mod_div, mod_mod, mod_in, pow8, pow8', hlt, List.length_map, cells_strB, u8s, Val.bytes, Val.tail, elemsOf, elemOf]
    try rw [List.take_of_length_le (by simp only [List.length_cons, List.length_map]; omega)]
-- find84
theorem run_vbytesI (d : Nat) (v : Val) (h : v.ok = true) : retP (runD tab noExt (d + 1)) 84 [.agg v.cells] = some [.sl false 1 (u8s v.bytes)] := by
  have hsz := ok_size h
  rw [retP, runD_eq find84 _ _ _ (by simp)]
  rcases ok_kinds h with ⟨k, k1, k2⟩ | ⟨k, k1, k2⟩ | ⟨k, k1, k2⟩ | ⟨k, k1, k2⟩
  all_goals
    obtain ⟨kd, n, s⟩ := v
    simp only at k k1 k2 hsz
    have hlt : (2 + (strB s).length < 4294967296) = True := eq_true (by rw [strB_len]; omega)
    subst k
    simp -implicitDefEqProofs (disch := omega) only [go_sem, Nat.reduceBEq, Nat.reduceAdd, Nat.reduceSub, Nat.reduceMul, Nat.reduceLeDiff, Nat.reduceEqDiff, Nat.reduceLT, Int.reduceNeg, Int.reduceAdd, Int.reduceSub, Int.reduceMul, Int.reduceLE, Int.reduceLT, Int.reduceEq, Int.reduceToNat, reduceCtorEq, evC_draw, evD84x0, E84x0, Val.cells, IntKind.wrap_u8, IntWalk.i64_in, fdiv256, tdiv256, tmod256, mod_div, mod_mod, mod_in, pow8, pow8', hlt, List.length_map, cells_strB, u8s, Val.bytes, Val.tail, elemsOf, elemOf]
    try rw [List.take_of_length_le (by simp only [List.length_cons, List.length_map]; omega)]
end Go.Proofs.Yteaojpfofifmnaa.PE
/- Bytes of rows: both functions tell them. -/
set_option linter.unusedSimpArgs false
set_option linter.unusedVariables false
set_option maxHeartbeats 4000000
namespace Go.Proofs.Yteaojpfofifmnaa.PE
open Go.RowKit

theorem bytes_len {v : Val} (h : v.ok = true) : v.bytes.length ≤ 8 := by
  have := ok_size h
  unfold Val.bytes Val.tail
  split
  · simp
  · split
    · simp only [List.length_cons, strB_len]; omega
    · split <;> simp
def rowBytes (vs : List Val) : List Int := vs.foldl (fun b v => b ++ v.bytes) [(vs.length : Int)]
theorem foldl_app {α β : Type} (f : α → List β) : ∀ (l : List α) (b : List β), l.foldl (fun b v => b ++ f v) b = b ++ l.flatMap f
  | [], b => by simp
  | x :: r, b => by rw [List.foldl_cons, foldl_app f r, List.flatMap_cons, List.append_assoc]
theorem rowBytes_eq (vs : List Val) : rowBytes vs = (vs.length : Int) :: vs.flatMap Val.bytes := by rw [rowBytes, foldl_app]; rfl
theorem rowOk_at {vs : List Val} (h : rowOk vs = true) : (∀ v ∈ vs, v.ok = true) ∧ vs.length ≤ 4 := by
  simp only [rowOk, Bool.and_eq_true, List.all_eq_true, decide_eq_true_eq] at h
  exact h
-- find85
theorem run_clipB (d : Nat) (c : Bool) (l : List (List V)) (hl : l.length < 4294967296) : retP (runD tab noExt (d + 1)) 85 [.sl c 1 l] = some [.sl true 1 l] := by
  rw [retP, runD_eq find85 _ _ _ (by simp)]
  simp -implicitDefEqProofs (disch := omega) only [go_sem, Nat.reduceBEq, Nat.reduceAdd, Nat.reduceSub, Nat.reduceMul, Nat.reduceLeDiff, Nat.reduceEqDiff, Nat.reduceLT, Int.reduceNeg, Int.reduceAdd, Int.reduceSub, Int.reduceMul, Int.reduceLE, Int.reduceLT, Int.reduceEq, Int.reduceToNat, reduceCtorEq, List.take_length, Bool.true_or]
theorem loop_rbI (d : Nat) (c : Bool) (vs : List Val) (hv : vs.length ≤ 4) (hok : ∀ v ∈ vs, v.ok = true) (K : Nat) (hK : (vs).length ≤ K) (b0 : List Int) (hb0 : (fun (i : Nat) (b : List Int) => 1 ≤ b.length ∧ b.length ≤ 1 + 8 * i) 0 b0) : LoopS (runD tab noExt (d + 1)) (drawI (runD tab noExt (d + 1))) [3, 13, 14, 15] [3] L34x0 ([.rows ((b0).length - 1) 1 (u8s (b0))] : Heap).length K [(3, .ref 0 ((b0).length - 1) 0 (b0).length false), (13, .sl c 3 (vs.map Val.cells)), (14, .int .i64 vs.length), (15, .int .i64 (0 : Nat))] [.rows ((b0).length - 1) 1 (u8s (b0))] = (some (.exit 0, [(3, .ref 0 ((((vs).foldl (fun b v => b ++ v.bytes) b0)).length - 1) 0 (((vs).foldl (fun b v => b ++ v.bytes) b0)).length false)], [.rows ((((vs).foldl (fun b v => b ++ v.bytes) b0)).length - 1) 1 (u8s (((vs).foldl (fun b v => b ++ v.bytes) b0)))]) : Out) ∧ (fun (i : Nat) (b : List Int) => 1 ≤ b.length ∧ b.length ≤ 1 + 8 * i) (vs).length ((vs).foldl (fun b v => b ++ v.bytes) b0) := by
  have key := LoopS_foldI (run := (runD tab noExt (d + 1))) (draw := drawI (runD tab noExt (d + 1))) (live := [3, 13, 14, 15]) (out := [3]) (c := L34x0) (n0 := ([.rows ((b0).length - 1) 1 (u8s (b0))] : Heap).length) (vs) (fun b v => b ++ v.bytes) (fun (i : Nat) (b : List Int) => 1 ≤ b.length ∧ b.length ≤ 1 + 8 * i) (fun (i : Nat) (b : List Int) => [(3, .ref 0 ((b).length - 1) 0 (b).length false), (13, .sl c 3 (vs.map Val.cells)), (14, .int .i64 vs.length), (15, .int .i64 (i : Nat))]) (fun (i : Nat) (b : List Int) => [.rows ((b).length - 1) 1 (u8s (b))]) (fun b => (some (.exit 0, [(3, .ref 0 ((b).length - 1) 0 (b).length false)], [.rows ((b).length - 1) 1 (u8s (b))]) : Out)) (fun b K hb => ?_) (fun (i : Nat) (x : Val) b K hi hx hb => ?_) K hK b0 hb0
  · simp only [Int.natCast_zero] at key
    exact key
  · rw [LoopS_eq]
    simp -implicitDefEqProofs only [go_sem, Nat.reduceBEq, Nat.reduceAdd, Nat.reduceSub, Nat.reduceMul, Nat.reduceLeDiff, Nat.reduceEqDiff, Nat.reduceLT, Int.reduceNeg, Int.reduceAdd, Int.reduceSub, Int.reduceMul, Int.reduceLE, Int.reduceLT, Int.reduceEq, Int.reduceToNat, reduceCtorEq, evL34x0, B34x0, Int.lt_irrefl]
  · have hxo := hok x (List.mem_of_getElem? hx); have hxl := bytes_len hxo; have hsm : b.length + x.bytes.length < 4294967296 := (by have := hb.2; omega); have hst : b.length - 1 + x.bytes.length = b.length + x.bytes.length - 1 := (by have := hb.1; omega); have hvx := run_vbytesI d x hxo; simp only [Val.cells] at hvx
    all_goals
      refine ⟨?_, ?_⟩
      · (simp only [List.length_append]; omega)
      · rw [LoopS_eq]
        simp -implicitDefEqProofs (disch := first | omega | assumption) only [go_sem, Nat.reduceBEq, Nat.reduceAdd, Nat.reduceSub, Nat.reduceMul, Nat.reduceLeDiff, Nat.reduceEqDiff, Nat.reduceLT, Int.reduceNeg, Int.reduceAdd, Int.reduceSub, Int.reduceMul, Int.reduceLE, Int.reduceLT, Int.reduceEq, Int.reduceToNat, reduceCtorEq, evL34x0, B34x0, hi, hx, IntWalk.i64_in, List.map_append, List.foldl_cons, hx, hvx, Val.cells, hst, hsm, u8s_app, u8s_len, List.length_append, if_true, if_false]
        skip
-- find34
theorem run_rbytesI (d : Nat) (c : Bool) (vs : List Val) (h : rowOk vs = true) : retP (runD tab noExt (d + 8)) 34 [.sl c 3 (vs.map Val.cells)] = some [.sl true 1 (u8s (rowBytes vs))] := by
  obtain ⟨hok, hv⟩ := rowOk_at h
  have hr := run_rowOkI d c vs (by omega)
  rw [h] at hr
  obtain ⟨hl, hle⟩ := loop_rbI (d + 6) c vs hv hok 1099511627775 (by omega) [(vs.length : Int)] ⟨by simp, by simp⟩
  have hbe : rowBytes vs = vs.foldl (fun b v => b ++ v.bytes) [(vs.length : Int)] := rfl
  rw [← hbe] at hl hle
  have hc := run_clipB (d + 6) false (u8s (rowBytes vs)) (by rw [u8s_len]; omega)
  have ht : List.take (rowBytes vs).length (u8s (rowBytes vs)) = u8s (rowBytes vs) := List.take_of_length_le (by rw [u8s_len]; omega)
  have hi0 : u8s [(vs.length : Int)] = [[.int .u8 vs.length]] := rfl
  simp only [hi0, List.length_cons, List.length_nil, Int.natCast_zero] at hl
  rw [retP, runD_eq find34 _ _ _ (by simp)]
  simp -implicitDefEqProofs (disch := omega) only [go_sem, Nat.reduceBEq, Nat.reduceAdd, Nat.reduceSub, Nat.reduceMul, Nat.reduceLeDiff, Nat.reduceEqDiff, Nat.reduceLT, Int.reduceNeg, Int.reduceAdd, Int.reduceSub, Int.reduceMul, Int.reduceLE, Int.reduceLT, Int.reduceEq, Int.reduceToNat, reduceCtorEq, hr, IntKind.wrap_u8, mod_in, elemsOf, elemOf]
  try simp -implicitDefEqProofs only [go_sem, Nat.reduceBEq, Nat.reduceAdd, Nat.reduceSub, Nat.reduceMul, Nat.reduceLeDiff, Nat.reduceEqDiff, Nat.reduceLT, Int.reduceNeg, Int.reduceAdd, Int.reduceSub, Int.reduceMul, Int.reduceLE, Int.reduceLT, Int.reduceEq, Int.reduceToNat, reduceCtorEq] at hl
  rw [hl]
  simp -implicitDefEqProofs (disch := omega) only [go_sem, Nat.reduceBEq, Nat.reduceAdd, Nat.reduceSub, Nat.reduceMul, Nat.reduceLeDiff, Nat.reduceEqDiff, Nat.reduceLT, Int.reduceNeg, Int.reduceAdd, Int.reduceSub, Int.reduceMul, Int.reduceLE, Int.reduceLT, Int.reduceEq, Int.reduceToNat, reduceCtorEq, hc, ht, List.take_length]
theorem loop_rbS (d : Nat) (c : Bool) (vs : List Val) (hv : vs.length ≤ 4) (hok : ∀ v ∈ vs, v.ok = true) (K : Nat) (hK : (vs).length ≤ K) (b0 : List Int) (hb0 : (fun (i : Nat) (b : List Int) => 1 ≤ b.length ∧ b.length ≤ 1 + 8 * i) 0 b0) : LoopS (runD tab noExt (d + 3)) (drawI (runD tab noExt (d + 3))) [0, 3, 4] [3] L110x0 ([.rows 0 1 [], .rows ((b0).length - 1) 1 (u8s (b0))] : Heap).length K [(0, .sl c 3 (vs.map Val.cells)), (3, .ref 1 ((b0).length - 1) 0 (b0).length false), (4, .int .i64 (0 : Nat))] [.rows 0 1 [], .rows ((b0).length - 1) 1 (u8s (b0))] = (some (.exit 0, [(3, .ref 1 ((((vs).foldl (fun b v => b ++ v.bytes) b0)).length - 1) 0 (((vs).foldl (fun b v => b ++ v.bytes) b0)).length false)], [.rows 0 1 [], .rows ((((vs).foldl (fun b v => b ++ v.bytes) b0)).length - 1) 1 (u8s (((vs).foldl (fun b v => b ++ v.bytes) b0)))]) : Out) ∧ (fun (i : Nat) (b : List Int) => 1 ≤ b.length ∧ b.length ≤ 1 + 8 * i) (vs).length ((vs).foldl (fun b v => b ++ v.bytes) b0) := by
  have key := LoopS_foldI (run := (runD tab noExt (d + 3))) (draw := drawI (runD tab noExt (d + 3))) (live := [0, 3, 4]) (out := [3]) (c := L110x0) (n0 := ([.rows 0 1 [], .rows ((b0).length - 1) 1 (u8s (b0))] : Heap).length) (vs) (fun b v => b ++ v.bytes) (fun (i : Nat) (b : List Int) => 1 ≤ b.length ∧ b.length ≤ 1 + 8 * i) (fun (i : Nat) (b : List Int) => [(0, .sl c 3 (vs.map Val.cells)), (3, .ref 1 ((b).length - 1) 0 (b).length false), (4, .int .i64 (i : Nat))]) (fun (i : Nat) (b : List Int) => [.rows 0 1 [], .rows ((b).length - 1) 1 (u8s (b))]) (fun b => (some (.exit 0, [(3, .ref 1 ((b).length - 1) 0 (b).length false)], [.rows 0 1 [], .rows ((b).length - 1) 1 (u8s (b))]) : Out)) (fun b K hb => ?_) (fun (i : Nat) (x : Val) b K hi hx hb => ?_) K hK b0 hb0
  · simp only [Int.natCast_zero] at key
    exact key
  · rw [LoopS_eq]
    simp -implicitDefEqProofs only [go_sem, Nat.reduceBEq, Nat.reduceAdd, Nat.reduceSub, Nat.reduceMul, Nat.reduceLeDiff, Nat.reduceEqDiff, Nat.reduceLT, Int.reduceNeg, Int.reduceAdd, Int.reduceSub, Int.reduceMul, Int.reduceLE, Int.reduceLT, Int.reduceEq, Int.reduceToNat, reduceCtorEq, evL110x0, B110x0, Int.lt_irrefl]
  · have hxo := hok x (List.mem_of_getElem? hx); have hxl := bytes_len hxo; have hsm : b.length + x.bytes.length < 4294967296 := (by have := hb.2; omega); have hst : b.length - 1 + x.bytes.length = b.length + x.bytes.length - 1 := (by have := hb.1; omega); have hvx := run_vbytesS d x hxo; simp only [Val.cells] at hvx
    all_goals
      refine ⟨?_, ?_⟩
      · (simp only [List.length_append]; omega)
      · rw [LoopS_eq]
        simp -implicitDefEqProofs (disch := first | omega | assumption) only [go_sem, Nat.reduceBEq, Nat.reduceAdd, Nat.reduceSub, Nat.reduceMul, Nat.reduceLeDiff, Nat.reduceEqDiff, Nat.reduceLT, Int.reduceNeg, Int.reduceAdd, Int.reduceSub, Int.reduceMul, Int.reduceLE, Int.reduceLT, Int.reduceEq, Int.reduceToNat, reduceCtorEq, evL110x0, B110x0, hi, hx, IntWalk.i64_in, List.map_append, List.foldl_cons, hx, hvx, Val.cells, hst, hsm, u8s_app, u8s_len, List.length_append, if_true, if_false]
        skip
-- find110
theorem run_rbytesS (d : Nat) (c : Bool) (vs : List Val) (h : rowOk vs = true) : retP (runD tab noExt (d + 4)) 110 [.sl c 3 (vs.map Val.cells)] = some [.sl false 1 (u8s (rowBytes vs))] := by
  obtain ⟨hok, hv⟩ := rowOk_at h
  have hr := run_rowOk d c vs (by omega) (fun v hm => by have := ok_size (hok v hm); omega)
  rw [h] at hr
  obtain ⟨hl, hle⟩ := loop_rbS d c vs hv hok 1099511627775 (by omega) [(vs.length : Int)] ⟨by simp, by simp⟩
  have hbe : rowBytes vs = vs.foldl (fun b v => b ++ v.bytes) [(vs.length : Int)] := rfl
  rw [← hbe] at hl hle
  have ht : List.take (rowBytes vs).length (u8s (rowBytes vs)) = u8s (rowBytes vs) := List.take_of_length_le (by rw [u8s_len]; omega)
  have hi0 : u8s [(vs.length : Int)] = [[.int .u8 vs.length]] := rfl
  simp only [hi0, List.length_cons, List.length_nil, Int.natCast_zero] at hl
  rw [retP, runD_eq find110 _ _ _ (by simp)]
  simp -implicitDefEqProofs (disch := omega) only [go_sem, Nat.reduceBEq, Nat.reduceAdd, Nat.reduceSub, Nat.reduceMul, Nat.reduceLeDiff, Nat.reduceEqDiff, Nat.reduceLT, Int.reduceNeg, Int.reduceAdd, Int.reduceSub, Int.reduceMul, Int.reduceLE, Int.reduceLT, Int.reduceEq, Int.reduceToNat, reduceCtorEq, hr, IntKind.wrap_u8, mod_in, elemsOf, elemOf]
  try simp -implicitDefEqProofs only [go_sem, Nat.reduceBEq, Nat.reduceAdd, Nat.reduceSub, Nat.reduceMul, Nat.reduceLeDiff, Nat.reduceEqDiff, Nat.reduceLT, Int.reduceNeg, Int.reduceAdd, Int.reduceSub, Int.reduceMul, Int.reduceLE, Int.reduceLT, Int.reduceEq, Int.reduceToNat, reduceCtorEq] at hl
  rw [hl]
  simp -implicitDefEqProofs (disch := omega) only [go_sem, Nat.reduceBEq, Nat.reduceAdd, Nat.reduceSub, Nat.reduceMul, Nat.reduceLeDiff, Nat.reduceEqDiff, Nat.reduceLT, Int.reduceNeg, Int.reduceAdd, Int.reduceSub, Int.reduceMul, Int.reduceLE, Int.reduceLT, Int.reduceEq, Int.reduceToNat, reduceCtorEq, ht, List.take_length]
end Go.Proofs.Yteaojpfofifmnaa.PE
/- Values read out of bytes: both functions. -/
set_option linter.unusedSimpArgs false
set_option linter.unusedVariables false
set_option maxHeartbeats 8000000
set_option maxRecDepth 20000
namespace Go.Proofs.Yteaojpfofifmnaa.PE
open Go.RowKit

def toS (l : List UInt8) : ByteArray := ⟨l.toArray⟩
def vChk (v : Val) (n : Nat) : Val × Nat := if v.ok then (v, n) else (Val.zero, 0)
def vFrom : List UInt8 → Val × Nat
  | [] => (Val.zero, 0)
  | [k] => if k.toNat = 0 then (Val.zero, 1) else (Val.zero, 0)
  | k :: x :: r =>
    if k.toNat = 0 then (Val.zero, 1)
    else if k.toNat = 1 then (match r with
      | [] => (Val.zero, 0)
      | y :: _ => vChk ⟨1, (x.toNat : Int) * 256 + y.toNat - 10000, ⟨#[]⟩⟩ 3)
    else if k.toNat = 2 then (if x.toNat ≤ r.length then vChk ⟨2, 0, toS (r.take x.toNat)⟩ (2 + x.toNat) else (Val.zero, 0))
    else if k.toNat = 3 then vChk ⟨3, x.toNat, ⟨#[]⟩⟩ 2
    else (Val.zero, 0)
theorem cob_cons (k : UInt8) (r : List UInt8) : cellsOfBytes (k :: r) = [.int .u8 k.toNat] :: cellsOfBytes r := rfl
theorem cob_nil : cellsOfBytes [] = [] := rfl
theorem cob_len (r : List UInt8) : (cellsOfBytes r).length = r.length := List.length_map _
theorem cob_take (r : List UInt8) (n : Nat) : (cellsOfBytes r).take n = cellsOfBytes (r.take n) := (List.map_take).symm
theorem cob_drop (r : List UInt8) (n : Nat) : (cellsOfBytes r).drop n = cellsOfBytes (r.drop n) := (List.map_drop).symm
theorem bytesOf_cob : ∀ (l : List UInt8), bytesOf (cellsOfBytes l) = some l
  | [] => rfl
  | b :: l => by
    have := bytesOf_cob l
    simp only [cob_cons, bytesOf, this, Option.map_some]
    congr 2
    have h : ((b.toNat : Int)).toNat = b.toNat := by omega
    rw [h]
    simp
theorem toS_size (l : List UInt8) : (toS l).size = l.length := by simp [toS, ByteArray.size]
-- find32
theorem run_vFromI (d : Nat) (c : Bool) (b : List UInt8) (hb : b.length < 1099511627776) : retP (runD tab noExt (d + 4)) 32 [.sl c 1 (cellsOfBytes b)] = some [.agg (vFrom b).1.cells, .int .i64 (vFrom b).2] := by
  rw [retP, runD_eq find32 _ _ _ (by simp)]
  match b, hb with
  | [], _ => simp -implicitDefEqProofs (disch := omega) only [go_sem, Nat.reduceBEq, Nat.reduceAdd, Nat.reduceSub, Nat.reduceMul, Nat.reduceLeDiff, Nat.reduceEqDiff, Nat.reduceLT, Int.reduceNeg, Int.reduceAdd, Int.reduceSub, Int.reduceMul, Int.reduceLE, Int.reduceLT, Int.reduceEq, Int.reduceToNat, reduceCtorEq, cob_nil, vFrom, Val.zero, Val.cells]
  | [k], _ =>
    have hk := k.toNat_lt
    by_cases k0 : k.toNat = 0
    · have e0 : ((k.toNat : Nat) : Int) = 0 := by omega
      have ho : Val.ok ⟨0, 0, ⟨#[]⟩⟩ = true := by decide
      simp -implicitDefEqProofs (disch := omega) only [go_sem, Nat.reduceBEq, Nat.reduceAdd, Nat.reduceSub, Nat.reduceMul, Nat.reduceLeDiff, Nat.reduceEqDiff, Nat.reduceLT, Int.reduceNeg, Int.reduceAdd, Int.reduceSub, Int.reduceMul, Int.reduceLE, Int.reduceLT, Int.reduceEq, Int.reduceToNat, reduceCtorEq, cob_cons, cob_nil, vFrom, Val.zero, Val.cells, IntWalk.i64_in, k0, e0, run_ok, ho]
    · have e0 : ((k.toNat : Int) = 0) = False := eq_false (by omega)
      have e0' : (k.toNat = 0) = False := eq_false k0
      by_cases k1 : (k.toNat : Int) = 1 <;> by_cases k2 : (k.toNat : Int) = 2 <;> by_cases k3 : (k.toNat : Int) = 3 <;> simp -implicitDefEqProofs (disch := omega) only [go_sem, Nat.reduceBEq, Nat.reduceAdd, Nat.reduceSub, Nat.reduceMul, Nat.reduceLeDiff, Nat.reduceEqDiff, Nat.reduceLT, Int.reduceNeg, Int.reduceAdd, Int.reduceSub, Int.reduceMul, Int.reduceLE, Int.reduceLT, Int.reduceEq, Int.reduceToNat, reduceCtorEq, cob_cons, cob_nil, vFrom, Val.zero, Val.cells, IntWalk.i64_in, e0, e0', k1, k2, k3, run_ok]
  | k :: x :: r, hb =>
    have hk := k.toNat_lt
    have hx := x.toNat_lt
    have l0 : ((r.length : Int) + 2 = 0) = False := eq_false (by omega)
    have l1 : ((1 : Int) < (r.length : Int) + 2) = True := eq_true (by omega)
    by_cases k0 : k.toNat = 0
    · have e0 : ((k.toNat : Nat) : Int) = 0 := by omega
      have ho : Val.ok ⟨0, 0, ⟨#[]⟩⟩ = true := by decide
      simp -implicitDefEqProofs (disch := omega) only [go_sem, Nat.reduceBEq, Nat.reduceAdd, Nat.reduceSub, Nat.reduceMul, Nat.reduceLeDiff, Nat.reduceEqDiff, Nat.reduceLT, Int.reduceNeg, Int.reduceAdd, Int.reduceSub, Int.reduceMul, Int.reduceLE, Int.reduceLT, Int.reduceEq, Int.reduceToNat, reduceCtorEq, l0, l1, cob_cons, cob_len, vFrom, Val.zero, Val.cells, IntWalk.i64_in, k0, e0, run_ok, ho]
    have e0 : (k.toNat = 0) = False := eq_false k0
    by_cases k1 : k.toNat = 1
    · have e1 : ((k.toNat : Nat) : Int) = 1 := by omega
      match r, hb with
      | [], _ => simp -implicitDefEqProofs (disch := omega) only [go_sem, Nat.reduceBEq, Nat.reduceAdd, Nat.reduceSub, Nat.reduceMul, Nat.reduceLeDiff, Nat.reduceEqDiff, Nat.reduceLT, Int.reduceNeg, Int.reduceAdd, Int.reduceSub, Int.reduceMul, Int.reduceLE, Int.reduceLT, Int.reduceEq, Int.reduceToNat, reduceCtorEq, cob_cons, cob_nil, vFrom, Val.zero, Val.cells, IntWalk.i64_in, k1, e1, run_ok]
      | y :: r, hb =>
        have hy := y.toNat_lt
        have l2 : ((r.length : Int) + 3 = 0) = False := eq_false (by omega)
        have l3 : ((2 : Int) < (r.length : Int) + 3) = True := eq_true (by omega)
        cases ho : Val.ok ⟨1, (x.toNat : Int) * 256 + y.toNat - 10000, ⟨#[]⟩⟩ <;>
        simp -implicitDefEqProofs (disch := omega) only [go_sem, Nat.reduceBEq, Nat.reduceAdd, Nat.reduceSub, Nat.reduceMul, Nat.reduceLeDiff, Nat.reduceEqDiff, Nat.reduceLT, Int.reduceNeg, Int.reduceAdd, Int.reduceSub, Int.reduceMul, Int.reduceLE, Int.reduceLT, Int.reduceEq, Int.reduceToNat, reduceCtorEq, evC_draw, evD32x0, E32x0, l2, l3, cob_cons, cob_len, vFrom, vChk, pow8', Val.zero, Val.cells, IntWalk.i64_in, k1, e1, run_ok, ho]
    have e1 : (k.toNat = 1) = False := eq_false k1
    by_cases k2 : k.toNat = 2
    · have e2 : ((k.toNat : Nat) : Int) = 2 := by omega
      by_cases hxr : x.toNat ≤ r.length
      · have lx : ((2 : Int) + x.toNat ≤ (r.length : Int) + 2) = True := eq_true (by omega)
        have lt : (2 + (x.toNat : Int)).toNat - 2 = x.toNat := by omega
        have lge : ((2 : Int) ≤ 2 + x.toNat) = True := eq_true (by omega)
        cases ho : Val.ok ⟨2, 0, toS (r.take x.toNat)⟩ <;> unfold toS at ho <;>
        simp -implicitDefEqProofs (disch := omega) only [go_sem, Nat.reduceBEq, Nat.reduceAdd, Nat.reduceSub, Nat.reduceMul, Nat.reduceLeDiff, Nat.reduceEqDiff, Nat.reduceLT, Int.reduceNeg, Int.reduceAdd, Int.reduceSub, Int.reduceMul, Int.reduceLE, Int.reduceLT, Int.reduceEq, Int.reduceToNat, reduceCtorEq, l0, l1, lx, lt, lge, hxr, cob_cons, cob_len, cob_take, cob_drop, bytesOf_cob, vFrom, vChk, toS, Val.zero, Val.cells, IntWalk.i64_in, k2, e2, run_ok, ho]
      · have lx : ((2 : Int) + x.toNat ≤ (r.length : Int) + 2) = False := eq_false (by omega)
        simp -implicitDefEqProofs (disch := omega) only [go_sem, Nat.reduceBEq, Nat.reduceAdd, Nat.reduceSub, Nat.reduceMul, Nat.reduceLeDiff, Nat.reduceEqDiff, Nat.reduceLT, Int.reduceNeg, Int.reduceAdd, Int.reduceSub, Int.reduceMul, Int.reduceLE, Int.reduceLT, Int.reduceEq, Int.reduceToNat, reduceCtorEq, l0, l1, lx, hxr, cob_cons, cob_len, vFrom, vChk, Val.zero, Val.cells, IntWalk.i64_in, k2, e2, run_ok]
    have e2 : (k.toNat = 2) = False := eq_false k2
    by_cases k3 : k.toNat = 3
    · have e3 : ((k.toNat : Nat) : Int) = 3 := by omega
      cases ho : Val.ok ⟨3, x.toNat, ⟨#[]⟩⟩ <;>
      simp -implicitDefEqProofs (disch := omega) only [go_sem, Nat.reduceBEq, Nat.reduceAdd, Nat.reduceSub, Nat.reduceMul, Nat.reduceLeDiff, Nat.reduceEqDiff, Nat.reduceLT, Int.reduceNeg, Int.reduceAdd, Int.reduceSub, Int.reduceMul, Int.reduceLE, Int.reduceLT, Int.reduceEq, Int.reduceToNat, reduceCtorEq, l0, l1, cob_cons, cob_len, vFrom, vChk, Val.zero, Val.cells, IntWalk.i64_in, k3, e3, run_ok, ho]
    · have g0 : ((k.toNat : Int) = 0) = False := eq_false (by omega)
      have g1 : ((k.toNat : Int) = 1) = False := eq_false (by omega)
      have g2 : ((k.toNat : Int) = 2) = False := eq_false (by omega)
      have g3 : ((k.toNat : Int) = 3) = False := eq_false (by omega)
      simp -implicitDefEqProofs (disch := omega) only [go_sem, Nat.reduceBEq, Nat.reduceAdd, Nat.reduceSub, Nat.reduceMul, Nat.reduceLeDiff, Nat.reduceEqDiff, Nat.reduceLT, Int.reduceNeg, Int.reduceAdd, Int.reduceSub, Int.reduceMul, Int.reduceLE, Int.reduceLT, Int.reduceEq, Int.reduceToNat, reduceCtorEq, l0, l1, cob_cons, cob_len, vFrom, vChk, Val.zero, Val.cells, IntWalk.i64_in, e0, e1, e2, k3, g0, g1, g2, g3, run_ok]
end Go.Proofs.Yteaojpfofifmnaa.PE
/- Sums of bytes, and bodies framed: both functions tell them. -/
set_option linter.unusedSimpArgs false
set_option linter.unusedVariables false
set_option maxHeartbeats 4000000
namespace Go.Proofs.Yteaojpfofifmnaa.PE
open Go.RowKit

def sumF (b : Int × Nat) (x : Int) : Int × Nat := ((b.1 + x * ((b.2 : Int) + 1)).tmod 251, b.2 + 1)
def sumB (l : List Int) : Int := (l.foldl sumF (0, 0)).1
theorem u8s_at {l : List Int} {i : Nat} {x : Int} (h : l[i]? = some x) : (u8s l)[i]? = some [.int .u8 x] := by simp [u8s, h]
theorem mul_in {x : Int} {i : Nat} (h : 0 ≤ x ∧ x < 256) (hi : i < 65536) : 0 ≤ x * ((i : Int) + 1) ∧ x * ((i : Int) + 1) ≤ 255 * 65536 := by
  constructor
  · exact Int.mul_nonneg h.1 (by omega)
  · exact Int.mul_le_mul (by omega) (by omega) (by omega) (by omega)
theorem loop_sumI (d : Nat) (c : Bool) (l : List Int) (hl : l.length < 65536) (hbs : ∀ x ∈ l, 0 ≤ x ∧ x < 256) (K : Nat) (hK : (l).length ≤ K) (b0 : Int × Nat) (hb0 : (fun (i : Nat) (b : Int × Nat) => b.2 = i ∧ 0 ≤ b.1 ∧ b.1 < 251) 0 b0) : LoopS (runD tab noExt d) (drawI (runD tab noExt d)) [3, 6, 7, 8] [3] L120x0 ([] : Heap).length K [(3, .int .i64 (b0).1), (6, .sl c 1 (u8s l)), (7, .int .i64 l.length), (8, .int .i64 (0 : Nat))] [] = (some (.exit 0, [(3, .int .i64 (((l).foldl (sumF) b0)).1)], []) : Out) ∧ (fun (i : Nat) (b : Int × Nat) => b.2 = i ∧ 0 ≤ b.1 ∧ b.1 < 251) (l).length ((l).foldl (sumF) b0) := by
  have key := LoopS_foldI (run := (runD tab noExt d)) (draw := drawI (runD tab noExt d)) (live := [3, 6, 7, 8]) (out := [3]) (c := L120x0) (n0 := ([] : Heap).length) (l) (sumF) (fun (i : Nat) (b : Int × Nat) => b.2 = i ∧ 0 ≤ b.1 ∧ b.1 < 251) (fun (i : Nat) (b : Int × Nat) => [(3, .int .i64 (b).1), (6, .sl c 1 (u8s l)), (7, .int .i64 l.length), (8, .int .i64 (i : Nat))]) (fun (i : Nat) (b : Int × Nat) => []) (fun b => (some (.exit 0, [(3, .int .i64 (b).1)], []) : Out)) (fun b K hb => ?_) (fun (i : Nat) (x : Int) b K hi hx hb => ?_) K hK b0 hb0
  · simp only [Int.natCast_zero] at key
    exact key
  · rw [LoopS_eq]
    simp -implicitDefEqProofs only [go_sem, Nat.reduceBEq, Nat.reduceAdd, Nat.reduceSub, Nat.reduceMul, Nat.reduceLeDiff, Nat.reduceEqDiff, Nat.reduceLT, Int.reduceNeg, Int.reduceAdd, Int.reduceSub, Int.reduceMul, Int.reduceLE, Int.reduceLT, Int.reduceEq, Int.reduceToNat, reduceCtorEq, evL120x0, B120x0, Int.lt_irrefl]
  · obtain ⟨n, k⟩ := b; obtain ⟨hk, h0, h1⟩ := hb; simp only at hk h0 h1; subst hk; have hxc := u8s_at hx; have hx2 := hbs x (List.mem_of_getElem? hx); have hm := mul_in hx2 (show k < 65536 by omega); have t1 := tmod_nn (show 0 ≤ n + x * ((k : Int) + 1) by omega) (show (0 : Int) < 251 by omega); have t2 := tmod_lt (show 0 ≤ n + x * ((k : Int) + 1) by omega) (show (0 : Int) < 251 by omega); have hw1 : IntKind.i64.wrap (x * ((k : Int) + 1)) = x * ((k : Int) + 1) := IntWalk.i64_in _ (by omega); have hw2 : IntKind.i64.wrap (n + x * ((k : Int) + 1)) = n + x * ((k : Int) + 1) := IntWalk.i64_in _ (by omega)
    all_goals
      refine ⟨?_, ?_⟩
      · exact ⟨rfl, t1, t2⟩
      · rw [LoopS_eq]
        simp -implicitDefEqProofs (disch := first | omega | assumption) only [go_sem, Nat.reduceBEq, Nat.reduceAdd, Nat.reduceSub, Nat.reduceMul, Nat.reduceLeDiff, Nat.reduceEqDiff, Nat.reduceLT, Int.reduceNeg, Int.reduceAdd, Int.reduceSub, Int.reduceMul, Int.reduceLE, Int.reduceLT, Int.reduceEq, Int.reduceToNat, reduceCtorEq, evL120x0, B120x0, hi, hx, IntWalk.i64_in, List.map_append, List.foldl_cons, hxc, hw1, hw2, sumF, u8s_len]
        skip
-- find120
theorem run_sumI (d : Nat) (c : Bool) (l : List Int) (hl : l.length < 65536) (hb : ∀ x ∈ l, 0 ≤ x ∧ x < 256) : retP (runD tab noExt (d + 1)) 120 [.sl c 1 (u8s l)] = some [.int .u8 (sumB l)] := by
  obtain ⟨h, _, h0, h1⟩ := loop_sumI d c l hl hb 1099511627775 (by omega) (0, 0) ⟨rfl, by decide, by decide⟩
  have e : (l.foldl sumF (0, 0)).1 = sumB l := rfl
  rw [e] at h h0 h1
  simp only [Int.natCast_zero] at h
  rw [retP, runD_eq find120 _ _ _ (by simp)]
  simp -implicitDefEqProofs (disch := omega) only [go_sem, Nat.reduceBEq, Nat.reduceAdd, Nat.reduceSub, Nat.reduceMul, Nat.reduceLeDiff, Nat.reduceEqDiff, Nat.reduceLT, Int.reduceNeg, Int.reduceAdd, Int.reduceSub, Int.reduceMul, Int.reduceLE, Int.reduceLT, Int.reduceEq, Int.reduceToNat, reduceCtorEq, u8s_len]
  try simp -implicitDefEqProofs only [go_sem, Nat.reduceBEq, Nat.reduceAdd, Nat.reduceSub, Nat.reduceMul, Nat.reduceLeDiff, Nat.reduceEqDiff, Nat.reduceLT, Int.reduceNeg, Int.reduceAdd, Int.reduceSub, Int.reduceMul, Int.reduceLE, Int.reduceLT, Int.reduceEq, Int.reduceToNat, reduceCtorEq] at h
  rw [h]
  simp -implicitDefEqProofs (disch := omega) only [go_sem, Nat.reduceBEq, Nat.reduceAdd, Nat.reduceSub, Nat.reduceMul, Nat.reduceLeDiff, Nat.reduceEqDiff, Nat.reduceLT, Int.reduceNeg, Int.reduceAdd, Int.reduceSub, Int.reduceMul, Int.reduceLE, Int.reduceLT, Int.reduceEq, Int.reduceToNat, reduceCtorEq, IntKind.wrap_u8, mod_in]
theorem loop_sumS (d : Nat) (c : Bool) (l : List Int) (hl : l.length < 65536) (hbs : ∀ x ∈ l, 0 ≤ x ∧ x < 256) (K : Nat) (hK : (l).length ≤ K) (b0 : Int × Nat) (hb0 : (fun (i : Nat) (b : Int × Nat) => b.2 = i ∧ 0 ≤ b.1 ∧ b.1 < 251) 0 b0) : LoopS (runD tab noExt d) (drawI (runD tab noExt d)) [0, 3, 4] [3] L65x0 ([] : Heap).length K [(0, .sl c 1 (u8s l)), (3, .int .i64 (b0).1), (4, .int .i64 (0 : Nat))] [] = (some (.exit 0, [(3, .int .i64 (((l).foldl (sumF) b0)).1)], []) : Out) ∧ (fun (i : Nat) (b : Int × Nat) => b.2 = i ∧ 0 ≤ b.1 ∧ b.1 < 251) (l).length ((l).foldl (sumF) b0) := by
  have key := LoopS_foldI (run := (runD tab noExt d)) (draw := drawI (runD tab noExt d)) (live := [0, 3, 4]) (out := [3]) (c := L65x0) (n0 := ([] : Heap).length) (l) (sumF) (fun (i : Nat) (b : Int × Nat) => b.2 = i ∧ 0 ≤ b.1 ∧ b.1 < 251) (fun (i : Nat) (b : Int × Nat) => [(0, .sl c 1 (u8s l)), (3, .int .i64 (b).1), (4, .int .i64 (i : Nat))]) (fun (i : Nat) (b : Int × Nat) => []) (fun b => (some (.exit 0, [(3, .int .i64 (b).1)], []) : Out)) (fun b K hb => ?_) (fun (i : Nat) (x : Int) b K hi hx hb => ?_) K hK b0 hb0
  · simp only [Int.natCast_zero] at key
    exact key
  · rw [LoopS_eq]
    simp -implicitDefEqProofs only [go_sem, Nat.reduceBEq, Nat.reduceAdd, Nat.reduceSub, Nat.reduceMul, Nat.reduceLeDiff, Nat.reduceEqDiff, Nat.reduceLT, Int.reduceNeg, Int.reduceAdd, Int.reduceSub, Int.reduceMul, Int.reduceLE, Int.reduceLT, Int.reduceEq, Int.reduceToNat, reduceCtorEq, evL65x0, B65x0, Int.lt_irrefl, u8s_len]
  · obtain ⟨n, k⟩ := b; obtain ⟨hk, h0, h1⟩ := hb; simp only at hk h0 h1; subst hk; have hxc := u8s_at hx; have hx2 := hbs x (List.mem_of_getElem? hx); have hm := mul_in hx2 (show k < 65536 by omega); have t1 := tmod_nn (show 0 ≤ n + x * ((k : Int) + 1) by omega) (show (0 : Int) < 251 by omega); have t2 := tmod_lt (show 0 ≤ n + x * ((k : Int) + 1) by omega) (show (0 : Int) < 251 by omega); have hw1 : IntKind.i64.wrap (x * ((k : Int) + 1)) = x * ((k : Int) + 1) := IntWalk.i64_in _ (by omega); have hw2 : IntKind.i64.wrap (n + x * ((k : Int) + 1)) = n + x * ((k : Int) + 1) := IntWalk.i64_in _ (by omega)
    all_goals
      refine ⟨?_, ?_⟩
      · exact ⟨rfl, t1, t2⟩
      · rw [LoopS_eq]
        simp -implicitDefEqProofs (disch := first | omega | assumption) only [go_sem, Nat.reduceBEq, Nat.reduceAdd, Nat.reduceSub, Nat.reduceMul, Nat.reduceLeDiff, Nat.reduceEqDiff, Nat.reduceLT, Int.reduceNeg, Int.reduceAdd, Int.reduceSub, Int.reduceMul, Int.reduceLE, Int.reduceLT, Int.reduceEq, Int.reduceToNat, reduceCtorEq, evL65x0, B65x0, hi, hx, IntWalk.i64_in, List.map_append, List.foldl_cons, u8s_len, hxc, hw1, hw2, sumF, u8s_len]
        skip
-- find65
theorem run_sumS (d : Nat) (c : Bool) (l : List Int) (hl : l.length < 65536) (hb : ∀ x ∈ l, 0 ≤ x ∧ x < 256) : retP (runD tab noExt (d + 1)) 65 [.sl c 1 (u8s l)] = some [.int .u8 (sumB l)] := by
  obtain ⟨h, _, h0, h1⟩ := loop_sumS d c l hl hb 1099511627775 (by omega) (0, 0) ⟨rfl, by decide, by decide⟩
  have e : (l.foldl sumF (0, 0)).1 = sumB l := rfl
  rw [e] at h h0 h1
  simp only [Int.natCast_zero] at h
  rw [retP, runD_eq find65 _ _ _ (by simp)]
  simp -implicitDefEqProofs (disch := omega) only [go_sem, Nat.reduceBEq, Nat.reduceAdd, Nat.reduceSub, Nat.reduceMul, Nat.reduceLeDiff, Nat.reduceEqDiff, Nat.reduceLT, Int.reduceNeg, Int.reduceAdd, Int.reduceSub, Int.reduceMul, Int.reduceLE, Int.reduceLT, Int.reduceEq, Int.reduceToNat, reduceCtorEq, u8s_len]
  try simp -implicitDefEqProofs only [go_sem, Nat.reduceBEq, Nat.reduceAdd, Nat.reduceSub, Nat.reduceMul, Nat.reduceLeDiff, Nat.reduceEqDiff, Nat.reduceLT, Int.reduceNeg, Int.reduceAdd, Int.reduceSub, Int.reduceMul, Int.reduceLE, Int.reduceLT, Int.reduceEq, Int.reduceToNat, reduceCtorEq] at h
  rw [h]
  simp -implicitDefEqProofs (disch := omega) only [go_sem, Nat.reduceBEq, Nat.reduceAdd, Nat.reduceSub, Nat.reduceMul, Nat.reduceLeDiff, Nat.reduceEqDiff, Nat.reduceLT, Int.reduceNeg, Int.reduceAdd, Int.reduceSub, Int.reduceMul, Int.reduceLE, Int.reduceLT, Int.reduceEq, Int.reduceToNat, reduceCtorEq, IntKind.wrap_u8, mod_in]
end Go.Proofs.Yteaojpfofifmnaa.PE
/- Calls whose results are memory of one's own, and a number beside it. -/
set_option linter.unusedVariables false
set_option linter.unusedSimpArgs false
namespace Go.Proofs.Yteaojpfofifmnaa.PE
open Go.RowKit

theorem own_callAS {run : Run} {h : Heap} {f : Nat} {args args' : List V} {cs : List V} {s : V} {hc : Heap} {fs : List Fd} {x : List U} {ids : List Nat} (hp : pureDAs h args = some args') (hr : run f args' [] = some ([.agg cs, s], hc)) (ho : OwnR hc fs cs x ids) (hn : ids.Nodup) (hs : cs.all scalar = false) (hsc : scalar s = true) :
    ∃ cs' h' ids', callX run h 0 f args = some (.tup [.agg cs', s], h') ∧ OwnR h' fs cs' x ids' ∧ ids'.Nodup ∧ (∀ j ∈ ids', h.length ≤ j) ∧ (∀ j, j < h.length → h'[j]? = h[j]?) ∧ h.length ≤ h'.length := by
  have hf := OwnR_fresh fs ho
  refine ⟨cs.map (shC h.length), h ++ movedH h.length hc, ids.map (· + h.length), ?_, OwnR_moved _ ho, ?_, fun j hj => ?_, fun j hj => by rw [List.getElem?_append_left hj], by simp⟩
  · cases s <;> first | (simp only [callX, callO, hp, hr, BackO, List.all_cons, List.all_nil, scalarA, freshA, freshC, shC, hs, hf, Bool.false_eq_true, Bool.false_and, Bool.true_and, Bool.and_self, if_false, if_true, List.map_cons, List.map_nil, oneOf, shA]; done) | cases hsc
  · exact (List.pairwise_map.2 (List.Pairwise.imp (fun {a b} hab => by simp only [ne_eq] at hab ⊢; omega) hn))
  · obtain ⟨i, _, rfl⟩ := List.mem_map.1 hj
    omega
end Go.Proofs.Yteaojpfofifmnaa.PE
/- Steps of exact statements of structs. -/
set_option linter.unusedVariables false
set_option linter.unusedSimpArgs false
namespace Go.Proofs.Yteaojpfofifmnaa.PE
open Go.RowKit

theorem pureDA_of {h : Heap} {fs : List Fd} {v q : V} {u : U} {ids : List Nat} (ho : OwnF h (.sub fs) v u ids) (e : pureD h 6 v = some q) : pureDA h v = some q := by
  rcases own_cases ho with ⟨c, rfl⟩ | ⟨id, st, n, clip, rfl⟩ <;> exact e
end Go.Proofs.Yteaojpfofifmnaa.PE
/- Bytes of entries: both functions tell them. -/
set_option linter.unusedSimpArgs false
set_option linter.unusedVariables false
set_option maxHeartbeats 8000000
set_option maxRecDepth 20000
namespace Go.Proofs.Yteaojpfofifmnaa.PE
open Go.RowKit

def byU (l : List Int) : List (List U) := l.map fun n => [U.int n]
theorem u8s_cons (n : Int) (l : List Int) : u8s (n :: l) = [.int .u8 n] :: u8s l := rfl
theorem u8s_nil : u8s [] = [] := rfl
theorem in_vbytes {v : Val} (h : v.ok = true) : ∀ x ∈ v.bytes, 0 ≤ x ∧ x < 256 := by
  intro x hx
  have hs := ok_size h
  unfold Val.bytes Val.tail at hx
  rcases ok_kinds h with ⟨k, k1, k2⟩ | ⟨k, k1, k2, k3⟩ | ⟨k, k1, k2⟩ | ⟨k, k1, k2, k3⟩ <;> rw [k] at hx <;> simp at hx
  · omega
  · rcases hx with rfl | rfl | rfl <;> omega
  · rcases hx with rfl | rfl | hx
    · omega
    · omega
    · unfold strB at hx
      obtain ⟨b, _, rfl⟩ := List.mem_map.1 hx
      have := b.toNat_lt
      omega
  · rcases hx with rfl | rfl <;> omega
theorem in_rbytes {vs : List Val} (h : rowOk vs = true) : ∀ x ∈ rowBytes vs, 0 ≤ x ∧ x < 256 := by
  obtain ⟨h1, h2⟩ := rowOk_at h
  intro x hx
  rw [rowBytes_eq] at hx
  rcases List.mem_cons.1 hx with rfl | hx
  · omega
  · obtain ⟨v, hv, hx⟩ := List.mem_flatMap.1 hx
    exact in_vbytes (h1 v hv) x hx
theorem flat_len {α : Type} {f : α → List Int} {n : Nat} : ∀ (l : List α), (∀ a ∈ l, (f a).length ≤ n) → (l.flatMap f).length ≤ n * l.length
  | [], _ => by simp
  | a :: l, h => by
    have h1 := h a (by simp)
    have h2 := flat_len l (fun b hb => h b (by simp [hb]))
    rw [List.flatMap_cons, List.length_append, List.length_cons, Nat.mul_add]
    omega
theorem rbytes_len {vs : List Val} (h : rowOk vs = true) : (rowBytes vs).length ≤ 33 := by
  obtain ⟨h1, h2⟩ := rowOk_at h
  rw [rowBytes_eq, List.length_cons]
  have : (vs.flatMap Val.bytes).length ≤ 8 * vs.length := flat_len vs (fun v hv => bytes_len (h1 v hv))
  omega
theorem wrs_one : ∀ (l : List Wr) (o : Option Wr), (prevsG o l).all wrOk = true → ∀ w ∈ l, w.one = true
  | [], _, _, w, hw => by cases hw
  | x :: l, o, h, w, hw => by
    simp only [prevsG, List.all_cons, Bool.and_eq_true] at h
    rcases List.mem_cons.1 hw with rfl | hw
    · have := h.1
      simp only [wrOk, Bool.and_eq_true] at this
      exact this.1
    · exact wrs_one l _ h.2 w hw
theorem wr_one {w : Wr} (h : w.one = true) : 0 ≤ w.key ∧ w.key ≤ 4 ∧ rowOk w.row.vs = true := by
  simp only [Wr.one, Bool.and_eq_true, decide_eq_true_eq] at h
  exact ⟨h.1.1, h.1.2, h.2.1⟩
def goneI (b : Bool) : Int := if b then 1 else 0
def wrBytes (w : Wr) : List Int := w.key :: goneI w.gone :: rowBytes w.row.vs
def bodyB (e : Ent) : List Int := e.ws.foldl (fun b w => b ++ wrBytes w) [e.time, (e.ws.length : Int)]
theorem bodyB_eq (e : Ent) : bodyB e = e.time :: (e.ws.length : Int) :: e.ws.flatMap wrBytes := by rw [bodyB, foldl_app]; rfl
theorem goneI_in (b : Bool) : 0 ≤ goneI b ∧ goneI b < 256 := by cases b <;> decide
theorem in_wr {w : Wr} (h : w.one = true) : ∀ x ∈ wrBytes w, 0 ≤ x ∧ x < 256 := by
  obtain ⟨h1, h2, h3⟩ := wr_one h
  intro x hx
  rcases List.mem_cons.1 hx with rfl | hx
  · omega
  · rcases List.mem_cons.1 hx with rfl | hx
    · exact goneI_in _
    · exact in_rbytes h3 x hx
theorem wr_len {w : Wr} (h : w.one = true) : (wrBytes w).length ≤ 35 := by
  have := rbytes_len (wr_one h).2.2
  simp only [wrBytes, List.length_cons]
  omega
theorem one_at {e : Ent} (h : logOk [e] = true) : (1 ≤ e.time ∧ e.time ≤ 40) ∧ (∀ w ∈ e.ws, w.one = true) ∧ e.ws.length ≤ 5 := by
  have : e.one = true := by
    simp only [logOk, prevsG, List.all_cons, List.all_nil, entOk, Bool.and_eq_true] at h
    exact h.1.1.1
  simp only [Ent.one, Bool.and_eq_true, decide_eq_true_eq] at this
  have h5 := wrs_len5 this.2
  exact ⟨this.1, wrs_one _ _ this.2, by omega⟩
theorem in_body {e : Ent} (h : logOk [e] = true) : ∀ x ∈ bodyB e, 0 ≤ x ∧ x < 256 := by
  obtain ⟨h1, h2, h3⟩ := one_at h
  intro x hx
  rw [bodyB_eq] at hx
  rcases List.mem_cons.1 hx with rfl | hx
  · omega
  · rcases List.mem_cons.1 hx with rfl | hx
    · omega
    · obtain ⟨w, hw, hx⟩ := List.mem_flatMap.1 hx
      exact in_wr (h2 w hw) x hx
theorem body_len {e : Ent} (h : logOk [e] = true) : (bodyB e).length ≤ 177 := by
  obtain ⟨h1, h2, h3⟩ := one_at h
  rw [bodyB_eq, List.length_cons, List.length_cons]
  have : (e.ws.flatMap wrBytes).length ≤ 35 * e.ws.length := flat_len e.ws (fun w hw => wr_len (h2 w hw))
  omega
def frB (b : List Int) : List Int := ((b.length : Int) / 256) :: ((b.length : Int) % 256) :: (b ++ [sumB b])
theorem u8s_fr (b : List Int) : u8s (frB b) = [.int .u8 ((b.length : Int) / 256)] :: [.int .u8 ((b.length : Int) % 256)] :: (u8s b ++ [[.int .u8 (sumB b)]]) := by rw [frB, u8s_cons, u8s_cons, u8s_app]; rfl
-- find85
theorem clipB_k (d st : Nat) (l : List (List V)) (n : Nat) (hn : n = l.length) : callX (runD tab noExt (d + 1)) [.rows st 1 l] 2 85 [.ref 0 st 0 n false] = some (.ref 0 st 0 n true, [.rows st 1 l]) := by
  subst hn
  simp only [callX, callK]
  rw [runD_eq find85 _ _ _ (by simp)]
  simp -implicitDefEqProofs (disch := omega) only [go_sem, Nat.reduceBEq, Nat.reduceAdd, Nat.reduceSub, Nat.reduceMul, Nat.reduceLeDiff, Nat.reduceEqDiff, Nat.reduceLT, Int.reduceNeg, Int.reduceAdd, Int.reduceSub, Int.reduceMul, Int.reduceLE, Int.reduceLT, Int.reduceEq, Int.reduceToNat, reduceCtorEq, List.take_length, Bool.true_or, resOk]
theorem own_bytes {h : Heap} {id st n : Nat} {clip : Bool} (l : List Int) (hn : n = l.length) (hb : h[id]? = some (.rows st 1 (u8s l))) : OwnF h (.sub fdByte) (.ref id st 0 n clip) (.sub (byU l)) [id] :=
  own_row (f := fun n => [.int .u8 n]) (g := fun n => [.int n]) rfl l hn hb (fun n => ownR_mk_Byte h n)
-- find113
theorem own_framed (d : Nat) (c : Bool) (b : List Int) (hl : b.length < 65536) (hb : ∀ x ∈ b, 0 ≤ x ∧ x < 256) : ∃ v hc ids, runD tab noExt (d + 2) 113 [.sl c 1 (u8s b)] [] = some ([v], hc) ∧ OwnF hc (.sub fdByte) v (.sub (byU (frB b))) ids ∧ ids.Nodup := by
  have hs := run_sumI d c b hl hb
  have hk := clipB_k d (b.length + 1) (u8s (frB b)) (2 + b.length + 1) (by rw [u8s_len]; simp [frB]; omega)
  refine ⟨.ref 0 (b.length + 1) 0 (2 + b.length + 1) true, [.rows (b.length + 1) 1 (u8s (frB b))], [0], ?_, own_bytes (frB b) (by simp [frB]; omega) rfl, by simp⟩
  have q1 : (b.length : Int).fdiv 256 = b.length / 256 := fdiv256 (by omega)
  have q2 : ((b.length : Int) / 256) % 256 = b.length / 256 := mod_div (by omega)
  have cm : (2 + b.length = b.length + 2) = True := eq_true (by omega)
  have sm1 : 2 + b.length < 4294967296 := by omega
  have sm2 : 2 + (b.length + 1) < 4294967296 := by omega
  rw [runD_eq find113 _ _ _ (by simp)]
  simp only [u8s_fr] at hk ⊢
  simp only [Nat.add_assoc] at hk ⊢
  simp -implicitDefEqProofs (disch := omega) only [go_sem, Nat.reduceBEq, Nat.reduceAdd, Nat.reduceSub, Nat.reduceMul, Nat.reduceLeDiff, Nat.reduceEqDiff, Nat.reduceLT, Int.reduceNeg, Int.reduceAdd, Int.reduceSub, Int.reduceMul, Int.reduceLE, Int.reduceLT, Int.reduceEq, Int.reduceToNat, reduceCtorEq, hs, hk, u8s_len, IntKind.wrap_u8, pow8, pow8', cm, q1, q2, sm1, sm2, elemsOf, elemOf, resOk]
end Go.Proofs.Yteaojpfofifmnaa.PE
/- Bytes of entries: both functions tell them. -/
set_option linter.unusedSimpArgs false
set_option linter.unusedVariables false
set_option maxHeartbeats 8000000
set_option maxRecDepth 20000
namespace Go.Proofs.Yteaojpfofifmnaa.PE
open Go.RowKit

theorem run_truthB (d : Nat) (b : Bool) : retP (runD tab noExt (d + 1)) 112 [.bool b] = some [.int .i64 (goneI b)] := by
  rw [retP, runD_eq find112 _ _ _ (by simp)]
  simp -implicitDefEqProofs (disch := omega) only [go_sem, Nat.reduceBEq, Nat.reduceAdd, Nat.reduceSub, Nat.reduceMul, Nat.reduceLeDiff, Nat.reduceEqDiff, Nat.reduceLT, Int.reduceNeg, Int.reduceAdd, Int.reduceSub, Int.reduceMul, Int.reduceLE, Int.reduceLT, Int.reduceEq, Int.reduceToNat, reduceCtorEq, goneI]
  repeat' ((first | rw [GuardI_ndec] | rw [CondC_ndec] | rw [GuardQ_ndec] | rw [GuardI_dec] | rw [CondC_dec] | rw [GuardQ_dec] | rw [GuardI_nby] | rw [CondC_nby] | rw [GuardQ_nby] | rw [GuardQ_by] | rw [GuardI_by] | rw [CondC_by]) <;> split <;> simp -implicitDefEqProofs (disch := omega) only [go_sem, Nat.reduceBEq, Nat.reduceAdd, Nat.reduceSub, Nat.reduceMul, Nat.reduceLeDiff, Nat.reduceEqDiff, Nat.reduceLT, Int.reduceNeg, Int.reduceAdd, Int.reduceSub, Int.reduceMul, Int.reduceLE, Int.reduceLT, Int.reduceEq, Int.reduceToNat, reduceCtorEq, goneI, *])
  all_goals simp_all
theorem run_l2B (d : Nat) (b : Bool) : retP (runD tab noExt (d + 1)) 109 [.bool b] = some [.int .i64 (goneI b)] := by
  rw [retP, runD_eq find109 _ _ _ (by simp)]
  simp -implicitDefEqProofs (disch := omega) only [go_sem, Nat.reduceBEq, Nat.reduceAdd, Nat.reduceSub, Nat.reduceMul, Nat.reduceLeDiff, Nat.reduceEqDiff, Nat.reduceLT, Int.reduceNeg, Int.reduceAdd, Int.reduceSub, Int.reduceMul, Int.reduceLE, Int.reduceLT, Int.reduceEq, Int.reduceToNat, reduceCtorEq, goneI]
  repeat' ((first | rw [GuardI_ndec] | rw [CondC_ndec] | rw [GuardQ_ndec] | rw [GuardI_dec] | rw [CondC_dec] | rw [GuardQ_dec] | rw [GuardI_nby] | rw [CondC_nby] | rw [GuardQ_nby] | rw [GuardQ_by] | rw [GuardI_by] | rw [CondC_by]) <;> split <;> simp -implicitDefEqProofs (disch := omega) only [go_sem, Nat.reduceBEq, Nat.reduceAdd, Nat.reduceSub, Nat.reduceMul, Nat.reduceLeDiff, Nat.reduceEqDiff, Nat.reduceLT, Int.reduceNeg, Int.reduceAdd, Int.reduceSub, Int.reduceMul, Int.reduceLE, Int.reduceLT, Int.reduceEq, Int.reduceToNat, reduceCtorEq, goneI, *])
  all_goals simp_all
theorem len_wr (b : List Int) (w : Wr) : (b ++ wrBytes w).length = b.length + (2 + (rowBytes w.row.vs).length) := by simp [wrBytes]; omega
theorem u8s_wr (b : List Int) (w : Wr) : u8s (b ++ wrBytes w) = u8s b ++ [.int .u8 w.key] :: [.int .u8 (goneI w.gone)] :: u8s (rowBytes w.row.vs) := by rw [u8s_app]; rfl
theorem loop_ebI (d : Nat) (t : Int) (c : Bool) (ws : List Wr) (hw5 : ws.length ≤ 5) (hok : ∀ w ∈ ws, w.one = true) (K : Nat) (hK : (ws).length ≤ K) (b0 : List Int) (hb0 : (fun (i : Nat) (b : List Int) => 2 ≤ b.length ∧ b.length ≤ 2 + 35 * i) 0 b0) : LoopS (runD tab noExt (d + 8)) (drawI (runD tab noExt (d + 8))) [3, 15, 16, 17] [3] L67x0 ([.box [.int .i64 t, .sl c 3 (ws.map Wr.cells)], .rows ((b0).length - 2) 1 (u8s (b0))] : Heap).length K [(3, .ref 1 ((b0).length - 2) 0 (b0).length false), (15, .sl c 3 (ws.map Wr.cells)), (16, .int .i64 ws.length), (17, .int .i64 (0 : Nat))] [.box [.int .i64 t, .sl c 3 (ws.map Wr.cells)], .rows ((b0).length - 2) 1 (u8s (b0))] = (some (.exit 0, [(3, .ref 1 ((((ws).foldl (fun b w => b ++ wrBytes w) b0)).length - 2) 0 (((ws).foldl (fun b w => b ++ wrBytes w) b0)).length false)], [.box [.int .i64 t, .sl c 3 (ws.map Wr.cells)], .rows ((((ws).foldl (fun b w => b ++ wrBytes w) b0)).length - 2) 1 (u8s (((ws).foldl (fun b w => b ++ wrBytes w) b0)))]) : Out) ∧ (fun (i : Nat) (b : List Int) => 2 ≤ b.length ∧ b.length ≤ 2 + 35 * i) (ws).length ((ws).foldl (fun b w => b ++ wrBytes w) b0) := by
  have key := LoopS_foldI (run := (runD tab noExt (d + 8))) (draw := drawI (runD tab noExt (d + 8))) (live := [3, 15, 16, 17]) (out := [3]) (c := L67x0) (n0 := ([.box [.int .i64 t, .sl c 3 (ws.map Wr.cells)], .rows ((b0).length - 2) 1 (u8s (b0))] : Heap).length) (ws) (fun b w => b ++ wrBytes w) (fun (i : Nat) (b : List Int) => 2 ≤ b.length ∧ b.length ≤ 2 + 35 * i) (fun (i : Nat) (b : List Int) => [(3, .ref 1 ((b).length - 2) 0 (b).length false), (15, .sl c 3 (ws.map Wr.cells)), (16, .int .i64 ws.length), (17, .int .i64 (i : Nat))]) (fun (i : Nat) (b : List Int) => [.box [.int .i64 t, .sl c 3 (ws.map Wr.cells)], .rows ((b).length - 2) 1 (u8s (b))]) (fun b => (some (.exit 0, [(3, .ref 1 ((b).length - 2) 0 (b).length false)], [.box [.int .i64 t, .sl c 3 (ws.map Wr.cells)], .rows ((b).length - 2) 1 (u8s (b))]) : Out)) (fun b K hb => ?_) (fun (i : Nat) (x : Wr) b K hi hx hb => ?_) K hK b0 hb0
  · simp only [Int.natCast_zero] at key
    exact key
  · rw [LoopS_eq]
    simp -implicitDefEqProofs only [go_sem, Nat.reduceBEq, Nat.reduceAdd, Nat.reduceSub, Nat.reduceMul, Nat.reduceLeDiff, Nat.reduceEqDiff, Nat.reduceLT, Int.reduceNeg, Int.reduceAdd, Int.reduceSub, Int.reduceMul, Int.reduceLE, Int.reduceLT, Int.reduceEq, Int.reduceToNat, reduceCtorEq, evL67x0, B67x0, Int.lt_irrefl]
  · have hxo := hok x (List.mem_of_getElem? hx); obtain ⟨o1, o2, o3⟩ := wr_one hxo; have hxl := rbytes_len o3; have sm1 : b.length + 2 < 4294967296 := (by have := hb.2; omega); have sm2 : b.length + (2 + (rowBytes x.row.vs).length) < 4294967296 := (by have := hb.2; omega); have hst : b.length - 2 + (2 + (rowBytes x.row.vs).length) = b.length + (2 + (rowBytes x.row.vs).length) - 2 := (by have := hb.1; omega); have hvx := run_rbytesI d x.row.clip x.row.vs o3; have kw1 : x.key % 256 = x.key := (by omega); have kw2 : goneI x.gone % 256 = goneI x.gone := (by have := goneI_in x.gone; omega)
    all_goals
      refine ⟨?_, ?_⟩
      · (rw [len_wr]; omega)
      · rw [LoopS_eq]
        simp -implicitDefEqProofs (disch := first | omega | assumption) only [go_sem, Nat.reduceBEq, Nat.reduceAdd, Nat.reduceSub, Nat.reduceMul, Nat.reduceLeDiff, Nat.reduceEqDiff, Nat.reduceLT, Int.reduceNeg, Int.reduceAdd, Int.reduceSub, Int.reduceMul, Int.reduceLE, Int.reduceLT, Int.reduceEq, Int.reduceToNat, reduceCtorEq, evL67x0, B67x0, hi, hx, IntWalk.i64_in, List.map_append, List.foldl_cons, evC_draw, evD67x0, E67x0, hx, hvx, run_truthB, Wr.cells, Row.v, len_wr, u8s_wr, u8s_len, hst, sm1, sm2, kw1, kw2, IntKind.wrap_u8, if_true, if_false, elemsOf, elemOf]
        skip
-- find67
theorem own_entryBytes (d : Nat) (e : Ent) (h : logOk [e] = true) : ∃ v hc ids, runD tab noExt (d + 9) 67 [.agg e.cells] [] = some ([v], hc) ∧ OwnF hc (.sub fdByte) v (.sub (byU (frB (bodyB e)))) ids ∧ ids.Nodup := by
  obtain ⟨h1, h2, h3⟩ := one_at h
  have hbl := body_len h
  obtain ⟨hl, hle, _⟩ := loop_ebI d e.time e.wc e.ws h3 h2 1099511627775 (by omega) [e.time, (e.ws.length : Int)] ⟨by simp, by simp⟩
  have hbe : bodyB e = e.ws.foldl (fun b w => b ++ wrBytes w) [e.time, (e.ws.length : Int)] := rfl
  rw [← hbe] at hl hle
  have hi0 : u8s [e.time, (e.ws.length : Int)] = [[.int .u8 e.time], [.int .u8 e.ws.length]] := rfl
  simp only [hi0, List.length_cons, List.length_nil, Int.natCast_zero] at hl
  obtain ⟨v1, hc, is0, q1, q2, q3⟩ := own_framed (d + 6) false (bodyB e) (by omega) (in_body h)
  have ht : List.take (bodyB e).length (u8s (bodyB e)) = u8s (bodyB e) := List.take_of_length_le (by rw [u8s_len]; omega)
  obtain ⟨w, hw, js, k1, k2, k3, k4, k5, k6⟩ := own_call (h := [.box [.int .i64 e.time, .sl e.wc 3 (e.ws.map Wr.cells)], .rows ((bodyB e).length - 2) 1 (u8s (bodyB e))]) (args := [.ref 1 ((bodyB e).length - 2) 0 (bodyB e).length false]) (by simp only [pureDAs, mapO, pureDA, pureD, deepest, List.getElem?_cons_succ, List.getElem?_cons_zero, if_true, List.drop_zero, ht]) q1 q2 q3
  refine ⟨w, hw, js, ?_, k2, k3⟩
  have kt : e.time % 256 = e.time := by omega
  have kl : (e.ws.length : Int) % 256 = e.ws.length := by omega
  rw [runD_eq find67 _ _ _ (by simp)]
  simp -implicitDefEqProofs (disch := omega) only [go_sem, Nat.reduceBEq, Nat.reduceAdd, Nat.reduceSub, Nat.reduceMul, Nat.reduceLeDiff, Nat.reduceEqDiff, Nat.reduceLT, Int.reduceNeg, Int.reduceAdd, Int.reduceSub, Int.reduceMul, Int.reduceLE, Int.reduceLT, Int.reduceEq, Int.reduceToNat, reduceCtorEq, Ent.cells, Ent.v, IntKind.wrap_u8, kt, kl, elemsOf, elemOf, frzs, refs, refC, refsV]
  try simp -implicitDefEqProofs only [go_sem, Nat.reduceBEq, Nat.reduceAdd, Nat.reduceSub, Nat.reduceMul, Nat.reduceLeDiff, Nat.reduceEqDiff, Nat.reduceLT, Int.reduceNeg, Int.reduceAdd, Int.reduceSub, Int.reduceMul, Int.reduceLE, Int.reduceLT, Int.reduceEq, Int.reduceToNat, reduceCtorEq] at hl
  rw [hl]
  rcases own_cases k2 with ⟨cx, rfl⟩ | ⟨id, st, m, clip, rfl⟩ <;> simp -implicitDefEqProofs (disch := first | omega | assumption) only [go_sem, Nat.reduceBEq, Nat.reduceAdd, Nat.reduceSub, Nat.reduceMul, Nat.reduceLeDiff, Nat.reduceEqDiff, Nat.reduceLT, Int.reduceNeg, Int.reduceAdd, Int.reduceSub, Int.reduceMul, Int.reduceLE, Int.reduceLT, Int.reduceEq, Int.reduceToNat, reduceCtorEq, k1, resOk]
def entBytes (e : Ent) : List Int := if logOk [e] then frB (bodyB e) else []
-- find18
theorem own_EntryBytes (d : Nat) (e : Ent) (h1 : LimE [e]) : ∃ v hc ids, runD tab noExt (d + 10) 18 [.agg e.cells] [] = some ([v], hc) ∧ OwnF hc (.sub fdByte) v (.sub (byU (entBytes e))) ids ∧ ids.Nodup := by
  obtain ⟨_, e2, e3⟩ := h1.fine
  have hv1 := run_logI d true [e] e3 e2
  simp only [List.map_cons, List.map_nil, Ent.cells, Ent.v] at hv1
  unfold entBytes
  cases o1 : logOk [e]
  · rw [o1] at hv1
    refine ⟨.sl true 1 [], [.box e.cells], [], ?_, own_nil rfl, List.nodup_nil⟩
    rw [runD_eq find18 _ _ _ (by simp)]
    simp -implicitDefEqProofs (disch := omega) only [go_sem, Nat.reduceBEq, Nat.reduceAdd, Nat.reduceSub, Nat.reduceMul, Nat.reduceLeDiff, Nat.reduceEqDiff, Nat.reduceLT, Int.reduceNeg, Int.reduceAdd, Int.reduceSub, Int.reduceMul, Int.reduceLE, Int.reduceLT, Int.reduceEq, Int.reduceToNat, reduceCtorEq, Ent.cells, Ent.v, elemsOf, elemOf, frzs, refs, refC, refsV, hv1]
  · rw [o1] at hv1
    obtain ⟨v1, hc, is0, q1, q2, q3⟩ := own_entryBytes d e o1
    obtain ⟨w, hw, js, k1, k2, k3, k4, k5, k6⟩ := own_call (h := [.box e.cells]) (args := [.agg e.cells]) (by simp only [pureDAs, mapO, pureDA, pureD, deepest, Ent.cells, Ent.v, Option.map_some]) q1 q2 q3
    refine ⟨w, hw, js, ?_, k2, k3⟩
    simp only [Ent.cells, Ent.v] at k1
    rw [runD_eq find18 _ _ _ (by simp)]
    rcases own_cases k2 with ⟨cx, rfl⟩ | ⟨id, st, m, clip, rfl⟩ <;> simp -implicitDefEqProofs (disch := first | omega | assumption) only [go_sem, Nat.reduceBEq, Nat.reduceAdd, Nat.reduceSub, Nat.reduceMul, Nat.reduceLeDiff, Nat.reduceEqDiff, Nat.reduceLT, Int.reduceNeg, Int.reduceAdd, Int.reduceSub, Int.reduceMul, Int.reduceLE, Int.reduceLT, Int.reduceEq, Int.reduceToNat, reduceCtorEq, Ent.cells, Ent.v, elemsOf, elemOf, frzs, refs, refC, refsV, hv1, k1, resOk]
theorem loop_ebS (d : Nat) (t : Int) (c : Bool) (ws : List Wr) (hw5 : ws.length ≤ 5) (hok : ∀ w ∈ ws, w.one = true) (K : Nat) (hK : (ws).length ≤ K) (b0 : List Int) (hb0 : (fun (i : Nat) (b : List Int) => 2 ≤ b.length ∧ b.length ≤ 2 + 35 * i) 0 b0) : LoopS (runD tab noExt (d + 4)) (drawI (runD tab noExt (d + 4))) [1, 3, 4] [3] L64x0 ([.box [.int .i64 t, .sl c 3 (ws.map Wr.cells)], .rows 0 1 [], .rows ((b0).length - 2) 1 (u8s (b0))] : Heap).length K [(1, .ptr 0 0 0 0), (3, .ref 2 ((b0).length - 2) 0 (b0).length false), (4, .int .i64 (0 : Nat))] [.box [.int .i64 t, .sl c 3 (ws.map Wr.cells)], .rows 0 1 [], .rows ((b0).length - 2) 1 (u8s (b0))] = (some (.exit 0, [(3, .ref 2 ((((ws).foldl (fun b w => b ++ wrBytes w) b0)).length - 2) 0 (((ws).foldl (fun b w => b ++ wrBytes w) b0)).length false)], [.box [.int .i64 t, .sl c 3 (ws.map Wr.cells)], .rows 0 1 [], .rows ((((ws).foldl (fun b w => b ++ wrBytes w) b0)).length - 2) 1 (u8s (((ws).foldl (fun b w => b ++ wrBytes w) b0)))]) : Out) ∧ (fun (i : Nat) (b : List Int) => 2 ≤ b.length ∧ b.length ≤ 2 + 35 * i) (ws).length ((ws).foldl (fun b w => b ++ wrBytes w) b0) := by
  have key := LoopS_foldI (run := (runD tab noExt (d + 4))) (draw := drawI (runD tab noExt (d + 4))) (live := [1, 3, 4]) (out := [3]) (c := L64x0) (n0 := ([.box [.int .i64 t, .sl c 3 (ws.map Wr.cells)], .rows 0 1 [], .rows ((b0).length - 2) 1 (u8s (b0))] : Heap).length) (ws) (fun b w => b ++ wrBytes w) (fun (i : Nat) (b : List Int) => 2 ≤ b.length ∧ b.length ≤ 2 + 35 * i) (fun (i : Nat) (b : List Int) => [(1, .ptr 0 0 0 0), (3, .ref 2 ((b).length - 2) 0 (b).length false), (4, .int .i64 (i : Nat))]) (fun (i : Nat) (b : List Int) => [.box [.int .i64 t, .sl c 3 (ws.map Wr.cells)], .rows 0 1 [], .rows ((b).length - 2) 1 (u8s (b))]) (fun b => (some (.exit 0, [(3, .ref 2 ((b).length - 2) 0 (b).length false)], [.box [.int .i64 t, .sl c 3 (ws.map Wr.cells)], .rows 0 1 [], .rows ((b).length - 2) 1 (u8s (b))]) : Out)) (fun b K hb => ?_) (fun (i : Nat) (x : Wr) b K hi hx hb => ?_) K hK b0 hb0
  · simp only [Int.natCast_zero] at key
    exact key
  · rw [LoopS_eq]
    simp -implicitDefEqProofs only [go_sem, Nat.reduceBEq, Nat.reduceAdd, Nat.reduceSub, Nat.reduceMul, Nat.reduceLeDiff, Nat.reduceEqDiff, Nat.reduceLT, Int.reduceNeg, Int.reduceAdd, Int.reduceSub, Int.reduceMul, Int.reduceLE, Int.reduceLT, Int.reduceEq, Int.reduceToNat, reduceCtorEq, evL64x0, B64x0, Int.lt_irrefl]
  · have hxo := hok x (List.mem_of_getElem? hx); obtain ⟨o1, o2, o3⟩ := wr_one hxo; have hxl := rbytes_len o3; have sm1 : b.length + 2 < 4294967296 := (by have := hb.2; omega); have sm2 : b.length + (2 + (rowBytes x.row.vs).length) < 4294967296 := (by have := hb.2; omega); have hst : b.length - 2 + (2 + (rowBytes x.row.vs).length) = b.length + (2 + (rowBytes x.row.vs).length) - 2 := (by have := hb.1; omega); have hvx := run_rbytesS d x.row.clip x.row.vs o3; have kw1 : x.key % 256 = x.key := (by omega); have kw2 : goneI x.gone % 256 = goneI x.gone := (by have := goneI_in x.gone; omega)
    all_goals
      refine ⟨?_, ?_⟩
      · (rw [len_wr]; omega)
      · rw [LoopS_eq]
        simp -implicitDefEqProofs (disch := first | omega | assumption) only [go_sem, Nat.reduceBEq, Nat.reduceAdd, Nat.reduceSub, Nat.reduceMul, Nat.reduceLeDiff, Nat.reduceEqDiff, Nat.reduceLT, Int.reduceNeg, Int.reduceAdd, Int.reduceSub, Int.reduceMul, Int.reduceLE, Int.reduceLT, Int.reduceEq, Int.reduceToNat, reduceCtorEq, evL64x0, B64x0, hi, hx, IntWalk.i64_in, List.map_append, List.foldl_cons, evC_draw, evD64x0, E64x0, hx, hvx, run_l2B, Wr.cells, Row.v, len_wr, u8s_wr, u8s_len, hst, sm1, sm2, kw1, kw2, IntKind.wrap_u8, if_true, if_false, elemsOf, elemOf]
        skip
-- find64
theorem run_bodyS (d : Nat) (e : Ent) (h : logOk [e] = true) : retP (runD tab noExt (d + 5)) 64 [.agg e.cells] = some [.sl false 1 (u8s (bodyB e))] := by
  obtain ⟨h1, h2, h3⟩ := one_at h
  have hbl := body_len h
  obtain ⟨hl, hle, _⟩ := loop_ebS d e.time e.wc e.ws h3 h2 1099511627775 (by omega) [e.time, (e.ws.length : Int)] ⟨by simp, by simp⟩
  have hbe : bodyB e = e.ws.foldl (fun b w => b ++ wrBytes w) [e.time, (e.ws.length : Int)] := rfl
  rw [← hbe] at hl hle
  have hi0 : u8s [e.time, (e.ws.length : Int)] = [[.int .u8 e.time], [.int .u8 e.ws.length]] := rfl
  simp only [hi0, List.length_cons, List.length_nil, Int.natCast_zero] at hl
  have ht : List.take (bodyB e).length (u8s (bodyB e)) = u8s (bodyB e) := List.take_of_length_le (by rw [u8s_len]; omega)
  have kt : e.time % 256 = e.time := by omega
  have kl : (e.ws.length : Int) % 256 = e.ws.length := by omega
  rw [retP, runD_eq find64 _ _ _ (by simp)]
  simp -implicitDefEqProofs (disch := omega) only [go_sem, Nat.reduceBEq, Nat.reduceAdd, Nat.reduceSub, Nat.reduceMul, Nat.reduceLeDiff, Nat.reduceEqDiff, Nat.reduceLT, Int.reduceNeg, Int.reduceAdd, Int.reduceSub, Int.reduceMul, Int.reduceLE, Int.reduceLT, Int.reduceEq, Int.reduceToNat, reduceCtorEq, Ent.cells, Ent.v, IntKind.wrap_u8, kt, kl, elemsOf, elemOf, frzs, refs, refC, refsV]
  try simp -implicitDefEqProofs only [go_sem, Nat.reduceBEq, Nat.reduceAdd, Nat.reduceSub, Nat.reduceMul, Nat.reduceLeDiff, Nat.reduceEqDiff, Nat.reduceLT, Int.reduceNeg, Int.reduceAdd, Int.reduceSub, Int.reduceMul, Int.reduceLE, Int.reduceLT, Int.reduceEq, Int.reduceToNat, reduceCtorEq] at hl
  rw [hl]
  simp -implicitDefEqProofs (disch := omega) only [go_sem, Nat.reduceBEq, Nat.reduceAdd, Nat.reduceSub, Nat.reduceMul, Nat.reduceLeDiff, Nat.reduceEqDiff, Nat.reduceLT, Int.reduceNeg, Int.reduceAdd, Int.reduceSub, Int.reduceMul, Int.reduceLE, Int.reduceLT, Int.reduceEq, Int.reduceToNat, reduceCtorEq, ht]
-- find16
theorem run_EntryBytesS (d : Nat) (e : Ent) (h1 : LimE [e]) : retP (runD tab noExt (d + 6)) 16 [.agg e.cells] = some [.sl false 1 (u8s (entBytes e))] := by
  obtain ⟨_, e2, e3⟩ := h1.fine
  have hv1 := run_logS d true [e] e3 e2
  simp only [List.map_cons, List.map_nil, Ent.cells, Ent.v] at hv1
  unfold entBytes
  cases o1 : logOk [e]
  · rw [o1] at hv1
    rw [retP, runD_eq find16 _ _ _ (by simp)]
    simp -implicitDefEqProofs (disch := omega) only [go_sem, Nat.reduceBEq, Nat.reduceAdd, Nat.reduceSub, Nat.reduceMul, Nat.reduceLeDiff, Nat.reduceEqDiff, Nat.reduceLT, Int.reduceNeg, Int.reduceAdd, Int.reduceSub, Int.reduceMul, Int.reduceLE, Int.reduceLT, Int.reduceEq, Int.reduceToNat, reduceCtorEq, Ent.cells, Ent.v, elemsOf, elemOf, frzs, refs, refC, refsV, hv1, u8s_nil, Bool.false_eq_true, if_false]
  · rw [o1] at hv1
    have hb := run_bodyS d e o1
    have hbl := body_len o1
    have hs := run_sumS (d + 4) false (bodyB e) (by omega) (in_body o1)
    simp only [Ent.cells, Ent.v] at hb
    have q1 : ((bodyB e).length : Int).tdiv 256 = (bodyB e).length / 256 := tdiv256 (by omega)
    have q2 : (((bodyB e).length : Int) / 256) % 256 = (bodyB e).length / 256 := mod_div (by omega)
    have q3 : ((bodyB e).length : Int).tmod 256 = (bodyB e).length % 256 := tmod256 (by omega)
    have cm : (2 + (bodyB e).length = (bodyB e).length + 2) = True := eq_true (by omega)
    have sm1 : 2 + (bodyB e).length < 4294967296 := by omega
    have sm2 : 2 + ((bodyB e).length + 1) < 4294967296 := by omega
    have ht : List.take (2 + ((bodyB e).length + 1)) (u8s (frB (bodyB e))) = u8s (frB (bodyB e)) := List.take_of_length_le (by rw [u8s_len]; simp [frB]; omega)
    rw [u8s_fr] at ht
    simp only [if_true, u8s_fr]
    rw [retP, runD_eq find16 _ _ _ (by simp)]
    simp -implicitDefEqProofs (disch := omega) only [go_sem, Nat.reduceBEq, Nat.reduceAdd, Nat.reduceSub, Nat.reduceMul, Nat.reduceLeDiff, Nat.reduceEqDiff, Nat.reduceLT, Int.reduceNeg, Int.reduceAdd, Int.reduceSub, Int.reduceMul, Int.reduceLE, Int.reduceLT, Int.reduceEq, Int.reduceToNat, reduceCtorEq, Ent.cells, Ent.v, hv1, hb, hs, u8s_len, IntKind.wrap_u8, IntWalk.i64_in, mod_mod, q1, q2, q3, cm, sm1, sm2, ht, elemsOf, elemOf, frzs, refs, refC, refsV]
end Go.Proofs.Yteaojpfofifmnaa.PE
/- Values read out of bytes: the reference. -/
set_option linter.unusedSimpArgs false
set_option linter.unusedVariables false
set_option maxHeartbeats 8000000
set_option maxRecDepth 20000
namespace Go.Proofs.Yteaojpfofifmnaa.PE
open Go.RowKit

-- find145
theorem es : (⟨#[]⟩ : ByteArray).size < 1099511627776 := by decide
-- find154
end Go.Proofs.Yteaojpfofifmnaa.PE
/- Rows read out of bytes: both functions. -/
set_option linter.unusedSimpArgs false
set_option linter.unusedVariables false
set_option maxHeartbeats 8000000
set_option maxRecDepth 20000
namespace Go.Proofs.Yteaojpfofifmnaa.PE
open Go.RowKit

def vsFrom : Nat → List UInt8 → Option (List Val × Nat)
  | 0, _ => some ([], 0)
  | m + 1, b => if (vFrom b).2 = 0 then none else match vsFrom m (b.drop (vFrom b).2) with
    | none => none
    | some (vs, n) => some ((vFrom b).1 :: vs, (vFrom b).2 + n)
def rFrom : List UInt8 → List Val × Nat
  | [] => ([], 0)
  | k :: r => if 4 < k.toNat then ([], 0) else match vsFrom k.toNat r with
    | none => ([], 0)
    | some (vs, n) => (vs, 1 + n)
theorem vChk_le {v : Val} {n m : Nat} (h : n ≤ m) : (vChk v n).2 ≤ m := by
  unfold vChk
  split
  · exact h
  · exact Nat.zero_le _
theorem vFrom_le : ∀ (b : List UInt8), (vFrom b).2 ≤ b.length
  | [] => Nat.le_refl _
  | [k] => by
    simp only [vFrom, List.length_cons, List.length_nil]
    split <;> simp
  | k :: x :: r => by
    simp only [vFrom, List.length_cons]
    by_cases k0 : k.toNat = 0
    · rw [if_pos k0]; simp
    rw [if_neg k0]
    by_cases k1 : k.toNat = 1
    · rw [if_pos k1]
      match r with
      | [] => simp
      | y :: r => exact vChk_le (by simp only [List.length_cons]; omega)
    rw [if_neg k1]
    by_cases k2 : k.toNat = 2
    · rw [if_pos k2]
      by_cases h : x.toNat ≤ r.length
      · rw [if_pos h]; exact vChk_le (by omega)
      · rw [if_neg h]; simp
    rw [if_neg k2]
    by_cases k3 : k.toNat = 3
    · rw [if_pos k3]; exact vChk_le (by omega)
    · rw [if_neg k3]; simp
-- find31
theorem loop_rfI (d : Nat) (c : Bool) (b : List UInt8) (hb : b.length < 1099511627776) (kk : Nat) (hk : kk ≤ 4) : ∀ (m i p : Nat) (row : List Val), i + m = kk → p ≤ b.length → row.length = i → ∀ K, m ≤ K →
    match vsFrom m (b.drop p) with
    | none => ∃ (p' : Nat) (row' : List Val), LoopS (runD tab noExt (d + 5)) (drawI (runD tab noExt (d + 5))) [0, 4, 5, 20, 21] [2, 3, 4, 5] L31x0 1 K [(0, .sl c 1 (cellsOfBytes b)), (4, .int .i64 p), (5, .ref 0 i 0 i false), (20, .int .i64 kk), (21, .int .i64 i)] [.rows i 3 (row.map Val.cells)] = some (.ret, [(2, .sl true 3 []), (3, .int .i64 0), (4, .int .i64 p'), (5, .ref 0 row'.length 0 row'.length false)], [.rows row'.length 3 (row'.map Val.cells)])
    | some (vs, n) => LoopS (runD tab noExt (d + 5)) (drawI (runD tab noExt (d + 5))) [0, 4, 5, 20, 21] [2, 3, 4, 5] L31x0 1 K [(0, .sl c 1 (cellsOfBytes b)), (4, .int .i64 p), (5, .ref 0 i 0 i false), (20, .int .i64 kk), (21, .int .i64 i)] [.rows i 3 (row.map Val.cells)] = some (.exit 0, [(2, .undef), (3, .undef), (4, .int .i64 (p + n : Nat)), (5, .ref 0 kk 0 kk false)], [.rows kk 3 ((row ++ vs).map Val.cells)])
  | 0, i, p, row, hi, hp, hr, K, hK => by
    have e : i = kk := by omega
    subst e
    simp only [vsFrom]
    rw [LoopS_eq]
    simp -implicitDefEqProofs only [go_sem, Nat.reduceBEq, Nat.reduceAdd, Nat.reduceSub, Nat.reduceMul, Nat.reduceLeDiff, Nat.reduceEqDiff, Nat.reduceLT, Int.reduceNeg, Int.reduceAdd, Int.reduceSub, Int.reduceMul, Int.reduceLE, Int.reduceLT, Int.reduceEq, Int.reduceToNat, reduceCtorEq, evL31x0, B31x0, Int.lt_irrefl, List.append_nil, Nat.add_zero]
  | m + 1, i, p, row, hi, hp, hr, K, hK => by
    obtain ⟨K, rfl⟩ : ∃ k', K = k' + 1 := ⟨K - 1, by omega⟩
    have hlt : (i : Int) < kk := by omega
    have hpl : (p : Int) ≤ b.length := by omega
    have hv := run_vFromI (d + 1) c (b.drop p) (by rw [List.length_drop]; omega)
    have htk : List.take (b.length - p) (b.drop p) = b.drop p := List.take_of_length_le (by simp)
    simp only [Val.cells] at hv
    have hle := vFrom_le (b.drop p)
    rw [List.length_drop] at hle
    simp only [vsFrom]
    by_cases h0 : (vFrom (b.drop p)).2 = 0
    · have h0' : ((vFrom (b.drop p)).2 : Int) = 0 := by omega
      rw [if_pos h0]
      refine ⟨p, row, ?_⟩
      rw [LoopS_eq]
      simp -implicitDefEqProofs (disch := omega) only [go_sem, Nat.reduceBEq, Nat.reduceAdd, Nat.reduceSub, Nat.reduceMul, Nat.reduceLeDiff, Nat.reduceEqDiff, Nat.reduceLT, Int.reduceNeg, Int.reduceAdd, Int.reduceSub, Int.reduceMul, Int.reduceLE, Int.reduceLT, Int.reduceEq, Int.reduceToNat, reduceCtorEq, evL31x0, B31x0, hlt, hpl, cob_drop, cob_len, cob_take, htk, hv, h0', hr, Val.cells]
    · have h0' : (((vFrom (b.drop p)).2 : Int) = 0) = False := eq_false (by omega)
      rw [if_neg h0]
      have ih := loop_rfI d c b hb kk hk m (i + 1) (p + (vFrom (b.drop p)).2) (row ++ [(vFrom (b.drop p)).1]) (by omega) (by omega) (by simp [hr]) K (by omega)
      rw [← List.drop_drop] at ih
      have hsm : i + 1 < 4294967296 := by omega
      revert ih
      generalize vsFrom m (List.drop (vFrom (b.drop p)).2 (b.drop p)) = R
      intro ih
      have step : LoopS (runD tab noExt (d + 5)) (drawI (runD tab noExt (d + 5))) [0, 4, 5, 20, 21] [2, 3, 4, 5] L31x0 1 (K + 1) [(0, .sl c 1 (cellsOfBytes b)), (4, .int .i64 p), (5, .ref 0 i 0 i false), (20, .int .i64 kk), (21, .int .i64 i)] [.rows i 3 (row.map Val.cells)] = LoopS (runD tab noExt (d + 5)) (drawI (runD tab noExt (d + 5))) [0, 4, 5, 20, 21] [2, 3, 4, 5] L31x0 1 K [(0, .sl c 1 (cellsOfBytes b)), (4, .int .i64 (p + (vFrom (b.drop p)).2 : Nat)), (5, .ref 0 (i + 1) 0 (i + 1) false), (20, .int .i64 kk), (21, .int .i64 (i + 1 : Nat))] [.rows (i + 1) 3 ((row ++ [(vFrom (b.drop p)).1]).map Val.cells)] := by
        rw [LoopS_eq]
        simp -implicitDefEqProofs (disch := omega) only [go_sem, Nat.reduceBEq, Nat.reduceAdd, Nat.reduceSub, Nat.reduceMul, Nat.reduceLeDiff, Nat.reduceEqDiff, Nat.reduceLT, Int.reduceNeg, Int.reduceAdd, Int.reduceSub, Int.reduceMul, Int.reduceLE, Int.reduceLT, Int.reduceEq, Int.reduceToNat, reduceCtorEq, evL31x0, B31x0, hlt, hpl, cob_drop, cob_len, cob_take, htk, hv, h0', hr, hsm, Val.cells, List.map_append, IntWalk.i64_in, elemsOf, elemOf]
      rw [step]
      cases R with
      | none => exact ih
      | some q => simpa only [List.append_assoc, List.singleton_append, Nat.add_assoc] using ih
end Go.Proofs.Yteaojpfofifmnaa.PE
/- Rows read out of bytes: the reference's loop. -/
set_option linter.unusedSimpArgs false
set_option linter.unusedVariables false
set_option maxHeartbeats 8000000
set_option maxRecDepth 20000
namespace Go.Proofs.Yteaojpfofifmnaa.PE
open Go.RowKit

-- find132
end Go.Proofs.Yteaojpfofifmnaa.PE
/- Rows read out of bytes: both functions. -/
set_option linter.unusedSimpArgs false
set_option linter.unusedVariables false
set_option maxHeartbeats 8000000
set_option maxRecDepth 20000
namespace Go.Proofs.Yteaojpfofifmnaa.PE
open Go.RowKit

theorem vsFrom_len : ∀ (m : Nat) (b : List UInt8) {vs : List Val} {n : Nat}, vsFrom m b = some (vs, n) → vs.length = m := by
  intro m
  induction m with
  | zero => intro b vs n h; simp only [vsFrom, Option.some.injEq, Prod.mk.injEq] at h; rw [← h.1]; rfl
  | succ m ih =>
    intro b vs n h
    simp only [vsFrom] at h
    split at h
    · cases h
    · split at h
      · cases h
      · rename_i h2
        simp only [Option.some.injEq, Prod.mk.injEq] at h
        rw [← h.1, List.length_cons, ih _ h2]
theorem vsFrom_le : ∀ (m : Nat) (b : List UInt8) {vs : List Val} {n : Nat}, vsFrom m b = some (vs, n) → n ≤ b.length := by
  intro m
  induction m with
  | zero => intro b vs n h; simp only [vsFrom, Option.some.injEq, Prod.mk.injEq] at h; omega
  | succ m ih =>
    intro b vs n h
    simp only [vsFrom] at h
    split at h
    · cases h
    · split at h
      · cases h
      · rename_i h2
        simp only [Option.some.injEq, Prod.mk.injEq] at h
        have h3 := ih _ h2
        have h4 := vFrom_le b
        rw [List.length_drop] at h3
        omega
theorem rFrom_eq {k : UInt8} {r : List UInt8} (h4 : ¬ 4 < k.toNat) : rFrom (k :: r) = match vsFrom k.toNat r with | none => ([], 0) | some (vs, n) => (vs, 1 + n) := by rw [rFrom, if_neg h4]; try (cases vsFrom k.toNat r <;> rfl)
theorem rFrom_le (b : List UInt8) : (rFrom b).2 ≤ b.length := by
  match b with
  | [] => exact Nat.le_refl _
  | k :: r =>
    by_cases h4 : 4 < k.toNat
    · rw [rFrom, if_pos h4]; simp
    · rw [rFrom_eq h4]
      cases h : vsFrom k.toNat r with
      | none => simp
      | some q =>
        have := vsFrom_le _ _ h
        simp only [List.length_cons]
        omega
-- find132
theorem own_rowFrom (d : Nat) (c : Bool) (b : List UInt8) (hb : b.length < 1099511627776) : ∃ v hc ids, runD tab noExt (d + 6) 31 [.sl c 1 (cellsOfBytes b)] [] = some ([v, .int .i64 (rFrom b).2], hc) ∧ OwnF hc (.sub fdValue) v (.sub ((rFrom b).1.map valU)) ids ∧ ids.Nodup := by
  match b, hb with
  | [], _ =>
    refine ⟨.sl true 3 [], [], [], ?_, own_nil rfl, List.nodup_nil⟩
    rw [runD_eq find31 _ _ _ (by simp)]
    simp -implicitDefEqProofs (disch := omega) only [go_sem, Nat.reduceBEq, Nat.reduceAdd, Nat.reduceSub, Nat.reduceMul, Nat.reduceLeDiff, Nat.reduceEqDiff, Nat.reduceLT, Int.reduceNeg, Int.reduceAdd, Int.reduceSub, Int.reduceMul, Int.reduceLE, Int.reduceLT, Int.reduceEq, Int.reduceToNat, reduceCtorEq, cob_nil, rFrom]
  | k :: r, hb =>
    have hk := k.toNat_lt
    have l0 : ((r.length : Int) + 1 = 0) = False := eq_false (by omega)
    by_cases h4 : 4 < k.toNat
    · have h4' : (4 : Int) < k.toNat := by omega
      have e : rFrom (k :: r) = ([], 0) := by rw [rFrom, if_pos h4]
      rw [e]
      refine ⟨.sl true 3 [], [], [], ?_, own_nil rfl, List.nodup_nil⟩
      rw [runD_eq find31 _ _ _ (by simp)]
      simp -implicitDefEqProofs (disch := omega) only [go_sem, Nat.reduceBEq, Nat.reduceAdd, Nat.reduceSub, Nat.reduceMul, Nat.reduceLeDiff, Nat.reduceEqDiff, Nat.reduceLT, Int.reduceNeg, Int.reduceAdd, Int.reduceSub, Int.reduceMul, Int.reduceLE, Int.reduceLT, Int.reduceEq, Int.reduceToNat, reduceCtorEq, l0, cob_cons, cob_len, IntWalk.i64_in, h4']
    · have h4' : ((4 : Int) < k.toNat) = False := eq_false (by omega)
      have hl := loop_rfI d c (k :: r) hb k.toNat (by omega) k.toNat 0 1 [] (by omega) (by simp) rfl 1099511627775 (by omega)
      simp only [List.drop_succ_cons, List.drop_zero, List.map_nil, List.nil_append, Int.natCast_zero, Int.natCast_one, cob_cons] at hl
      rw [rFrom_eq h4]
      revert hl
      generalize hR : vsFrom k.toNat r = R
      intro hl
      cases R with
      | none =>
        obtain ⟨p', row', hl⟩ := hl
        refine ⟨.sl true 3 [], [.rows row'.length 3 (row'.map Val.cells)], [], ?_, own_nil rfl, List.nodup_nil⟩
        rw [runD_eq find31 _ _ _ (by simp)]
        simp -implicitDefEqProofs (disch := omega) only [go_sem, Nat.reduceBEq, Nat.reduceAdd, Nat.reduceSub, Nat.reduceMul, Nat.reduceLeDiff, Nat.reduceEqDiff, Nat.reduceLT, Int.reduceNeg, Int.reduceAdd, Int.reduceSub, Int.reduceMul, Int.reduceLE, Int.reduceLT, Int.reduceEq, Int.reduceToNat, reduceCtorEq, l0, cob_cons, cob_len, IntWalk.i64_in, h4']
        try simp only at hl
        try simp -implicitDefEqProofs only [go_sem, Nat.reduceBEq, Nat.reduceAdd, Nat.reduceSub, Nat.reduceMul, Nat.reduceLeDiff, Nat.reduceEqDiff, Nat.reduceLT, Int.reduceNeg, Int.reduceAdd, Int.reduceSub, Int.reduceMul, Int.reduceLE, Int.reduceLT, Int.reduceEq, Int.reduceToNat, reduceCtorEq] at hl
        rw [hl]
        simp -implicitDefEqProofs (disch := omega) only [go_sem, Nat.reduceBEq, Nat.reduceAdd, Nat.reduceSub, Nat.reduceMul, Nat.reduceLeDiff, Nat.reduceEqDiff, Nat.reduceLT, Int.reduceNeg, Int.reduceAdd, Int.reduceSub, Int.reduceMul, Int.reduceLE, Int.reduceLT, Int.reduceEq, Int.reduceToNat, reduceCtorEq]
      | some q =>
        obtain ⟨vs, n⟩ := q
        have hlen := vsFrom_len _ _ hR
        have ht : List.take k.toNat (vs.map Val.cells) = vs.map Val.cells := List.take_of_length_le (by rw [List.length_map]; omega)
        obtain ⟨v1, hc, is0, q1, q2, q3⟩ := own_cloneVal (d + 3) false vs (by omega)
        obtain ⟨w, hw, js, k1, k2, k3, k4, k5, k6⟩ := own_call (h := [.rows k.toNat 3 (vs.map Val.cells)]) (args := [.ref 0 k.toNat 0 k.toNat false]) (by simp only [pureDAs, mapO, pureDA, pureD, deepest, List.getElem?_cons_zero, if_true, List.drop_zero, ht]) q1 q2 q3
        refine ⟨w, hw, js, ?_, k2, k3⟩
        rw [runD_eq find31 _ _ _ (by simp)]
        simp -implicitDefEqProofs (disch := omega) only [go_sem, Nat.reduceBEq, Nat.reduceAdd, Nat.reduceSub, Nat.reduceMul, Nat.reduceLeDiff, Nat.reduceEqDiff, Nat.reduceLT, Int.reduceNeg, Int.reduceAdd, Int.reduceSub, Int.reduceMul, Int.reduceLE, Int.reduceLT, Int.reduceEq, Int.reduceToNat, reduceCtorEq, l0, cob_cons, cob_len, IntWalk.i64_in, h4']
        try simp only at hl
        try simp -implicitDefEqProofs only [go_sem, Nat.reduceBEq, Nat.reduceAdd, Nat.reduceSub, Nat.reduceMul, Nat.reduceLeDiff, Nat.reduceEqDiff, Nat.reduceLT, Int.reduceNeg, Int.reduceAdd, Int.reduceSub, Int.reduceMul, Int.reduceLE, Int.reduceLT, Int.reduceEq, Int.reduceToNat, reduceCtorEq] at hl
        rw [hl]
        rcases own_cases k2 with ⟨cx, rfl⟩ | ⟨id, st, m, clip, rfl⟩ <;> simp -implicitDefEqProofs (disch := first | omega | assumption) only [go_sem, Nat.reduceBEq, Nat.reduceAdd, Nat.reduceSub, Nat.reduceMul, Nat.reduceLeDiff, Nat.reduceEqDiff, Nat.reduceLT, Int.reduceNeg, Int.reduceAdd, Int.reduceSub, Int.reduceMul, Int.reduceLE, Int.reduceLT, Int.reduceEq, Int.reduceToNat, reduceCtorEq, k1, resOk]
end Go.Proofs.Yteaojpfofifmnaa.PE
/- Frames read: the body of bytes. -/
set_option linter.unusedSimpArgs false
set_option linter.unusedVariables false
set_option maxHeartbeats 8000000
set_option maxRecDepth 20000
namespace Go.Proofs.Yteaojpfofifmnaa.PE
open Go.RowKit

def toI (l : List UInt8) : List Int := l.map fun b => (b.toNat : Int)
theorem cob_u8s (l : List UInt8) : cellsOfBytes l = u8s (toI l) := by simp [cellsOfBytes, u8s, toI]
theorem toI_len (l : List UInt8) : (toI l).length = l.length := List.length_map _
theorem toI_in (l : List UInt8) : ∀ x ∈ toI l, 0 ≤ x ∧ x < 256 := by
  intro x hx
  obtain ⟨b, _, rfl⟩ := List.mem_map.1 hx
  have := b.toNat_lt
  omega
def sumC (l : List UInt8) : Int := sumB (toI l)
theorem run_sumIC (d : Nat) (c : Bool) (l : List UInt8) (hl : l.length < 65536) : retP (runD tab noExt (d + 1)) 120 [.sl c 1 (cellsOfBytes l)] = some [.int .u8 (sumC l)] := by
  rw [cob_u8s]
  exact run_sumI d c (toI l) (by rw [toI_len]; exact hl) (toI_in l)
/-- The body that bytes begin with: how many bytes it has and what they are. -/
def unF : List UInt8 → Option (List UInt8 × Nat)
  | x :: y :: r => if r.length < 256 * x.toNat + y.toNat + 1 then none else if sumC (r.take (256 * x.toNat + y.toNat)) = ((r.getD (256 * x.toNat + y.toNat) 0).toNat : Int) then some (r.take (256 * x.toNat + y.toNat), 256 * x.toNat + y.toNat + 3) else none
  | _ => none
-- find75
theorem run_unframed (d : Nat) (c : Bool) (b : List UInt8) (hb : b.length < 1099511627776) : ∃ c', retP (runD tab noExt (d + 2)) 75 [.sl c 1 (cellsOfBytes b)] = some (match unF b with | none => [.sl true 1 [], .int .i64 0] | some (l, n) => [.sl c' 1 (cellsOfBytes l), .int .i64 n]) := by
  match b, hb with
  | [], _ =>
    refine ⟨true, ?_⟩
    rw [retP, runD_eq find75 _ _ _ (by simp)]
    simp -implicitDefEqProofs (disch := omega) only [go_sem, Nat.reduceBEq, Nat.reduceAdd, Nat.reduceSub, Nat.reduceMul, Nat.reduceLeDiff, Nat.reduceEqDiff, Nat.reduceLT, Int.reduceNeg, Int.reduceAdd, Int.reduceSub, Int.reduceMul, Int.reduceLE, Int.reduceLT, Int.reduceEq, Int.reduceToNat, reduceCtorEq, cob_nil, unF]
  | [x], _ =>
    refine ⟨true, ?_⟩
    rw [retP, runD_eq find75 _ _ _ (by simp)]
    simp -implicitDefEqProofs (disch := omega) only [go_sem, Nat.reduceBEq, Nat.reduceAdd, Nat.reduceSub, Nat.reduceMul, Nat.reduceLeDiff, Nat.reduceEqDiff, Nat.reduceLT, Int.reduceNeg, Int.reduceAdd, Int.reduceSub, Int.reduceMul, Int.reduceLE, Int.reduceLT, Int.reduceEq, Int.reduceToNat, reduceCtorEq, cob_cons, cob_nil, unF]
  | x :: y :: r, hb =>
    have hx := x.toNat_lt
    have hy := y.toNat_lt
    have hn : (x.toNat : Int) * 256 + y.toNat = (256 * x.toNat + y.toNat : Nat) := by omega
    by_cases h3 : (r.length : Int) + 2 < 3
    · refine ⟨true, ?_⟩
      rw [unF, if_pos (by omega)]
      rw [retP, runD_eq find75 _ _ _ (by simp)]
      simp -implicitDefEqProofs (disch := omega) only [go_sem, Nat.reduceBEq, Nat.reduceAdd, Nat.reduceSub, Nat.reduceMul, Nat.reduceLeDiff, Nat.reduceEqDiff, Nat.reduceLT, Int.reduceNeg, Int.reduceAdd, Int.reduceSub, Int.reduceMul, Int.reduceLE, Int.reduceLT, Int.reduceEq, Int.reduceToNat, reduceCtorEq, cob_cons, cob_len, h3]
    · have h3' := eq_false h3
      generalize hN : 256 * x.toNat + y.toNat = n at hn
      have hn6 : n < 65536 := by omega
      by_cases h4 : r.length < n + 1
      · have h4' : (r.length : Int) + 2 < (n : Int) + 3 := by omega
        refine ⟨true, ?_⟩
        rw [unF, hN, if_pos h4]
        rw [retP, runD_eq find75 _ _ _ (by simp)]
        simp -implicitDefEqProofs (disch := omega) only [go_sem, Nat.reduceBEq, Nat.reduceAdd, Nat.reduceSub, Nat.reduceMul, Nat.reduceLeDiff, Nat.reduceEqDiff, Nat.reduceLT, Int.reduceNeg, Int.reduceAdd, Int.reduceSub, Int.reduceMul, Int.reduceLE, Int.reduceLT, Int.reduceEq, Int.reduceToNat, reduceCtorEq, evC_draw, evD75x0, E75x0, evC_draw, evD75x1, E75x1, cob_cons, cob_len, IntWalk.i64_in, pow8', hn, h3', h4']
      · have h4' : ((r.length : Int) + 2 < (n : Int) + 3) = False := eq_false (by omega)
        have hs : ∀ c, retP (runD tab noExt (d + 1)) 120 [.sl c 1 (cellsOfBytes (r.take n))] = some [.int .u8 (sumC (r.take n))] := fun c => run_sumIC d c (r.take n) (by rw [List.length_take]; omega)
        have hx1 : (cellsOfBytes r)[n]? = some [.int .u8 (r.getD n 0).toNat] := by
          rw [List.getD_eq_getElem?_getD, List.getElem?_eq_getElem (show n < r.length by omega)]
          exact ofBytes_at (List.getElem?_eq_getElem (by omega))
        have f1 : (0 ≤ (n : Int) + 2 ∧ (n : Int) + 2 ≤ (r.length : Int) + 2) = True := eq_true (by omega)
        have f2 : ((2 : Int) ≤ (n : Int) + 2) = True := eq_true (by omega)
        have f3 : ((n : Int) + 2).toNat - 2 = n := by omega
        have f4 : ((n : Int) + 2).toNat = n + 2 := by omega
        have f5 : (0 ≤ (n : Int) + 2 ∧ (n : Int) + 2 < (r.length : Int) + 2) = True := eq_true (by omega)
        have f6 : ((n : Int) + 2 ≤ (r.length : Int) + 2) = True := eq_true (by omega)
        have f7 : ((n : Int) + 2 < (r.length : Int) + 2) = True := eq_true (by omega)
        have f8 : (0 ≤ (n : Int) + 2) = True := eq_true (by omega)
        have e : unF (x :: y :: r) = if sumC (r.take n) = ((r.getD n 0).toNat : Int) then some (r.take n, n + 3) else none := by rw [unF, hN, if_neg h4]
        rw [e]
        by_cases hq : sumC (r.take n) = ((r.getD n 0).toNat : Int)
        · refine ⟨c && decide ((n : Int) + 2 = r.length + 2), ?_⟩
          rw [if_pos hq, retP, runD_eq find75 _ _ _ (by simp)]
          simp -implicitDefEqProofs (disch := omega) only [go_sem, Nat.reduceBEq, Nat.reduceAdd, Nat.reduceSub, Nat.reduceMul, Nat.reduceLeDiff, Nat.reduceEqDiff, Nat.reduceLT, Int.reduceNeg, Int.reduceAdd, Int.reduceSub, Int.reduceMul, Int.reduceLE, Int.reduceLT, Int.reduceEq, Int.reduceToNat, reduceCtorEq, evC_draw, evD75x0, E75x0, evC_draw, evD75x1, E75x1, cob_cons, cob_len, cob_take, cob_drop, IntWalk.i64_in, pow8', hn, h3', h4', hs, hx1, f1, f2, f3, f4, f5, f6, f7, f8, Nat.add_sub_cancel, hq]
        · refine ⟨true, ?_⟩
          have hq' : (sumC (r.take n) = ((r.getD n 0).toNat : Int)) = False := eq_false hq
          rw [if_neg hq, retP, runD_eq find75 _ _ _ (by simp)]
          simp -implicitDefEqProofs (disch := omega) only [go_sem, Nat.reduceBEq, Nat.reduceAdd, Nat.reduceSub, Nat.reduceMul, Nat.reduceLeDiff, Nat.reduceEqDiff, Nat.reduceLT, Int.reduceNeg, Int.reduceAdd, Int.reduceSub, Int.reduceMul, Int.reduceLE, Int.reduceLT, Int.reduceEq, Int.reduceToNat, reduceCtorEq, evC_draw, evD75x0, E75x0, evC_draw, evD75x1, E75x1, cob_cons, cob_len, cob_take, cob_drop, IntWalk.i64_in, pow8', hn, h3', h4', hs, hx1, f1, f2, f3, f4, f5, f6, f7, f8, Nat.add_sub_cancel, hq']
end Go.Proofs.Yteaojpfofifmnaa.PE
/- What is read is written back as the bytes that it took. -/
set_option linter.unusedSimpArgs false
set_option linter.unusedVariables false
namespace Go.Proofs.Yteaojpfofifmnaa.PE
open Go.RowKit

theorem toI_cons (k : UInt8) (r : List UInt8) : toI (k :: r) = (k.toNat : Int) :: toI r := rfl
theorem vChk_some {v : Val} {n : Nat} (h : (vChk v n).2 ≠ 0) : v.ok = true ∧ vChk v n = (v, n) := by
  unfold vChk at h ⊢
  split at h
  · rename_i ho; rw [if_pos ho]; exact ⟨ho, rfl⟩
  · exact absurd rfl h
theorem zero_ok : Val.zero.ok = true := by decide
theorem vFrom_bytes : ∀ (b : List UInt8), (vFrom b).2 ≠ 0 → (vFrom b).1.ok = true ∧ toI (b.take (vFrom b).2) = (vFrom b).1.bytes
  | [], h => absurd rfl h
  | [k], h => by
    simp only [vFrom] at h ⊢
    by_cases k0 : k.toNat = 0
    · rw [if_pos k0]
      refine ⟨zero_ok, ?_⟩
      show [(k.toNat : Int)] = [0]
      rw [k0]; rfl
    · rw [if_neg k0] at h; exact absurd rfl h
  | k :: x :: r, h => by
    simp only [vFrom] at h ⊢
    by_cases k0 : k.toNat = 0
    · rw [if_pos k0]
      refine ⟨zero_ok, ?_⟩
      show [(k.toNat : Int)] = [0]
      rw [k0]; rfl
    rw [if_neg k0] at h ⊢
    by_cases k1 : k.toNat = 1
    · rw [if_pos k1] at h ⊢
      match r, h with
      | [], h => exact absurd rfl h
      | y :: r, h =>
        simp only at h ⊢
        obtain ⟨h1, h2⟩ := vChk_some h
        have hx := x.toNat_lt
        have hy := y.toNat_lt
        rw [h2]
        refine ⟨h1, ?_⟩
        show [(k.toNat : Int), x.toNat, y.toNat] = [1, ((x.toNat : Int) * 256 + y.toNat - 10000 + 10000) / 256, ((x.toNat : Int) * 256 + y.toNat - 10000 + 10000) % 256]
        have e1 : ((x.toNat : Int) * 256 + y.toNat - 10000 + 10000) / 256 = x.toNat := by omega
        have e2 : ((x.toNat : Int) * 256 + y.toNat - 10000 + 10000) % 256 = y.toNat := by omega
        rw [e1, e2, k1]; rfl
    rw [if_neg k1] at h ⊢
    by_cases k2 : k.toNat = 2
    · rw [if_pos k2] at h ⊢
      by_cases hxr : x.toNat ≤ r.length
      · rw [if_pos hxr] at h ⊢
        obtain ⟨h1, h2⟩ := vChk_some h
        rw [h2]
        refine ⟨h1, ?_⟩
        show toI ((k :: x :: r).take (2 + x.toNat)) = 2 :: ((toS (r.take x.toNat)).size : Int) :: strB (toS (r.take x.toNat))
        have e : (k :: x :: r).take (2 + x.toNat) = k :: x :: r.take x.toNat := by rw [Nat.add_comm]; rfl
        rw [e, toI_cons, toI_cons, toS_size, k2, List.length_take, Nat.min_eq_left hxr]
        rfl
      · rw [if_neg hxr] at h; exact absurd rfl h
    rw [if_neg k2] at h ⊢
    by_cases k3 : k.toNat = 3
    · rw [if_pos k3] at h ⊢
      obtain ⟨h1, h2⟩ := vChk_some h
      rw [h2]
      refine ⟨h1, ?_⟩
      show [(k.toNat : Int), (x.toNat : Int)] = [3, (x.toNat : Int)]
      rw [k3]; rfl
    · rw [if_neg k3] at h; exact absurd rfl h
theorem toI_app (a b : List UInt8) : toI (a ++ b) = toI a ++ toI b := List.map_append
theorem take_add' {α : Type} (l : List α) (n m : Nat) : l.take (n + m) = l.take n ++ (l.drop n).take m := List.take_add
theorem vsFrom_bytes : ∀ (m : Nat) (b : List UInt8) {vs : List Val} {n : Nat}, vsFrom m b = some (vs, n) → (∀ v ∈ vs, v.ok = true) ∧ toI (b.take n) = vs.flatMap Val.bytes
  | 0, b, vs, n, h => by
    simp only [vsFrom, Option.some.injEq, Prod.mk.injEq] at h
    obtain ⟨rfl, rfl⟩ := h
    exact ⟨(fun v hv => by cases hv), rfl⟩
  | m + 1, b, vs, n, h => by
    simp only [vsFrom] at h
    split at h
    · cases h
    · rename_i h0
      split at h
      · cases h
      · rename_i vs' n' h2
        simp only [Option.some.injEq, Prod.mk.injEq] at h
        obtain ⟨rfl, rfl⟩ := h
        obtain ⟨g1, g2⟩ := vFrom_bytes b h0
        obtain ⟨g3, g4⟩ := vsFrom_bytes m _ h2
        refine ⟨fun v hv => ?_, ?_⟩
        · rcases List.mem_cons.1 hv with rfl | hv
          · exact g1
          · exact g3 v hv
        · rw [take_add', toI_app, g2, g4, List.flatMap_cons]
theorem rFrom_bytes (b : List UInt8) (h : (rFrom b).2 ≠ 0) : rowOk (rFrom b).1 = true ∧ toI (b.take (rFrom b).2) = rowBytes (rFrom b).1 := by
  match b, h with
  | [], h => exact absurd rfl h
  | k :: r, h =>
    by_cases h4 : 4 < k.toNat
    · rw [rFrom, if_pos h4] at h; exact absurd rfl h
    · rw [rFrom_eq h4] at h ⊢
      cases hv : vsFrom k.toNat r with
      | none => rw [hv] at h; exact absurd rfl h
      | some q =>
        obtain ⟨vs, n⟩ := q
        obtain ⟨g1, g2⟩ := vsFrom_bytes _ _ hv
        have hl := vsFrom_len _ _ hv
        simp only
        refine ⟨?_, ?_⟩
        · simp only [rowOk, Bool.and_eq_true, List.all_eq_true, decide_eq_true_eq]
          exact ⟨g1, by omega⟩
        · have e : (k :: r).take (1 + n) = k :: r.take n := by rw [Nat.add_comm]; rfl
          rw [e, toI_cons, g2, rowBytes_eq, hl]
end Go.Proofs.Yteaojpfofifmnaa.PE
/- Writes read out of bytes: with the check of the sign (the reference) and without (the program), which writes back and compares. -/
set_option linter.unusedSimpArgs false
set_option linter.unusedVariables false
namespace Go.Proofs.Yteaojpfofifmnaa.PE
open Go.RowKit

def wrOf (x y : UInt8) (r : List UInt8) : Wr := ⟨x.toNat, ⟨false, (rFrom r).1⟩, decide (y.toNat = 1)⟩
def wsS : Nat → List UInt8 → Option (List Wr × Nat)
  | 0, _ => some ([], 0)
  | m + 1, x :: y :: r => if 1 < y.toNat then none else if (rFrom r).2 = 0 then none else match wsS m (r.drop (rFrom r).2) with
    | none => none
    | some (ws, n) => some (wrOf x y r :: ws, (rFrom r).2 + n + 2)
  | _ + 1, _ => none
def wsI : Nat → List UInt8 → Option (List Wr × Nat)
  | 0, _ => some ([], 0)
  | m + 1, x :: y :: r => if (rFrom r).2 = 0 then none else match wsI m (r.drop (rFrom r).2) with
    | none => none
    | some (ws, n) => some (wrOf x y r :: ws, (rFrom r).2 + n + 2)
  | _ + 1, _ => none
theorem wsS_wsI : ∀ (m : Nat) (b : List UInt8) {q : List Wr × Nat}, wsS m b = some q → wsI m b = some q
  | 0, b, q, h => h
  | m + 1, [], q, h => h
  | m + 1, [x], q, h => h
  | m + 1, x :: y :: r, q, h => by
    simp only [wsS] at h
    simp only [wsI]
    split at h
    · cases h
    split at h
    · cases h
    rename_i h0
    rw [if_neg h0]
    split at h
    · cases h
    rename_i ws n h2
    rw [wsS_wsI m _ h2]
    exact h
theorem head_bytes {x y : UInt8} {r : List UInt8} {n : Nat} (h0 : (rFrom r).2 ≠ 0) : toI ((x :: y :: r).take ((rFrom r).2 + n + 2)) = (x.toNat : Int) :: (y.toNat : Int) :: (rowBytes (rFrom r).1 ++ toI ((r.drop (rFrom r).2).take n)) := by
  have e : (x :: y :: r).take ((rFrom r).2 + n + 2) = x :: y :: r.take ((rFrom r).2 + n) := rfl
  rw [e, toI_cons, toI_cons, take_add', toI_app, (rFrom_bytes r h0).2]
theorem wsS_bytes : ∀ (m : Nat) (b : List UInt8) {ws : List Wr} {n : Nat}, wsS m b = some (ws, n) → toI (b.take n) = ws.flatMap wrBytes
  | 0, b, ws, n, h => by
    simp only [wsS, Option.some.injEq, Prod.mk.injEq] at h
    obtain ⟨rfl, rfl⟩ := h
    rfl
  | m + 1, [], ws, n, h => by cases h
  | m + 1, [x], ws, n, h => by cases h
  | m + 1, x :: y :: r, ws, n, h => by
    simp only [wsS] at h
    split at h
    · cases h
    rename_i hy
    split at h
    · cases h
    rename_i h0
    split at h
    · cases h
    rename_i ws' n' h2
    simp only [Option.some.injEq, Prod.mk.injEq] at h
    obtain ⟨rfl, rfl⟩ := h
    have hg : goneI (decide (y.toNat = 1)) = (y.toNat : Int) := by
      by_cases h1 : y.toNat = 1
      · rw [decide_eq_true h1, h1]; rfl
      · rw [decide_eq_false h1]
        have : y.toNat = 0 := by omega
        rw [this]; rfl
    rw [head_bytes h0, wsS_bytes m _ h2, List.flatMap_cons]
    show _ = ((x.toNat : Int) :: goneI (decide (y.toNat = 1)) :: rowBytes (rFrom r).1) ++ _
    rw [hg]
    rfl
theorem wsI_back : ∀ (m : Nat) (b : List UInt8) {ws : List Wr} {n : Nat}, wsI m b = some (ws, n) → toI (b.take n) = ws.flatMap wrBytes → wsS m b = some (ws, n)
  | 0, b, ws, n, h, _ => h
  | m + 1, [], ws, n, h, _ => h
  | m + 1, [x], ws, n, h, _ => h
  | m + 1, x :: y :: r, ws, n, h, hb => by
    simp only [wsI] at h
    simp only [wsS]
    split at h
    · cases h
    rename_i h0
    split at h
    · cases h
    rename_i ws' n' h2
    simp only [Option.some.injEq, Prod.mk.injEq] at h
    obtain ⟨rfl, rfl⟩ := h
    rw [head_bytes h0, List.flatMap_cons] at hb
    have hb' : (x.toNat : Int) :: (y.toNat : Int) :: (rowBytes (rFrom r).1 ++ toI ((r.drop (rFrom r).2).take n')) = (x.toNat : Int) :: goneI (decide (y.toNat = 1)) :: (rowBytes (rFrom r).1 ++ ws'.flatMap wrBytes) := hb
    simp only [List.cons.injEq, true_and] at hb'
    obtain ⟨hy, ht⟩ := hb'
    have hy2 : ¬ 1 < y.toNat := by
      intro h
      rw [decide_eq_false (by omega)] at hy
      have : (y.toNat : Int) = 0 := hy
      omega
    rw [if_neg hy2, if_neg h0, wsI_back m _ h2 (List.append_cancel_left ht)]
theorem wsI_len : ∀ (m : Nat) (b : List UInt8) {ws : List Wr} {n : Nat}, wsI m b = some (ws, n) → ws.length = m ∧ n ≤ b.length
  | 0, b, ws, n, h => by
    simp only [wsI, Option.some.injEq, Prod.mk.injEq] at h
    obtain ⟨rfl, rfl⟩ := h
    exact ⟨rfl, Nat.zero_le _⟩
  | m + 1, [], ws, n, h => by cases h
  | m + 1, [x], ws, n, h => by cases h
  | m + 1, x :: y :: r, ws, n, h => by
    simp only [wsI] at h
    split at h
    · cases h
    split at h
    · cases h
    rename_i ws' n' h2
    simp only [Option.some.injEq, Prod.mk.injEq] at h
    obtain ⟨rfl, rfl⟩ := h
    obtain ⟨g1, g2⟩ := wsI_len m _ h2
    have g3 := rFrom_le r
    rw [List.length_drop] at g2
    exact ⟨by rw [List.length_cons, g1], by simp only [List.length_cons]; omega⟩
end Go.Proofs.Yteaojpfofifmnaa.PE
/- Bytes of entries: what both functions tell, for the exact statement. -/
set_option linter.unusedSimpArgs false
set_option linter.unusedVariables false
namespace Go.Proofs.Yteaojpfofifmnaa.PE
open Go.RowKit

theorem bodyB_own (e : Ent) : bodyB e.own = bodyB e := by
  have : (e.ws.map Wr.own).flatMap wrBytes = e.ws.flatMap wrBytes := by rw [List.flatMap_map]; rfl
  rw [bodyB_eq, bodyB_eq]
  show e.time :: ((e.ws.map Wr.own).length : Int) :: (e.ws.map Wr.own).flatMap wrBytes = _
  rw [this, List.length_map]
theorem entBytes_own (e : Ent) : entBytes e.own = entBytes e := by
  have : logOk [e.own] = logOk [e] := logOk_own [e]
  rw [entBytes, entBytes, this, bodyB_own]
theorem entBytes_vs {a b : Ent} (h : entU a = entU b) : entBytes a = entBytes b := by rw [← entBytes_own a, ← entBytes_own b, entU_inj h]
theorem frB_len (b : List Int) : (frB b).length = b.length + 3 := by simp [frB]
theorem entBytes_len (e : Ent) : (entBytes e).length ≤ 180 := by
  unfold entBytes
  split
  · rename_i h
    have := body_len h
    rw [frB_len]
    omega
  · simp
theorem by_len (l : List Int) : (byU l).length = l.length := List.length_map _
end Go.Proofs.Yteaojpfofifmnaa.PE
/- An entry read out of bytes: to write it back and compare is to check the signs and the end. -/
set_option linter.unusedSimpArgs false
set_option linter.unusedVariables false
namespace Go.Proofs.Yteaojpfofifmnaa.PE
open Go.RowKit

theorem rowBytes_flen {r : List UInt8} (h0 : (rFrom r).2 ≠ 0) : (rowBytes (rFrom r).1).length = (rFrom r).2 := by
  rw [← (rFrom_bytes r h0).2, toI_len, List.length_take]
  have := rFrom_le r
  omega
theorem wsI_flen : ∀ (m : Nat) (b : List UInt8) {ws : List Wr} {n : Nat}, wsI m b = some (ws, n) → (ws.flatMap wrBytes).length = n
  | 0, b, ws, n, h => by
    simp only [wsI, Option.some.injEq, Prod.mk.injEq] at h
    obtain ⟨rfl, rfl⟩ := h
    rfl
  | m + 1, [], ws, n, h => by cases h
  | m + 1, [x], ws, n, h => by cases h
  | m + 1, x :: y :: r, ws, n, h => by
    simp only [wsI] at h
    split at h
    · cases h
    rename_i h0
    split at h
    · cases h
    rename_i ws' n' h2
    simp only [Option.some.injEq, Prod.mk.injEq] at h
    obtain ⟨rfl, rfl⟩ := h
    have g := wsI_flen m _ h2
    have g2 := rowBytes_flen h0
    rw [List.flatMap_cons, List.length_append, g]
    have : (wrBytes (wrOf x y r)).length = (rowBytes (rFrom r).1).length + 2 := rfl
    omega
theorem unF_some {b body : List UInt8} {n : Nat} (h : unF b = some (body, n)) : n = body.length + 3 ∧ n ≤ b.length ∧ toI (b.take n) = ((body.length : Int) / 256) :: ((body.length : Int) % 256) :: (toI body ++ [sumB (toI body)]) := by
  match b, h with
  | [], h => cases h
  | [x], h => cases h
  | x :: y :: r, h =>
    have hx := x.toNat_lt
    have hy := y.toNat_lt
    rw [unF] at h
    generalize hN : 256 * x.toNat + y.toNat = N at h
    split at h
    · cases h
    split at h
    · rename_i h1 h2
      simp only [Option.some.injEq, Prod.mk.injEq] at h
      obtain ⟨rfl, rfl⟩ := h
      have hl : (r.take N).length = N := by rw [List.length_take]; omega
      rw [hl]
      refine ⟨rfl, by simp only [List.length_cons]; omega, ?_⟩
      have e : (x :: y :: r).take (N + 3) = x :: y :: r.take (N + 1) := rfl
      have e2 : r.take (N + 1) = r.take N ++ [r.getD N 0] := by
        rw [List.getD_eq_getElem?_getD, List.getElem?_eq_getElem (show N < r.length by omega)]
        exact List.take_succ_eq_append_getElem (by omega)
      have e3 : (N : Int) / 256 = x.toNat := by omega
      have e4 : (N : Int) % 256 = y.toNat := by omega
      rw [e, e2, toI_cons, toI_cons, toI_app, e3, e4]
      show _ :: _ :: (toI (r.take N) ++ [((r.getD N 0).toNat : Int)]) = _
      rw [← h2]
      rfl
    · cases h
theorem back_iff {b : List UInt8} {t m : UInt8} {rest : List UInt8} {n k : Nat} {c : Bool} {ws : List Wr} (h : unF b = some (t :: m :: rest, n)) (hw : wsI m.toNat rest = some (ws, k)) :
    (entBytes ⟨t.toNat, c, ws⟩ = toI (b.take n)) ↔ (wsS m.toNat rest = some (ws, k) ∧ k = rest.length ∧ logOk [⟨t.toNat, c, ws⟩] = true) := by
  obtain ⟨u1, u2, u3⟩ := unF_some h
  obtain ⟨l1, l2⟩ := wsI_len _ _ hw
  have fl := wsI_flen _ _ hw
  rw [u3]
  unfold entBytes
  cases ho : logOk [⟨t.toNat, c, ws⟩]
  · simp
  · simp only [if_true, and_true, frB]
    have hb : bodyB ⟨t.toNat, c, ws⟩ = (t.toNat : Int) :: (m.toNat : Int) :: ws.flatMap wrBytes := by rw [bodyB_eq]; simp only [l1]
    constructor
    · intro he
      simp only [List.cons.injEq] at he
      have h1 := List.append_inj_left' he.2.2 rfl
      rw [hb, toI_cons, toI_cons] at h1
      simp only [List.cons.injEq, true_and] at h1
      have hk : k = rest.length := by
        have := congrArg List.length h1
        rw [fl, toI_len] at this
        exact this
      refine ⟨wsI_back _ _ hw ?_, hk⟩
      rw [hk, List.take_length, h1]
    · rintro ⟨h1, h2⟩
      have h3 := wsS_bytes _ _ h1
      rw [h2, List.take_length] at h3
      have h4 : bodyB ⟨t.toNat, c, ws⟩ = toI (t :: m :: rest) := by rw [hb, ← h3]; rfl
      rw [h4, toI_len]
end Go.Proofs.Yteaojpfofifmnaa.PE
/- An entry read out of bytes, in plain words. -/
set_option linter.unusedSimpArgs false
set_option linter.unusedVariables false
namespace Go.Proofs.Yteaojpfofifmnaa.PE
open Go.RowKit

def entZ : Ent := ⟨0, true, []⟩
def readS : List UInt8 → Option Ent
  | t :: m :: rest => match wsS m.toNat rest with
    | none => none
    | some (ws, k) => if k = rest.length ∧ logOk [⟨t.toNat, ws.isEmpty, ws⟩] = true then some ⟨t.toNat, ws.isEmpty, ws⟩ else none
  | _ => none
def eFrom (b : List UInt8) : Ent × Nat := match unF b with
  | none => (entZ, 0)
  | some (body, n) => match readS body with
    | none => (entZ, 0)
    | some e => (e, n)
theorem wsI_rows : ∀ (m : Nat) (b : List UInt8) {ws : List Wr} {n : Nat}, wsI m b = some (ws, n) → ∀ w ∈ ws, rowOk w.row.vs = true
  | 0, b, ws, n, h => by
    simp only [wsI, Option.some.injEq, Prod.mk.injEq] at h
    obtain ⟨rfl, rfl⟩ := h
    intro w hw
    cases hw
  | m + 1, [], ws, n, h => by cases h
  | m + 1, [x], ws, n, h => by cases h
  | m + 1, x :: y :: r, ws, n, h => by
    simp only [wsI] at h
    split at h
    · cases h
    rename_i h0
    split at h
    · cases h
    rename_i ws' n' h2
    simp only [Option.some.injEq, Prod.mk.injEq] at h
    obtain ⟨rfl, rfl⟩ := h
    intro w hw
    rcases List.mem_cons.1 hw with rfl | hw
    · exact (rFrom_bytes r h0).1
    · exact wsI_rows m _ h2 w hw
theorem wrows_lim {ws : List Wr} (hl : ws.length ≤ 1048576) (h : ∀ w ∈ ws, rowOk w.row.vs = true) (t : Int) (c : Bool) : LimE [⟨t, c, ws⟩] := by
  refine ⟨by simp, fun e he => ?_⟩
  rw [List.mem_singleton.1 he]
  refine ⟨hl, fun w hw => ?_⟩
  obtain ⟨h1, h2⟩ := rowOk_at (h w hw)
  exact ⟨by omega, fun v hv => by have := ok_size (h1 v hv); omega⟩
theorem wsI_lim {m : Nat} {b : List UInt8} {ws : List Wr} {n : Nat} (hm : m ≤ 255) (h : wsI m b = some (ws, n)) (t : Int) (c : Bool) : LimE [⟨t, c, ws⟩] :=
  wrows_lim (by have := (wsI_len _ _ h).1; omega) (wsI_rows m b h) t c
theorem readS_some {b : List UInt8} {e : Ent} (h : readS b = some e) : logOk [e] = true ∧ LimE [e] ∧ bodyB e = toI b := by
  match b, h with
  | [], h => cases h
  | [x], h => cases h
  | t :: m :: rest, h =>
    have hm := m.toNat_lt
    simp only [readS] at h
    split at h
    · cases h
    rename_i ws k hw
    split at h
    · rename_i hk
      simp only [Option.some.injEq] at h
      subst h
      obtain ⟨h1, h2⟩ := hk
      have hi := wsS_wsI _ _ hw
      refine ⟨h2, wsI_lim (by omega) hi _ _, ?_⟩
      have h3 := wsS_bytes _ _ hw
      rw [h1, List.take_length] at h3
      rw [bodyB_eq]
      show (t.toNat : Int) :: (ws.length : Int) :: ws.flatMap wrBytes = _
      rw [← h3, (wsI_len _ _ hi).1]
      rfl
    · cases h
theorem eFrom_some {b : List UInt8} (h : (eFrom b).2 ≠ 0) : ∃ body, unF b = some (body, (eFrom b).2) ∧ readS body = some (eFrom b).1 := by
  unfold eFrom at h ⊢
  cases h1 : unF b with
  | none => rw [h1] at h; exact absurd rfl h
  | some q =>
    obtain ⟨body, n⟩ := q
    rw [h1] at h
    simp only at h ⊢
    cases h2 : readS body with
    | none => rw [h2] at h; exact absurd rfl h
    | some e => exact ⟨body, rfl, h2⟩
theorem eFrom_none {b : List UInt8} (h : (eFrom b).2 = 0) : (eFrom b).1 = entZ := by
  unfold eFrom at h ⊢
  cases h1 : unF b with
  | none => rfl
  | some q =>
    obtain ⟨body, n⟩ := q
    rw [h1] at h
    simp only at h ⊢
    cases h2 : readS body with
    | none => rfl
    | some e =>
      rw [h2] at h
      have := (unF_some h1).1
      simp only at h
      omega
/-- What is read as an entry is written back as the bytes that it took. -/
theorem eFrom_bytes {b : List UInt8} (h : (eFrom b).2 ≠ 0) : logOk [(eFrom b).1] = true ∧ LimE [(eFrom b).1] ∧ toI (b.take (eFrom b).2) = entBytes (eFrom b).1 ∧ (eFrom b).2 ≤ b.length := by
  obtain ⟨body, h1, h2⟩ := eFrom_some h
  obtain ⟨g1, g2, g3⟩ := readS_some h2
  obtain ⟨u1, u2, u3⟩ := unF_some h1
  refine ⟨g1, g2, ?_, u2⟩
  rw [u3, entBytes, if_pos g1, frB, g3, toI_len]
theorem entZ_lim : LimE [entZ] := by
  refine ⟨by simp, fun e he => ?_⟩
  rw [List.mem_singleton.1 he]
  exact ⟨by simp [entZ], fun w hw => by cases hw⟩
theorem eFrom_lim (b : List UInt8) : LimE [(eFrom b).1] := by
  by_cases h : (eFrom b).2 = 0
  · rw [eFrom_none h]; exact entZ_lim
  · exact (eFrom_bytes h).2.1
theorem eFrom_le (b : List UInt8) : (eFrom b).2 ≤ b.length := by
  by_cases h : (eFrom b).2 = 0
  · omega
  · exact (eFrom_bytes h).2.2.2
end Go.Proofs.Yteaojpfofifmnaa.PE
/- A body read: the reference's loop. -/
set_option linter.unusedSimpArgs false
set_option linter.unusedVariables false
set_option maxHeartbeats 8000000
set_option maxRecDepth 20000
namespace Go.Proofs.Yteaojpfofifmnaa.PE
open Go.RowKit

def wPtr (ws : List Wr) : V := match ws with
  | [] => .sl true 3 []
  | _ :: r => .ref 2 r.length 0 (r.length + 1) false
def wTail (ws : List Wr) : Heap := match ws with
  | [] => []
  | w :: r => [.rows r.length 3 ((w :: r).map Wr.cells)]
def wHeap (t : Int) (ws : List Wr) : Heap := .box [.int .i64 0, .sl true 3 []] :: .box [.int .i64 t, wPtr ws] :: wTail ws
-- find91
end Go.Proofs.Yteaojpfofifmnaa.PE
/- Bodies and entries read: the reference. -/
set_option linter.unusedSimpArgs false
set_option linter.unusedVariables false
set_option maxHeartbeats 8000000
set_option maxRecDepth 20000
namespace Go.Proofs.Yteaojpfofifmnaa.PE
open Go.RowKit

-- find91
end Go.Proofs.Yteaojpfofifmnaa.PE
/- Entries read: the reference. -/
set_option linter.unusedSimpArgs false
set_option linter.unusedVariables false
set_option maxHeartbeats 8000000
set_option maxRecDepth 20000
namespace Go.Proofs.Yteaojpfofifmnaa.PE
open Go.RowKit

-- find53
end Go.Proofs.Yteaojpfofifmnaa.PE
/- Results that are memory of one's own, told as values. -/
set_option linter.unusedSimpArgs false
set_option linter.unusedVariables false
namespace Go.Proofs.Yteaojpfofifmnaa.PE
open Go.RowKit

theorem retP_own {run : Run} {f : Nat} {args : List V} {v : V} {hc : Heap} {fs : List Fd} {u : U} {ids : List Nat} (hr : run f args [] = some ([v], hc)) (ho : OwnF hc (.sub fs) v u ids) (hd : dep (.sub fs) ≤ 6) : ∃ q, retP run f args = some [q] ∧ PurF (.sub fs) q u := by
  obtain ⟨q, e1, e2⟩ := OwnF_pure (.sub fs) 6 hd ho
  have e3 := pureDA_of ho e1
  refine ⟨q, ?_, e2⟩
  unfold retP
  rw [hr, PureR_some]
  have hA : pureAs hc [v] = none ∨ pureAs hc [v] = some [q] := by
    simp only [OwnF] at ho
    obtain ⟨xs, rfl, ⟨c, rfl, rfl, _⟩ | ⟨id, st, clip, cont, r, rfl, e, _, _⟩⟩ := ho
    · right
      simp only [pureD, Option.some.injEq] at e1
      subst e1
      rfl
    · simp only [pureAs, pureA, pureC, e, blkOf]
      cases hdeep : fs.any Fd.deep
      · right
        simp only [pureD, e, blkOf, hdeep, Bool.false_eq_true, if_false, if_true, Option.some.injEq] at e1
        subst e1
        simp
      · left
        simp
  rcases hA with hA | hA
  · rw [hA, OrD_none]
    simp only [pureDAs, mapO, e3]
  · rw [hA, OrD_some]
theorem retP_ownI {run : Run} {f : Nat} {args : List V} {v : V} {hc : Heap} {fs : List Fd} {u : U} {ids : List Nat} {k : IntKind} {n : Int} (hr : run f args [] = some ([v, .int k n], hc)) (ho : OwnF hc (.sub fs) v u ids) (hd : dep (.sub fs) ≤ 6) : ∃ q, retP run f args = some [q, .int k n] ∧ PurF (.sub fs) q u := by
  obtain ⟨q, e1, e2⟩ := OwnF_pure (.sub fs) 6 hd ho
  have e3 := pureDA_of ho e1
  refine ⟨q, ?_, e2⟩
  unfold retP
  rw [hr, PureR_some]
  have hA : pureAs hc [v, .int k n] = none ∨ pureAs hc [v, .int k n] = some [q, .int k n] := by
    simp only [OwnF] at ho
    obtain ⟨xs, rfl, ⟨c, rfl, rfl, _⟩ | ⟨id, st, clip, cont, r, rfl, e, _, _⟩⟩ := ho
    · right
      simp only [pureD, Option.some.injEq] at e1
      subst e1
      rfl
    · simp only [pureAs, pureA, pureC, e, blkOf]
      cases hdeep : fs.any Fd.deep
      · right
        simp only [pureD, e, blkOf, hdeep, Bool.false_eq_true, if_false, if_true, Option.some.injEq] at e1
        subst e1
        simp
      · left
        simp
  rcases hA with hA | hA
  · rw [hA, OrD_none]
    simp only [pureDAs, mapO, e3, pureDA_int]
  · rw [hA, OrD_some]
end Go.Proofs.Yteaojpfofifmnaa.PE
/- What a follower has of a log; a backup and the log behind it. -/
set_option linter.unusedSimpArgs false
set_option linter.unusedVariables false
set_option maxHeartbeats 4000000
namespace Go.Proofs.Yteaojpfofifmnaa.PE
open Go.RowKit

def icell (x : Int) : List V := [.int .i64 x]
def icU (x : Int) : List U := [.int x]
def fol1 (m : Nat) (b : Nat) (x : Int) : Nat := if x = b ∧ (b : Int) < m then b + 1 else b
def fol (m : Nat) (xs : List Int) : Nat := xs.foldl (fol1 m) 0
end Go.Proofs.Yteaojpfofifmnaa.PE
/- A backup and the log behind it. -/
set_option linter.unusedSimpArgs false
set_option linter.unusedVariables false
set_option maxHeartbeats 4000000
namespace Go.Proofs.Yteaojpfofifmnaa.PE
open Go.RowKit

def behStep (t : Int) (b : List Ent) (x : Ent) : List Ent := if t < x.time then b ++ [x] else b
def beh (k : Ent) (l : List Ent) : List Ent := l.foldl (behStep k.time) [k]
theorem prevs_pw : ∀ (l : List Ent) (o : Option Ent), (prevsG o l).all entOk = true ↔ (∀ e ∈ l, e.one = true) ∧ (∀ q, o = some q → ∀ e ∈ l, q.time < e.time) ∧ l.Pairwise (fun a b => a.time < b.time)
  | [], o => by simp [prevsG]
  | v :: r, o => by
    have ih := prevs_pw r (some v)
    simp only [prevsG, List.all_cons, Bool.and_eq_true, entOk, ih, List.pairwise_cons, List.mem_cons, forall_eq_or_imp, Option.some.injEq, forall_eq']
    constructor
    · rintro ⟨⟨h1, h2⟩, h3, h4, h5⟩
      refine ⟨⟨h1, h3⟩, fun q hq => ?_, h4, h5⟩
      subst hq
      have : q.time < v.time := by simpa [entAhead] using h2
      exact ⟨this, fun e he => by have := h4 e he; omega⟩
    · rintro ⟨⟨h1, h3⟩, h2, h4, h5⟩
      refine ⟨⟨h1, ?_⟩, h3, h4, h5⟩
      cases o with
      | none => rfl
      | some q => simpa [entAhead] using (h2 q rfl).1
theorem logOk_iff (l : List Ent) : logOk l = true ↔ (∀ e ∈ l, e.one = true) ∧ l.Pairwise (fun a b => a.time < b.time) ∧ l.length ≤ 12 := by
  unfold logOk
  rw [Bool.and_eq_true, prevs_pw, decide_eq_true_eq]
  constructor
  · rintro ⟨⟨h1, _, h3⟩, h4⟩
    exact ⟨h1, h3, by omega⟩
  · rintro ⟨h1, h3, h4⟩
    exact ⟨⟨h1, (fun q hq => by cases hq), h3⟩, by omega⟩
def behOk (k : Ent) (l : List Ent) : Bool := logOk [k] && (logOk l && decide (((beh k l).length : Int) ≤ 12))
end Go.Proofs.Yteaojpfofifmnaa.PE
