/- Texts of this claim, one behind the other: Pv1, Pv2, Pv3, Pv5, Pw1, Pq0, Pwc, Pq1, Pq2, Pq3, Pq4, Pu1, Pu2, Pu3, Pu4. -/
import Derived.Test.YtgepapgabnaonaaPeT
import Derived.Test.YtgepapgabnaonaaPeX
import Derived.IntWalk
import Derived.Test.YtgepapgabnaonaaPeZ
/- Values of the tables: what the small functions come to. -/
set_option linter.unusedSimpArgs false
namespace Go.Proofs.Ytgepapgabnaonaa.PE
open Go.RowKit

/-- A value. -/
structure Val where
  kind : Int
  n : Int
  s : ByteArray
  deriving DecidableEq

def Val.cells (v : Val) : List V := [.int .i64 v.kind, .int .i64 v.n, .str v.s]
def Val.enc (v : Val) : V := .agg [.int .i64 v.kind, .int .i64 v.n, .str v.s]

def letterB (b : UInt8) : Bool := decide (97 ≤ (b.toNat : Int) ∧ (b.toNat : Int) ≤ 122)
def lettersB (s : ByteArray) : Bool := s.data.toList.all letterB

/-- Is a value one? -/
def Val.ok (v : Val) : Bool :=
  if v.kind = 0 then decide (v.n = 0) && decide (v.s = ⟨#[]⟩)
  else if v.kind = 1 then decide (v.s = ⟨#[]⟩) && (decide (-9999 ≤ v.n) && decide (v.n ≤ 9999))
  else if v.kind = 2 then decide (v.n = 0) && decide ((v.s.size : Int) ≤ 6) && lettersB v.s
  else if v.kind = 3 then decide (v.s = ⟨#[]⟩) && (decide (0 ≤ v.n) && decide (v.n ≤ 1))
  else false

theorem run_between (d : Nat) (n lo hi : Int) : retP (runD tab noExt (d + 1)) 68 [.int .i64 n, .int .i64 lo, .int .i64 hi] = some [.bool (decide (lo ≤ n ∧ n ≤ hi))] := by
  rw [retP, runD_eq find68 _ _ _ (by simp)]
  simp -implicitDefEqProofs (disch := omega) only [go_sem, Nat.reduceBEq, Nat.reduceAdd, Nat.reduceSub, Nat.reduceMul, Nat.reduceLeDiff, Nat.reduceEqDiff, Nat.reduceLT, Int.reduceNeg, Int.reduceAdd, Int.reduceSub, Int.reduceMul, Int.reduceLE, Int.reduceLT, Int.reduceEq, Int.reduceToNat, reduceCtorEq]
  repeat' ((first | rw [GuardI_ndec] | rw [CondC_ndec] | rw [GuardQ_ndec] | rw [GuardI_dec] | rw [CondC_dec] | rw [GuardQ_dec] | rw [GuardI_nby] | rw [CondC_nby] | rw [GuardQ_nby] | rw [GuardQ_by] | rw [GuardI_by] | rw [CondC_by]) <;> split <;> simp -implicitDefEqProofs (disch := omega) only [go_sem, Nat.reduceBEq, Nat.reduceAdd, Nat.reduceSub, Nat.reduceMul, Nat.reduceLeDiff, Nat.reduceEqDiff, Nat.reduceLT, Int.reduceNeg, Int.reduceAdd, Int.reduceSub, Int.reduceMul, Int.reduceLE, Int.reduceLT, Int.reduceEq, Int.reduceToNat, reduceCtorEq, *])
  all_goals simp_all
theorem run_l1In (d : Nat) (n lo hi : Int) : retP (runD tab noExt (d + 1)) 70 [.int .i64 n, .int .i64 lo, .int .i64 hi] = some [.bool (decide (lo ≤ n ∧ n ≤ hi))] := by
  rw [retP, runD_eq find70 _ _ _ (by simp)]
  simp -implicitDefEqProofs (disch := omega) only [go_sem, Nat.reduceBEq, Nat.reduceAdd, Nat.reduceSub, Nat.reduceMul, Nat.reduceLeDiff, Nat.reduceEqDiff, Nat.reduceLT, Int.reduceNeg, Int.reduceAdd, Int.reduceSub, Int.reduceMul, Int.reduceLE, Int.reduceLT, Int.reduceEq, Int.reduceToNat, reduceCtorEq]
  repeat' ((first | rw [GuardI_ndec] | rw [CondC_ndec] | rw [GuardQ_ndec] | rw [GuardI_dec] | rw [CondC_dec] | rw [GuardQ_dec] | rw [GuardI_nby] | rw [CondC_nby] | rw [GuardQ_nby] | rw [GuardQ_by] | rw [GuardI_by] | rw [CondC_by]) <;> split <;> simp -implicitDefEqProofs (disch := omega) only [go_sem, Nat.reduceBEq, Nat.reduceAdd, Nat.reduceSub, Nat.reduceMul, Nat.reduceLeDiff, Nat.reduceEqDiff, Nat.reduceLT, Int.reduceNeg, Int.reduceAdd, Int.reduceSub, Int.reduceMul, Int.reduceLE, Int.reduceLT, Int.reduceEq, Int.reduceToNat, reduceCtorEq, *])
  all_goals simp_all

theorem str_len (s : ByteArray) : s.data.toList.length = s.size := by rw [Array.length_toList]; rfl
/-- From an index on to the end. -/
theorem drop_ind {α : Type} (l : List α) (M : Nat → List α → Prop) (h0 : M l.length []) (h1 : ∀ i x r, i < l.length → l[i]? = some x → M (i + 1) r → M i (x :: r)) : ∀ rest i, l.drop i = rest → i ≤ l.length → M i rest
  | [], i, hd, hi => by
    have := List.drop_eq_nil_iff.1 hd
    have e : i = l.length := by omega
    subst e
    exact h0
  | x :: r, i, hd, hi => by
    have hlt : i < l.length := by
      rcases Nat.lt_or_ge i l.length with h2 | h2
      · exact h2
      · rw [List.drop_eq_nil_of_le h2] at hd; cases hd
    have hx : l[i]? = some x := by rw [← List.head?_drop, hd]; rfl
    have hr : l.drop (i + 1) = r := by rw [← List.drop_drop, hd]; rfl
    exact h1 i x r hlt hx (drop_ind l M h0 h1 r (i + 1) hr (by omega))

theorem ofBytes_at {l : List UInt8} {i : Nat} {b : UInt8} (h : l[i]? = some b) : (cellsOfBytes l)[i]? = some [.int .u8 b.toNat] := by simp [cellsOfBytes, h]

theorem loop_letters (d : Nat) (draw : Draw) (l : List UInt8) (hl : l.length < 1099511627776) : ∀ (rest : List UInt8) (i : Nat), l.drop i = rest → i ≤ l.length → ∀ k, rest.length ≤ k →
    LoopS (runD tab noExt (d + 1)) draw [6, 7, 8] [2] L158x0 0 k [(6, .sl false 1 (cellsOfBytes l)), (7, .int .i64 l.length), (8, .int .i64 i)] [] =
    if rest.all letterB then some (.exit 0, [(2, .undef)], []) else some (.ret, [(2, .bool false)], []) := by
  refine drop_ind l (fun i rest => _) ?_ ?_
  · intro k hk
    rw [LoopS_eq]
    simp [go_sem, Nat.reduceBEq, Nat.reduceAdd, Nat.reduceSub, Nat.reduceMul, Nat.reduceLeDiff, Nat.reduceEqDiff, Nat.reduceLT, Int.reduceNeg, Int.reduceAdd, Int.reduceSub, Int.reduceMul, Int.reduceLE, Int.reduceLT, Int.reduceEq, Int.reduceToNat, reduceCtorEq, evL158x0, B158x0, Int.lt_irrefl]
  · intro i b r hlt hb ih k hk
    have hi : (i : Int) < l.length := by omega
    have hb8 := b.toNat_lt
    obtain ⟨k, rfl⟩ : ∃ k', k = k' + 1 := ⟨k - 1, by simp at hk; omega⟩
    have ih' := ih k (by simp at hk; omega)
    simp only [Int.natCast_add, Int.natCast_one] at ih'
    rw [LoopS_eq]
    simp -implicitDefEqProofs (disch := omega) only [go_sem, Nat.reduceBEq, Nat.reduceAdd, Nat.reduceSub, Nat.reduceMul, Nat.reduceLeDiff, Nat.reduceEqDiff, Nat.reduceLT, Int.reduceNeg, Int.reduceAdd, Int.reduceSub, Int.reduceMul, Int.reduceLE, Int.reduceLT, Int.reduceEq, Int.reduceToNat, reduceCtorEq, evL158x0, B158x0, hi, ofBytes_at hb, run_between, IntWalk.i64_in]
    have e1 : letterB b = decide (97 ≤ (b.toNat : Int) ∧ (b.toNat : Int) ≤ 122) := rfl
    rw [← e1]
    rcases Bool.eq_false_or_eq_true (letterB b) with hlb | hlb
    · simp -implicitDefEqProofs (disch := omega) only [go_sem, Nat.reduceBEq, Nat.reduceAdd, Nat.reduceSub, Nat.reduceMul, Nat.reduceLeDiff, Nat.reduceEqDiff, Nat.reduceLT, Int.reduceNeg, Int.reduceAdd, Int.reduceSub, Int.reduceMul, Int.reduceLE, Int.reduceLT, Int.reduceEq, Int.reduceToNat, reduceCtorEq, hlb, IntWalk.i64_in, ih']
    · simp -implicitDefEqProofs only [go_sem, Nat.reduceBEq, Nat.reduceAdd, Nat.reduceSub, Nat.reduceMul, Nat.reduceLeDiff, Nat.reduceEqDiff, Nat.reduceLT, Int.reduceNeg, Int.reduceAdd, Int.reduceSub, Int.reduceMul, Int.reduceLE, Int.reduceLT, Int.reduceEq, Int.reduceToNat, reduceCtorEq, hlb]

theorem loop_l1Text (d : Nat) (draw : Draw) (s : ByteArray) (hl : s.size < 1099511627776) : ∀ (rest : List UInt8) (i : Nat), s.data.toList.drop i = rest → i ≤ s.data.toList.length → ∀ k, rest.length ≤ k →
    LoopS (runD tab noExt d) draw [0, 3] [0, 2] L166x0 0 k [(0, .str s), (3, .int .i64 i)] [] =
    if rest.all letterB then some (.exit 0, [(0, .str s), (2, .undef)], []) else some (.ret, [(0, .str s), (2, .bool false)], []) := by
  have hsz := str_len s
  refine drop_ind s.data.toList (fun i rest => _) ?_ ?_
  · intro k hk
    rw [LoopS_eq, hsz]
    simp [go_sem, Nat.reduceBEq, Nat.reduceAdd, Nat.reduceSub, Nat.reduceMul, Nat.reduceLeDiff, Nat.reduceEqDiff, Nat.reduceLT, Int.reduceNeg, Int.reduceAdd, Int.reduceSub, Int.reduceMul, Int.reduceLE, Int.reduceLT, Int.reduceEq, Int.reduceToNat, reduceCtorEq, evL166x0, B166x0, Int.lt_irrefl]
  · intro i b r hlt hb ih k hk
    have hi : (i : Int) < s.size := by omega
    have hb8 := b.toNat_lt
    obtain ⟨k, rfl⟩ : ∃ k', k = k' + 1 := ⟨k - 1, by simp at hk; omega⟩
    have ih' := ih k (by simp at hk; omega)
    simp only [Int.natCast_add, Int.natCast_one] at ih'
    rw [LoopS_eq]
    simp -implicitDefEqProofs (disch := omega) only [go_sem, Nat.reduceBEq, Nat.reduceAdd, Nat.reduceSub, Nat.reduceMul, Nat.reduceLeDiff, Nat.reduceEqDiff, Nat.reduceLT, Int.reduceNeg, Int.reduceAdd, Int.reduceSub, Int.reduceMul, Int.reduceLE, Int.reduceLT, Int.reduceEq, Int.reduceToNat, reduceCtorEq, evL166x0, B166x0, hi, hb, IntWalk.i64_in]
    have e1 : letterB b = decide (97 ≤ (b.toNat : Int) ∧ (b.toNat : Int) ≤ 122) := rfl
    by_cases h1 : (b.toNat : Int) < 97
    · have hlb : letterB b = false := by rw [e1]; simp; omega
      simp -implicitDefEqProofs (disch := omega) only [go_sem, Nat.reduceBEq, Nat.reduceAdd, Nat.reduceSub, Nat.reduceMul, Nat.reduceLeDiff, Nat.reduceEqDiff, Nat.reduceLT, Int.reduceNeg, Int.reduceAdd, Int.reduceSub, Int.reduceMul, Int.reduceLE, Int.reduceLT, Int.reduceEq, Int.reduceToNat, reduceCtorEq, h1, hlb]
    · by_cases h2 : 122 < (b.toNat : Int)
      · have hlb : letterB b = false := by rw [e1]; simp; omega
        simp -implicitDefEqProofs (disch := omega) only [go_sem, Nat.reduceBEq, Nat.reduceAdd, Nat.reduceSub, Nat.reduceMul, Nat.reduceLeDiff, Nat.reduceEqDiff, Nat.reduceLT, Int.reduceNeg, Int.reduceAdd, Int.reduceSub, Int.reduceMul, Int.reduceLE, Int.reduceLT, Int.reduceEq, Int.reduceToNat, reduceCtorEq, hb, h1, h2, hlb]
      · have hlb : letterB b = true := by rw [e1]; simp; omega
        simp -implicitDefEqProofs (disch := omega) only [go_sem, Nat.reduceBEq, Nat.reduceAdd, Nat.reduceSub, Nat.reduceMul, Nat.reduceLeDiff, Nat.reduceEqDiff, Nat.reduceLT, Int.reduceNeg, Int.reduceAdd, Int.reduceSub, Int.reduceMul, Int.reduceLE, Int.reduceLT, Int.reduceEq, Int.reduceToNat, reduceCtorEq, hb, h1, h2, hlb, IntWalk.i64_in, ih']

-- find158
theorem run_letters (d : Nat) (s : ByteArray) (hs : s.size < 1099511627776) : retP (runD tab noExt (d + 2)) 158 [.str s] = some [.bool (lettersB s)] := by
  rw [retP, runD_eq find158 _ _ _ (by simp)]
  have hl := loop_letters d (drawI (runD tab noExt (d + 1))) s.data.toList (by rw [str_len]; exact hs) s.data.toList 0 rfl (Nat.zero_le _) 1099511627775 (by rw [str_len]; omega)
  simp -implicitDefEqProofs only [go_sem, Nat.reduceBEq, Nat.reduceAdd, Nat.reduceSub, Nat.reduceMul, Nat.reduceLeDiff, Nat.reduceEqDiff, Nat.reduceLT, Int.reduceNeg, Int.reduceAdd, Int.reduceSub, Int.reduceMul, Int.reduceLE, Int.reduceLT, Int.reduceEq, Int.reduceToNat, reduceCtorEq, cellsOfBytes, List.length_map]
  simp only [cellsOfBytes, Int.natCast_zero] at hl
  rw [hl]
  split <;> simp -implicitDefEqProofs only [go_sem, Nat.reduceBEq, Nat.reduceAdd, Nat.reduceSub, Nat.reduceMul, Nat.reduceLeDiff, Nat.reduceEqDiff, Nat.reduceLT, Int.reduceNeg, Int.reduceAdd, Int.reduceSub, Int.reduceMul, Int.reduceLE, Int.reduceLT, Int.reduceEq, Int.reduceToNat, reduceCtorEq, lettersB, *]

theorem Val.eta (v : Val) : (⟨v.kind, v.n, v.s⟩ : Val) = v := rfl

theorem run_ok (d : Nat) (k n : Int) (s : ByteArray) : retP (runD tab noExt (d + 3)) 128 [.agg [.int .i64 k, .int .i64 n, .str s]] = some [.bool (Val.ok ⟨k, n, s⟩)] := by
  rw [retP, runD_eq find128 _ _ _ (by simp)]
  simp -implicitDefEqProofs (disch := omega) only [go_sem, Nat.reduceBEq, Nat.reduceAdd, Nat.reduceSub, Nat.reduceMul, Nat.reduceLeDiff, Nat.reduceEqDiff, Nat.reduceLT, Int.reduceNeg, Int.reduceAdd, Int.reduceSub, Int.reduceMul, Int.reduceLE, Int.reduceLT, Int.reduceEq, Int.reduceToNat, reduceCtorEq, run_between, run_letters]
  repeat' ((first | rw [GuardI_ndec] | rw [CondC_ndec] | rw [GuardQ_ndec] | rw [GuardI_dec] | rw [CondC_dec] | rw [GuardQ_dec] | rw [GuardI_nby] | rw [CondC_nby] | rw [GuardQ_nby] | rw [GuardQ_by] | rw [GuardI_by] | rw [CondC_by]) <;> split <;> simp -implicitDefEqProofs (disch := omega) only [go_sem, Nat.reduceBEq, Nat.reduceAdd, Nat.reduceSub, Nat.reduceMul, Nat.reduceLeDiff, Nat.reduceEqDiff, Nat.reduceLT, Int.reduceNeg, Int.reduceAdd, Int.reduceSub, Int.reduceMul, Int.reduceLE, Int.reduceLT, Int.reduceEq, Int.reduceToNat, reduceCtorEq, run_between, run_letters, *])
  all_goals (simp_all [Val.ok]; try omega)
theorem run_ValueOk (d : Nat) (k n : Int) (s : ByteArray) : retP (runD tab noExt (d + 4)) 73 [.agg [.int .i64 k, .int .i64 n, .str s]] = some [.bool (Val.ok ⟨k, n, s⟩)] := by
  rw [retP, runD_eq find73 _ _ _ (by simp)]
  simp -implicitDefEqProofs (disch := omega) only [go_sem, Nat.reduceBEq, Nat.reduceAdd, Nat.reduceSub, Nat.reduceMul, Nat.reduceLeDiff, Nat.reduceEqDiff, Nat.reduceLT, Int.reduceNeg, Int.reduceAdd, Int.reduceSub, Int.reduceMul, Int.reduceLE, Int.reduceLT, Int.reduceEq, Int.reduceToNat, reduceCtorEq, run_ok]
  repeat' ((first | rw [GuardI_ndec] | rw [CondC_ndec] | rw [GuardQ_ndec] | rw [GuardI_dec] | rw [CondC_dec] | rw [GuardQ_dec] | rw [GuardI_nby] | rw [CondC_nby] | rw [GuardQ_nby] | rw [GuardQ_by] | rw [GuardI_by] | rw [CondC_by]) <;> split <;> simp -implicitDefEqProofs (disch := omega) only [go_sem, Nat.reduceBEq, Nat.reduceAdd, Nat.reduceSub, Nat.reduceMul, Nat.reduceLeDiff, Nat.reduceEqDiff, Nat.reduceLT, Int.reduceNeg, Int.reduceAdd, Int.reduceSub, Int.reduceMul, Int.reduceLE, Int.reduceLT, Int.reduceEq, Int.reduceToNat, reduceCtorEq, run_ok, *])
  all_goals simp_all
theorem run_isNaNI (d : Nat) (a : Int) : retP (runD tab noExt (d + 1)) 181 [.int .i64 a] = some [.bool false] := by
  rw [retP, runD_eq find181 _ _ _ (by simp)]
  simp -implicitDefEqProofs (disch := omega) only [go_sem, Nat.reduceBEq, Nat.reduceAdd, Nat.reduceSub, Nat.reduceMul, Nat.reduceLeDiff, Nat.reduceEqDiff, Nat.reduceLT, Int.reduceNeg, Int.reduceAdd, Int.reduceSub, Int.reduceMul, Int.reduceLE, Int.reduceLT, Int.reduceEq, Int.reduceToNat, reduceCtorEq]
  repeat' ((first | rw [GuardI_ndec] | rw [CondC_ndec] | rw [GuardQ_ndec] | rw [GuardI_dec] | rw [CondC_dec] | rw [GuardQ_dec] | rw [GuardI_nby] | rw [CondC_nby] | rw [GuardQ_nby] | rw [GuardQ_by] | rw [GuardI_by] | rw [CondC_by]) <;> split <;> simp -implicitDefEqProofs (disch := omega) only [go_sem, Nat.reduceBEq, Nat.reduceAdd, Nat.reduceSub, Nat.reduceMul, Nat.reduceLeDiff, Nat.reduceEqDiff, Nat.reduceLT, Int.reduceNeg, Int.reduceAdd, Int.reduceSub, Int.reduceMul, Int.reduceLE, Int.reduceLT, Int.reduceEq, Int.reduceToNat, reduceCtorEq, *])
  all_goals simp_all
theorem run_isNaNS (d : Nat) (a : ByteArray) : retP (runD tab noExt (d + 1)) 182 [.str a] = some [.bool false] := by
  rw [retP, runD_eq find182 _ _ _ (by simp)]
  simp -implicitDefEqProofs (disch := omega) only [go_sem, Nat.reduceBEq, Nat.reduceAdd, Nat.reduceSub, Nat.reduceMul, Nat.reduceLeDiff, Nat.reduceEqDiff, Nat.reduceLT, Int.reduceNeg, Int.reduceAdd, Int.reduceSub, Int.reduceMul, Int.reduceLE, Int.reduceLT, Int.reduceEq, Int.reduceToNat, reduceCtorEq]
  repeat' ((first | rw [GuardI_ndec] | rw [CondC_ndec] | rw [GuardQ_ndec] | rw [GuardI_dec] | rw [CondC_dec] | rw [GuardQ_dec] | rw [GuardI_nby] | rw [CondC_nby] | rw [GuardQ_nby] | rw [GuardQ_by] | rw [GuardI_by] | rw [CondC_by]) <;> split <;> simp -implicitDefEqProofs (disch := omega) only [go_sem, Nat.reduceBEq, Nat.reduceAdd, Nat.reduceSub, Nat.reduceMul, Nat.reduceLeDiff, Nat.reduceEqDiff, Nat.reduceLT, Int.reduceNeg, Int.reduceAdd, Int.reduceSub, Int.reduceMul, Int.reduceLE, Int.reduceLT, Int.reduceEq, Int.reduceToNat, reduceCtorEq, *])
  all_goals simp_all

def cmpI (a b : Int) : Int := if a < b then -1 else if b < a then 1 else 0
def ltS (a b : ByteArray) : Bool := decide (a.data.toList < b.data.toList)
def cmpS (a b : ByteArray) : Int := if ltS a b then -1 else if ltS b a then 1 else 0
theorem str_lt (a b : ByteArray) : Op.bytesLess a.toList b.toList = ltS a b := by rw [bytes_less, ByteArray.toList_eq, ByteArray.toList_eq]; rfl
theorem str_gt (a b : ByteArray) : (!(ltS a b || decide (a = b))) = ltS b a := by
  unfold ltS
  by_cases h : a = b
  · subst h
    simp [List.lt_irrefl]
  · simp only [h, decide_false, Bool.or_false]
    have hne : a.data.toList ≠ b.data.toList := fun e => h (by
      cases a; cases b
      congr 1
      exact Array.toList_inj.1 e)
    by_cases h1 : a.data.toList < b.data.toList
    · have := List.lt_asymm h1
      simp [h1, this]
    · have h2 : b.data.toList ≤ a.data.toList := List.not_lt.1 h1
      have h3 : b.data.toList < a.data.toList := by
        rcases Classical.em (b.data.toList < a.data.toList) with h3 | h3
        · exact h3
        · exact absurd (List.le_antisymm (List.not_lt.1 h3) h2) hne
      simp [h1, h3]

theorem run_cmpI (d : Nat) (a b : Int) : retP (runD tab noExt (d + 2)) 178 [.int .i64 a, .int .i64 b] = some [.int .i64 (cmpI a b)] := by
  rw [retP, runD_eq find178 _ _ _ (by simp)]
  simp -implicitDefEqProofs (disch := omega) only [go_sem, Nat.reduceBEq, Nat.reduceAdd, Nat.reduceSub, Nat.reduceMul, Nat.reduceLeDiff, Nat.reduceEqDiff, Nat.reduceLT, Int.reduceNeg, Int.reduceAdd, Int.reduceSub, Int.reduceMul, Int.reduceLE, Int.reduceLT, Int.reduceEq, Int.reduceToNat, reduceCtorEq, run_isNaNI]
  repeat' ((first | rw [GuardI_ndec] | rw [CondC_ndec] | rw [GuardQ_ndec] | rw [GuardI_dec] | rw [CondC_dec] | rw [GuardQ_dec] | rw [GuardI_nby] | rw [CondC_nby] | rw [GuardQ_nby] | rw [GuardQ_by] | rw [GuardI_by] | rw [CondC_by]) <;> split <;> simp -implicitDefEqProofs (disch := omega) only [go_sem, Nat.reduceBEq, Nat.reduceAdd, Nat.reduceSub, Nat.reduceMul, Nat.reduceLeDiff, Nat.reduceEqDiff, Nat.reduceLT, Int.reduceNeg, Int.reduceAdd, Int.reduceSub, Int.reduceMul, Int.reduceLE, Int.reduceLT, Int.reduceEq, Int.reduceToNat, reduceCtorEq, run_isNaNI, *])
  all_goals (first | (simp_all [cmpI]; done) | (unfold cmpI; split <;> (try split) <;> simp_all <;> omega))
theorem run_cmpS (d : Nat) (a b : ByteArray) : retP (runD tab noExt (d + 2)) 179 [.str a, .str b] = some [.int .i64 (cmpS a b)] := by
  rw [retP, runD_eq find179 _ _ _ (by simp)]
  simp -implicitDefEqProofs (disch := omega) only [go_sem, Nat.reduceBEq, Nat.reduceAdd, Nat.reduceSub, Nat.reduceMul, Nat.reduceLeDiff, Nat.reduceEqDiff, Nat.reduceLT, Int.reduceNeg, Int.reduceAdd, Int.reduceSub, Int.reduceMul, Int.reduceLE, Int.reduceLT, Int.reduceEq, Int.reduceToNat, reduceCtorEq, run_isNaNS, str_lt, str_gt]
  repeat' ((first | rw [GuardI_ndec] | rw [CondC_ndec] | rw [GuardQ_ndec] | rw [GuardI_dec] | rw [CondC_dec] | rw [GuardQ_dec] | rw [GuardI_nby] | rw [CondC_nby] | rw [GuardQ_nby] | rw [GuardQ_by] | rw [GuardI_by] | rw [CondC_by]) <;> split <;> simp -implicitDefEqProofs (disch := omega) only [go_sem, Nat.reduceBEq, Nat.reduceAdd, Nat.reduceSub, Nat.reduceMul, Nat.reduceLeDiff, Nat.reduceEqDiff, Nat.reduceLT, Int.reduceNeg, Int.reduceAdd, Int.reduceSub, Int.reduceMul, Int.reduceLE, Int.reduceLT, Int.reduceEq, Int.reduceToNat, reduceCtorEq, run_isNaNS, str_lt, str_gt, *])
  all_goals (simp_all [cmpS]; try (have := str_gt a b; simp_all))

/-- The order of values. -/
def Val.cmp (v w : Val) : Int := if cmpI v.kind w.kind ≠ 0 then cmpI v.kind w.kind else if cmpI v.n w.n ≠ 0 then cmpI v.n w.n else cmpS v.s w.s

theorem run_Or3 (d : Nat) (a b c : Int) : retP (runD tab noExt (d + 1)) 177 [.sl true 1 [[.int .i64 a], [.int .i64 b], [.int .i64 c]]] = some [.int .i64 (if a ≠ 0 then a else if b ≠ 0 then b else c)] := by
  rw [retP, runD_eq find177 _ _ _ (by simp)]
  simp -implicitDefEqProofs (disch := omega) only [go_sem, Nat.reduceBEq, Nat.reduceAdd, Nat.reduceSub, Nat.reduceMul, Nat.reduceLeDiff, Nat.reduceEqDiff, Nat.reduceLT, Int.reduceNeg, Int.reduceAdd, Int.reduceSub, Int.reduceMul, Int.reduceLE, Int.reduceLT, Int.reduceEq, Int.reduceToNat, reduceCtorEq, LoopS_eq, evL177x0, B177x0, IntWalk.i64_in, Int.cast_ofNat_Int]
  repeat' ((first | rw [GuardI_ndec] | rw [CondC_ndec] | rw [GuardQ_ndec] | rw [GuardI_dec] | rw [CondC_dec] | rw [GuardQ_dec] | rw [GuardI_nby] | rw [CondC_nby] | rw [GuardQ_nby] | rw [GuardQ_by] | rw [GuardI_by] | rw [CondC_by]) <;> split <;> simp -implicitDefEqProofs (disch := omega) only [go_sem, Nat.reduceBEq, Nat.reduceAdd, Nat.reduceSub, Nat.reduceMul, Nat.reduceLeDiff, Nat.reduceEqDiff, Nat.reduceLT, Int.reduceNeg, Int.reduceAdd, Int.reduceSub, Int.reduceMul, Int.reduceLE, Int.reduceLT, Int.reduceEq, Int.reduceToNat, reduceCtorEq, LoopS_eq, evL177x0, B177x0, IntWalk.i64_in, Int.cast_ofNat_Int, *])
  all_goals simp_all
theorem run_order (d : Nat) (k n : Int) (s : ByteArray) (k' n' : Int) (s' : ByteArray) : retP (runD tab noExt (d + 3)) 172 [.agg [.int .i64 k, .int .i64 n, .str s], .agg [.int .i64 k', .int .i64 n', .str s']] = some [.int .i64 (Val.cmp ⟨k, n, s⟩ ⟨k', n', s'⟩)] := by
  rw [retP, runD_eq find172 _ _ _ (by simp)]
  simp -implicitDefEqProofs (disch := omega) only [go_sem, Nat.reduceBEq, Nat.reduceAdd, Nat.reduceSub, Nat.reduceMul, Nat.reduceLeDiff, Nat.reduceEqDiff, Nat.reduceLT, Int.reduceNeg, Int.reduceAdd, Int.reduceSub, Int.reduceMul, Int.reduceLE, Int.reduceLT, Int.reduceEq, Int.reduceToNat, reduceCtorEq, run_cmpI, run_cmpS, run_Or3, evC_draw, evD172x0, E172x0, elemsOf, elemOf, refsV, refs, refC, List.flatMap_cons, List.flatMap_nil, frzs, List.append_nil, Val.cmp]
  repeat' ((first | rw [GuardI_ndec] | rw [CondC_ndec] | rw [GuardQ_ndec] | rw [GuardI_dec] | rw [CondC_dec] | rw [GuardQ_dec] | rw [GuardI_nby] | rw [CondC_nby] | rw [GuardQ_nby] | rw [GuardQ_by] | rw [GuardI_by] | rw [CondC_by]) <;> split <;> simp -implicitDefEqProofs (disch := omega) only [go_sem, Nat.reduceBEq, Nat.reduceAdd, Nat.reduceSub, Nat.reduceMul, Nat.reduceLeDiff, Nat.reduceEqDiff, Nat.reduceLT, Int.reduceNeg, Int.reduceAdd, Int.reduceSub, Int.reduceMul, Int.reduceLE, Int.reduceLT, Int.reduceEq, Int.reduceToNat, reduceCtorEq, run_cmpI, run_cmpS, run_Or3, evC_draw, evD172x0, E172x0, elemsOf, elemOf, refsV, refs, refC, List.flatMap_cons, List.flatMap_nil, frzs, List.append_nil, Val.cmp, *])
  all_goals simp_all

-- find166
theorem run_l1Text (d : Nat) (s : ByteArray) (hs : s.size < 1099511627776) : retP (runD tab noExt (d + 1)) 166 [.str s] = some [.bool (lettersB s && decide ((s.size : Int) ≤ 6))] := by
  rw [retP, runD_eq find166 _ _ _ (by simp)]
  have hl := loop_l1Text d (drawI (runD tab noExt d)) s hs s.data.toList 0 rfl (Nat.zero_le _) 1099511627775 (by rw [str_len]; omega)
  simp only [Int.natCast_zero] at hl
  simp -implicitDefEqProofs only [go_sem, Nat.reduceBEq, Nat.reduceAdd, Nat.reduceSub, Nat.reduceMul, Nat.reduceLeDiff, Nat.reduceEqDiff, Nat.reduceLT, Int.reduceNeg, Int.reduceAdd, Int.reduceSub, Int.reduceMul, Int.reduceLE, Int.reduceLT, Int.reduceEq, Int.reduceToNat, reduceCtorEq]
  rw [hl]
  split <;> simp -implicitDefEqProofs only [go_sem, Nat.reduceBEq, Nat.reduceAdd, Nat.reduceSub, Nat.reduceMul, Nat.reduceLeDiff, Nat.reduceEqDiff, Nat.reduceLT, Int.reduceNeg, Int.reduceAdd, Int.reduceSub, Int.reduceMul, Int.reduceLE, Int.reduceLT, Int.reduceEq, Int.reduceToNat, reduceCtorEq, lettersB, *]

theorem run_specValueOk (d : Nat) (k n : Int) (s : ByteArray) (hs : s.size < 1099511627776) : retP (runD tab noExt (d + 2)) 143 [.agg [.int .i64 k, .int .i64 n, .str s]] = some [.bool (Val.ok ⟨k, n, s⟩)] := by
  rw [retP, runD_eq find143 _ _ _ (by simp)]
  simp -implicitDefEqProofs (disch := omega) only [go_sem, Nat.reduceBEq, Nat.reduceAdd, Nat.reduceSub, Nat.reduceMul, Nat.reduceLeDiff, Nat.reduceEqDiff, Nat.reduceLT, Int.reduceNeg, Int.reduceAdd, Int.reduceSub, Int.reduceMul, Int.reduceLE, Int.reduceLT, Int.reduceEq, Int.reduceToNat, reduceCtorEq, run_l1In, run_l1Text]
  repeat' ((first | rw [GuardI_ndec] | rw [CondC_ndec] | rw [GuardQ_ndec] | rw [GuardI_dec] | rw [CondC_dec] | rw [GuardQ_dec] | rw [GuardI_nby] | rw [CondC_nby] | rw [GuardQ_nby] | rw [GuardQ_by] | rw [GuardI_by] | rw [CondC_by]) <;> split <;> simp -implicitDefEqProofs (disch := omega) only [go_sem, Nat.reduceBEq, Nat.reduceAdd, Nat.reduceSub, Nat.reduceMul, Nat.reduceLeDiff, Nat.reduceEqDiff, Nat.reduceLT, Int.reduceNeg, Int.reduceAdd, Int.reduceSub, Int.reduceMul, Int.reduceLE, Int.reduceLT, Int.reduceEq, Int.reduceToNat, reduceCtorEq, run_l1In, run_l1Text, *])
  all_goals (simp_all [Val.ok, Bool.and_comm]; try omega)
theorem run_l1Less (d : Nat) (a b : Int) : retP (runD tab noExt (d + 1)) 175 [.int .i64 a, .int .i64 b] = some [.int .i64 (if a < b then 1 else 0)] := by
  rw [retP, runD_eq find175 _ _ _ (by simp)]
  simp -implicitDefEqProofs (disch := omega) only [go_sem, Nat.reduceBEq, Nat.reduceAdd, Nat.reduceSub, Nat.reduceMul, Nat.reduceLeDiff, Nat.reduceEqDiff, Nat.reduceLT, Int.reduceNeg, Int.reduceAdd, Int.reduceSub, Int.reduceMul, Int.reduceLE, Int.reduceLT, Int.reduceEq, Int.reduceToNat, reduceCtorEq]
  repeat' ((first | rw [GuardI_ndec] | rw [CondC_ndec] | rw [GuardQ_ndec] | rw [GuardI_dec] | rw [CondC_dec] | rw [GuardQ_dec] | rw [GuardI_nby] | rw [CondC_nby] | rw [GuardQ_nby] | rw [GuardQ_by] | rw [GuardI_by] | rw [CondC_by]) <;> split <;> simp -implicitDefEqProofs (disch := omega) only [go_sem, Nat.reduceBEq, Nat.reduceAdd, Nat.reduceSub, Nat.reduceMul, Nat.reduceLeDiff, Nat.reduceEqDiff, Nat.reduceLT, Int.reduceNeg, Int.reduceAdd, Int.reduceSub, Int.reduceMul, Int.reduceLE, Int.reduceLT, Int.reduceEq, Int.reduceToNat, reduceCtorEq, *])
  all_goals simp_all
theorem run_l1Cmp (d : Nat) (a b : ByteArray) : retP (runD tab noExt (d + 1)) 176 [.str a, .str b] = some [.int .i64 (cmpS a b)] := by
  rw [retP, runD_eq find176 _ _ _ (by simp)]
  simp -implicitDefEqProofs (disch := omega) only [go_sem, Nat.reduceBEq, Nat.reduceAdd, Nat.reduceSub, Nat.reduceMul, Nat.reduceLeDiff, Nat.reduceEqDiff, Nat.reduceLT, Int.reduceNeg, Int.reduceAdd, Int.reduceSub, Int.reduceMul, Int.reduceLE, Int.reduceLT, Int.reduceEq, Int.reduceToNat, reduceCtorEq, str_lt, str_gt]
  repeat' ((first | rw [GuardI_ndec] | rw [CondC_ndec] | rw [GuardQ_ndec] | rw [GuardI_dec] | rw [CondC_dec] | rw [GuardQ_dec] | rw [GuardI_nby] | rw [CondC_nby] | rw [GuardQ_nby] | rw [GuardQ_by] | rw [GuardI_by] | rw [CondC_by]) <;> split <;> simp -implicitDefEqProofs (disch := omega) only [go_sem, Nat.reduceBEq, Nat.reduceAdd, Nat.reduceSub, Nat.reduceMul, Nat.reduceLeDiff, Nat.reduceEqDiff, Nat.reduceLT, Int.reduceNeg, Int.reduceAdd, Int.reduceSub, Int.reduceMul, Int.reduceLE, Int.reduceLT, Int.reduceEq, Int.reduceToNat, reduceCtorEq, str_lt, str_gt, *])
  all_goals (simp_all [cmpS]; try (have := str_gt a b; simp_all))
end Go.Proofs.Ytgepapgabnaonaa.PE
/- What is known of values: what the functions come to. -/
set_option linter.unusedSimpArgs false
namespace Go.Proofs.Ytgepapgabnaonaa.PE
open Go.RowKit

/-- What is known of values. -/
structure Kn where
  many : Int
  sum : Int
  least : Val
  most : Val
  deriving DecidableEq

def Val.ord (v w : Val) : Int := if v.ok && w.ok then v.cmp w else 0
def Val.zero : Val := ⟨0, 0, ⟨#[]⟩⟩
def Kn.zero : Kn := ⟨0, 0, .zero, .zero⟩
def Kn.ok (k : Kn) : Bool :=
  if k.many = 0 then decide (k = .zero)
  else decide (1 ≤ k.many) && decide (k.many ≤ 100) && (decide (-9999 * k.many ≤ k.sum) && decide (k.sum ≤ 9999 * k.many)) && k.least.ok && k.most.ok &&
    decide (k.least.kind = k.most.kind) && !decide (k.least.kind = 0) && decide (k.least.cmp k.most ≤ 0) && (decide (k.least.kind = 1) || decide (k.sum = 0))

theorem run_ValueOrder (d : Nat) (ak an : Int) (aq : ByteArray) (bk bn : Int) (bq : ByteArray) (ha : aq.size < 1099511627776) (hb : bq.size < 1099511627776) : retP (runD tab noExt (d + 3)) 169 [.agg [.int .i64 ak, .int .i64 an, .str aq], .agg [.int .i64 bk, .int .i64 bn, .str bq]] = some [.int .i64 (Val.ord (⟨ak, an, aq⟩ : Val) (⟨bk, bn, bq⟩ : Val))] := by
  rw [retP, runD_eq find169 _ _ _ (by simp)]
  simp -implicitDefEqProofs (disch := omega) only [go_sem, Nat.reduceBEq, Nat.reduceAdd, Nat.reduceSub, Nat.reduceMul, Nat.reduceLeDiff, Nat.reduceEqDiff, Nat.reduceLT, Int.reduceNeg, Int.reduceAdd, Int.reduceSub, Int.reduceMul, Int.reduceLE, Int.reduceLT, Int.reduceEq, Int.reduceToNat, reduceCtorEq, run_specValueOk, run_l1Less, run_l1Cmp, IntWalk.i64_in]
  repeat' ((first | rw [GuardI_ndec] | rw [CondC_ndec] | rw [GuardQ_ndec] | rw [GuardI_dec] | rw [CondC_dec] | rw [GuardQ_dec] | rw [GuardI_nby] | rw [CondC_nby] | rw [GuardQ_nby] | rw [GuardQ_by] | rw [GuardI_by] | rw [CondC_by]) <;> split <;> simp -implicitDefEqProofs (disch := omega) only [go_sem, Nat.reduceBEq, Nat.reduceAdd, Nat.reduceSub, Nat.reduceMul, Nat.reduceLeDiff, Nat.reduceEqDiff, Nat.reduceLT, Int.reduceNeg, Int.reduceAdd, Int.reduceSub, Int.reduceMul, Int.reduceLE, Int.reduceLT, Int.reduceEq, Int.reduceToNat, reduceCtorEq, run_specValueOk, run_l1Less, run_l1Cmp, IntWalk.i64_in, *])
  all_goals (simp_all [Val.ord]; try (unfold Val.cmp cmpI; repeat' split <;> simp_all <;> omega))
end Go.Proofs.Ytgepapgabnaonaa.PE
/- The reader of the drawn bytes. -/
set_option linter.unusedSimpArgs false
set_option linter.unusedVariables false
namespace Go.Proofs.Ytgepapgabnaonaa.PE
open Go.RowKit

theorem ofBytes_lt {l : List UInt8} {i : Nat} (h : i < l.length) : (cellsOfBytes l)[i]? = some [.int .u8 ((l.getD i 0).toNat : Int)] := by
  simp [cellsOfBytes, List.getElem?_eq_getElem h, List.getD_eq_getElem?_getD]
theorem ofBytes_len (l : List UInt8) : (cellsOfBytes l).length = l.length := by simp [cellsOfBytes]
theorem tmod_idx {a : Int} {n : Nat} (h : 0 ≤ a) (hn : 0 < n) : (a.tmod (n : Int)).toNat < n := by
  rw [Int.tmod_eq_emod_of_nonneg h]
  have := Int.emod_lt_of_pos a (show (0 : Int) < n by omega)
  omega
theorem tmod_nn {a n : Int} (h : 0 ≤ a) (hn : 0 < n) : 0 ≤ a.tmod n := by
  rw [Int.tmod_eq_emod_of_nonneg h]
  exact Int.emod_nonneg a (by omega)
theorem tmod_lt {a n : Int} (h : 0 ≤ a) (hn : 0 < n) : a.tmod n < n := by
  rw [Int.tmod_eq_emod_of_nonneg h]
  exact Int.emod_lt_of_pos a (by omega)
theorem tmod_nn' {a : Int} {n : Nat} (h : 0 ≤ a) (hn : 0 < n) : (0 ≤ a.tmod (n : Int)) = True := by simp [tmod_nn h (show (0 : Int) < n by omega)]
theorem tdiv_in {a n : Int} (h : 0 ≤ a) (hn : 0 < n) : 0 ≤ a.tdiv n ∧ a.tdiv n ≤ a := by
  rw [Int.tdiv_eq_ediv_of_nonneg h]
  exact ⟨Int.ediv_nonneg h (by omega), Int.ediv_le_self n h⟩
theorem tdiv64 {a : Int} (h : 0 ≤ a) : a.tdiv 64 = a / 64 := Int.tdiv_eq_ediv_of_nonneg h
theorem xor_nn {a b : Int} (ha : 0 ≤ a) (ha' : a < 9223372036854775808) (hb : 0 ≤ b) (hb' : b < 9223372036854775808) :
    0 ≤ IntKind.i64.wrap ((BitVec.ofInt IntKind.i64.bits a ^^^ BitVec.ofInt IntKind.i64.bits b).toNat : Int) := by
  have h1 : (BitVec.ofInt IntKind.i64.bits a ^^^ BitVec.ofInt IntKind.i64.bits b).toNat < 2 ^ 63 := by
    rw [BitVec.toNat_xor]
    have e : ∀ x : Int, 0 ≤ x → x < 9223372036854775808 → (BitVec.ofInt IntKind.i64.bits x).toNat < 2 ^ 63 := by
      intro x h0 h1
      rw [BitVec.toNat_ofInt]
      have : ((2 ^ IntKind.i64.bits : Nat) : Int) = 18446744073709551616 := rfl
      rw [this, Int.emod_eq_of_lt h0 (by omega)]
      have : (2 : Nat) ^ 63 = 9223372036854775808 := rfl
      omega
    exact Nat.xor_lt_two_pow (e a ha ha') (e b hb hb')
  have h2 : (2 : Nat) ^ 63 = 9223372036854775808 := rfl
  rw [IntWalk.i64_in _ (by omega)]
  omega
theorem u8_lt (l : List UInt8) (i : Nat) : ((l.getD i 0).toNat : Int) < 256 := by
  have := (l.getD i 0).toNat_lt
  omega
theorem u8_nn (l : List UInt8) (i : Nat) : (0 : Int) ≤ ((l.getD i 0).toNat : Int) := by omega
theorem i64_u8 (l : List UInt8) (i : Nat) : IntKind.i64.wrap ((l.getD i 0).toNat : Int) = ((l.getD i 0).toNat : Int) := by
  have := u8_lt l i
  exact IntWalk.i64_in _ (by omega)

/-- A number below n, or 0. -/
def Pk (n m : Int) : Prop := 0 ≤ m ∧ (m < n ∨ m = 0 ∧ n < 1)

-- find65
theorem ex_pick {d : Nat} {hp t : Heap} {c : Bool} {bs : List UInt8} {p n : Int} {X : Option (V × Heap)} (hx : callS (runD tab noExt (d + 1)) (hp ++ .box [.sl c 1 (cellsOfBytes bs), .int .i64 (p)] :: t) 65 [.ptr hp.length 0 0 0, .int .i64 n] false = X)
    (hp0 : 0 ≤ p) (hq : p ≤ 1099511627776) (hb : bs.length ≤ 2000) (hhp : plainH hp = true) (ht : plainH t = true) :
    ∃ m, X = some (.int .i64 m, hp ++ .box [.sl c 1 (cellsOfBytes bs), .int .i64 (p+1)] :: t) ∧ Pk n m := by
  subst hx
  have hh : ∀ n, t.all (hiB n) = true := fun n => plainH_hi ht n
  have hhq : ∀ n, hp.all (hiB n) = true := fun n => plainH_hi hhp n
  rw [callS_eq, runD_eq find65 _ _ _ (by simp)]
  by_cases h1 : n < 1
  · simp -implicitDefEqProofs (disch := omega) only [go_sem, Nat.reduceBEq, Nat.reduceAdd, Nat.reduceSub, Nat.reduceMul, Nat.reduceLeDiff, Nat.reduceEqDiff, Nat.reduceLT, Int.reduceNeg, Int.reduceAdd, Int.reduceSub, Int.reduceMul, Int.reduceLE, Int.reduceLT, Int.reduceEq, Int.reduceToNat, reduceCtorEq, IntWalk.i64_in, hh, hhq, List.all_append, h1]
    exact ⟨0, rfl, by omega, .inr ⟨rfl, h1⟩⟩
  · by_cases h2 : bs.length = 0
    · have h2' : (bs.length : Int) = 0 := by omega
      simp -implicitDefEqProofs (disch := omega) only [go_sem, Nat.reduceBEq, Nat.reduceAdd, Nat.reduceSub, Nat.reduceMul, Nat.reduceLeDiff, Nat.reduceEqDiff, Nat.reduceLT, Int.reduceNeg, Int.reduceAdd, Int.reduceSub, Int.reduceMul, Int.reduceLE, Int.reduceLT, Int.reduceEq, Int.reduceToNat, reduceCtorEq, IntWalk.i64_in, hh, hhq, List.all_append, h1, h2', ofBytes_len]
      exact ⟨0, rfl, by omega, .inl (by omega)⟩
    · have h2' : ((bs.length : Int) = 0) = False := eq_false (by omega)
      by_cases h3 : p < bs.length
      · have h4 : p.toNat < bs.length := by omega
        simp -implicitDefEqProofs (disch := omega) only [go_sem, Nat.reduceBEq, Nat.reduceAdd, Nat.reduceSub, Nat.reduceMul, Nat.reduceLeDiff, Nat.reduceEqDiff, Nat.reduceLT, Int.reduceNeg, Int.reduceAdd, Int.reduceSub, Int.reduceMul, Int.reduceLE, Int.reduceLT, Int.reduceEq, Int.reduceToNat, reduceCtorEq, IntWalk.i64_in, hh, hhq, List.all_append, h1, h2', h3, ofBytes_len, ofBytes_lt h4, Int.add_sub_cancel, hp0, i64_u8, (eq_false (by omega) : (n = 0) = False)]
        exact ⟨_, rfl, tmod_nn (u8_nn _ _) (by omega), .inl (tmod_lt (u8_nn _ _) (by omega))⟩
      · have k1 := tmod_idx hp0 (show 0 < bs.length by omega)
        have k2 := tmod_idx (show 0 ≤ p * 7 + 3 by omega) (show 0 < bs.length by omega)
        have k3 := tmod_nn' hp0 (show 0 < bs.length by omega)
        have k4 := tmod_nn' (show 0 ≤ p * 7 + 3 by omega) (show 0 < bs.length by omega)
        have k5 := u8_lt bs (p.tmod bs.length).toNat
        have k6 := u8_lt bs ((p * 7 + 3).tmod bs.length).toNat
        have k7 := tdiv_in hp0 (show (0 : Int) < bs.length by omega)
        simp -implicitDefEqProofs (disch := omega) only [go_sem, Nat.reduceBEq, Nat.reduceAdd, Nat.reduceSub, Nat.reduceMul, Nat.reduceLeDiff, Nat.reduceEqDiff, Nat.reduceLT, Int.reduceNeg, Int.reduceAdd, Int.reduceSub, Int.reduceMul, Int.reduceLE, Int.reduceLT, Int.reduceEq, Int.reduceToNat, reduceCtorEq, evC_draw, evD65x0, E65x0, IntWalk.i64_in, hh, hhq, List.all_append, h1, h2', h3, ofBytes_len, Int.add_sub_cancel, hp0, i64_u8, (eq_false (by omega) : (n = 0) = False), k3, k4, ofBytes_lt k1, ofBytes_lt k2, tdiv64]
        refine ⟨_, rfl, tmod_nn (xor_nn ?_ ?_ ?_ ?_) (by omega), .inl (tmod_lt (xor_nn ?_ ?_ ?_ ?_) (by omega))⟩ <;> omega

-- find134
theorem ex_odd {d : Nat} {hp t : Heap} {c : Bool} {bs : List UInt8} {p n : Int} {X : Option (V × Heap)} (hx : callS (runD tab noExt (d + 2)) (hp ++ .box [.sl c 1 (cellsOfBytes bs), .int .i64 (p)] :: t) 134 [.ptr hp.length 0 0 0, .int .i64 n] false = X)
    (hp0 : 0 ≤ p) (hq : p ≤ 1099511627776) (hb : bs.length ≤ 2000) (hhp : plainH hp = true) (ht : plainH t = true) :
    ∃ b p', X = some (.bool b, hp ++ .box [.sl c 1 (cellsOfBytes bs), .int .i64 (p')] :: t) ∧ p ≤ p' ∧ p' ≤ p + 1 ∧ (n ≤ 0 → b = false) := by
  subst hx
  have hh : ∀ n, t.all (hiB n) = true := fun n => plainH_hi ht n
  have hhq : ∀ n, hp.all (hiB n) = true := fun n => plainH_hi hhp n
  rw [callS_eq, runD_eq find134 _ _ _ (by simp)]
  by_cases h1 : 0 < n
  · generalize hP : (fun (p' : Int) (b : Bool) => p ≤ p' ∧ p' ≤ p + 1 ∧ (n ≤ 0 → b = false)) = P
    simp -implicitDefEqProofs only [go_sem, Nat.reduceBEq, Nat.reduceAdd, Nat.reduceSub, Nat.reduceMul, Nat.reduceLeDiff, Nat.reduceEqDiff, Nat.reduceLT, Int.reduceNeg, Int.reduceAdd, Int.reduceSub, Int.reduceMul, Int.reduceLE, Int.reduceLT, Int.reduceEq, Int.reduceToNat, reduceCtorEq, h1]
    generalize hx : callS (runD tab noExt _) _ 65 _ _ = X
    obtain ⟨m, rfl, hm⟩ := ex_pick hx hp0 hq hb hhp ht
    simp -implicitDefEqProofs only [go_sem, Nat.reduceBEq, Nat.reduceAdd, Nat.reduceSub, Nat.reduceMul, Nat.reduceLeDiff, Nat.reduceEqDiff, Nat.reduceLT, Int.reduceNeg, Int.reduceAdd, Int.reduceSub, Int.reduceMul, Int.reduceLE, Int.reduceLT, Int.reduceEq, Int.reduceToNat, reduceCtorEq, hh, hhq, List.all_append]
    exact ⟨_, _, rfl, by omega, by omega, fun h => by omega⟩
  · simp -implicitDefEqProofs only [go_sem, Nat.reduceBEq, Nat.reduceAdd, Nat.reduceSub, Nat.reduceMul, Nat.reduceLeDiff, Nat.reduceEqDiff, Nat.reduceLT, Int.reduceNeg, Int.reduceAdd, Int.reduceSub, Int.reduceMul, Int.reduceLE, Int.reduceLT, Int.reduceEq, Int.reduceToNat, reduceCtorEq, hh, hhq, List.all_append, h1]
    exact ⟨_, _, rfl, by omega, by omega, fun _ => rfl⟩
end Go.Proofs.Ytgepapgabnaonaa.PE
/- Columns and rows: what the reference's small functions come to. -/
set_option linter.unusedSimpArgs false
set_option linter.unusedVariables false
set_option maxHeartbeats 4000000
namespace Go.Proofs.Ytgepapgabnaonaa.PE
open Go.RowKit

theorem at_getD {α : Type} {l : List α} {i : Nat} (d : α) (h : i < l.length) : l[i]? = some (l.getD i d) := by
  rw [List.getD_eq_getElem?_getD, List.getElem?_eq_getElem h]; rfl
structure Col where
  kind : Int
  empty : Bool
  deriving DecidableEq
def Col.cells (c : Col) : List V := [.int .i64 c.kind, .bool c.empty]
def Col.ok (c : Col) : Bool := decide (1 ≤ c.kind ∧ c.kind ≤ 3)
def colsOk (cs : List Col) : Bool := cs.all Col.ok && decide (cs.length ≤ 4)
/-- A row as it lies in a list of rows: whether it is clipped, and its values. -/
structure Row where
  clip : Bool
  vs : List Val
def Row.v (r : Row) : V := .sl r.clip 3 (r.vs.map Val.cells)
def Row.cells (r : Row) : List V := [r.v]
def short (vs : List Val) : Prop := ∀ v ∈ vs, v.s.size < 1099511627776
def rowOk (vs : List Val) : Bool := vs.all Val.ok && decide (vs.length ≤ 4)
theorem short_at {vs : List Val} (h : short vs) {i : Nat} {x : Val} (hx : vs[i]? = some x) : x.s.size < 1099511627776 := h x (List.mem_of_getElem? hx)

theorem loop_colsOk (d : Nat) (c : Bool) (cs : List Col) (hs : cs.length < 1099511627776) (K : Nat) (hK : (cs).length ≤ K) : LoopS (runD tab noExt (d + 1)) (drawI (runD tab noExt (d + 1))) [0, 3] [0, 2] L96x0 ([] : Heap).length K [(0, .sl c 2 (cs.map Col.cells)), (3, .int .i64 0)] [] = if (cs).all (Col.ok) then (some (.exit 0, [(0, .sl c 2 (cs.map Col.cells)), (2, .undef)], []) : Out) else (some (.ret, [(0, .sl c 2 (cs.map Col.cells)), (2, .bool false)], []) : Out) := by
  have key := LoopS_all (run := (runD tab noExt (d + 1))) (draw := drawI (runD tab noExt (d + 1))) (live := [0, 3]) (out := [0, 2]) (c := L96x0) (n0 := ([] : Heap).length) (cs) (Col.ok) (fun (i : Nat) => [(0, .sl c 2 (cs.map Col.cells)), (3, .int .i64 i)]) [] (some (.exit 0, [(0, .sl c 2 (cs.map Col.cells)), (2, .undef)], []) : Out) (some (.ret, [(0, .sl c 2 (cs.map Col.cells)), (2, .bool false)], []) : Out) (fun K => ?_) (fun (i : Nat) (x : Col) K hi hx => ?_) K hK
  · simp only [Int.natCast_zero] at key
    exact key
  · rw [LoopS_eq]
    simp -implicitDefEqProofs only [go_sem, Nat.reduceBEq, Nat.reduceAdd, Nat.reduceSub, Nat.reduceMul, Nat.reduceLeDiff, Nat.reduceEqDiff, Nat.reduceLT, Int.reduceNeg, Int.reduceAdd, Int.reduceSub, Int.reduceMul, Int.reduceLE, Int.reduceLT, Int.reduceEq, Int.reduceToNat, reduceCtorEq, evL96x0, B96x0, Int.lt_irrefl, run_l1In, Col.cells, Col.ok]
  · skip
    rw [LoopS_eq]
    simp -implicitDefEqProofs (disch := omega) only [go_sem, Nat.reduceBEq, Nat.reduceAdd, Nat.reduceSub, Nat.reduceMul, Nat.reduceLeDiff, Nat.reduceEqDiff, Nat.reduceLT, Int.reduceNeg, Int.reduceAdd, Int.reduceSub, Int.reduceMul, Int.reduceLE, Int.reduceLT, Int.reduceEq, Int.reduceToNat, reduceCtorEq, evL96x0, B96x0, hi, hx, IntWalk.i64_in, run_l1In, Col.cells, Col.ok, *]
    repeat' ((first | rw [GuardI_ndec] | rw [CondC_ndec] | rw [GuardQ_ndec] | rw [GuardI_dec] | rw [CondC_dec] | rw [GuardQ_dec] | rw [GuardI_nby] | rw [CondC_nby] | rw [GuardQ_nby] | rw [GuardQ_by] | rw [GuardI_by] | rw [CondC_by]) <;> split <;> simp -implicitDefEqProofs (disch := omega) only [go_sem, Nat.reduceBEq, Nat.reduceAdd, Nat.reduceSub, Nat.reduceMul, Nat.reduceLeDiff, Nat.reduceEqDiff, Nat.reduceLT, Int.reduceNeg, Int.reduceAdd, Int.reduceSub, Int.reduceMul, Int.reduceLE, Int.reduceLT, Int.reduceEq, Int.reduceToNat, reduceCtorEq, hi, hx, IntWalk.i64_in, run_l1In, Col.cells, Col.ok, *, *])
    all_goals first | rfl | (simp_all []; done) | (simp_all []; omega)
-- find96
theorem run_colsOk (d : Nat) (c : Bool) (cs : List Col) (hs : cs.length < 1099511627776) : retP (runD tab noExt (d + 2)) 96 [.sl c 2 (cs.map Col.cells)] = some [.bool (colsOk cs)] := by
  rw [retP, runD_eq find96 _ _ _ (by simp)]
  have hl := loop_colsOk d c cs hs 1099511627775 (by omega)
  simp -implicitDefEqProofs only [go_sem, Nat.reduceBEq, Nat.reduceAdd, Nat.reduceSub, Nat.reduceMul, Nat.reduceLeDiff, Nat.reduceEqDiff, Nat.reduceLT, Int.reduceNeg, Int.reduceAdd, Int.reduceSub, Int.reduceMul, Int.reduceLE, Int.reduceLT, Int.reduceEq, Int.reduceToNat, reduceCtorEq] at hl ⊢
  rw [hl]
  split <;> simp -implicitDefEqProofs only [go_sem, Nat.reduceBEq, Nat.reduceAdd, Nat.reduceSub, Nat.reduceMul, Nat.reduceLeDiff, Nat.reduceEqDiff, Nat.reduceLT, Int.reduceNeg, Int.reduceAdd, Int.reduceSub, Int.reduceMul, Int.reduceLE, Int.reduceLT, Int.reduceEq, Int.reduceToNat, reduceCtorEq, colsOk, *]
  norm_cast

theorem loop_rowOk (d : Nat) (c : Bool) (vs : List Val) (hs : vs.length < 1099511627776) (hsh : short vs) (K : Nat) (hK : (vs).length ≤ K) : LoopS (runD tab noExt (d + 2)) (drawI (runD tab noExt (d + 2))) [0, 3] [0, 2] L174x0 ([] : Heap).length K [(0, .sl c 3 (vs.map Val.cells)), (3, .int .i64 0)] [] = if (vs).all (Val.ok) then (some (.exit 0, [(0, .sl c 3 (vs.map Val.cells)), (2, .undef)], []) : Out) else (some (.ret, [(0, .sl c 3 (vs.map Val.cells)), (2, .bool false)], []) : Out) := by
  have key := LoopS_all (run := (runD tab noExt (d + 2))) (draw := drawI (runD tab noExt (d + 2))) (live := [0, 3]) (out := [0, 2]) (c := L174x0) (n0 := ([] : Heap).length) (vs) (Val.ok) (fun (i : Nat) => [(0, .sl c 3 (vs.map Val.cells)), (3, .int .i64 i)]) [] (some (.exit 0, [(0, .sl c 3 (vs.map Val.cells)), (2, .undef)], []) : Out) (some (.ret, [(0, .sl c 3 (vs.map Val.cells)), (2, .bool false)], []) : Out) (fun K => ?_) (fun (i : Nat) (x : Val) K hi hx => ?_) K hK
  · simp only [Int.natCast_zero] at key
    exact key
  · rw [LoopS_eq]
    simp -implicitDefEqProofs only [go_sem, Nat.reduceBEq, Nat.reduceAdd, Nat.reduceSub, Nat.reduceMul, Nat.reduceLeDiff, Nat.reduceEqDiff, Nat.reduceLT, Int.reduceNeg, Int.reduceAdd, Int.reduceSub, Int.reduceMul, Int.reduceLE, Int.reduceLT, Int.reduceEq, Int.reduceToNat, reduceCtorEq, evL174x0, B174x0, Int.lt_irrefl, run_specValueOk, Val.cells, Val.eta]
  · have hxs := short_at hsh hx
    rw [LoopS_eq]
    simp -implicitDefEqProofs (disch := omega) only [go_sem, Nat.reduceBEq, Nat.reduceAdd, Nat.reduceSub, Nat.reduceMul, Nat.reduceLeDiff, Nat.reduceEqDiff, Nat.reduceLT, Int.reduceNeg, Int.reduceAdd, Int.reduceSub, Int.reduceMul, Int.reduceLE, Int.reduceLT, Int.reduceEq, Int.reduceToNat, reduceCtorEq, evL174x0, B174x0, hi, hx, IntWalk.i64_in, run_specValueOk, Val.cells, Val.eta, *]
    repeat' ((first | rw [GuardI_ndec] | rw [CondC_ndec] | rw [GuardQ_ndec] | rw [GuardI_dec] | rw [CondC_dec] | rw [GuardQ_dec] | rw [GuardI_nby] | rw [CondC_nby] | rw [GuardQ_nby] | rw [GuardQ_by] | rw [GuardI_by] | rw [CondC_by]) <;> split <;> simp -implicitDefEqProofs (disch := omega) only [go_sem, Nat.reduceBEq, Nat.reduceAdd, Nat.reduceSub, Nat.reduceMul, Nat.reduceLeDiff, Nat.reduceEqDiff, Nat.reduceLT, Int.reduceNeg, Int.reduceAdd, Int.reduceSub, Int.reduceMul, Int.reduceLE, Int.reduceLT, Int.reduceEq, Int.reduceToNat, reduceCtorEq, hi, hx, IntWalk.i64_in, run_specValueOk, Val.cells, Val.eta, *, *])
    all_goals first | rfl | (simp_all []; done) | (simp_all []; omega)
-- find174
theorem run_rowOk (d : Nat) (c : Bool) (vs : List Val) (hs : vs.length < 1099511627776) (hsh : short vs) : retP (runD tab noExt (d + 3)) 174 [.sl c 3 (vs.map Val.cells)] = some [.bool (rowOk vs)] := by
  rw [retP, runD_eq find174 _ _ _ (by simp)]
  have hl := loop_rowOk d c vs hs hsh 1099511627775 (by omega)
  simp -implicitDefEqProofs only [go_sem, Nat.reduceBEq, Nat.reduceAdd, Nat.reduceSub, Nat.reduceMul, Nat.reduceLeDiff, Nat.reduceEqDiff, Nat.reduceLT, Int.reduceNeg, Int.reduceAdd, Int.reduceSub, Int.reduceMul, Int.reduceLE, Int.reduceLT, Int.reduceEq, Int.reduceToNat, reduceCtorEq] at hl ⊢
  rw [hl]
  split <;> simp -implicitDefEqProofs only [go_sem, Nat.reduceBEq, Nat.reduceAdd, Nat.reduceSub, Nat.reduceMul, Nat.reduceLeDiff, Nat.reduceEqDiff, Nat.reduceLT, Int.reduceNeg, Int.reduceAdd, Int.reduceSub, Int.reduceMul, Int.reduceLE, Int.reduceLT, Int.reduceEq, Int.reduceToNat, reduceCtorEq, rowOk, *]
  norm_cast

def fits1 (p : Col × Val) : Bool := decide (p.2.kind = p.1.kind) || (decide (p.2.kind = 0) && p.1.empty)
def fitsRow (cs : List Col) (vs : List Val) : Bool := colsOk cs && rowOk vs && decide (vs.length = cs.length) && (cs.zip vs).all fits1
theorem loop_fits (d : Nat) (c c' : Bool) (cs : List Col) (vs : List Val) (hs : vs.length < 1099511627776) (hlen : vs.length = cs.length) (K : Nat) (hK : (cs.zip vs).length ≤ K) : LoopS (runD tab noExt d) (drawI (runD tab noExt d)) [0, 1, 5] [4] L165x0 ([] : Heap).length K [(0, .sl c 2 (cs.map Col.cells)), (1, .sl c' 3 (vs.map Val.cells)), (5, .int .i64 0)] [] = if (cs.zip vs).all (fits1) then (some (.exit 0, [(4, .undef)], []) : Out) else (some (.ret, [(4, .bool false)], []) : Out) := by
  have key := LoopS_all (run := (runD tab noExt d)) (draw := drawI (runD tab noExt d)) (live := [0, 1, 5]) (out := [4]) (c := L165x0) (n0 := ([] : Heap).length) (cs.zip vs) (fits1) (fun (i : Nat) => [(0, .sl c 2 (cs.map Col.cells)), (1, .sl c' 3 (vs.map Val.cells)), (5, .int .i64 i)]) [] (some (.exit 0, [(4, .undef)], []) : Out) (some (.ret, [(4, .bool false)], []) : Out) (fun K => ?_) (fun (i : Nat) (x : Col × Val) K hi hx => ?_) K hK
  · simp only [Int.natCast_zero] at key
    exact key
  · rw [LoopS_eq]
    simp -implicitDefEqProofs only [go_sem, Nat.reduceBEq, Nat.reduceAdd, Nat.reduceSub, Nat.reduceMul, Nat.reduceLeDiff, Nat.reduceEqDiff, Nat.reduceLT, Int.reduceNeg, Int.reduceAdd, Int.reduceSub, Int.reduceMul, Int.reduceLE, Int.reduceLT, Int.reduceEq, Int.reduceToNat, reduceCtorEq, evL165x0, B165x0, Int.lt_irrefl, List.length_zip, hlen, Nat.min_self, evC_draw, evD165x0, E165x0, Col.cells, Val.cells]
  · obtain ⟨g1, g2⟩ := List.getElem?_zip_eq_some.1 hx; rw [List.length_zip, hlen, Nat.min_self] at hi; have hi' : (i : Int) < vs.length := by omega
    rw [LoopS_eq]
    simp -implicitDefEqProofs (disch := omega) only [go_sem, Nat.reduceBEq, Nat.reduceAdd, Nat.reduceSub, Nat.reduceMul, Nat.reduceLeDiff, Nat.reduceEqDiff, Nat.reduceLT, Int.reduceNeg, Int.reduceAdd, Int.reduceSub, Int.reduceMul, Int.reduceLE, Int.reduceLT, Int.reduceEq, Int.reduceToNat, reduceCtorEq, evL165x0, B165x0, hi, hx, IntWalk.i64_in, List.length_zip, hlen, Nat.min_self, evC_draw, evD165x0, E165x0, Col.cells, Val.cells, *]
    repeat' ((first | rw [GuardI_ndec] | rw [CondC_ndec] | rw [GuardQ_ndec] | rw [GuardI_dec] | rw [CondC_dec] | rw [GuardQ_dec] | rw [GuardI_nby] | rw [CondC_nby] | rw [GuardQ_nby] | rw [GuardQ_by] | rw [GuardI_by] | rw [CondC_by]) <;> split <;> simp -implicitDefEqProofs (disch := omega) only [go_sem, Nat.reduceBEq, Nat.reduceAdd, Nat.reduceSub, Nat.reduceMul, Nat.reduceLeDiff, Nat.reduceEqDiff, Nat.reduceLT, Int.reduceNeg, Int.reduceAdd, Int.reduceSub, Int.reduceMul, Int.reduceLE, Int.reduceLT, Int.reduceEq, Int.reduceToNat, reduceCtorEq, hi, hx, IntWalk.i64_in, List.length_zip, hlen, Nat.min_self, evC_draw, evD165x0, E165x0, Col.cells, Val.cells, *, *])
    all_goals first | rfl | (simp_all [fits1]; done) | (simp_all [fits1]; omega)
-- find165
theorem run_fits (d : Nat) (c c' : Bool) (cs : List Col) (vs : List Val) (hc : cs.length < 1099511627776) (hs : vs.length < 1099511627776) (hsh : short vs) : retP (runD tab noExt (d + 4)) 165 [.sl c 2 (cs.map Col.cells), .sl c' 3 (vs.map Val.cells)] = some [.bool (fitsRow cs vs)] := by
  rw [retP, runD_eq find165 _ _ _ (by simp)]
  simp -implicitDefEqProofs (disch := first | omega | assumption) only [go_sem, Nat.reduceBEq, Nat.reduceAdd, Nat.reduceSub, Nat.reduceMul, Nat.reduceLeDiff, Nat.reduceEqDiff, Nat.reduceLT, Int.reduceNeg, Int.reduceAdd, Int.reduceSub, Int.reduceMul, Int.reduceLE, Int.reduceLT, Int.reduceEq, Int.reduceToNat, reduceCtorEq, run_colsOk, run_rowOk]
  repeat' ((first | rw [GuardI_ndec] | rw [CondC_ndec] | rw [GuardQ_ndec] | rw [GuardI_dec] | rw [CondC_dec] | rw [GuardQ_dec] | rw [GuardI_nby] | rw [CondC_nby] | rw [GuardQ_nby] | rw [GuardQ_by] | rw [GuardI_by] | rw [CondC_by]) <;> split <;> simp -implicitDefEqProofs (disch := first | omega | assumption) only [go_sem, Nat.reduceBEq, Nat.reduceAdd, Nat.reduceSub, Nat.reduceMul, Nat.reduceLeDiff, Nat.reduceEqDiff, Nat.reduceLT, Int.reduceNeg, Int.reduceAdd, Int.reduceSub, Int.reduceMul, Int.reduceLE, Int.reduceLT, Int.reduceEq, Int.reduceToNat, reduceCtorEq, run_colsOk, run_rowOk, *])
  all_goals try (simp_all [fitsRow, Int.natCast_inj]; done)
  have hlen : vs.length = cs.length := by omega
  have hl := loop_fits (d + 3) c c' cs vs hs hlen 1099511627775 (by simp; omega)
  simp -implicitDefEqProofs only [go_sem, Nat.reduceBEq, Nat.reduceAdd, Nat.reduceSub, Nat.reduceMul, Nat.reduceLeDiff, Nat.reduceEqDiff, Nat.reduceLT, Int.reduceNeg, Int.reduceAdd, Int.reduceSub, Int.reduceMul, Int.reduceLE, Int.reduceLT, Int.reduceEq, Int.reduceToNat, reduceCtorEq] at hl ⊢
  rw [hl]
  split <;> simp -implicitDefEqProofs only [go_sem, Nat.reduceBEq, Nat.reduceAdd, Nat.reduceSub, Nat.reduceMul, Nat.reduceLeDiff, Nat.reduceEqDiff, Nat.reduceLT, Int.reduceNeg, Int.reduceAdd, Int.reduceSub, Int.reduceMul, Int.reduceLE, Int.reduceLT, Int.reduceEq, Int.reduceToNat, reduceCtorEq, fitsRow, *]

def rowsFit (cs : List Col) (rs : List Row) : Bool := rs.all fun r => fitsRow cs r.vs
def rowsOk (cs : List Col) (rs : List Row) : Bool := rowsFit cs rs && colsOk cs
def Short (rs : List Row) : Prop := ∀ r ∈ rs, r.vs.length < 1099511627776 ∧ short r.vs
theorem Short_at {rs : List Row} (h : Short rs) {i : Nat} {x : Row} (hx : rs[i]? = some x) : x.vs.length < 1099511627776 ∧ short x.vs := h x (List.mem_of_getElem? hx)
theorem loop_rowsOk (d : Nat) (c c' : Bool) (cs : List Col) (rs : List Row) (hc : cs.length < 1099511627776) (hs : rs.length < 1099511627776) (hsh : Short rs) (K : Nat) (hK : (rs).length ≤ K) : LoopS (runD tab noExt (d + 4)) (drawI (runD tab noExt (d + 4))) [0, 1, 5] [0, 4] L135x0 ([] : Heap).length K [(0, .sl c 2 (cs.map Col.cells)), (1, .sl c' 1 (rs.map Row.cells)), (5, .int .i64 0)] [] = if (rs).all (fun r => fitsRow cs r.vs) then (some (.exit 0, [(0, .sl c 2 (cs.map Col.cells)), (4, .undef)], []) : Out) else (some (.ret, [(0, .sl c 2 (cs.map Col.cells)), (4, .bool false)], []) : Out) := by
  have key := LoopS_all (run := (runD tab noExt (d + 4))) (draw := drawI (runD tab noExt (d + 4))) (live := [0, 1, 5]) (out := [0, 4]) (c := L135x0) (n0 := ([] : Heap).length) (rs) (fun r => fitsRow cs r.vs) (fun (i : Nat) => [(0, .sl c 2 (cs.map Col.cells)), (1, .sl c' 1 (rs.map Row.cells)), (5, .int .i64 i)]) [] (some (.exit 0, [(0, .sl c 2 (cs.map Col.cells)), (4, .undef)], []) : Out) (some (.ret, [(0, .sl c 2 (cs.map Col.cells)), (4, .bool false)], []) : Out) (fun K => ?_) (fun (i : Nat) (x : Row) K hi hx => ?_) K hK
  · simp only [Int.natCast_zero] at key
    exact key
  · rw [LoopS_eq]
    simp -implicitDefEqProofs only [go_sem, Nat.reduceBEq, Nat.reduceAdd, Nat.reduceSub, Nat.reduceMul, Nat.reduceLeDiff, Nat.reduceEqDiff, Nat.reduceLT, Int.reduceNeg, Int.reduceAdd, Int.reduceSub, Int.reduceMul, Int.reduceLE, Int.reduceLT, Int.reduceEq, Int.reduceToNat, reduceCtorEq, evL135x0, B135x0, Int.lt_irrefl, Row.cells, Row.v]
  · obtain ⟨hx1, hx2⟩ := Short_at hsh hx; have hfit := run_fits d c x.clip cs x.vs hc hx1 hx2
    rw [LoopS_eq]
    simp -implicitDefEqProofs (disch := omega) only [go_sem, Nat.reduceBEq, Nat.reduceAdd, Nat.reduceSub, Nat.reduceMul, Nat.reduceLeDiff, Nat.reduceEqDiff, Nat.reduceLT, Int.reduceNeg, Int.reduceAdd, Int.reduceSub, Int.reduceMul, Int.reduceLE, Int.reduceLT, Int.reduceEq, Int.reduceToNat, reduceCtorEq, evL135x0, B135x0, hi, hx, IntWalk.i64_in, Row.cells, Row.v, *]
    repeat' ((first | rw [GuardI_ndec] | rw [CondC_ndec] | rw [GuardQ_ndec] | rw [GuardI_dec] | rw [CondC_dec] | rw [GuardQ_dec] | rw [GuardI_nby] | rw [CondC_nby] | rw [GuardQ_nby] | rw [GuardQ_by] | rw [GuardI_by] | rw [CondC_by]) <;> split <;> simp -implicitDefEqProofs (disch := omega) only [go_sem, Nat.reduceBEq, Nat.reduceAdd, Nat.reduceSub, Nat.reduceMul, Nat.reduceLeDiff, Nat.reduceEqDiff, Nat.reduceLT, Int.reduceNeg, Int.reduceAdd, Int.reduceSub, Int.reduceMul, Int.reduceLE, Int.reduceLT, Int.reduceEq, Int.reduceToNat, reduceCtorEq, hi, hx, IntWalk.i64_in, Row.cells, Row.v, *, *])
    all_goals first | rfl | (simp_all []; done) | (simp_all []; omega)
-- find135
theorem run_rowsOk (d : Nat) (c c' : Bool) (cs : List Col) (rs : List Row) (hc : cs.length < 1099511627776) (hs : rs.length < 1099511627776) (hsh : Short rs) : retP (runD tab noExt (d + 5)) 135 [.sl c 2 (cs.map Col.cells), .sl c' 1 (rs.map Row.cells)] = some [.bool (rowsOk cs rs)] := by
  rw [retP, runD_eq find135 _ _ _ (by simp)]
  have hl := loop_rowsOk d c c' cs rs hc hs hsh 1099511627775 (by omega)
  simp -implicitDefEqProofs only [go_sem, Nat.reduceBEq, Nat.reduceAdd, Nat.reduceSub, Nat.reduceMul, Nat.reduceLeDiff, Nat.reduceEqDiff, Nat.reduceLT, Int.reduceNeg, Int.reduceAdd, Int.reduceSub, Int.reduceMul, Int.reduceLE, Int.reduceLT, Int.reduceEq, Int.reduceToNat, reduceCtorEq] at hl ⊢
  rw [hl]
  split <;> simp -implicitDefEqProofs (disch := omega) only [go_sem, Nat.reduceBEq, Nat.reduceAdd, Nat.reduceSub, Nat.reduceMul, Nat.reduceLeDiff, Nat.reduceEqDiff, Nat.reduceLT, Int.reduceNeg, Int.reduceAdd, Int.reduceSub, Int.reduceMul, Int.reduceLE, Int.reduceLT, Int.reduceEq, Int.reduceToNat, reduceCtorEq, rowsOk, rowsFit, run_colsOk, *]
end Go.Proofs.Ytgepapgabnaonaa.PE
/- Lists that are looked through by a closure; columns and rows: the program's. -/
set_option linter.unusedSimpArgs false
set_option linter.unusedVariables false
set_option maxHeartbeats 4000000
namespace Go.Proofs.Ytgepapgabnaonaa.PE
open Go.RowKit

def intC (n : Int) : List V := [.int .i64 n]
theorem loop_idxCol (d : Nat) (h : Heap) (c : Bool) (g : Nat) (caps : List V) (xs : List (Col)) (P : Col → Bool) (hs : xs.length < 1099511627776) (hhi : h.all (hiB h.length) = true) (hcap : caps.all (hi0 h.length) = true)
    (hg : ∀ x ∈ xs, callS (runD tab noExt d) h g (V.agg (Col.cells x) :: caps) false = some (.bool (P x), h)) (K : Nat) (hK : xs.length ≤ K) :
    LoopS (runD tab noExt d) (drawI (runD tab noExt d)) [0, 1, 7, 8] [4] L156x0 h.length K [(0, .sl c 2 (xs.map Col.cells)), (1, .clo g caps), (7, .int .i64 xs.length), (8, .int .i64 0)] h =
      (match xs.findIdx? P with
        | some k => (some (.ret, [(4, .int .i64 (k : Int))], h) : Out)
        | none => some (.exit 0, [(4, .undef)], h)) := by
  have key := LoopS_rec (run := runD tab noExt d) (draw := drawI (runD tab noExt d)) (live := [0, 1, 7, 8]) (out := [4]) (c := L156x0) (n0 := h.length) xs (fun (i : Nat) (_ : Unit) => [(0, .sl c 2 (xs.map Col.cells)), (1, .clo g caps), (7, .int .i64 xs.length), (8, .int .i64 i)]) (fun _ _ => h)
    (fun r _ => match r.findIdx? P with
        | some k => (some (.ret, [(4, .int .i64 (xs.length - r.length + k : Int))], h) : Out)
        | none => some (.exit 0, [(4, .undef)], h)) (fun _ K => ?_) (fun (i : Nat) x r _ K hi hx hr ih => ?_) K hK ()
  · simp only [Int.natCast_zero, Int.sub_self, Int.zero_add] at key
    exact key
  · rw [LoopS_eq]
    simp -implicitDefEqProofs only [go_sem, Nat.reduceBEq, Nat.reduceAdd, Nat.reduceSub, Nat.reduceMul, Nat.reduceLeDiff, Nat.reduceEqDiff, Nat.reduceLT, Int.reduceNeg, Int.reduceAdd, Int.reduceSub, Int.reduceMul, Int.reduceLE, Int.reduceLT, Int.reduceEq, Int.reduceToNat, reduceCtorEq, evL156x0, B156x0, hhi, hcap, Int.lt_irrefl, List.findIdx?_nil]
  · have hgx := hg x (List.mem_of_getElem? hx)
    try simp only [Col.cells] at hgx
    have hlen : (xs.length : Int) - (r.length + 1) = i := by omega
    rw [LoopS_eq]
    simp -implicitDefEqProofs (disch := omega) only [go_sem, Nat.reduceBEq, Nat.reduceAdd, Nat.reduceSub, Nat.reduceMul, Nat.reduceLeDiff, Nat.reduceEqDiff, Nat.reduceLT, Int.reduceNeg, Int.reduceAdd, Int.reduceSub, Int.reduceMul, Int.reduceLE, Int.reduceLT, Int.reduceEq, Int.reduceToNat, reduceCtorEq, evL156x0, B156x0, hhi, hcap, hi, hx, hgx, Col.cells, Col.cells, IntWalk.i64_in]
    rw [List.findIdx?_cons]
    cases hp : P x
    · simp -implicitDefEqProofs (disch := omega) only [go_sem, Nat.reduceBEq, Nat.reduceAdd, Nat.reduceSub, Nat.reduceMul, Nat.reduceLeDiff, Nat.reduceEqDiff, Nat.reduceLT, Int.reduceNeg, Int.reduceAdd, Int.reduceSub, Int.reduceMul, Int.reduceLE, Int.reduceLT, Int.reduceEq, Int.reduceToNat, reduceCtorEq, hhi, hcap, IntWalk.i64_in, hp]
      have ih' := ih ()
      simp only [Int.natCast_add, Int.natCast_one] at ih'
      rw [ih']
      cases hf : r.findIdx? P with
      | none => rfl
      | some k => simp; omega
    · simp -implicitDefEqProofs only [go_sem, Nat.reduceBEq, Nat.reduceAdd, Nat.reduceSub, Nat.reduceMul, Nat.reduceLeDiff, Nat.reduceEqDiff, Nat.reduceLT, Int.reduceNeg, Int.reduceAdd, Int.reduceSub, Int.reduceMul, Int.reduceLE, Int.reduceLT, Int.reduceEq, Int.reduceToNat, reduceCtorEq, hp, List.length_cons, Int.natCast_add, Int.natCast_one, hlen]
      simp
theorem idxCol (d : Nat) (h : Heap) (c : Bool) (g : Nat) (caps : List V) (xs : List (Col)) (P : Col → Bool) (hs : xs.length < 1099511627776) (hhi : h.all (hiB h.length) = true) (hcap : caps.all (hi0 h.length) = true)
    (hg : ∀ x ∈ xs, callS (runD tab noExt d) h g (V.agg (Col.cells x) :: caps) false = some (.bool (P x), h)) :
    callS (runD tab noExt (d + 1)) h 156 [.sl c 2 (xs.map Col.cells), .clo g caps] false = some (.int .i64 (match xs.findIdx? P with | some k => (k : Int) | none => -1), h) := by
  rw [callS_eq, runD_eq find156 _ _ _ (by simp)]
  have hl := loop_idxCol d h c g caps xs P hs hhi hcap hg 1099511627775 (by omega)
  simp -implicitDefEqProofs (disch := omega) only [go_sem, Nat.reduceBEq, Nat.reduceAdd, Nat.reduceSub, Nat.reduceMul, Nat.reduceLeDiff, Nat.reduceEqDiff, Nat.reduceLT, Int.reduceNeg, Int.reduceAdd, Int.reduceSub, Int.reduceMul, Int.reduceLE, Int.reduceLT, Int.reduceEq, Int.reduceToNat, reduceCtorEq, hhi, hcap]
  rw [hl]
  cases hf : xs.findIdx? P <;> simp -implicitDefEqProofs only [go_sem, Nat.reduceBEq, Nat.reduceAdd, Nat.reduceSub, Nat.reduceMul, Nat.reduceLeDiff, Nat.reduceEqDiff, Nat.reduceLT, Int.reduceNeg, Int.reduceAdd, Int.reduceSub, Int.reduceMul, Int.reduceLE, Int.reduceLT, Int.reduceEq, Int.reduceToNat, reduceCtorEq, hhi, hcap]
theorem conCol (d : Nat) (h : Heap) (c : Bool) (g : Nat) (caps : List V) (xs : List (Col)) (P : Col → Bool) (hs : xs.length < 1099511627776) (hhi : h.all (hiB h.length) = true) (hcap : caps.all (hi0 h.length) = true)
    (hg : ∀ x ∈ xs, callS (runD tab noExt d) h g (V.agg (Col.cells x) :: caps) false = some (.bool (P x), h)) :
    callS (runD tab noExt (d + 2)) h 124 [.sl c 2 (xs.map Col.cells), .clo g caps] false = some (.bool (xs.any P), h) := by
  rw [callS_eq, runD_eq find124 _ _ _ (by simp)]
  have hl := idxCol d h c g caps xs P hs hhi hcap hg
  simp -implicitDefEqProofs (disch := omega) only [go_sem, Nat.reduceBEq, Nat.reduceAdd, Nat.reduceSub, Nat.reduceMul, Nat.reduceLeDiff, Nat.reduceEqDiff, Nat.reduceLT, Int.reduceNeg, Int.reduceAdd, Int.reduceSub, Int.reduceMul, Int.reduceLE, Int.reduceLT, Int.reduceEq, Int.reduceToNat, reduceCtorEq, hl, hhi, hcap]
  have e : xs.any P = (xs.findIdx? P).isSome := by simp [List.findIdx?_isSome]
  rw [e]
  cases hf : xs.findIdx? P <;> simp -implicitDefEqProofs only [go_sem, Nat.reduceBEq, Nat.reduceAdd, Nat.reduceSub, Nat.reduceMul, Nat.reduceLeDiff, Nat.reduceEqDiff, Nat.reduceLT, Int.reduceNeg, Int.reduceAdd, Int.reduceSub, Int.reduceMul, Int.reduceLE, Int.reduceLT, Int.reduceEq, Int.reduceToNat, reduceCtorEq, Option.isSome_some, Option.isSome_none]

theorem loop_idxVal (d : Nat) (h : Heap) (c : Bool) (g : Nat) (caps : List V) (xs : List (Val)) (P : Val → Bool) (hs : xs.length < 1099511627776) (hhi : h.all (hiB h.length) = true) (hcap : caps.all (hi0 h.length) = true)
    (hg : ∀ x ∈ xs, callS (runD tab noExt d) h g (V.agg (Val.cells x) :: caps) false = some (.bool (P x), h)) (K : Nat) (hK : xs.length ≤ K) :
    LoopS (runD tab noExt d) (drawI (runD tab noExt d)) [0, 1, 7, 8] [4] L157x0 h.length K [(0, .sl c 3 (xs.map Val.cells)), (1, .clo g caps), (7, .int .i64 xs.length), (8, .int .i64 0)] h =
      (match xs.findIdx? P with
        | some k => (some (.ret, [(4, .int .i64 (k : Int))], h) : Out)
        | none => some (.exit 0, [(4, .undef)], h)) := by
  have key := LoopS_rec (run := runD tab noExt d) (draw := drawI (runD tab noExt d)) (live := [0, 1, 7, 8]) (out := [4]) (c := L157x0) (n0 := h.length) xs (fun (i : Nat) (_ : Unit) => [(0, .sl c 3 (xs.map Val.cells)), (1, .clo g caps), (7, .int .i64 xs.length), (8, .int .i64 i)]) (fun _ _ => h)
    (fun r _ => match r.findIdx? P with
        | some k => (some (.ret, [(4, .int .i64 (xs.length - r.length + k : Int))], h) : Out)
        | none => some (.exit 0, [(4, .undef)], h)) (fun _ K => ?_) (fun (i : Nat) x r _ K hi hx hr ih => ?_) K hK ()
  · simp only [Int.natCast_zero, Int.sub_self, Int.zero_add] at key
    exact key
  · rw [LoopS_eq]
    simp -implicitDefEqProofs only [go_sem, Nat.reduceBEq, Nat.reduceAdd, Nat.reduceSub, Nat.reduceMul, Nat.reduceLeDiff, Nat.reduceEqDiff, Nat.reduceLT, Int.reduceNeg, Int.reduceAdd, Int.reduceSub, Int.reduceMul, Int.reduceLE, Int.reduceLT, Int.reduceEq, Int.reduceToNat, reduceCtorEq, evL157x0, B157x0, hhi, hcap, Int.lt_irrefl, List.findIdx?_nil]
  · have hgx := hg x (List.mem_of_getElem? hx)
    try simp only [Val.cells] at hgx
    have hlen : (xs.length : Int) - (r.length + 1) = i := by omega
    rw [LoopS_eq]
    simp -implicitDefEqProofs (disch := omega) only [go_sem, Nat.reduceBEq, Nat.reduceAdd, Nat.reduceSub, Nat.reduceMul, Nat.reduceLeDiff, Nat.reduceEqDiff, Nat.reduceLT, Int.reduceNeg, Int.reduceAdd, Int.reduceSub, Int.reduceMul, Int.reduceLE, Int.reduceLT, Int.reduceEq, Int.reduceToNat, reduceCtorEq, evL157x0, B157x0, hhi, hcap, hi, hx, hgx, Val.cells, Val.cells, IntWalk.i64_in]
    rw [List.findIdx?_cons]
    cases hp : P x
    · simp -implicitDefEqProofs (disch := omega) only [go_sem, Nat.reduceBEq, Nat.reduceAdd, Nat.reduceSub, Nat.reduceMul, Nat.reduceLeDiff, Nat.reduceEqDiff, Nat.reduceLT, Int.reduceNeg, Int.reduceAdd, Int.reduceSub, Int.reduceMul, Int.reduceLE, Int.reduceLT, Int.reduceEq, Int.reduceToNat, reduceCtorEq, hhi, hcap, IntWalk.i64_in, hp]
      have ih' := ih ()
      simp only [Int.natCast_add, Int.natCast_one] at ih'
      rw [ih']
      cases hf : r.findIdx? P with
      | none => rfl
      | some k => simp; omega
    · simp -implicitDefEqProofs only [go_sem, Nat.reduceBEq, Nat.reduceAdd, Nat.reduceSub, Nat.reduceMul, Nat.reduceLeDiff, Nat.reduceEqDiff, Nat.reduceLT, Int.reduceNeg, Int.reduceAdd, Int.reduceSub, Int.reduceMul, Int.reduceLE, Int.reduceLT, Int.reduceEq, Int.reduceToNat, reduceCtorEq, hp, List.length_cons, Int.natCast_add, Int.natCast_one, hlen]
      simp
theorem idxVal (d : Nat) (h : Heap) (c : Bool) (g : Nat) (caps : List V) (xs : List (Val)) (P : Val → Bool) (hs : xs.length < 1099511627776) (hhi : h.all (hiB h.length) = true) (hcap : caps.all (hi0 h.length) = true)
    (hg : ∀ x ∈ xs, callS (runD tab noExt d) h g (V.agg (Val.cells x) :: caps) false = some (.bool (P x), h)) :
    callS (runD tab noExt (d + 1)) h 157 [.sl c 3 (xs.map Val.cells), .clo g caps] false = some (.int .i64 (match xs.findIdx? P with | some k => (k : Int) | none => -1), h) := by
  rw [callS_eq, runD_eq find157 _ _ _ (by simp)]
  have hl := loop_idxVal d h c g caps xs P hs hhi hcap hg 1099511627775 (by omega)
  simp -implicitDefEqProofs (disch := omega) only [go_sem, Nat.reduceBEq, Nat.reduceAdd, Nat.reduceSub, Nat.reduceMul, Nat.reduceLeDiff, Nat.reduceEqDiff, Nat.reduceLT, Int.reduceNeg, Int.reduceAdd, Int.reduceSub, Int.reduceMul, Int.reduceLE, Int.reduceLT, Int.reduceEq, Int.reduceToNat, reduceCtorEq, hhi, hcap]
  rw [hl]
  cases hf : xs.findIdx? P <;> simp -implicitDefEqProofs only [go_sem, Nat.reduceBEq, Nat.reduceAdd, Nat.reduceSub, Nat.reduceMul, Nat.reduceLeDiff, Nat.reduceEqDiff, Nat.reduceLT, Int.reduceNeg, Int.reduceAdd, Int.reduceSub, Int.reduceMul, Int.reduceLE, Int.reduceLT, Int.reduceEq, Int.reduceToNat, reduceCtorEq, hhi, hcap]
theorem conVal (d : Nat) (h : Heap) (c : Bool) (g : Nat) (caps : List V) (xs : List (Val)) (P : Val → Bool) (hs : xs.length < 1099511627776) (hhi : h.all (hiB h.length) = true) (hcap : caps.all (hi0 h.length) = true)
    (hg : ∀ x ∈ xs, callS (runD tab noExt d) h g (V.agg (Val.cells x) :: caps) false = some (.bool (P x), h)) :
    callS (runD tab noExt (d + 2)) h 126 [.sl c 3 (xs.map Val.cells), .clo g caps] false = some (.bool (xs.any P), h) := by
  rw [callS_eq, runD_eq find126 _ _ _ (by simp)]
  have hl := idxVal d h c g caps xs P hs hhi hcap hg
  simp -implicitDefEqProofs (disch := omega) only [go_sem, Nat.reduceBEq, Nat.reduceAdd, Nat.reduceSub, Nat.reduceMul, Nat.reduceLeDiff, Nat.reduceEqDiff, Nat.reduceLT, Int.reduceNeg, Int.reduceAdd, Int.reduceSub, Int.reduceMul, Int.reduceLE, Int.reduceLT, Int.reduceEq, Int.reduceToNat, reduceCtorEq, hl, hhi, hcap]
  have e : xs.any P = (xs.findIdx? P).isSome := by simp [List.findIdx?_isSome]
  rw [e]
  cases hf : xs.findIdx? P <;> simp -implicitDefEqProofs only [go_sem, Nat.reduceBEq, Nat.reduceAdd, Nat.reduceSub, Nat.reduceMul, Nat.reduceLeDiff, Nat.reduceEqDiff, Nat.reduceLT, Int.reduceNeg, Int.reduceAdd, Int.reduceSub, Int.reduceMul, Int.reduceLE, Int.reduceLT, Int.reduceEq, Int.reduceToNat, reduceCtorEq, Option.isSome_some, Option.isSome_none]

theorem loop_idxRow (d : Nat) (h : Heap) (c : Bool) (g : Nat) (caps : List V) (xs : List (Row)) (P : Row → Bool) (hs : xs.length < 1099511627776) (hhi : h.all (hiB h.length) = true) (hcap : caps.all (hi0 h.length) = true)
    (hg : ∀ x ∈ xs, callS (runD tab noExt d) h g (Row.v x :: caps) false = some (.bool (P x), h)) (K : Nat) (hK : xs.length ≤ K) :
    LoopS (runD tab noExt d) (drawI (runD tab noExt d)) [0, 1, 7, 8] [4] L151x0 h.length K [(0, .sl c 1 (xs.map Row.cells)), (1, .clo g caps), (7, .int .i64 xs.length), (8, .int .i64 0)] h =
      (match xs.findIdx? P with
        | some k => (some (.ret, [(4, .int .i64 (k : Int))], h) : Out)
        | none => some (.exit 0, [(4, .undef)], h)) := by
  have key := LoopS_rec (run := runD tab noExt d) (draw := drawI (runD tab noExt d)) (live := [0, 1, 7, 8]) (out := [4]) (c := L151x0) (n0 := h.length) xs (fun (i : Nat) (_ : Unit) => [(0, .sl c 1 (xs.map Row.cells)), (1, .clo g caps), (7, .int .i64 xs.length), (8, .int .i64 i)]) (fun _ _ => h)
    (fun r _ => match r.findIdx? P with
        | some k => (some (.ret, [(4, .int .i64 (xs.length - r.length + k : Int))], h) : Out)
        | none => some (.exit 0, [(4, .undef)], h)) (fun _ K => ?_) (fun (i : Nat) x r _ K hi hx hr ih => ?_) K hK ()
  · simp only [Int.natCast_zero, Int.sub_self, Int.zero_add] at key
    exact key
  · rw [LoopS_eq]
    simp -implicitDefEqProofs only [go_sem, Nat.reduceBEq, Nat.reduceAdd, Nat.reduceSub, Nat.reduceMul, Nat.reduceLeDiff, Nat.reduceEqDiff, Nat.reduceLT, Int.reduceNeg, Int.reduceAdd, Int.reduceSub, Int.reduceMul, Int.reduceLE, Int.reduceLT, Int.reduceEq, Int.reduceToNat, reduceCtorEq, evL151x0, B151x0, hhi, hcap, Int.lt_irrefl, List.findIdx?_nil]
  · have hgx := hg x (List.mem_of_getElem? hx)
    try simp only [Row.cells] at hgx
    have hlen : (xs.length : Int) - (r.length + 1) = i := by omega
    rw [LoopS_eq]
    simp -implicitDefEqProofs (disch := omega) only [go_sem, Nat.reduceBEq, Nat.reduceAdd, Nat.reduceSub, Nat.reduceMul, Nat.reduceLeDiff, Nat.reduceEqDiff, Nat.reduceLT, Int.reduceNeg, Int.reduceAdd, Int.reduceSub, Int.reduceMul, Int.reduceLE, Int.reduceLT, Int.reduceEq, Int.reduceToNat, reduceCtorEq, evL151x0, B151x0, hhi, hcap, hi, hx, hgx, Row.cells, Row.cells, IntWalk.i64_in]
    rw [List.findIdx?_cons]
    cases hp : P x
    · simp -implicitDefEqProofs (disch := omega) only [go_sem, Nat.reduceBEq, Nat.reduceAdd, Nat.reduceSub, Nat.reduceMul, Nat.reduceLeDiff, Nat.reduceEqDiff, Nat.reduceLT, Int.reduceNeg, Int.reduceAdd, Int.reduceSub, Int.reduceMul, Int.reduceLE, Int.reduceLT, Int.reduceEq, Int.reduceToNat, reduceCtorEq, hhi, hcap, IntWalk.i64_in, hp]
      have ih' := ih ()
      simp only [Int.natCast_add, Int.natCast_one] at ih'
      rw [ih']
      cases hf : r.findIdx? P with
      | none => rfl
      | some k => simp; omega
    · simp -implicitDefEqProofs only [go_sem, Nat.reduceBEq, Nat.reduceAdd, Nat.reduceSub, Nat.reduceMul, Nat.reduceLeDiff, Nat.reduceEqDiff, Nat.reduceLT, Int.reduceNeg, Int.reduceAdd, Int.reduceSub, Int.reduceMul, Int.reduceLE, Int.reduceLT, Int.reduceEq, Int.reduceToNat, reduceCtorEq, hp, List.length_cons, Int.natCast_add, Int.natCast_one, hlen]
      simp
theorem idxRow (d : Nat) (h : Heap) (c : Bool) (g : Nat) (caps : List V) (xs : List (Row)) (P : Row → Bool) (hs : xs.length < 1099511627776) (hhi : h.all (hiB h.length) = true) (hcap : caps.all (hi0 h.length) = true)
    (hg : ∀ x ∈ xs, callS (runD tab noExt d) h g (Row.v x :: caps) false = some (.bool (P x), h)) :
    callS (runD tab noExt (d + 1)) h 151 [.sl c 1 (xs.map Row.cells), .clo g caps] false = some (.int .i64 (match xs.findIdx? P with | some k => (k : Int) | none => -1), h) := by
  rw [callS_eq, runD_eq find151 _ _ _ (by simp)]
  have hl := loop_idxRow d h c g caps xs P hs hhi hcap hg 1099511627775 (by omega)
  simp -implicitDefEqProofs (disch := omega) only [go_sem, Nat.reduceBEq, Nat.reduceAdd, Nat.reduceSub, Nat.reduceMul, Nat.reduceLeDiff, Nat.reduceEqDiff, Nat.reduceLT, Int.reduceNeg, Int.reduceAdd, Int.reduceSub, Int.reduceMul, Int.reduceLE, Int.reduceLT, Int.reduceEq, Int.reduceToNat, reduceCtorEq, hhi, hcap]
  rw [hl]
  cases hf : xs.findIdx? P <;> simp -implicitDefEqProofs only [go_sem, Nat.reduceBEq, Nat.reduceAdd, Nat.reduceSub, Nat.reduceMul, Nat.reduceLeDiff, Nat.reduceEqDiff, Nat.reduceLT, Int.reduceNeg, Int.reduceAdd, Int.reduceSub, Int.reduceMul, Int.reduceLE, Int.reduceLT, Int.reduceEq, Int.reduceToNat, reduceCtorEq, hhi, hcap]
theorem conRow (d : Nat) (h : Heap) (c : Bool) (g : Nat) (caps : List V) (xs : List (Row)) (P : Row → Bool) (hs : xs.length < 1099511627776) (hhi : h.all (hiB h.length) = true) (hcap : caps.all (hi0 h.length) = true)
    (hg : ∀ x ∈ xs, callS (runD tab noExt d) h g (Row.v x :: caps) false = some (.bool (P x), h)) :
    callS (runD tab noExt (d + 2)) h 110 [.sl c 1 (xs.map Row.cells), .clo g caps] false = some (.bool (xs.any P), h) := by
  rw [callS_eq, runD_eq find110 _ _ _ (by simp)]
  have hl := idxRow d h c g caps xs P hs hhi hcap hg
  simp -implicitDefEqProofs (disch := omega) only [go_sem, Nat.reduceBEq, Nat.reduceAdd, Nat.reduceSub, Nat.reduceMul, Nat.reduceLeDiff, Nat.reduceEqDiff, Nat.reduceLT, Int.reduceNeg, Int.reduceAdd, Int.reduceSub, Int.reduceMul, Int.reduceLE, Int.reduceLT, Int.reduceEq, Int.reduceToNat, reduceCtorEq, hl, hhi, hcap]
  have e : xs.any P = (xs.findIdx? P).isSome := by simp [List.findIdx?_isSome]
  rw [e]
  cases hf : xs.findIdx? P <;> simp -implicitDefEqProofs only [go_sem, Nat.reduceBEq, Nat.reduceAdd, Nat.reduceSub, Nat.reduceMul, Nat.reduceLeDiff, Nat.reduceEqDiff, Nat.reduceLT, Int.reduceNeg, Int.reduceAdd, Int.reduceSub, Int.reduceMul, Int.reduceLE, Int.reduceLT, Int.reduceEq, Int.reduceToNat, reduceCtorEq, Option.isSome_some, Option.isSome_none]

theorem loop_idxInt (d : Nat) (h : Heap) (c : Bool) (g : Nat) (caps : List V) (xs : List (Int)) (P : Int → Bool) (hs : xs.length < 1099511627776) (hhi : h.all (hiB h.length) = true) (hcap : caps.all (hi0 h.length) = true)
    (hg : ∀ x ∈ xs, callS (runD tab noExt d) h g (V.int .i64 x :: caps) false = some (.bool (P x), h)) (K : Nat) (hK : xs.length ≤ K) :
    LoopS (runD tab noExt d) (drawI (runD tab noExt d)) [0, 1, 7, 8] [4] L122x0 h.length K [(0, .sl c 1 (xs.map intC)), (1, .clo g caps), (7, .int .i64 xs.length), (8, .int .i64 0)] h =
      (match xs.findIdx? P with
        | some k => (some (.ret, [(4, .int .i64 (k : Int))], h) : Out)
        | none => some (.exit 0, [(4, .undef)], h)) := by
  have key := LoopS_rec (run := runD tab noExt d) (draw := drawI (runD tab noExt d)) (live := [0, 1, 7, 8]) (out := [4]) (c := L122x0) (n0 := h.length) xs (fun (i : Nat) (_ : Unit) => [(0, .sl c 1 (xs.map intC)), (1, .clo g caps), (7, .int .i64 xs.length), (8, .int .i64 i)]) (fun _ _ => h)
    (fun r _ => match r.findIdx? P with
        | some k => (some (.ret, [(4, .int .i64 (xs.length - r.length + k : Int))], h) : Out)
        | none => some (.exit 0, [(4, .undef)], h)) (fun _ K => ?_) (fun (i : Nat) x r _ K hi hx hr ih => ?_) K hK ()
  · simp only [Int.natCast_zero, Int.sub_self, Int.zero_add] at key
    exact key
  · rw [LoopS_eq]
    simp -implicitDefEqProofs only [go_sem, Nat.reduceBEq, Nat.reduceAdd, Nat.reduceSub, Nat.reduceMul, Nat.reduceLeDiff, Nat.reduceEqDiff, Nat.reduceLT, Int.reduceNeg, Int.reduceAdd, Int.reduceSub, Int.reduceMul, Int.reduceLE, Int.reduceLT, Int.reduceEq, Int.reduceToNat, reduceCtorEq, evL122x0, B122x0, hhi, hcap, Int.lt_irrefl, List.findIdx?_nil]
  · have hgx := hg x (List.mem_of_getElem? hx)
    try simp only [intC] at hgx
    have hlen : (xs.length : Int) - (r.length + 1) = i := by omega
    rw [LoopS_eq]
    simp -implicitDefEqProofs (disch := omega) only [go_sem, Nat.reduceBEq, Nat.reduceAdd, Nat.reduceSub, Nat.reduceMul, Nat.reduceLeDiff, Nat.reduceEqDiff, Nat.reduceLT, Int.reduceNeg, Int.reduceAdd, Int.reduceSub, Int.reduceMul, Int.reduceLE, Int.reduceLT, Int.reduceEq, Int.reduceToNat, reduceCtorEq, evL122x0, B122x0, hhi, hcap, hi, hx, hgx, intC, intC, IntWalk.i64_in]
    rw [List.findIdx?_cons]
    cases hp : P x
    · simp -implicitDefEqProofs (disch := omega) only [go_sem, Nat.reduceBEq, Nat.reduceAdd, Nat.reduceSub, Nat.reduceMul, Nat.reduceLeDiff, Nat.reduceEqDiff, Nat.reduceLT, Int.reduceNeg, Int.reduceAdd, Int.reduceSub, Int.reduceMul, Int.reduceLE, Int.reduceLT, Int.reduceEq, Int.reduceToNat, reduceCtorEq, hhi, hcap, IntWalk.i64_in, hp]
      have ih' := ih ()
      simp only [Int.natCast_add, Int.natCast_one] at ih'
      rw [ih']
      cases hf : r.findIdx? P with
      | none => rfl
      | some k => simp; omega
    · simp -implicitDefEqProofs only [go_sem, Nat.reduceBEq, Nat.reduceAdd, Nat.reduceSub, Nat.reduceMul, Nat.reduceLeDiff, Nat.reduceEqDiff, Nat.reduceLT, Int.reduceNeg, Int.reduceAdd, Int.reduceSub, Int.reduceMul, Int.reduceLE, Int.reduceLT, Int.reduceEq, Int.reduceToNat, reduceCtorEq, hp, List.length_cons, Int.natCast_add, Int.natCast_one, hlen]
      simp
theorem idxInt (d : Nat) (h : Heap) (c : Bool) (g : Nat) (caps : List V) (xs : List (Int)) (P : Int → Bool) (hs : xs.length < 1099511627776) (hhi : h.all (hiB h.length) = true) (hcap : caps.all (hi0 h.length) = true)
    (hg : ∀ x ∈ xs, callS (runD tab noExt d) h g (V.int .i64 x :: caps) false = some (.bool (P x), h)) :
    callS (runD tab noExt (d + 1)) h 122 [.sl c 1 (xs.map intC), .clo g caps] false = some (.int .i64 (match xs.findIdx? P with | some k => (k : Int) | none => -1), h) := by
  rw [callS_eq, runD_eq find122 _ _ _ (by simp)]
  have hl := loop_idxInt d h c g caps xs P hs hhi hcap hg 1099511627775 (by omega)
  simp -implicitDefEqProofs (disch := omega) only [go_sem, Nat.reduceBEq, Nat.reduceAdd, Nat.reduceSub, Nat.reduceMul, Nat.reduceLeDiff, Nat.reduceEqDiff, Nat.reduceLT, Int.reduceNeg, Int.reduceAdd, Int.reduceSub, Int.reduceMul, Int.reduceLE, Int.reduceLT, Int.reduceEq, Int.reduceToNat, reduceCtorEq, hhi, hcap]
  rw [hl]
  cases hf : xs.findIdx? P <;> simp -implicitDefEqProofs only [go_sem, Nat.reduceBEq, Nat.reduceAdd, Nat.reduceSub, Nat.reduceMul, Nat.reduceLeDiff, Nat.reduceEqDiff, Nat.reduceLT, Int.reduceNeg, Int.reduceAdd, Int.reduceSub, Int.reduceMul, Int.reduceLE, Int.reduceLT, Int.reduceEq, Int.reduceToNat, reduceCtorEq, hhi, hcap]
theorem conInt (d : Nat) (h : Heap) (c : Bool) (g : Nat) (caps : List V) (xs : List (Int)) (P : Int → Bool) (hs : xs.length < 1099511627776) (hhi : h.all (hiB h.length) = true) (hcap : caps.all (hi0 h.length) = true)
    (hg : ∀ x ∈ xs, callS (runD tab noExt d) h g (V.int .i64 x :: caps) false = some (.bool (P x), h)) :
    callS (runD tab noExt (d + 2)) h 66 [.sl c 1 (xs.map intC), .clo g caps] false = some (.bool (xs.any P), h) := by
  rw [callS_eq, runD_eq find66 _ _ _ (by simp)]
  have hl := idxInt d h c g caps xs P hs hhi hcap hg
  simp -implicitDefEqProofs (disch := omega) only [go_sem, Nat.reduceBEq, Nat.reduceAdd, Nat.reduceSub, Nat.reduceMul, Nat.reduceLeDiff, Nat.reduceEqDiff, Nat.reduceLT, Int.reduceNeg, Int.reduceAdd, Int.reduceSub, Int.reduceMul, Int.reduceLE, Int.reduceLT, Int.reduceEq, Int.reduceToNat, reduceCtorEq, hl, hhi, hcap]
  have e : xs.any P = (xs.findIdx? P).isSome := by simp [List.findIdx?_isSome]
  rw [e]
  cases hf : xs.findIdx? P <;> simp -implicitDefEqProofs only [go_sem, Nat.reduceBEq, Nat.reduceAdd, Nat.reduceSub, Nat.reduceMul, Nat.reduceLeDiff, Nat.reduceEqDiff, Nat.reduceLT, Int.reduceNeg, Int.reduceAdd, Int.reduceSub, Int.reduceMul, Int.reduceLE, Int.reduceLT, Int.reduceEq, Int.reduceToNat, reduceCtorEq, Option.isSome_some, Option.isSome_none]


-- find125
theorem clo_cols (d : Nat) (h : Heap) (hh : h.all (hiB h.length) = true) (x : Col) : callS (runD tab noExt (d + 2)) h 125 [.agg (Col.cells x)] false = some (.bool (!x.ok), h) := by
  rw [callS_eq, runD_eq find125 _ _ _ (by simp)]
  simp -implicitDefEqProofs (disch := omega) only [go_sem, Nat.reduceBEq, Nat.reduceAdd, Nat.reduceSub, Nat.reduceMul, Nat.reduceLeDiff, Nat.reduceEqDiff, Nat.reduceLT, Int.reduceNeg, Int.reduceAdd, Int.reduceSub, Int.reduceMul, Int.reduceLE, Int.reduceLT, Int.reduceEq, Int.reduceToNat, reduceCtorEq, run_between, Col.cells, hh, List.all_append, Col.ok]
-- find71
theorem run_colsOkI (d : Nat) (c : Bool) (cs : List Col) (hs : cs.length < 1099511627776) : retP (runD tab noExt (d + 5)) 71 [.sl c 2 (cs.map Col.cells)] = some [.bool (colsOk cs)] := by
  rw [retP, runD_eq find71 _ _ _ (by simp)]
  have hcon := conCol (d + 2) [] c 125 [] cs (fun x => !x.ok) hs rfl rfl (fun x _ => clo_cols d [] rfl x)
  simp -implicitDefEqProofs (disch := omega) only [go_sem, Nat.reduceBEq, Nat.reduceAdd, Nat.reduceSub, Nat.reduceMul, Nat.reduceLeDiff, Nat.reduceEqDiff, Nat.reduceLT, Int.reduceNeg, Int.reduceAdd, Int.reduceSub, Int.reduceMul, Int.reduceLE, Int.reduceLT, Int.reduceEq, Int.reduceToNat, reduceCtorEq, hcon]
  repeat' ((first | rw [GuardI_ndec] | rw [CondC_ndec] | rw [GuardQ_ndec] | rw [GuardI_dec] | rw [CondC_dec] | rw [GuardQ_dec] | rw [GuardI_nby] | rw [CondC_nby] | rw [GuardQ_nby] | rw [GuardQ_by] | rw [GuardI_by] | rw [CondC_by]) <;> split <;> simp -implicitDefEqProofs (disch := omega) only [go_sem, Nat.reduceBEq, Nat.reduceAdd, Nat.reduceSub, Nat.reduceMul, Nat.reduceLeDiff, Nat.reduceEqDiff, Nat.reduceLT, Int.reduceNeg, Int.reduceAdd, Int.reduceSub, Int.reduceMul, Int.reduceLE, Int.reduceLT, Int.reduceEq, Int.reduceToNat, reduceCtorEq, hcon, *])
  all_goals (simp_all [colsOk, List.any_eq_not_all_not]; try omega)
-- find127
theorem clo_row (d : Nat) (h : Heap) (hh : h.all (hiB h.length) = true) (x : Val) : callS (runD tab noExt (d + 4)) h 127 [.agg (Val.cells x)] false = some (.bool (!x.ok), h) := by
  rw [callS_eq, runD_eq find127 _ _ _ (by simp)]
  simp -implicitDefEqProofs (disch := omega) only [go_sem, Nat.reduceBEq, Nat.reduceAdd, Nat.reduceSub, Nat.reduceMul, Nat.reduceLeDiff, Nat.reduceEqDiff, Nat.reduceLT, Int.reduceNeg, Int.reduceAdd, Int.reduceSub, Int.reduceMul, Int.reduceLE, Int.reduceLT, Int.reduceEq, Int.reduceToNat, reduceCtorEq, run_ok, Val.cells, hh, List.all_append, Val.eta]
-- find72
theorem run_rowOkI (d : Nat) (c : Bool) (vs : List Val) (hs : vs.length < 1099511627776) : retP (runD tab noExt (d + 7)) 72 [.sl c 3 (vs.map Val.cells)] = some [.bool (rowOk vs)] := by
  rw [retP, runD_eq find72 _ _ _ (by simp)]
  have hcon := conVal (d + 4) [] c 127 [] vs (fun x => !x.ok) hs rfl rfl (fun x _ => clo_row d [] rfl x)
  simp -implicitDefEqProofs (disch := omega) only [go_sem, Nat.reduceBEq, Nat.reduceAdd, Nat.reduceSub, Nat.reduceMul, Nat.reduceLeDiff, Nat.reduceEqDiff, Nat.reduceLT, Int.reduceNeg, Int.reduceAdd, Int.reduceSub, Int.reduceMul, Int.reduceLE, Int.reduceLT, Int.reduceEq, Int.reduceToNat, reduceCtorEq, hcon]
  repeat' ((first | rw [GuardI_ndec] | rw [CondC_ndec] | rw [GuardQ_ndec] | rw [GuardI_dec] | rw [CondC_dec] | rw [GuardQ_dec] | rw [GuardI_nby] | rw [CondC_nby] | rw [GuardQ_nby] | rw [GuardQ_by] | rw [GuardI_by] | rw [CondC_by]) <;> split <;> simp -implicitDefEqProofs (disch := omega) only [go_sem, Nat.reduceBEq, Nat.reduceAdd, Nat.reduceSub, Nat.reduceMul, Nat.reduceLeDiff, Nat.reduceEqDiff, Nat.reduceLT, Int.reduceNeg, Int.reduceAdd, Int.reduceSub, Int.reduceMul, Int.reduceLE, Int.reduceLT, Int.reduceEq, Int.reduceToNat, reduceCtorEq, hcon, *])
  all_goals (simp_all [rowOk, List.any_eq_not_all_not]; try omega)
theorem loop_fitsI (d : Nat) (c c' : Bool) (cs : List Col) (vs : List Val) (hs : vs.length < 1099511627776) (hlen : vs.length = cs.length) (K : Nat) (hK : (cs.zip vs).length ≤ K) : LoopS (runD tab noExt d) (drawI (runD tab noExt d)) [0, 22, 23, 24] [4] L19x0 ([] : Heap).length K [(0, .sl c 2 (cs.map Col.cells)), (22, .sl c' 3 (vs.map Val.cells)), (23, .int .i64 (vs.length : Int)), (24, .int .i64 0)] [] = if (cs.zip vs).all (fits1) then (some (.exit 0, [(4, .undef)], []) : Out) else (some (.ret, [(4, .bool false)], []) : Out) := by
  have key := LoopS_all (run := (runD tab noExt d)) (draw := drawI (runD tab noExt d)) (live := [0, 22, 23, 24]) (out := [4]) (c := L19x0) (n0 := ([] : Heap).length) (cs.zip vs) (fits1) (fun (i : Nat) => [(0, .sl c 2 (cs.map Col.cells)), (22, .sl c' 3 (vs.map Val.cells)), (23, .int .i64 (vs.length : Int)), (24, .int .i64 i)]) [] (some (.exit 0, [(4, .undef)], []) : Out) (some (.ret, [(4, .bool false)], []) : Out) (fun K => ?_) (fun (i : Nat) (x : Col × Val) K hi hx => ?_) K hK
  · simp only [Int.natCast_zero] at key
    exact key
  · rw [LoopS_eq]
    simp -implicitDefEqProofs only [go_sem, Nat.reduceBEq, Nat.reduceAdd, Nat.reduceSub, Nat.reduceMul, Nat.reduceLeDiff, Nat.reduceEqDiff, Nat.reduceLT, Int.reduceNeg, Int.reduceAdd, Int.reduceSub, Int.reduceMul, Int.reduceLE, Int.reduceLT, Int.reduceEq, Int.reduceToNat, reduceCtorEq, evL19x0, B19x0, Int.lt_irrefl, List.length_zip, hlen, Nat.min_self, evC_draw, evD19x0, E19x0, Col.cells, Val.cells]
  · obtain ⟨g1, g2⟩ := List.getElem?_zip_eq_some.1 hx; rw [List.length_zip, hlen, Nat.min_self] at hi; have hi' : (i : Int) < vs.length := by omega
    rw [LoopS_eq]
    simp -implicitDefEqProofs (disch := omega) only [go_sem, Nat.reduceBEq, Nat.reduceAdd, Nat.reduceSub, Nat.reduceMul, Nat.reduceLeDiff, Nat.reduceEqDiff, Nat.reduceLT, Int.reduceNeg, Int.reduceAdd, Int.reduceSub, Int.reduceMul, Int.reduceLE, Int.reduceLT, Int.reduceEq, Int.reduceToNat, reduceCtorEq, evL19x0, B19x0, hi, hx, IntWalk.i64_in, List.length_zip, hlen, Nat.min_self, evC_draw, evD19x0, E19x0, Col.cells, Val.cells, *]
    repeat' ((first | rw [GuardI_ndec] | rw [CondC_ndec] | rw [GuardQ_ndec] | rw [GuardI_dec] | rw [CondC_dec] | rw [GuardQ_dec] | rw [GuardI_nby] | rw [CondC_nby] | rw [GuardQ_nby] | rw [GuardQ_by] | rw [GuardI_by] | rw [CondC_by]) <;> split <;> simp -implicitDefEqProofs (disch := omega) only [go_sem, Nat.reduceBEq, Nat.reduceAdd, Nat.reduceSub, Nat.reduceMul, Nat.reduceLeDiff, Nat.reduceEqDiff, Nat.reduceLT, Int.reduceNeg, Int.reduceAdd, Int.reduceSub, Int.reduceMul, Int.reduceLE, Int.reduceLT, Int.reduceEq, Int.reduceToNat, reduceCtorEq, hi, hx, IntWalk.i64_in, List.length_zip, hlen, Nat.min_self, evC_draw, evD19x0, E19x0, Col.cells, Val.cells, *, *])
    all_goals first | rfl | (simp_all [fits1]; done) | (simp_all [fits1]; omega)
-- find19
theorem run_fitsI (d : Nat) (c c' : Bool) (cs : List Col) (vs : List Val) (hc : cs.length < 1099511627776) (hs : vs.length < 1099511627776) : retP (runD tab noExt (d + 8)) 19 [.sl c 2 (cs.map Col.cells), .sl c' 3 (vs.map Val.cells)] = some [.bool (fitsRow cs vs)] := by
  rw [retP, runD_eq find19 _ _ _ (by simp)]
  simp -implicitDefEqProofs (disch := first | omega | assumption) only [go_sem, Nat.reduceBEq, Nat.reduceAdd, Nat.reduceSub, Nat.reduceMul, Nat.reduceLeDiff, Nat.reduceEqDiff, Nat.reduceLT, Int.reduceNeg, Int.reduceAdd, Int.reduceSub, Int.reduceMul, Int.reduceLE, Int.reduceLT, Int.reduceEq, Int.reduceToNat, reduceCtorEq, run_colsOkI, run_rowOkI]
  repeat' ((first | rw [GuardI_ndec] | rw [CondC_ndec] | rw [GuardQ_ndec] | rw [GuardI_dec] | rw [CondC_dec] | rw [GuardQ_dec] | rw [GuardI_nby] | rw [CondC_nby] | rw [GuardQ_nby] | rw [GuardQ_by] | rw [GuardI_by] | rw [CondC_by]) <;> split <;> simp -implicitDefEqProofs (disch := first | omega | assumption) only [go_sem, Nat.reduceBEq, Nat.reduceAdd, Nat.reduceSub, Nat.reduceMul, Nat.reduceLeDiff, Nat.reduceEqDiff, Nat.reduceLT, Int.reduceNeg, Int.reduceAdd, Int.reduceSub, Int.reduceMul, Int.reduceLE, Int.reduceLT, Int.reduceEq, Int.reduceToNat, reduceCtorEq, run_colsOkI, run_rowOkI, *])
  all_goals try (simp_all [fitsRow, Int.natCast_inj]; done)
  have hlen : vs.length = cs.length := by omega
  have hl := loop_fitsI (d + 7) c c' cs vs hs hlen 1099511627775 (by simp; omega)
  simp -implicitDefEqProofs only [go_sem, Nat.reduceBEq, Nat.reduceAdd, Nat.reduceSub, Nat.reduceMul, Nat.reduceLeDiff, Nat.reduceEqDiff, Nat.reduceLT, Int.reduceNeg, Int.reduceAdd, Int.reduceSub, Int.reduceMul, Int.reduceLE, Int.reduceLT, Int.reduceEq, Int.reduceToNat, reduceCtorEq, hlen] at hl ⊢
  rw [hl]
  split <;> simp -implicitDefEqProofs only [go_sem, Nat.reduceBEq, Nat.reduceAdd, Nat.reduceSub, Nat.reduceMul, Nat.reduceLeDiff, Nat.reduceEqDiff, Nat.reduceLT, Int.reduceNeg, Int.reduceAdd, Int.reduceSub, Int.reduceMul, Int.reduceLE, Int.reduceLT, Int.reduceEq, Int.reduceToNat, reduceCtorEq, fitsRow, *]
-- find111
theorem clo_rows (d : Nat) (c : Bool) (cs : List Col) (hc : cs.length < 1099511627776) (x : Row) (hx : x.vs.length < 1099511627776) : callS (runD tab noExt (d + 9)) [.box [.sl c 2 (cs.map Col.cells)]] 111 [x.v, .ptr 0 0 0 0] false = some (.bool (!fitsRow cs x.vs), [.box [.sl c 2 (cs.map Col.cells)]]) := by
  rw [callS_eq, runD_eq find111 _ _ _ (by simp)]
  simp -implicitDefEqProofs (disch := first | omega | assumption) only [go_sem, Nat.reduceBEq, Nat.reduceAdd, Nat.reduceSub, Nat.reduceMul, Nat.reduceLeDiff, Nat.reduceEqDiff, Nat.reduceLT, Int.reduceNeg, Int.reduceAdd, Int.reduceSub, Int.reduceMul, Int.reduceLE, Int.reduceLT, Int.reduceEq, Int.reduceToNat, reduceCtorEq, run_fitsI, Row.v]
-- find51
theorem run_rowsOkI (d : Nat) (c c' : Bool) (cs : List Col) (rs : List Row) (hc : cs.length < 1099511627776) (hs : rs.length < 1099511627776) (hsh : Short rs) : retP (runD tab noExt (d + 12)) 51 [.sl c 2 (cs.map Col.cells), .sl c' 1 (rs.map Row.cells)] = some [.bool (rowsOk cs rs)] := by
  rw [retP, runD_eq find51 _ _ _ (by simp)]
  have hcon := conRow (d + 9) [.box [.sl c 2 (cs.map Col.cells)]] c' 111 [.ptr 0 0 0 0] rs (fun x => !fitsRow cs x.vs) hs rfl rfl (fun x hx => clo_rows d c cs hc x (hsh x hx).1)
  simp -implicitDefEqProofs (disch := first | omega | assumption) only [go_sem, Nat.reduceBEq, Nat.reduceAdd, Nat.reduceSub, Nat.reduceMul, Nat.reduceLeDiff, Nat.reduceEqDiff, Nat.reduceLT, Int.reduceNeg, Int.reduceAdd, Int.reduceSub, Int.reduceMul, Int.reduceLE, Int.reduceLT, Int.reduceEq, Int.reduceToNat, reduceCtorEq, run_colsOkI, List.length_singleton]
  repeat' ((first | rw [GuardI_ndec] | rw [CondC_ndec] | rw [GuardQ_ndec] | rw [GuardI_dec] | rw [CondC_dec] | rw [GuardQ_dec] | rw [GuardI_nby] | rw [CondC_nby] | rw [GuardQ_nby] | rw [GuardQ_by] | rw [GuardI_by] | rw [CondC_by]) <;> split <;> simp -implicitDefEqProofs (disch := first | omega | assumption) only [go_sem, Nat.reduceBEq, Nat.reduceAdd, Nat.reduceSub, Nat.reduceMul, Nat.reduceLeDiff, Nat.reduceEqDiff, Nat.reduceLT, Int.reduceNeg, Int.reduceAdd, Int.reduceSub, Int.reduceMul, Int.reduceLE, Int.reduceLT, Int.reduceEq, Int.reduceToNat, reduceCtorEq, run_colsOkI, hcon, List.length_singleton, *])
  all_goals (simp_all [rowsOk, rowsFit, List.any_eq_not_all_not])
end Go.Proofs.Ytgepapgabnaonaa.PE
/- Copies of rows, and whether lists of rows are the same. -/
set_option linter.unusedSimpArgs false
set_option linter.unusedVariables false
set_option maxHeartbeats 4000000
namespace Go.Proofs.Ytgepapgabnaonaa.PE
open Go.RowKit

theorem clipkVal (d : Nat) (l : List (List V)) (n : Nat) (hn : n = l.length) : callX (runD tab noExt (d + 1)) [.rows 0 3 l] 2 171 [.ref 0 0 0 n false] = some (.ref 0 0 0 n true, [.rows 0 3 l]) := by
  subst hn
  simp only [callX, callK]
  rw [runD_eq find171 _ _ _ (by simp)]
  simp -implicitDefEqProofs (disch := omega) only [go_sem, Nat.reduceBEq, Nat.reduceAdd, Nat.reduceSub, Nat.reduceMul, Nat.reduceLeDiff, Nat.reduceEqDiff, Nat.reduceLT, Int.reduceNeg, Int.reduceAdd, Int.reduceSub, Int.reduceMul, Int.reduceLE, Int.reduceLT, Int.reduceEq, Int.reduceToNat, reduceCtorEq, List.take_length, Bool.true_or, resOk]
theorem runcVal (d : Nat) (c : Bool) (l : List (List V)) (h0 : 0 < l.length) (hl : l.length < 4294967296) : runD tab noExt (d + 2) 153 [.sl c 3 l] [] = some ([.ref 0 0 0 l.length true], [.rows 0 3 l]) := by
  rw [runD_eq find153 _ _ _ (by simp)]
  match l, h0, hl with
  | [], h0, _ => exact absurd h0 (by decide)
  | x :: r, _, hl =>
    have h0 : ((r.length : Int) + 1 = 0) = False := eq_false (by omega)
    have h1 : r.length + 1 < 4294967296 := by simpa using hl
    have hc := clipkVal d (x :: r) (r.length + 1) (by simp)
    simp -implicitDefEqProofs (disch := omega) only [go_sem, Nat.reduceBEq, Nat.reduceAdd, Nat.reduceSub, Nat.reduceMul, Nat.reduceLeDiff, Nat.reduceEqDiff, Nat.reduceLT, Int.reduceNeg, Int.reduceAdd, Int.reduceSub, Int.reduceMul, Int.reduceLE, Int.reduceLT, Int.reduceEq, Int.reduceToNat, reduceCtorEq, List.length_cons, h0, h1, hc]
theorem runnVal (d : Nat) (c : Bool) : runD tab noExt (d + 2) 153 [.sl c 3 []] [] = some ([.sl true 3 []], []) := by
  rw [runD_eq find153 _ _ _ (by simp)]
  simp -implicitDefEqProofs (disch := omega) only [go_sem, Nat.reduceBEq, Nat.reduceAdd, Nat.reduceSub, Nat.reduceMul, Nat.reduceLeDiff, Nat.reduceEqDiff, Nat.reduceLT, Int.reduceNeg, Int.reduceAdd, Int.reduceSub, Int.reduceMul, Int.reduceLE, Int.reduceLT, Int.reduceEq, Int.reduceToNat, reduceCtorEq]
theorem cloneVal (d : Nat) (c : Bool) (l : List (List V)) (hl : l.length < 4294967296) : retP (runD tab noExt (d + 2)) 153 [.sl c 3 l] = some [.sl true 3 l] := by
  match l, hl with
  | [], _ => rw [retP, runnVal]; rfl
  | x :: r, hl =>
    rw [retP, runcVal d c (x :: r) (by simp) hl]
    simp -implicitDefEqProofs only [go_sem, Nat.reduceBEq, Nat.reduceAdd, Nat.reduceSub, Nat.reduceMul, Nat.reduceLeDiff, Nat.reduceEqDiff, Nat.reduceLT, Int.reduceNeg, Int.reduceAdd, Int.reduceSub, Int.reduceMul, Int.reduceLE, Int.reduceLT, Int.reduceEq, Int.reduceToNat, reduceCtorEq, List.take_length]
theorem clonexVal (d : Nat) (h : Heap) (c : Bool) (l : List (List V)) (h0 : 0 < l.length) (hl : l.length < 4294967296) (hf : l.all (fun x => x.all freshC) = true) : callX (runD tab noExt (d + 2)) h 0 153 [.sl c 3 l] = some (.ref h.length 0 0 l.length true, h ++ [.rows 0 3 l]) := by
  simp only [callX, callO, pureDAs, mapO, pureDA, pureD, deepest, runcVal d c l h0 hl, BackO, List.all_cons, List.all_nil, scalarA, scalar, freshA, freshC, Bool.false_eq_true, Bool.false_and, Bool.and_self, if_false, if_true, List.map_cons, List.map_nil, oneOf, shA, shC, Nat.zero_add, movedH, clean, hf, shB]
theorem clonenVal (d : Nat) (h : Heap) (c : Bool) : callX (runD tab noExt (d + 2)) h 0 153 [.sl c 3 []] = some (.sl true 3 [], h) := by
  simp only [callX, callO, pureDAs, mapO, pureDA, pureD, deepest, runnVal d c, BackO, List.all_cons, List.all_nil, scalarA, scalar, freshA, freshC, isNil, Bool.false_eq_true, Bool.false_and, Bool.and_self, if_false, if_true, List.map_cons, List.map_nil, oneOf, shA, shC, movedH, List.append_nil]

/-- A row of one's own. -/
def Row.own (b : Bool) (r : Row) : Row := ⟨b, r.vs⟩
def own (b : Bool) (rs : List Row) : List Row := rs.map (Row.own b)
/-- Rows that are not too long for memory. -/
def Fine (rs : List Row) : Prop := rs.length < 4294967296 ∧ ∀ r ∈ rs, r.vs.length < 4294967296
theorem Fine_at {rs : List Row} (h : Fine rs) {i : Nat} {x : Row} (hx : rs[i]? = some x) : x.vs.length < 4294967296 := h.2 x (List.mem_of_getElem? hx)
theorem foldl_snoc {α β : Type} (g : α → β) : ∀ (l : List α) (b : List β), l.foldl (fun b x => b ++ [g x]) b = b ++ l.map g
  | [], b => by simp
  | x :: r, b => by simp [foldl_snoc g r]
theorem lt_small {n m : Nat} {i : Nat} (h1 : n ≤ i) (h2 : (i : Int) < m) (h3 : m < 4294967296) : n + 1 < 4294967296 := by omega
end Go.Proofs.Ytgepapgabnaonaa.PE
/- Comparisons and truths: what they come to. -/
set_option linter.unusedSimpArgs false
set_option linter.unusedVariables false
set_option maxHeartbeats 4000000
namespace Go.Proofs.Ytgepapgabnaonaa.PE
open Go.RowKit

def cmpT (kd c : Int) : Bool := if kd = 1 then decide (c = 0) else if kd = 2 then !decide (c = 0) else if kd = 3 then decide (c < 0) else decide (c ≤ 0)
def cmpV (kd : Int) (a b : Val) : Int :=
  if 1 ≤ kd ∧ kd ≤ 4 then (if a.ok then (if b.ok then (if a.kind = 0 then 2 else if b.kind = 0 then 2 else if a.kind = b.kind then (if cmpT kd (a.cmp b) then 1 else 0) else -1) else -1) else -1) else -1
theorem cmpV_in (kd : Int) (a b : Val) : -1 ≤ cmpV kd a b ∧ cmpV kd a b ≤ 2 := by
  unfold cmpV
  repeat' split
  all_goals omega
theorem run_truthIf (d : Nat) (b : Bool) : retP (runD tab noExt (d + 1)) 164 [.bool b] = some [.int .i64 (if b then 1 else 0)] := by
  rw [retP, runD_eq find164 _ _ _ (by simp)]
  simp -implicitDefEqProofs (disch := omega) only [go_sem, Nat.reduceBEq, Nat.reduceAdd, Nat.reduceSub, Nat.reduceMul, Nat.reduceLeDiff, Nat.reduceEqDiff, Nat.reduceLT, Int.reduceNeg, Int.reduceAdd, Int.reduceSub, Int.reduceMul, Int.reduceLE, Int.reduceLT, Int.reduceEq, Int.reduceToNat, reduceCtorEq]
  repeat' ((first | rw [GuardI_ndec] | rw [CondC_ndec] | rw [GuardQ_ndec] | rw [GuardI_dec] | rw [CondC_dec] | rw [GuardQ_dec] | rw [GuardI_nby] | rw [CondC_nby] | rw [GuardQ_nby] | rw [GuardQ_by] | rw [GuardI_by] | rw [CondC_by]) <;> split <;> simp -implicitDefEqProofs (disch := omega) only [go_sem, Nat.reduceBEq, Nat.reduceAdd, Nat.reduceSub, Nat.reduceMul, Nat.reduceLeDiff, Nat.reduceEqDiff, Nat.reduceLT, Int.reduceNeg, Int.reduceAdd, Int.reduceSub, Int.reduceMul, Int.reduceLE, Int.reduceLT, Int.reduceEq, Int.reduceToNat, reduceCtorEq, *])
  all_goals simp_all
theorem run_l2Bool (d : Nat) (b : Bool) : retP (runD tab noExt (d + 1)) 168 [.bool b] = some [.int .i64 (if b then 1 else 0)] := by
  rw [retP, runD_eq find168 _ _ _ (by simp)]
  simp -implicitDefEqProofs (disch := omega) only [go_sem, Nat.reduceBEq, Nat.reduceAdd, Nat.reduceSub, Nat.reduceMul, Nat.reduceLeDiff, Nat.reduceEqDiff, Nat.reduceLT, Int.reduceNeg, Int.reduceAdd, Int.reduceSub, Int.reduceMul, Int.reduceLE, Int.reduceLT, Int.reduceEq, Int.reduceToNat, reduceCtorEq]
  repeat' ((first | rw [GuardI_ndec] | rw [CondC_ndec] | rw [GuardQ_ndec] | rw [GuardI_dec] | rw [CondC_dec] | rw [GuardQ_dec] | rw [GuardI_nby] | rw [CondC_nby] | rw [GuardQ_nby] | rw [GuardQ_by] | rw [GuardI_by] | rw [CondC_by]) <;> split <;> simp -implicitDefEqProofs (disch := omega) only [go_sem, Nat.reduceBEq, Nat.reduceAdd, Nat.reduceSub, Nat.reduceMul, Nat.reduceLeDiff, Nat.reduceEqDiff, Nat.reduceLT, Int.reduceNeg, Int.reduceAdd, Int.reduceSub, Int.reduceMul, Int.reduceLE, Int.reduceLT, Int.reduceEq, Int.reduceToNat, reduceCtorEq, *])
  all_goals simp_all
theorem ord_ok' {a b : Val} (h : a.ok = true) (h' : b.ok = true) : a.ord b = a.cmp b := by simp [Val.ord, h, h']
theorem run_CompareR (d : Nat) (kd : Int) (ak an : Int) (aq : ByteArray) (bk bn : Int) (bq : ByteArray) (h1 : aq.size < 1099511627776) (h2 : bq.size < 1099511627776) : retP (runD tab noExt (d + 5)) 150 [.int .i64 kd, .agg [.int .i64 ak, .int .i64 an, .str aq], .agg [.int .i64 bk, .int .i64 bn, .str bq]] = some [.int .i64 (cmpV kd (⟨ak, an, aq⟩ : Val) (⟨bk, bn, bq⟩ : Val))] := by
  rw [retP, runD_eq find150 _ _ _ (by simp)]
  simp -implicitDefEqProofs (disch := omega) only [go_sem, Nat.reduceBEq, Nat.reduceAdd, Nat.reduceSub, Nat.reduceMul, Nat.reduceLeDiff, Nat.reduceEqDiff, Nat.reduceLT, Int.reduceNeg, Int.reduceAdd, Int.reduceSub, Int.reduceMul, Int.reduceLE, Int.reduceLT, Int.reduceEq, Int.reduceToNat, reduceCtorEq, run_l1In, run_specValueOk, run_ValueOrder, run_l2Bool]
  repeat' ((first | rw [GuardI_ndec] | rw [CondC_ndec] | rw [GuardQ_ndec] | rw [GuardI_dec] | rw [CondC_dec] | rw [GuardQ_dec] | rw [GuardI_nby] | rw [CondC_nby] | rw [GuardQ_nby] | rw [GuardQ_by] | rw [GuardI_by] | rw [CondC_by]) <;> split <;> simp -implicitDefEqProofs (disch := omega) only [go_sem, Nat.reduceBEq, Nat.reduceAdd, Nat.reduceSub, Nat.reduceMul, Nat.reduceLeDiff, Nat.reduceEqDiff, Nat.reduceLT, Int.reduceNeg, Int.reduceAdd, Int.reduceSub, Int.reduceMul, Int.reduceLE, Int.reduceLT, Int.reduceEq, Int.reduceToNat, reduceCtorEq, run_l1In, run_specValueOk, run_ValueOrder, run_l2Bool, *])
  all_goals (first | (simp only [cmpV, cmpT, ord_ok', reduceIte, if_true, if_false, Bool.false_eq_true, *]; done) | (simp_all [cmpV, cmpT, ord_ok']; done) | (simp_all [cmpV, cmpT, ord_ok']; grind))
def truthOk (n : Int) : Bool := decide (0 ≤ n ∧ n ≤ 2)
def foldT (a b alone : Int) : Int := if truthOk a then (if truthOk b then (if a = alone then alone else if b = alone then alone else if a = 2 then 2 else if b = 2 then 2 else 1 - alone) else -1) else -1
def notT (a : Int) : Int := if a = 0 then 1 else if a = 1 then 0 else if a = 2 then 2 else -1
def truthV (v : Val) : Int := if v.ok then (if v.kind = 0 then 2 else if v.kind = 3 then v.n else -1) else -1
def valT (t : Int) : Val := if 0 ≤ t ∧ t ≤ 1 then ⟨3, t, ⟨#[]⟩⟩ else Val.zero
end Go.Proofs.Ytgepapgabnaonaa.PE
/- Whether a value is one of a list, in three values: the program's and the reference's. -/
set_option linter.unusedSimpArgs false
set_option linter.unusedVariables false
set_option maxHeartbeats 4000000
namespace Go.Proofs.Ytgepapgabnaonaa.PE
open Go.RowKit

def eqB (v w : Val) : Bool := decide (v.kind = w.kind) && (decide (v.n = w.n) && decide (v.s = w.s))
theorem eqB_iff {v w : Val} : eqB v w = true ↔ v = w := by
  obtain ⟨k, n, s⟩ := v
  obtain ⟨k', n', s'⟩ := w
  simp [eqB, Val.mk.injEq]
theorem eqB_eq (v w : Val) : eqB v w = decide (v = w) := by
  by_cases h : v = w
  · rw [eqB_iff.2 h]; simp [h]
  · cases hb : eqB v w
    · simp [h]
    · exact absurd (eqB_iff.1 hb) h
theorem loop_index (d : Nat) (c : Bool) (v : Val) (ws : List Val) (hs : ws.length < 1099511627776) (K : Nat) (hK : ws.length ≤ K) :
    LoopS (runD tab noExt d) (drawI (runD tab noExt d)) [0, 3, 7, 8] [4] L167x0 1 K [(0, .sl c 3 (ws.map Val.cells)), (3, .ptr 0 0 0 0), (7, .int .i64 (ws.length : Int)), (8, .int .i64 0)] [.box v.cells] =
      (match ws.findIdx? (eqB v) with
        | some k => (some (.ret, [(4, .int .i64 (k : Int))], [.box v.cells]) : Out)
        | none => some (.exit 0, [(4, .undef)], [.box v.cells])) := by
  have key := LoopS_rec (run := runD tab noExt d) (draw := drawI (runD tab noExt d)) (live := [0, 3, 7, 8]) (out := [4]) (c := L167x0) (n0 := 1) ws (fun (i : Nat) (_ : Unit) => [(0, .sl c 3 (ws.map Val.cells)), (3, .ptr 0 0 0 0), (7, .int .i64 (ws.length : Int)), (8, .int .i64 i)]) (fun _ _ => [.box v.cells])
    (fun r _ => match r.findIdx? (eqB v) with
        | some k => (some (.ret, [(4, .int .i64 (ws.length - r.length + k : Int))], [.box v.cells]) : Out)
        | none => some (.exit 0, [(4, .undef)], [.box v.cells])) (fun _ K => ?_) (fun (i : Nat) x r _ K hi hx hr ih => ?_) K hK ()
  · simp only [Int.natCast_zero, Int.sub_self, Int.zero_add] at key
    exact key
  · rw [LoopS_eq]
    simp -implicitDefEqProofs only [go_sem, Nat.reduceBEq, Nat.reduceAdd, Nat.reduceSub, Nat.reduceMul, Nat.reduceLeDiff, Nat.reduceEqDiff, Nat.reduceLT, Int.reduceNeg, Int.reduceAdd, Int.reduceSub, Int.reduceMul, Int.reduceLE, Int.reduceLT, Int.reduceEq, Int.reduceToNat, reduceCtorEq, evL167x0, B167x0, Int.lt_irrefl, List.findIdx?_nil]
  · have hlen : (ws.length : Int) - (r.length + 1) = i := by omega
    rw [LoopS_eq, List.findIdx?_cons]
    cases hp : eqB v x
    · have hp' := hp
      unfold eqB at hp'
      simp -implicitDefEqProofs (disch := omega) only [go_sem, Nat.reduceBEq, Nat.reduceAdd, Nat.reduceSub, Nat.reduceMul, Nat.reduceLeDiff, Nat.reduceEqDiff, Nat.reduceLT, Int.reduceNeg, Int.reduceAdd, Int.reduceSub, Int.reduceMul, Int.reduceLE, Int.reduceLT, Int.reduceEq, Int.reduceToNat, reduceCtorEq, evL167x0, B167x0, evC_draw, evD167x0, E167x0, hi, hx, Val.cells, hp', hp, IntWalk.i64_in]
      have ih' := ih ()
      simp only [Int.natCast_add, Int.natCast_one, Val.cells] at ih'
      rw [ih']
      cases hf : r.findIdx? (eqB v) with
      | none => rfl
      | some k => simp; omega
    · have hp' := hp
      unfold eqB at hp'
      simp -implicitDefEqProofs (disch := omega) only [go_sem, Nat.reduceBEq, Nat.reduceAdd, Nat.reduceSub, Nat.reduceMul, Nat.reduceLeDiff, Nat.reduceEqDiff, Nat.reduceLT, Int.reduceNeg, Int.reduceAdd, Int.reduceSub, Int.reduceMul, Int.reduceLE, Int.reduceLT, Int.reduceEq, Int.reduceToNat, reduceCtorEq, evL167x0, B167x0, evC_draw, evD167x0, E167x0, hi, hx, Val.cells, hp', hp, IntWalk.i64_in, hlen]
      simp [hlen]
-- find146
theorem run_contains (d : Nat) (c : Bool) (vk vn : Int) (vq : ByteArray) (ws : List Val) (hs : ws.length < 1099511627776) : retP (runD tab noExt (d + 2)) 146 [.sl c 3 (ws.map Val.cells), .agg [.int .i64 vk, .int .i64 vn, .str vq]] = some [.bool (ws.any (eqB (⟨vk, vn, vq⟩ : Val)))] := by
  rw [retP, runD_eq find146 _ _ _ (by simp)]
  have e : ws.any (eqB (⟨vk, vn, vq⟩ : Val)) = (ws.findIdx? (eqB (⟨vk, vn, vq⟩ : Val))).isSome := by simp [List.findIdx?_isSome]
  have hi : retP (runD tab noExt (d + 1)) 167 [.sl c 3 (ws.map Val.cells), .agg [.int .i64 vk, .int .i64 vn, .str vq]] = some [.int .i64 (match ws.findIdx? (eqB (⟨vk, vn, vq⟩ : Val)) with | some k => (k : Int) | none => -1)] := by
    rw [retP, runD_eq find167 _ _ _ (by simp)]
    have hl := loop_index d c (⟨vk, vn, vq⟩ : Val) ws hs 1099511627775 (by omega)
    simp -implicitDefEqProofs (disch := omega) only [go_sem, Nat.reduceBEq, Nat.reduceAdd, Nat.reduceSub, Nat.reduceMul, Nat.reduceLeDiff, Nat.reduceEqDiff, Nat.reduceLT, Int.reduceNeg, Int.reduceAdd, Int.reduceSub, Int.reduceMul, Int.reduceLE, Int.reduceLT, Int.reduceEq, Int.reduceToNat, reduceCtorEq, Val.cells] at hl ⊢
    rw [hl]
    cases hf : ws.findIdx? (eqB (⟨vk, vn, vq⟩ : Val)) <;> simp -implicitDefEqProofs only [go_sem, Nat.reduceBEq, Nat.reduceAdd, Nat.reduceSub, Nat.reduceMul, Nat.reduceLeDiff, Nat.reduceEqDiff, Nat.reduceLT, Int.reduceNeg, Int.reduceAdd, Int.reduceSub, Int.reduceMul, Int.reduceLE, Int.reduceLT, Int.reduceEq, Int.reduceToNat, reduceCtorEq]
  simp -implicitDefEqProofs (disch := omega) only [go_sem, Nat.reduceBEq, Nat.reduceAdd, Nat.reduceSub, Nat.reduceMul, Nat.reduceLeDiff, Nat.reduceEqDiff, Nat.reduceLT, Int.reduceNeg, Int.reduceAdd, Int.reduceSub, Int.reduceMul, Int.reduceLE, Int.reduceLT, Int.reduceEq, Int.reduceToNat, reduceCtorEq, hi]
  rw [e]
  cases hf : ws.findIdx? (eqB (⟨vk, vn, vq⟩ : Val)) <;> simp -implicitDefEqProofs only [go_sem, Nat.reduceBEq, Nat.reduceAdd, Nat.reduceSub, Nat.reduceMul, Nat.reduceLeDiff, Nat.reduceEqDiff, Nat.reduceLT, Int.reduceNeg, Int.reduceAdd, Int.reduceSub, Int.reduceMul, Int.reduceLE, Int.reduceLT, Int.reduceEq, Int.reduceToNat, reduceCtorEq, Option.isSome_some, Option.isSome_none]

def inBad (v w : Val) : Bool := if w.ok then (if w.kind = v.kind then false else if w.kind = 0 then false else true) else true
def inT (v : Val) (ws : List Val) : Int :=
  if v.ok then (if (30 : Int) < ws.length then 2 else if ws.any (inBad v) then 2 else if ws.length = 0 then 0 else if v.kind = 0 then 2 else if ws.any (eqB v) then 1 else if ws.any (eqB Val.zero) then 2 else 0) else 2
-- find145
theorem clo_in (d : Nat) (vk vn : Int) (vq : ByteArray) (x : Val) : callS (runD tab noExt (d + 4)) [.box [.int .i64 vk, .int .i64 vn, .str vq]] 145 [.agg (Val.cells x), .ptr 0 0 0 0] false = some (.bool (inBad (⟨vk, vn, vq⟩ : Val) x), [.box [.int .i64 vk, .int .i64 vn, .str vq]]) := by
  rw [callS_eq, runD_eq find145 _ _ _ (by simp)]
  simp -implicitDefEqProofs (disch := omega) only [go_sem, Nat.reduceBEq, Nat.reduceAdd, Nat.reduceSub, Nat.reduceMul, Nat.reduceLeDiff, Nat.reduceEqDiff, Nat.reduceLT, Int.reduceNeg, Int.reduceAdd, Int.reduceSub, Int.reduceMul, Int.reduceLE, Int.reduceLT, Int.reduceEq, Int.reduceToNat, reduceCtorEq, run_ok, Val.cells, Val.eta]
  repeat' ((first | rw [GuardI_ndec] | rw [CondC_ndec] | rw [GuardQ_ndec] | rw [GuardI_dec] | rw [CondC_dec] | rw [GuardQ_dec] | rw [GuardI_nby] | rw [CondC_nby] | rw [GuardQ_nby] | rw [GuardQ_by] | rw [GuardI_by] | rw [CondC_by]) <;> split <;> simp -implicitDefEqProofs (disch := omega) only [go_sem, Nat.reduceBEq, Nat.reduceAdd, Nat.reduceSub, Nat.reduceMul, Nat.reduceLeDiff, Nat.reduceEqDiff, Nat.reduceLT, Int.reduceNeg, Int.reduceAdd, Int.reduceSub, Int.reduceMul, Int.reduceLE, Int.reduceLT, Int.reduceEq, Int.reduceToNat, reduceCtorEq, *])
  all_goals first | (simp only [inBad, reduceIte, if_true, if_false, Bool.false_eq_true, *]; done) | (simp_all [inBad]; done) | (simp_all [inBad]; omega) | (simp_all [inBad]; grind) | grind [inBad]
-- find102
theorem run_inT (d : Nat) (c : Bool) (vk vn : Int) (vq : ByteArray) (ws : List Val) (hs : ws.length < 1099511627776) : retP (runD tab noExt (d + 7)) 102 [.agg [.int .i64 vk, .int .i64 vn, .str vq], .sl c 3 (ws.map Val.cells)] = some [.int .i64 (inT (⟨vk, vn, vq⟩ : Val) ws)] := by
  rw [retP, runD_eq find102 _ _ _ (by simp)]
  have hcon := conVal (d + 4) [.box [.int .i64 vk, .int .i64 vn, .str vq]] c 145 [.ptr 0 0 0 0] ws (inBad (⟨vk, vn, vq⟩ : Val)) hs rfl rfl (fun x _ => clo_in d vk vn vq x)
  have hz : Val.zero = ⟨0, 0, ⟨#[]⟩⟩ := rfl
  have hl0 : ((ws.length : Int) = 0) = (ws.length = 0) := by simp
  simp -implicitDefEqProofs (disch := omega) only [go_sem, Nat.reduceBEq, Nat.reduceAdd, Nat.reduceSub, Nat.reduceMul, Nat.reduceLeDiff, Nat.reduceEqDiff, Nat.reduceLT, Int.reduceNeg, Int.reduceAdd, Int.reduceSub, Int.reduceMul, Int.reduceLE, Int.reduceLT, Int.reduceEq, Int.reduceToNat, reduceCtorEq, run_ok, hcon, hl0]
  repeat' ((first | rw [GuardI_ndec] | rw [CondC_ndec] | rw [GuardQ_ndec] | rw [GuardI_dec] | rw [CondC_dec] | rw [GuardQ_dec] | rw [GuardI_nby] | rw [CondC_nby] | rw [GuardQ_nby] | rw [GuardQ_by] | rw [GuardI_by] | rw [CondC_by]) <;> split <;> simp -implicitDefEqProofs (disch := omega) only [go_sem, Nat.reduceBEq, Nat.reduceAdd, Nat.reduceSub, Nat.reduceMul, Nat.reduceLeDiff, Nat.reduceEqDiff, Nat.reduceLT, Int.reduceNeg, Int.reduceAdd, Int.reduceSub, Int.reduceMul, Int.reduceLE, Int.reduceLT, Int.reduceEq, Int.reduceToNat, reduceCtorEq, hcon, run_contains, hl0, *])
  all_goals first | (simp only [inT, hz, reduceIte, if_true, if_false, Bool.false_eq_true, *]; done) | (simp_all [inT, hz]; done) | (simp_all [inT, hz]; omega) | (simp_all [inT, hz]; grind) | grind [inT, hz]

/-- The reference's: value by value. -/
def inF (v : Val) : List Val → Int → Bool × Int
  | [], o => (false, o)
  | w :: r, o => if w.ok then (if v.kind = 0 then inF v r (foldT o (cmpV 1 v w) 1) else if w.kind = 0 then inF v r (foldT o (cmpV 1 v w) 1) else if v.kind = w.kind then inF v r (foldT o (cmpV 1 v w) 1) else (true, o)) else (true, o)
def inO (p : Bool × Int) (b : List V) : Out := if p.1 then some (.ret, [(4, .int .i64 2), (5, .int .i64 p.2)], [.box b]) else some (.exit 0, [(4, .undef), (5, .int .i64 p.2)], [.box b])
def inR (v : Val) (ws : List Val) : Int := if v.ok then (if (30 : Int) < ws.length then 2 else if (inF v ws 0).1 then 2 else (inF v ws 0).2) else 2
theorem run_truthOkR (d : Nat) (n : Int) : retP (runD tab noExt (d + 2)) 147 [.int .i64 n] = some [.bool (truthOk n)] := by
  rw [retP, runD_eq find147 _ _ _ (by simp)]
  simp -implicitDefEqProofs (disch := omega) only [go_sem, Nat.reduceBEq, Nat.reduceAdd, Nat.reduceSub, Nat.reduceMul, Nat.reduceLeDiff, Nat.reduceEqDiff, Nat.reduceLT, Int.reduceNeg, Int.reduceAdd, Int.reduceSub, Int.reduceMul, Int.reduceLE, Int.reduceLT, Int.reduceEq, Int.reduceToNat, reduceCtorEq, run_l1In]
  repeat' ((first | rw [GuardI_ndec] | rw [CondC_ndec] | rw [GuardQ_ndec] | rw [GuardI_dec] | rw [CondC_dec] | rw [GuardQ_dec] | rw [GuardI_nby] | rw [CondC_nby] | rw [GuardQ_nby] | rw [GuardQ_by] | rw [GuardI_by] | rw [CondC_by]) <;> split <;> simp -implicitDefEqProofs (disch := omega) only [go_sem, Nat.reduceBEq, Nat.reduceAdd, Nat.reduceSub, Nat.reduceMul, Nat.reduceLeDiff, Nat.reduceEqDiff, Nat.reduceLT, Int.reduceNeg, Int.reduceAdd, Int.reduceSub, Int.reduceMul, Int.reduceLE, Int.reduceLT, Int.reduceEq, Int.reduceToNat, reduceCtorEq, run_l1In, *])
  all_goals (first | (simp only [truthOk, reduceIte, if_true, if_false, Bool.false_eq_true, *]; done) | (simp_all [truthOk]; done) | (simp_all [truthOk]; omega) | (simp_all [truthOk]; grind) | grind [truthOk])
-- find148
theorem run_sure (d : Nat) (n : Int) (h : truthOk n = true) : retP (runD tab noExt (d + 1)) 148 [.int .i64 n] = some [.int .i64 (if n = 0 then 0 else if n = 1 then 2 else 1)] := by
  have h3 : n = 0 ∨ n = 1 ∨ n = 2 := by simp [truthOk] at h; omega
  rw [retP, runD_eq find148 _ _ _ (by simp)]
  rcases h3 with rfl | rfl | rfl <;> simp -implicitDefEqProofs (disch := omega) only [go_sem, Nat.reduceBEq, Nat.reduceAdd, Nat.reduceSub, Nat.reduceMul, Nat.reduceLeDiff, Nat.reduceEqDiff, Nat.reduceLT, Int.reduceNeg, Int.reduceAdd, Int.reduceSub, Int.reduceMul, Int.reduceLE, Int.reduceLT, Int.reduceEq, Int.reduceToNat, reduceCtorEq, Int.toNat_zero, Int.toNat_one, Int.reduceToNat]
-- find149
theorem run_OrOfR (d : Nat) (a b : Int) : retP (runD tab noExt (d + 3)) 149 [.int .i64 a, .int .i64 b] = some [.int .i64 (foldT a b 1)] := by
  rw [retP, runD_eq find149 _ _ _ (by simp)]
  by_cases h1 : truthOk a = true
  · by_cases h2 : truthOk b = true
    · have h3 : a = 0 ∨ a = 1 ∨ a = 2 := by simp [truthOk] at h1; omega
      have h4 : b = 0 ∨ b = 1 ∨ b = 2 := by simp [truthOk] at h2; omega
      rcases h3 with rfl | rfl | rfl <;> rcases h4 with rfl | rfl | rfl <;> (simp -implicitDefEqProofs (disch := first | omega | rfl) only [go_sem, Nat.reduceBEq, Nat.reduceAdd, Nat.reduceSub, Nat.reduceMul, Nat.reduceLeDiff, Nat.reduceEqDiff, Nat.reduceLT, Int.reduceNeg, Int.reduceAdd, Int.reduceSub, Int.reduceMul, Int.reduceLE, Int.reduceLT, Int.reduceEq, Int.reduceToNat, reduceCtorEq, run_truthOkR, run_sure, h1, h2]; rfl)
    · simp -implicitDefEqProofs (disch := omega) only [go_sem, Nat.reduceBEq, Nat.reduceAdd, Nat.reduceSub, Nat.reduceMul, Nat.reduceLeDiff, Nat.reduceEqDiff, Nat.reduceLT, Int.reduceNeg, Int.reduceAdd, Int.reduceSub, Int.reduceMul, Int.reduceLE, Int.reduceLT, Int.reduceEq, Int.reduceToNat, reduceCtorEq, run_truthOkR, h1, h2]
      simp [foldT, h1, h2]
  · simp -implicitDefEqProofs (disch := omega) only [go_sem, Nat.reduceBEq, Nat.reduceAdd, Nat.reduceSub, Nat.reduceMul, Nat.reduceLeDiff, Nat.reduceEqDiff, Nat.reduceLT, Int.reduceNeg, Int.reduceAdd, Int.reduceSub, Int.reduceMul, Int.reduceLE, Int.reduceLT, Int.reduceEq, Int.reduceToNat, reduceCtorEq, run_truthOkR, h1]
    simp [foldT, h1]
-- find106
theorem run_NotOfR (d : Nat) (a : Int) : retP (runD tab noExt (d + 3)) 106 [.int .i64 a] = some [.int .i64 (notT a)] := by
  rw [retP, runD_eq find106 _ _ _ (by simp)]
  by_cases h1 : truthOk a = true
  · have h3 : a = 0 ∨ a = 1 ∨ a = 2 := by simp [truthOk] at h1; omega
    rcases h3 with rfl | rfl | rfl <;> (simp -implicitDefEqProofs (disch := first | omega | rfl) only [go_sem, Nat.reduceBEq, Nat.reduceAdd, Nat.reduceSub, Nat.reduceMul, Nat.reduceLeDiff, Nat.reduceEqDiff, Nat.reduceLT, Int.reduceNeg, Int.reduceAdd, Int.reduceSub, Int.reduceMul, Int.reduceLE, Int.reduceLT, Int.reduceEq, Int.reduceToNat, reduceCtorEq, run_truthOkR, run_sure, h1, IntWalk.i64_in]; rfl)
  · have h3 : ¬ (a = 0) ∧ ¬ (a = 1) ∧ ¬ (a = 2) := by simp [truthOk] at h1; omega
    simp -implicitDefEqProofs (disch := omega) only [go_sem, Nat.reduceBEq, Nat.reduceAdd, Nat.reduceSub, Nat.reduceMul, Nat.reduceLeDiff, Nat.reduceEqDiff, Nat.reduceLT, Int.reduceNeg, Int.reduceAdd, Int.reduceSub, Int.reduceMul, Int.reduceLE, Int.reduceLT, Int.reduceEq, Int.reduceToNat, reduceCtorEq, run_truthOkR, h1]
    simp [notT, h3]
theorem loop_inR (d : Nat) (c : Bool) (v : Val) (ws : List Val) (hs : ws.length < 1099511627776) (hv : v.s.size < 1099511627776) (hw : ∀ w ∈ ws, w.s.size < 1099511627776) (K : Nat) (hK : ws.length ≤ K) (o : Int) :
    LoopS (runD tab noExt (d + 5)) (drawI (runD tab noExt (d + 5))) [1, 2, 5, 6] [4, 5] L107x0 1 K [(1, .sl c 3 (ws.map Val.cells)), (2, .ptr 0 0 0 0), (5, .int .i64 o), (6, .int .i64 0)] [.box v.cells] = inO (inF v ws o) v.cells := by
  have key := LoopS_rec (run := runD tab noExt (d + 5)) (draw := drawI (runD tab noExt (d + 5))) (live := [1, 2, 5, 6]) (out := [4, 5]) (c := L107x0) (n0 := 1) ws (fun (i : Nat) (o : Int) => [(1, .sl c 3 (ws.map Val.cells)), (2, .ptr 0 0 0 0), (5, .int .i64 o), (6, .int .i64 (i : Int))]) (fun _ _ => [.box v.cells])
    (fun r o => inO (inF v r o) v.cells) (fun o K => ?_) (fun (i : Nat) x r o K hi hx hr ih => ?_) K hK o
  · simp only [Int.natCast_zero] at key
    exact key
  · rw [LoopS_eq]
    simp -implicitDefEqProofs only [go_sem, Nat.reduceBEq, Nat.reduceAdd, Nat.reduceSub, Nat.reduceMul, Nat.reduceLeDiff, Nat.reduceEqDiff, Nat.reduceLT, Int.reduceNeg, Int.reduceAdd, Int.reduceSub, Int.reduceMul, Int.reduceLE, Int.reduceLT, Int.reduceEq, Int.reduceToNat, reduceCtorEq, evL107x0, B107x0, Int.lt_irrefl, inO, inF]
  · have hxs := hw x (List.mem_of_getElem? hx)
    have ih' := ih (foldT o (cmpV 1 v x) 1)
    simp only [Int.natCast_add, Int.natCast_one] at ih'
    rw [LoopS_eq]
    unfold inF
    by_cases h1 : x.ok = true
    · rw [if_pos h1]
      by_cases h2 : v.kind = 0
      · have h2' : (v.kind = 0) = True := eq_true h2
        rw [if_pos h2, ← ih']
        simp -implicitDefEqProofs (disch := first | omega | assumption) only [go_sem, Nat.reduceBEq, Nat.reduceAdd, Nat.reduceSub, Nat.reduceMul, Nat.reduceLeDiff, Nat.reduceEqDiff, Nat.reduceLT, Int.reduceNeg, Int.reduceAdd, Int.reduceSub, Int.reduceMul, Int.reduceLE, Int.reduceLT, Int.reduceEq, Int.reduceToNat, reduceCtorEq, evL107x0, B107x0, evC_draw, evD107x0, E107x0, evC_draw, evD107x1, E107x1, hi, hx, Val.cells, run_specValueOk, Val.eta, h1, h2', run_CompareR, run_OrOfR, IntWalk.i64_in]
      · have h2' : (v.kind = 0) = False := eq_false h2
        rw [if_neg h2]
        by_cases h3 : x.kind = 0
        · have h3' : (x.kind = 0) = True := eq_true h3
          rw [if_pos h3, ← ih']
          simp -implicitDefEqProofs (disch := first | omega | assumption) only [go_sem, Nat.reduceBEq, Nat.reduceAdd, Nat.reduceSub, Nat.reduceMul, Nat.reduceLeDiff, Nat.reduceEqDiff, Nat.reduceLT, Int.reduceNeg, Int.reduceAdd, Int.reduceSub, Int.reduceMul, Int.reduceLE, Int.reduceLT, Int.reduceEq, Int.reduceToNat, reduceCtorEq, evL107x0, B107x0, evC_draw, evD107x0, E107x0, evC_draw, evD107x1, E107x1, hi, hx, Val.cells, run_specValueOk, Val.eta, h1, h2', h3', run_CompareR, run_OrOfR, IntWalk.i64_in]
        · have h3' : (x.kind = 0) = False := eq_false h3
          rw [if_neg h3]
          by_cases h4 : v.kind = x.kind
          · have h4' : (v.kind = x.kind) = True := eq_true h4
            rw [if_pos h4, ← ih']
            simp -implicitDefEqProofs (disch := first | omega | assumption) only [go_sem, Nat.reduceBEq, Nat.reduceAdd, Nat.reduceSub, Nat.reduceMul, Nat.reduceLeDiff, Nat.reduceEqDiff, Nat.reduceLT, Int.reduceNeg, Int.reduceAdd, Int.reduceSub, Int.reduceMul, Int.reduceLE, Int.reduceLT, Int.reduceEq, Int.reduceToNat, reduceCtorEq, evL107x0, B107x0, evC_draw, evD107x0, E107x0, evC_draw, evD107x1, E107x1, hi, hx, Val.cells, run_specValueOk, Val.eta, h1, h2', h3', h4', run_CompareR, run_OrOfR, IntWalk.i64_in]
          · have h4' : (v.kind = x.kind) = False := eq_false h4
            rw [if_neg h4]
            simp -implicitDefEqProofs (disch := first | omega | assumption) only [go_sem, Nat.reduceBEq, Nat.reduceAdd, Nat.reduceSub, Nat.reduceMul, Nat.reduceLeDiff, Nat.reduceEqDiff, Nat.reduceLT, Int.reduceNeg, Int.reduceAdd, Int.reduceSub, Int.reduceMul, Int.reduceLE, Int.reduceLT, Int.reduceEq, Int.reduceToNat, reduceCtorEq, evL107x0, B107x0, evC_draw, evD107x0, E107x0, hi, hx, Val.cells, run_specValueOk, Val.eta, h1, h2', h3', h4', inO]
    · rw [if_neg h1]
      simp -implicitDefEqProofs (disch := first | omega | assumption) only [go_sem, Nat.reduceBEq, Nat.reduceAdd, Nat.reduceSub, Nat.reduceMul, Nat.reduceLeDiff, Nat.reduceEqDiff, Nat.reduceLT, Int.reduceNeg, Int.reduceAdd, Int.reduceSub, Int.reduceMul, Int.reduceLE, Int.reduceLT, Int.reduceEq, Int.reduceToNat, reduceCtorEq, evL107x0, B107x0, evC_draw, evD107x0, E107x0, hi, hx, Val.cells, run_specValueOk, Val.eta, h1, inO]
-- find107
theorem run_inR (d : Nat) (c : Bool) (vk vn : Int) (vq : ByteArray) (ws : List Val) (hs : ws.length < 1099511627776) (hv : vq.size < 1099511627776) (hw : ∀ w ∈ ws, w.s.size < 1099511627776) : retP (runD tab noExt (d + 6)) 107 [.agg [.int .i64 vk, .int .i64 vn, .str vq], .sl c 3 (ws.map Val.cells)] = some [.int .i64 (inR (⟨vk, vn, vq⟩ : Val) ws)] := by
  rw [retP, runD_eq find107 _ _ _ (by simp)]
  by_cases h1 : Val.ok (⟨vk, vn, vq⟩ : Val) = true
  · by_cases h2 : (30 : Int) < ws.length
    · simp -implicitDefEqProofs (disch := omega) only [go_sem, Nat.reduceBEq, Nat.reduceAdd, Nat.reduceSub, Nat.reduceMul, Nat.reduceLeDiff, Nat.reduceEqDiff, Nat.reduceLT, Int.reduceNeg, Int.reduceAdd, Int.reduceSub, Int.reduceMul, Int.reduceLE, Int.reduceLT, Int.reduceEq, Int.reduceToNat, reduceCtorEq, run_specValueOk, h1, h2]
      simp [inR, h1, h2]
    · have hl := loop_inR d c (⟨vk, vn, vq⟩ : Val) ws hs hv hw 1099511627775 (by omega) 0
      simp -implicitDefEqProofs (disch := omega) only [go_sem, Nat.reduceBEq, Nat.reduceAdd, Nat.reduceSub, Nat.reduceMul, Nat.reduceLeDiff, Nat.reduceEqDiff, Nat.reduceLT, Int.reduceNeg, Int.reduceAdd, Int.reduceSub, Int.reduceMul, Int.reduceLE, Int.reduceLT, Int.reduceEq, Int.reduceToNat, reduceCtorEq, run_specValueOk, h1, h2, Val.cells] at hl ⊢
      rw [hl]
      unfold inO
      cases h3 : (inF (⟨vk, vn, vq⟩ : Val) ws 0).1
      · simp -implicitDefEqProofs only [go_sem, Nat.reduceBEq, Nat.reduceAdd, Nat.reduceSub, Nat.reduceMul, Nat.reduceLeDiff, Nat.reduceEqDiff, Nat.reduceLT, Int.reduceNeg, Int.reduceAdd, Int.reduceSub, Int.reduceMul, Int.reduceLE, Int.reduceLT, Int.reduceEq, Int.reduceToNat, reduceCtorEq, if_false, Bool.false_eq_true]
        simp [inR, h1, h2, h3]
      · simp -implicitDefEqProofs only [go_sem, Nat.reduceBEq, Nat.reduceAdd, Nat.reduceSub, Nat.reduceMul, Nat.reduceLeDiff, Nat.reduceEqDiff, Nat.reduceLT, Int.reduceNeg, Int.reduceAdd, Int.reduceSub, Int.reduceMul, Int.reduceLE, Int.reduceLT, Int.reduceEq, Int.reduceToNat, reduceCtorEq, if_true]
        simp [inR, h1, h2, h3]
  · simp -implicitDefEqProofs (disch := omega) only [go_sem, Nat.reduceBEq, Nat.reduceAdd, Nat.reduceSub, Nat.reduceMul, Nat.reduceLeDiff, Nat.reduceEqDiff, Nat.reduceLT, Int.reduceNeg, Int.reduceAdd, Int.reduceSub, Int.reduceMul, Int.reduceLE, Int.reduceLT, Int.reduceEq, Int.reduceToNat, reduceCtorEq, run_specValueOk, h1]
    simp [inR, h1]
/-- Both are the same. -/
theorem cmp_self_ok {v w : Val} (hv : v.ok = true) (hw : w.ok = true) (h1 : v.kind ≠ 0) (h2 : w.kind ≠ 0) (h3 : v.kind = w.kind) : cmpV 1 v w = if eqB v w then 1 else 0 := by
  have e : v.cmp w = 0 ↔ v = w := by
    constructor
    · intro h
      obtain ⟨k, n, s⟩ := v
      obtain ⟨k', n', s'⟩ := w
      unfold Val.cmp at h
      dsimp only at h h3
      subst h3
      have hk : cmpI k k = 0 := by unfold cmpI; simp
      rw [hk] at h
      simp only [ne_eq, not_true_eq_false, if_false] at h
      split at h
      · rename_i hn
        exact absurd h hn
      · rename_i hn
        have hn' : n = n' := by
          have : cmpI n n' = 0 := by simpa using hn
          unfold cmpI at this
          split at this
          · omega
          · split at this
            · omega
            · omega
        have hs : s = s' := by
          unfold cmpS at h
          split at h
          · omega
          · rename_i g1
            split at h
            · omega
            · rename_i g2
              have := str_gt s s'
              by_cases hc : s = s'
              · exact hc
              · exfalso
                have x1 : ltS s s' = false := by simpa using g1
                have x2 : ltS s' s = false := by simpa using g2
                rw [x1, x2] at this
                simp [hc] at this
        rw [hn', hs]
    · rintro rfl
      have h1 : ∀ x, cmpI x x = 0 := fun x => by unfold cmpI; simp
      have h2 : cmpS v.s v.s = 0 := by unfold cmpS ltS; simp [List.lt_irrefl]
      unfold Val.cmp
      rw [h1, h1, h2]
      simp
  rw [eqB_eq]
  unfold cmpV cmpT
  by_cases hvw : v = w
  · subst hvw
    simp [hv, h1, e]
  · have : ¬ v.cmp w = 0 := fun h => hvw (e.1 h)
    simp [hv, hw, h1, h2, h3, this, hvw]
def resF (o : Int) (e z : Bool) : Int := if o = 1 then 1 else if e then 1 else if o = 2 then 2 else if z then 2 else 0
theorem bad_no {v w : Val} (h1 : w.ok = true) (h : w.kind = v.kind ∨ w.kind = 0) : inBad v w = false := by
  unfold inBad
  rw [if_pos h1]
  repeat' split
  all_goals first | rfl | (exfalso; rcases h with h | h <;> contradiction)
theorem bad_yes {v w : Val} (h : w.ok = true → w.kind ≠ v.kind ∧ w.kind ≠ 0) : inBad v w = true := by
  unfold inBad
  by_cases h1 : w.ok = true
  · obtain ⟨h2, h3⟩ := h h1
    rw [if_pos h1, if_neg h2, if_neg h3]
  · rw [if_neg h1]
theorem inF_spec {v : Val} (hv : v.ok = true) (hk : v.kind ≠ 0) : ∀ (ws : List Val) (o : Int), o = 0 ∨ o = 1 ∨ o = 2 → (inF v ws o).1 = ws.any (inBad v) ∧ (ws.any (inBad v) = false → (inF v ws o).2 = resF o (ws.any (eqB v)) (ws.any (eqB Val.zero)))
  | [], o, ho => by
    rcases ho with rfl | rfl | rfl <;> exact ⟨rfl, fun _ => rfl⟩
  | w :: r, o, ho => by
    unfold inF
    rw [List.any_cons, List.any_cons, List.any_cons]
    by_cases h1 : w.ok = true
    · rw [if_pos h1, if_neg hk]
      by_cases h2 : w.kind = 0
      · have hb : inBad v w = false := bad_no h1 (.inr h2)
        have hc : cmpV 1 v w = 2 := by unfold cmpV; simp [hv, h1, hk, h2]
        have hz : eqB Val.zero w = true := by
          rw [eqB_iff]
          obtain ⟨k, n, s⟩ := w
          dsimp only at h2
          subst h2
          simp [Val.ok] at h1
          obtain ⟨rfl, rfl⟩ := h1
          rfl
        have he : eqB v w = false := by
          cases h : eqB v w
          · rfl
          · rw [eqB_iff.1 h] at hk; exact absurd h2 hk
        rw [if_pos h2, hc, hb, hz, he, Bool.false_or, Bool.false_or, Bool.true_or]
        have ih := inF_spec hv hk r (foldT o 2 1) (by rcases ho with rfl | rfl | rfl <;> decide)
        refine ⟨ih.1, fun hb' => ?_⟩
        rw [ih.2 hb']
        generalize r.any (eqB v) = x
        generalize r.any (eqB Val.zero) = y
        rcases ho with rfl | rfl | rfl <;> revert x y <;> decide
      · rw [if_neg h2]
        by_cases h3 : v.kind = w.kind
        · have hb : inBad v w = false := bad_no h1 (.inl h3.symm)
          have hz : eqB Val.zero w = false := by
            cases h : eqB Val.zero w
            · rfl
            · rw [← eqB_iff.1 h] at h2; exact absurd rfl h2
          rw [if_pos h3, cmp_self_ok hv h1 hk h2 h3, hb, hz, Bool.false_or, Bool.false_or]
          have ih0 := inF_spec hv hk r (foldT o 0 1) (by rcases ho with rfl | rfl | rfl <;> decide)
          have ih1 := inF_spec hv hk r (foldT o 1 1) (by rcases ho with rfl | rfl | rfl <;> decide)
          cases he : eqB v w
          · rw [if_neg (by decide), Bool.false_or]
            refine ⟨ih0.1, fun hb' => ?_⟩
            rw [ih0.2 hb']
            generalize r.any (eqB v) = x
            generalize r.any (eqB Val.zero) = y
            rcases ho with rfl | rfl | rfl <;> revert x y <;> decide
          · rw [if_pos rfl, Bool.true_or]
            refine ⟨ih1.1, fun hb' => ?_⟩
            rw [ih1.2 hb']
            generalize r.any (eqB v) = x
            generalize r.any (eqB Val.zero) = y
            rcases ho with rfl | rfl | rfl <;> revert x y <;> decide
        · have hb : inBad v w = true := bad_yes (fun _ => ⟨fun h => h3 h.symm, h2⟩)
          rw [if_neg h3, hb]
          exact ⟨rfl, fun h => by rw [Bool.true_or] at h; cases h⟩
    · have hb : inBad v w = true := bad_yes (fun h => absurd h h1)
      rw [if_neg h1, hb]
      exact ⟨rfl, fun h => by rw [Bool.true_or] at h; cases h⟩
theorem inF_none {v : Val} (hv : v.ok = true) (hk : v.kind = 0) : ∀ (ws : List Val) (o : Int), o = 0 ∨ o = 2 → (inF v ws o).1 = true ∨ (inF v ws o).2 = if ws.length = 0 then o else 2
  | [], o, ho => by simp [inF]
  | w :: r, o, ho => by
    unfold inF
    by_cases h1 : w.ok = true
    · rw [if_pos h1, if_pos hk]
      have hc : cmpV 1 v w = 2 := by unfold cmpV; simp [hv, h1, hk]
      have hn : foldT o 2 1 = 2 := by rcases ho with rfl | rfl <;> decide
      rw [hc, hn]
      rcases inF_none hv hk r 2 (.inr rfl) with h | h
      · exact .inl h
      · refine .inr ?_
        rw [h]
        simp
    · rw [if_neg h1]
      exact .inl rfl
theorem inR_eq (v : Val) (ws : List Val) : inR v ws = inT v ws := by
  unfold inR inT
  by_cases hv : v.ok = true
  · rw [if_pos hv, if_pos hv]
    split
    · rfl
    · by_cases hk : v.kind = 0
      · rcases inF_none hv hk ws 0 (.inl rfl) with h | h
        · rw [if_pos h]
          split
          · rfl
          · split
            · rename_i h0
              have := List.eq_nil_of_length_eq_zero h0
              subst this
              simp [inF] at h
            · first | rfl | rw [if_pos hk]
        · rw [h]
          by_cases h0 : ws.length = 0
          · have := List.eq_nil_of_length_eq_zero h0
            subst this
            simp [inF]
          · rw [if_neg h0]
            split
            · split
              · rfl
              · first | rfl | rw [if_pos hk]
            · split
              · rfl
              · first | rfl | rw [if_pos hk]
      · obtain ⟨h1, h2⟩ := inF_spec hv hk ws 0 (.inl rfl)
        rw [h1]
        cases hb : ws.any (inBad v)
        · rw [h2 hb]
          by_cases h0 : ws.length = 0
          · have := List.eq_nil_of_length_eq_zero h0
            subst this
            rfl
          · rw [if_neg (by decide), if_neg (by decide), if_neg h0, if_neg hk]
            unfold resF
            rw [if_neg (by decide)]
            cases ws.any (eqB v) <;> cases ws.any (eqB Val.zero) <;> rfl
        · rfl
  · rw [if_neg hv, if_neg hv]
end Go.Proofs.Ytgepapgabnaonaa.PE
/- Rows whose value is known to be in a list, or out: the program's and the reference's. -/
set_option linter.unusedSimpArgs false
set_option linter.unusedVariables false
set_option maxHeartbeats 4000000
namespace Go.Proofs.Ytgepapgabnaonaa.PE
open Go.RowKit

def valAt (i : Int) (r : Row) : Val := r.vs.getD i.toNat Val.zero
def valsAt (j : Int) (rs : List Row) : List Val := rs.map (valAt j)
def HasCol (j : Int) (rs : List Row) : Prop := 0 ≤ j ∧ ∀ r ∈ rs, j < r.vs.length
theorem HasCol_at {j : Int} {rs : List Row} (h : HasCol j rs) {i : Nat} {x : Row} (hx : rs[i]? = some x) : x.vs[j.toNat]? = some (valAt j x) := by
  have h1 := h.1
  have h2 := h.2 x (List.mem_of_getElem? hx)
  exact at_getD _ (by omega)
theorem loop_column (d : Nat) (c : Bool) (rs : List Row) (j : Int) (hf : rs.length < 4294967296) (hj : HasCol j rs) (K : Nat) (hK : (rs).length ≤ K) (b0 : List Val) (hb0 : (fun i b => b.length = i) 0 b0) : LoopS (runD tab noExt d) (drawI (runD tab noExt d)) [1, 5, 8, 9, 10] [5] L103x0 ([.rows 0 3 [], .rows (b0).length 3 ((b0).map Val.cells)] : Heap).length K [(1, .int .i64 j), (5, .ref 1 (b0).length 0 (b0).length false), (8, .sl c 1 (rs.map Row.cells)), (9, .int .i64 rs.length), (10, .int .i64 (0 : Nat))] [.rows 0 3 [], .rows (b0).length 3 ((b0).map Val.cells)] = (some (.exit 0, [(5, .ref 1 (((rs).foldl (fun b x => b ++ [valAt j x]) b0)).length 0 (((rs).foldl (fun b x => b ++ [valAt j x]) b0)).length false)], [.rows 0 3 [], .rows (((rs).foldl (fun b x => b ++ [valAt j x]) b0)).length 3 ((((rs).foldl (fun b x => b ++ [valAt j x]) b0)).map Val.cells)]) : Out) ∧ (fun i b => b.length = i) (rs).length ((rs).foldl (fun b x => b ++ [valAt j x]) b0) := by
  have key := LoopS_foldI (run := (runD tab noExt d)) (draw := drawI (runD tab noExt d)) (live := [1, 5, 8, 9, 10]) (out := [5]) (c := L103x0) (n0 := ([.rows 0 3 [], .rows (b0).length 3 ((b0).map Val.cells)] : Heap).length) (rs) (fun b x => b ++ [valAt j x]) (fun i b => b.length = i) (fun (i : Nat) (b : List Val) => [(1, .int .i64 j), (5, .ref 1 (b).length 0 (b).length false), (8, .sl c 1 (rs.map Row.cells)), (9, .int .i64 rs.length), (10, .int .i64 (i : Nat))]) (fun (i : Nat) (b : List Val) => [.rows 0 3 [], .rows (b).length 3 ((b).map Val.cells)]) (fun b => (some (.exit 0, [(5, .ref 1 (b).length 0 (b).length false)], [.rows 0 3 [], .rows (b).length 3 ((b).map Val.cells)]) : Out)) (fun b K hb => ?_) (fun (i : Nat) (x : Row) b K hi hx hb => ?_) K hK b0 hb0
  · simp only [Int.natCast_zero] at key
    exact key
  · rw [LoopS_eq]
    simp -implicitDefEqProofs only [go_sem, Nat.reduceBEq, Nat.reduceAdd, Nat.reduceSub, Nat.reduceMul, Nat.reduceLeDiff, Nat.reduceEqDiff, Nat.reduceLT, Int.reduceNeg, Int.reduceAdd, Int.reduceSub, Int.reduceMul, Int.reduceLE, Int.reduceLT, Int.reduceEq, Int.reduceToNat, reduceCtorEq, evL103x0, B103x0, Int.lt_irrefl, Row.cells, Row.v, Val.cells]
  · have h1 := lt_small (Nat.le_of_eq hb) hi hf; have hj0 := hj.1; have hat := HasCol_at hj hx
    all_goals
      refine ⟨?_, ?_⟩
      · (simp; try omega)
      · rw [LoopS_eq]
        simp -implicitDefEqProofs (disch := first | omega | assumption) only [go_sem, Nat.reduceBEq, Nat.reduceAdd, Nat.reduceSub, Nat.reduceMul, Nat.reduceLeDiff, Nat.reduceEqDiff, Nat.reduceLT, Int.reduceNeg, Int.reduceAdd, Int.reduceSub, Int.reduceMul, Int.reduceLE, Int.reduceLT, Int.reduceEq, Int.reduceToNat, reduceCtorEq, evL103x0, B103x0, hi, hx, IntWalk.i64_in, List.map_append, List.foldl_cons, Row.cells, Row.v, Val.cells, hj0, hat, h1]
        
-- find103
theorem run_column (d : Nat) (c : Bool) (rs : List Row) (j : Int) (hf : rs.length < 4294967296) (hj : HasCol j rs) : retP (runD tab noExt (d + 1)) 103 [.sl c 1 (rs.map Row.cells), .int .i64 j] = some [.sl false 3 ((valsAt j rs).map Val.cells)] := by
  rw [retP, runD_eq find103 _ _ _ (by simp)]
  have hl := (loop_column d c rs j hf hj 1099511627775 (by omega) [] rfl).1
  simp only [foldl_snoc, List.nil_append, List.length_nil, List.map_nil, Int.natCast_zero, List.length_cons] at hl
  simp -implicitDefEqProofs (disch := omega) only [go_sem, Nat.reduceBEq, Nat.reduceAdd, Nat.reduceSub, Nat.reduceMul, Nat.reduceLeDiff, Nat.reduceEqDiff, Nat.reduceLT, Int.reduceNeg, Int.reduceAdd, Int.reduceSub, Int.reduceMul, Int.reduceLE, Int.reduceLT, Int.reduceEq, Int.reduceToNat, reduceCtorEq]
  simp -implicitDefEqProofs only [go_sem, Nat.reduceBEq, Nat.reduceAdd, Nat.reduceSub, Nat.reduceMul, Nat.reduceLeDiff, Nat.reduceEqDiff, Nat.reduceLT, Int.reduceNeg, Int.reduceAdd, Int.reduceSub, Int.reduceMul, Int.reduceLE, Int.reduceLT, Int.reduceEq, Int.reduceToNat, reduceCtorEq] at hl
  rw [hl]
  have e : List.take rs.length ((valsAt j rs).map Val.cells) = (valsAt j rs).map Val.cells := List.take_of_length_le (by simp [valsAt])
  have e' : rs.map (valAt j) = valsAt j rs := rfl
  simp -implicitDefEqProofs (disch := omega) only [go_sem, Nat.reduceBEq, Nat.reduceAdd, Nat.reduceSub, Nat.reduceMul, Nat.reduceLeDiff, Nat.reduceEqDiff, Nat.reduceLT, Int.reduceNeg, Int.reduceAdd, Int.reduceSub, Int.reduceMul, Int.reduceLE, Int.reduceLT, Int.reduceEq, Int.reduceToNat, reduceCtorEq, e', e]
theorem loop_values (d : Nat) (c : Bool) (rs : List Row) (j : Int) (hf : rs.length < 4294967296) (hj : HasCol j rs) (K : Nat) (hK : (rs).length ≤ K) (b0 : List Val) (hb0 : (fun i b => b.length = i) 0 b0) : LoopS (runD tab noExt d) (drawI (runD tab noExt d)) [0, 1, 5, 6] [5] L108x0 ([.rows 0 3 [], .rows (b0).length 3 ((b0).map Val.cells)] : Heap).length K [(0, .sl c 1 (rs.map Row.cells)), (1, .int .i64 j), (5, .ref 1 (b0).length 0 (b0).length false), (6, .int .i64 (0 : Nat))] [.rows 0 3 [], .rows (b0).length 3 ((b0).map Val.cells)] = (some (.exit 0, [(5, .ref 1 (((rs).foldl (fun b x => b ++ [valAt j x]) b0)).length 0 (((rs).foldl (fun b x => b ++ [valAt j x]) b0)).length false)], [.rows 0 3 [], .rows (((rs).foldl (fun b x => b ++ [valAt j x]) b0)).length 3 ((((rs).foldl (fun b x => b ++ [valAt j x]) b0)).map Val.cells)]) : Out) ∧ (fun i b => b.length = i) (rs).length ((rs).foldl (fun b x => b ++ [valAt j x]) b0) := by
  have key := LoopS_foldI (run := (runD tab noExt d)) (draw := drawI (runD tab noExt d)) (live := [0, 1, 5, 6]) (out := [5]) (c := L108x0) (n0 := ([.rows 0 3 [], .rows (b0).length 3 ((b0).map Val.cells)] : Heap).length) (rs) (fun b x => b ++ [valAt j x]) (fun i b => b.length = i) (fun (i : Nat) (b : List Val) => [(0, .sl c 1 (rs.map Row.cells)), (1, .int .i64 j), (5, .ref 1 (b).length 0 (b).length false), (6, .int .i64 (i : Nat))]) (fun (i : Nat) (b : List Val) => [.rows 0 3 [], .rows (b).length 3 ((b).map Val.cells)]) (fun b => (some (.exit 0, [(5, .ref 1 (b).length 0 (b).length false)], [.rows 0 3 [], .rows (b).length 3 ((b).map Val.cells)]) : Out)) (fun b K hb => ?_) (fun (i : Nat) (x : Row) b K hi hx hb => ?_) K hK b0 hb0
  · simp only [Int.natCast_zero] at key
    exact key
  · rw [LoopS_eq]
    simp -implicitDefEqProofs only [go_sem, Nat.reduceBEq, Nat.reduceAdd, Nat.reduceSub, Nat.reduceMul, Nat.reduceLeDiff, Nat.reduceEqDiff, Nat.reduceLT, Int.reduceNeg, Int.reduceAdd, Int.reduceSub, Int.reduceMul, Int.reduceLE, Int.reduceLT, Int.reduceEq, Int.reduceToNat, reduceCtorEq, evL108x0, B108x0, Int.lt_irrefl, Row.cells, Row.v, Val.cells]
  · have h1 := lt_small (Nat.le_of_eq hb) hi hf; have hj0 := hj.1; have hat := HasCol_at hj hx
    all_goals
      refine ⟨?_, ?_⟩
      · (simp; try omega)
      · rw [LoopS_eq]
        simp -implicitDefEqProofs (disch := first | omega | assumption) only [go_sem, Nat.reduceBEq, Nat.reduceAdd, Nat.reduceSub, Nat.reduceMul, Nat.reduceLeDiff, Nat.reduceEqDiff, Nat.reduceLT, Int.reduceNeg, Int.reduceAdd, Int.reduceSub, Int.reduceMul, Int.reduceLE, Int.reduceLT, Int.reduceEq, Int.reduceToNat, reduceCtorEq, evL108x0, B108x0, hi, hx, IntWalk.i64_in, List.map_append, List.foldl_cons, Row.cells, Row.v, Val.cells, hj0, hat, h1]
        
-- find108
theorem run_values (d : Nat) (c : Bool) (rs : List Row) (j : Int) (hf : rs.length < 4294967296) (hj : HasCol j rs) : retP (runD tab noExt (d + 1)) 108 [.sl c 1 (rs.map Row.cells), .int .i64 j] = some [.sl false 3 ((valsAt j rs).map Val.cells)] := by
  rw [retP, runD_eq find108 _ _ _ (by simp)]
  have hl := (loop_values d c rs j hf hj 1099511627775 (by omega) [] rfl).1
  simp only [foldl_snoc, List.nil_append, List.length_nil, List.map_nil, Int.natCast_zero, List.length_cons] at hl
  simp -implicitDefEqProofs (disch := omega) only [go_sem, Nat.reduceBEq, Nat.reduceAdd, Nat.reduceSub, Nat.reduceMul, Nat.reduceLeDiff, Nat.reduceEqDiff, Nat.reduceLT, Int.reduceNeg, Int.reduceAdd, Int.reduceSub, Int.reduceMul, Int.reduceLE, Int.reduceLT, Int.reduceEq, Int.reduceToNat, reduceCtorEq]
  simp -implicitDefEqProofs only [go_sem, Nat.reduceBEq, Nat.reduceAdd, Nat.reduceSub, Nat.reduceMul, Nat.reduceLeDiff, Nat.reduceEqDiff, Nat.reduceLT, Int.reduceNeg, Int.reduceAdd, Int.reduceSub, Int.reduceMul, Int.reduceLE, Int.reduceLT, Int.reduceEq, Int.reduceToNat, reduceCtorEq] at hl
  rw [hl]
  have e : List.take rs.length ((valsAt j rs).map Val.cells) = (valsAt j rs).map Val.cells := List.take_of_length_le (by simp [valsAt])
  have e' : rs.map (valAt j) = valsAt j rs := rfl
  simp -implicitDefEqProofs (disch := omega) only [go_sem, Nat.reduceBEq, Nat.reduceAdd, Nat.reduceSub, Nat.reduceMul, Nat.reduceLeDiff, Nat.reduceEqDiff, Nat.reduceLT, Int.reduceNeg, Int.reduceAdd, Int.reduceSub, Int.reduceMul, Int.reduceLE, Int.reduceLT, Int.reduceEq, Int.reduceToNat, reduceCtorEq, e', e]

/-- May two lists be joined by two columns? -/
def joinR (ca cb : List Col) (a b : List Row) (i j : Int) : Bool :=
  rowsOk ca a && (rowsOk cb b && (decide (0 ≤ i ∧ i ≤ (ca.length : Int) - 1) && (decide (0 ≤ j ∧ j ≤ (cb.length : Int) - 1) && (decide ((ca.getD i.toNat ⟨0, false⟩).kind = (cb.getD j.toNat ⟨0, false⟩).kind) && (decide ((ca.length : Int) + cb.length ≤ 4) && (decide ((a.length : Int) ≤ 30) && decide ((b.length : Int) ≤ 30)))))))
theorem rowsOk_cols {cs : List Col} {rs : List Row} (h : rowsOk cs rs = true) : colsOk cs = true := by
  simp only [rowsOk, Bool.and_eq_true] at h
  exact h.2
-- find105
theorem run_ready (d : Nat) (c1 c2 c3 c4 : Bool) (ca cb : List Col) (a b : List Row) (i j : Int) (h1 : ca.length < 4294967296) (h2 : cb.length < 4294967296) (h3 : a.length < 4294967296) (h4 : b.length < 4294967296) (sa : Short a) (sb : Short b) :
    retP (runD tab noExt (d + 6)) 105 [.sl c1 2 (ca.map Col.cells), .sl c2 2 (cb.map Col.cells), .sl c3 1 (a.map Row.cells), .sl c4 1 (b.map Row.cells), .int .i64 i, .int .i64 j] = some [.bool (joinR ca cb a b i j)] := by
  rw [retP, runD_eq find105 _ _ _ (by simp)]
  have ra := run_rowsOk d c1 c3 ca a (by omega) (by omega) sa
  have rb := run_rowsOk d c2 c4 cb b (by omega) (by omega) sb
  unfold joinR
  cases g1 : rowsOk ca a
  · simp -implicitDefEqProofs (disch := omega) only [go_sem, Nat.reduceBEq, Nat.reduceAdd, Nat.reduceSub, Nat.reduceMul, Nat.reduceLeDiff, Nat.reduceEqDiff, Nat.reduceLT, Int.reduceNeg, Int.reduceAdd, Int.reduceSub, Int.reduceMul, Int.reduceLE, Int.reduceLT, Int.reduceEq, Int.reduceToNat, reduceCtorEq, evC_draw, evD105x0, E105x0, ra, g1]
  · cases g2 : rowsOk cb b
    · simp -implicitDefEqProofs (disch := omega) only [go_sem, Nat.reduceBEq, Nat.reduceAdd, Nat.reduceSub, Nat.reduceMul, Nat.reduceLeDiff, Nat.reduceEqDiff, Nat.reduceLT, Int.reduceNeg, Int.reduceAdd, Int.reduceSub, Int.reduceMul, Int.reduceLE, Int.reduceLT, Int.reduceEq, Int.reduceToNat, reduceCtorEq, evC_draw, evD105x0, E105x0, ra, rb, g1, g2]
    · by_cases g3 : 0 ≤ i ∧ i ≤ (ca.length : Int) - 1
      · have g30 := g3.1
        by_cases g4 : 0 ≤ j ∧ j ≤ (cb.length : Int) - 1
        · have g40 := g4.1
          have hi := at_getD (⟨0, false⟩ : Col) (show i.toNat < ca.length by omega)
          have hj := at_getD (⟨0, false⟩ : Col) (show j.toNat < cb.length by omega)
          generalize ca.getD i.toNat ⟨0, false⟩ = x at hi ⊢
          generalize cb.getD j.toNat ⟨0, false⟩ = y at hj ⊢
          by_cases g5 : x.kind = y.kind
          · by_cases g6 : (ca.length : Int) + cb.length ≤ 4
            · by_cases g7 : (a.length : Int) ≤ 30
              · simp -implicitDefEqProofs (disch := omega) only [go_sem, Nat.reduceBEq, Nat.reduceAdd, Nat.reduceSub, Nat.reduceMul, Nat.reduceLeDiff, Nat.reduceEqDiff, Nat.reduceLT, Int.reduceNeg, Int.reduceAdd, Int.reduceSub, Int.reduceMul, Int.reduceLE, Int.reduceLT, Int.reduceEq, Int.reduceToNat, reduceCtorEq, evC_draw, evD105x0, E105x0, ra, rb, run_l1In, IntWalk.i64_in, g1, g2, g3, g4, g30, g40, hi, hj, Col.cells, g5, g6, g7]
              · simp -implicitDefEqProofs (disch := omega) only [go_sem, Nat.reduceBEq, Nat.reduceAdd, Nat.reduceSub, Nat.reduceMul, Nat.reduceLeDiff, Nat.reduceEqDiff, Nat.reduceLT, Int.reduceNeg, Int.reduceAdd, Int.reduceSub, Int.reduceMul, Int.reduceLE, Int.reduceLT, Int.reduceEq, Int.reduceToNat, reduceCtorEq, evC_draw, evD105x0, E105x0, ra, rb, run_l1In, IntWalk.i64_in, g1, g2, g3, g4, g30, g40, hi, hj, Col.cells, g5, g6, g7]
            · simp -implicitDefEqProofs (disch := omega) only [go_sem, Nat.reduceBEq, Nat.reduceAdd, Nat.reduceSub, Nat.reduceMul, Nat.reduceLeDiff, Nat.reduceEqDiff, Nat.reduceLT, Int.reduceNeg, Int.reduceAdd, Int.reduceSub, Int.reduceMul, Int.reduceLE, Int.reduceLT, Int.reduceEq, Int.reduceToNat, reduceCtorEq, evC_draw, evD105x0, E105x0, ra, rb, run_l1In, IntWalk.i64_in, g1, g2, g3, g4, g30, g40, hi, hj, Col.cells, g5, g6]
          · simp -implicitDefEqProofs (disch := omega) only [go_sem, Nat.reduceBEq, Nat.reduceAdd, Nat.reduceSub, Nat.reduceMul, Nat.reduceLeDiff, Nat.reduceEqDiff, Nat.reduceLT, Int.reduceNeg, Int.reduceAdd, Int.reduceSub, Int.reduceMul, Int.reduceLE, Int.reduceLT, Int.reduceEq, Int.reduceToNat, reduceCtorEq, evC_draw, evD105x0, E105x0, ra, rb, run_l1In, IntWalk.i64_in, g1, g2, g3, g4, g30, g40, hi, hj, Col.cells, g5]
        · simp -implicitDefEqProofs (disch := omega) only [go_sem, Nat.reduceBEq, Nat.reduceAdd, Nat.reduceSub, Nat.reduceMul, Nat.reduceLeDiff, Nat.reduceEqDiff, Nat.reduceLT, Int.reduceNeg, Int.reduceAdd, Int.reduceSub, Int.reduceMul, Int.reduceLE, Int.reduceLT, Int.reduceEq, Int.reduceToNat, reduceCtorEq, evC_draw, evD105x0, E105x0, ra, rb, run_l1In, IntWalk.i64_in, g1, g2, g3, g4]
      · simp -implicitDefEqProofs (disch := omega) only [go_sem, Nat.reduceBEq, Nat.reduceAdd, Nat.reduceSub, Nat.reduceMul, Nat.reduceLeDiff, Nat.reduceEqDiff, Nat.reduceLT, Int.reduceNeg, Int.reduceAdd, Int.reduceSub, Int.reduceMul, Int.reduceLE, Int.reduceLT, Int.reduceEq, Int.reduceToNat, reduceCtorEq, evC_draw, evD105x0, E105x0, ra, rb, run_l1In, IntWalk.i64_in, g1, g2, g3]
-- find144
theorem run_sides (d : Nat) (c1 c2 c3 c4 : Bool) (ca cb : List Col) (a b : List Row) (h1 : ca.length < 4294967296) (h2 : cb.length < 4294967296) (h3 : a.length < 4294967296) (h4 : b.length < 4294967296) (sa : Short a) (sb : Short b) :
    retP (runD tab noExt (d + 13)) 144 [.sl c1 2 (ca.map Col.cells), .sl c2 2 (cb.map Col.cells), .sl c3 1 (a.map Row.cells), .sl c4 1 (b.map Row.cells)] = some [.bool (rowsOk ca a && (rowsOk cb b && (decide ((ca.length : Int) + cb.length ≤ 4) && (decide ((a.length : Int) ≤ 30) && decide ((b.length : Int) ≤ 30)))))] := by
  rw [retP, runD_eq find144 _ _ _ (by simp)]
  have ra := run_rowsOkI d c1 c3 ca a (by omega) (by omega) sa
  have rb := run_rowsOkI d c2 c4 cb b (by omega) (by omega) sb
  have ka := run_colsOkI (d + 7) c1 ca (by omega)
  have kb := run_colsOkI (d + 7) c2 cb (by omega)
  cases k1 : colsOk ca
  · have g1 : rowsOk ca a = false := by
      cases h : rowsOk ca a
      · rfl
      · rw [rowsOk_cols h] at k1; cases k1
    rw [g1]
    simp -implicitDefEqProofs (disch := omega) only [go_sem, Nat.reduceBEq, Nat.reduceAdd, Nat.reduceSub, Nat.reduceMul, Nat.reduceLeDiff, Nat.reduceEqDiff, Nat.reduceLT, Int.reduceNeg, Int.reduceAdd, Int.reduceSub, Int.reduceMul, Int.reduceLE, Int.reduceLT, Int.reduceEq, Int.reduceToNat, reduceCtorEq, ka, k1]
  · cases k2 : colsOk cb
    · have g2 : rowsOk cb b = false := by
        cases h : rowsOk cb b
        · rfl
        · rw [rowsOk_cols h] at k2; cases k2
      rw [g2]
      simp -implicitDefEqProofs (disch := omega) only [go_sem, Nat.reduceBEq, Nat.reduceAdd, Nat.reduceSub, Nat.reduceMul, Nat.reduceLeDiff, Nat.reduceEqDiff, Nat.reduceLT, Int.reduceNeg, Int.reduceAdd, Int.reduceSub, Int.reduceMul, Int.reduceLE, Int.reduceLT, Int.reduceEq, Int.reduceToNat, reduceCtorEq, ka, kb, k1, k2]
    · by_cases g6 : (ca.length : Int) + cb.length ≤ 4
      · by_cases g7 : (a.length : Int) ≤ 30
        · by_cases g8 : (b.length : Int) ≤ 30
          · cases g1 : rowsOk ca a
            · simp -implicitDefEqProofs (disch := omega) only [go_sem, Nat.reduceBEq, Nat.reduceAdd, Nat.reduceSub, Nat.reduceMul, Nat.reduceLeDiff, Nat.reduceEqDiff, Nat.reduceLT, Int.reduceNeg, Int.reduceAdd, Int.reduceSub, Int.reduceMul, Int.reduceLE, Int.reduceLT, Int.reduceEq, Int.reduceToNat, reduceCtorEq, ka, kb, k1, k2, ra, rb, g1, g6, g7, g8, IntWalk.i64_in]
            · simp -implicitDefEqProofs (disch := omega) only [go_sem, Nat.reduceBEq, Nat.reduceAdd, Nat.reduceSub, Nat.reduceMul, Nat.reduceLeDiff, Nat.reduceEqDiff, Nat.reduceLT, Int.reduceNeg, Int.reduceAdd, Int.reduceSub, Int.reduceMul, Int.reduceLE, Int.reduceLT, Int.reduceEq, Int.reduceToNat, reduceCtorEq, ka, kb, k1, k2, ra, rb, g1, g6, g7, g8, IntWalk.i64_in]
          · simp -implicitDefEqProofs (disch := omega) only [go_sem, Nat.reduceBEq, Nat.reduceAdd, Nat.reduceSub, Nat.reduceMul, Nat.reduceLeDiff, Nat.reduceEqDiff, Nat.reduceLT, Int.reduceNeg, Int.reduceAdd, Int.reduceSub, Int.reduceMul, Int.reduceLE, Int.reduceLT, Int.reduceEq, Int.reduceToNat, reduceCtorEq, ka, kb, k1, k2, ra, rb, g6, g7, g8, IntWalk.i64_in]
        · simp -implicitDefEqProofs (disch := omega) only [go_sem, Nat.reduceBEq, Nat.reduceAdd, Nat.reduceSub, Nat.reduceMul, Nat.reduceLeDiff, Nat.reduceEqDiff, Nat.reduceLT, Int.reduceNeg, Int.reduceAdd, Int.reduceSub, Int.reduceMul, Int.reduceLE, Int.reduceLT, Int.reduceEq, Int.reduceToNat, reduceCtorEq, ka, kb, k1, k2, ra, rb, g6, g7, IntWalk.i64_in]
      · simp -implicitDefEqProofs (disch := omega) only [go_sem, Nat.reduceBEq, Nat.reduceAdd, Nat.reduceSub, Nat.reduceMul, Nat.reduceLeDiff, Nat.reduceEqDiff, Nat.reduceLT, Int.reduceNeg, Int.reduceAdd, Int.reduceSub, Int.reduceMul, Int.reduceLE, Int.reduceLT, Int.reduceEq, Int.reduceToNat, reduceCtorEq, ka, kb, k1, k2, ra, rb, g6, IntWalk.i64_in]
-- find99
theorem run_joinOk (d : Nat) (c1 c2 c3 c4 : Bool) (ca cb : List Col) (a b : List Row) (i j : Int) (h1 : ca.length < 4294967296) (h2 : cb.length < 4294967296) (h3 : a.length < 4294967296) (h4 : b.length < 4294967296) (sa : Short a) (sb : Short b) :
    retP (runD tab noExt (d + 14)) 99 [.sl c1 2 (ca.map Col.cells), .sl c2 2 (cb.map Col.cells), .sl c3 1 (a.map Row.cells), .sl c4 1 (b.map Row.cells), .int .i64 i, .int .i64 j] = some [.bool (joinR ca cb a b i j)] := by
  rw [retP, runD_eq find99 _ _ _ (by simp)]
  have rs := run_sides d c1 c2 c3 c4 ca cb a b h1 h2 h3 h4 sa sb
  have e : joinR ca cb a b i j = ((rowsOk ca a && (rowsOk cb b && (decide ((ca.length : Int) + cb.length ≤ 4) && (decide ((a.length : Int) ≤ 30) && decide ((b.length : Int) ≤ 30))))) && (decide (0 ≤ i ∧ i ≤ (ca.length : Int) - 1) && (decide (0 ≤ j ∧ j ≤ (cb.length : Int) - 1) && decide ((ca.getD i.toNat ⟨0, false⟩).kind = (cb.getD j.toNat ⟨0, false⟩).kind)))) := by
    unfold joinR
    generalize rowsOk ca a = x1
    generalize rowsOk cb b = x2
    generalize decide (0 ≤ i ∧ i ≤ (ca.length : Int) - 1) = x3
    generalize decide (0 ≤ j ∧ j ≤ (cb.length : Int) - 1) = x4
    generalize decide ((ca.getD i.toNat ⟨0, false⟩).kind = (cb.getD j.toNat ⟨0, false⟩).kind) = x5
    generalize decide ((ca.length : Int) + cb.length ≤ 4) = x6
    generalize decide ((a.length : Int) ≤ 30) = x7
    generalize decide ((b.length : Int) ≤ 30) = x8
    revert x1 x2 x3 x4 x5 x6 x7 x8
    decide
  rw [e]
  generalize (rowsOk ca a && (rowsOk cb b && (decide ((ca.length : Int) + cb.length ≤ 4) && (decide ((a.length : Int) ≤ 30) && decide ((b.length : Int) ≤ 30))))) = S at rs ⊢
  cases S
  · simp -implicitDefEqProofs (disch := omega) only [go_sem, Nat.reduceBEq, Nat.reduceAdd, Nat.reduceSub, Nat.reduceMul, Nat.reduceLeDiff, Nat.reduceEqDiff, Nat.reduceLT, Int.reduceNeg, Int.reduceAdd, Int.reduceSub, Int.reduceMul, Int.reduceLE, Int.reduceLT, Int.reduceEq, Int.reduceToNat, reduceCtorEq, evC_draw, evD99x0, E99x0, rs]
  · by_cases g3 : 0 ≤ i ∧ i ≤ (ca.length : Int) - 1
    · have g30 := g3.1
      by_cases g4 : 0 ≤ j ∧ j ≤ (cb.length : Int) - 1
      · have g40 := g4.1
        have hi := at_getD (⟨0, false⟩ : Col) (show i.toNat < ca.length by omega)
        have hj := at_getD (⟨0, false⟩ : Col) (show j.toNat < cb.length by omega)
        generalize ca.getD i.toNat ⟨0, false⟩ = x at hi ⊢
        generalize cb.getD j.toNat ⟨0, false⟩ = y at hj ⊢
        simp -implicitDefEqProofs (disch := omega) only [go_sem, Nat.reduceBEq, Nat.reduceAdd, Nat.reduceSub, Nat.reduceMul, Nat.reduceLeDiff, Nat.reduceEqDiff, Nat.reduceLT, Int.reduceNeg, Int.reduceAdd, Int.reduceSub, Int.reduceMul, Int.reduceLE, Int.reduceLT, Int.reduceEq, Int.reduceToNat, reduceCtorEq, evC_draw, evD99x0, E99x0, rs, run_between, IntWalk.i64_in, g3, g4, g30, g40, hi, hj, Col.cells]
      · simp -implicitDefEqProofs (disch := omega) only [go_sem, Nat.reduceBEq, Nat.reduceAdd, Nat.reduceSub, Nat.reduceMul, Nat.reduceLeDiff, Nat.reduceEqDiff, Nat.reduceLT, Int.reduceNeg, Int.reduceAdd, Int.reduceSub, Int.reduceMul, Int.reduceLE, Int.reduceLT, Int.reduceEq, Int.reduceToNat, reduceCtorEq, evC_draw, evD99x0, E99x0, rs, run_between, IntWalk.i64_in, g3, g4]
    · simp -implicitDefEqProofs (disch := omega) only [go_sem, Nat.reduceBEq, Nat.reduceAdd, Nat.reduceSub, Nat.reduceMul, Nat.reduceLeDiff, Nat.reduceEqDiff, Nat.reduceLT, Int.reduceNeg, Int.reduceAdd, Int.reduceSub, Int.reduceMul, Int.reduceLE, Int.reduceLT, Int.reduceEq, Int.reduceToNat, reduceCtorEq, evC_draw, evD99x0, E99x0, rs, run_between, IntWalk.i64_in, g3]
end Go.Proofs.Ytgepapgabnaonaa.PE
/- Rows whose value is in a list, or out of it. -/
set_option linter.unusedSimpArgs false
set_option linter.unusedVariables false
set_option maxHeartbeats 4000000
namespace Go.Proofs.Ytgepapgabnaonaa.PE
open Go.RowKit

def keep1 (P : Row → Bool) (b : List Row) (x : Row) : List Row := if P x then b ++ [x] else b
theorem keep_filter (P : Row → Bool) : ∀ (l : List Row) (b : List Row), l.foldl (keep1 P) b = b ++ l.filter P
  | [], b => by simp
  | x :: r, b => by
    rw [List.foldl_cons, keep_filter P r]
    unfold keep1
    cases h : P x <;> simp [h]
theorem keep1_len {P : Row → Bool} {b : List Row} {x : Row} {i : Nat} (h : b.length ≤ i) : (keep1 P b x).length ≤ i + 1 := by
  unfold keep1
  split
  · simp; omega
  · omega
theorem le_small {n m : Nat} {i : Nat} (h1 : n ≤ i) (h2 : (i : Int) < m) (h3 : m < 4294967296) : n + 1 < 4294967296 := by omega
def ctx (cb : Bool) (bs : List Row) (i j : Int) : Heap := [.box [.sl cb 1 (bs.map Row.cells)], .box [.int .i64 i], .box [.int .i64 j]]
theorem loop_kept (d : Nat) (c cb : Bool) (g : Nat) (rs bs : List Row) (u v : Int) (P : Row → Bool) (hf : rs.length < 4294967296) (hg : ∀ x ∈ rs, ∀ (st : Nat) (l : List (List V)), callS (runD tab noExt d) [.box [.sl cb 1 (bs.map Row.cells)], .box [.int .i64 u], .box [.int .i64 v], .rows st 1 l] g [Row.v x, .ptr 1 0 0 0, .ptr 0 0 0 0, .ptr 2 0 0 0] false = some (.bool (P x), [.box [.sl cb 1 (bs.map Row.cells)], .box [.int .i64 u], .box [.int .i64 v], .rows st 1 l])) (K : Nat) (hK : (rs).length ≤ K) (b0 : List Row) (hb0 : (fun i b => b.length ≤ i) 0 b0) : LoopS (runD tab noExt d) (drawI (runD tab noExt d)) [1, 5, 8, 9, 10] [5] L100x0 ([.box [.sl cb 1 (bs.map Row.cells)], .box [.int .i64 u], .box [.int .i64 v], .rows (b0).length 1 ((b0).map Row.cells)] : Heap).length K [(1, .clo g [.ptr 1 0 0 0, .ptr 0 0 0 0, .ptr 2 0 0 0]), (5, .ref 3 (b0).length 0 (b0).length false), (8, .sl c 1 (rs.map Row.cells)), (9, .int .i64 rs.length), (10, .int .i64 (0 : Nat))] [.box [.sl cb 1 (bs.map Row.cells)], .box [.int .i64 u], .box [.int .i64 v], .rows (b0).length 1 ((b0).map Row.cells)] = (some (.exit 0, [(5, .ref 3 (((rs).foldl (keep1 P) b0)).length 0 (((rs).foldl (keep1 P) b0)).length false)], [.box [.sl cb 1 (bs.map Row.cells)], .box [.int .i64 u], .box [.int .i64 v], .rows (((rs).foldl (keep1 P) b0)).length 1 ((((rs).foldl (keep1 P) b0)).map Row.cells)]) : Out) ∧ (fun i b => b.length ≤ i) (rs).length ((rs).foldl (keep1 P) b0) := by
  have key := LoopS_foldI (run := (runD tab noExt d)) (draw := drawI (runD tab noExt d)) (live := [1, 5, 8, 9, 10]) (out := [5]) (c := L100x0) (n0 := ([.box [.sl cb 1 (bs.map Row.cells)], .box [.int .i64 u], .box [.int .i64 v], .rows (b0).length 1 ((b0).map Row.cells)] : Heap).length) (rs) (keep1 P) (fun i b => b.length ≤ i) (fun (i : Nat) (b : List Row) => [(1, .clo g [.ptr 1 0 0 0, .ptr 0 0 0 0, .ptr 2 0 0 0]), (5, .ref 3 (b).length 0 (b).length false), (8, .sl c 1 (rs.map Row.cells)), (9, .int .i64 rs.length), (10, .int .i64 (i : Nat))]) (fun (i : Nat) (b : List Row) => [.box [.sl cb 1 (bs.map Row.cells)], .box [.int .i64 u], .box [.int .i64 v], .rows (b).length 1 ((b).map Row.cells)]) (fun b => (some (.exit 0, [(5, .ref 3 (b).length 0 (b).length false)], [.box [.sl cb 1 (bs.map Row.cells)], .box [.int .i64 u], .box [.int .i64 v], .rows (b).length 1 ((b).map Row.cells)]) : Out)) (fun b K hb => ?_) (fun (i : Nat) (x : Row) b K hi hx hb => ?_) K hK b0 hb0
  · simp only [Int.natCast_zero] at key
    exact key
  · rw [LoopS_eq]
    simp -implicitDefEqProofs only [go_sem, Nat.reduceBEq, Nat.reduceAdd, Nat.reduceSub, Nat.reduceMul, Nat.reduceLeDiff, Nat.reduceEqDiff, Nat.reduceLT, Int.reduceNeg, Int.reduceAdd, Int.reduceSub, Int.reduceMul, Int.reduceLE, Int.reduceLT, Int.reduceEq, Int.reduceToNat, reduceCtorEq, evL100x0, B100x0, Int.lt_irrefl, Row.cells, Row.v]
  · have h1 := le_small hb hi hf; have hgx := hg x (List.mem_of_getElem? hx); cases hP : P x <;> simp only [hP, Row.v] at hgx
    all_goals
      refine ⟨?_, ?_⟩
      · exact keep1_len hb
      · rw [LoopS_eq]
        simp -implicitDefEqProofs (disch := first | omega | assumption) only [go_sem, Nat.reduceBEq, Nat.reduceAdd, Nat.reduceSub, Nat.reduceMul, Nat.reduceLeDiff, Nat.reduceEqDiff, Nat.reduceLT, Int.reduceNeg, Int.reduceAdd, Int.reduceSub, Int.reduceMul, Int.reduceLE, Int.reduceLT, Int.reduceEq, Int.reduceToNat, reduceCtorEq, evL100x0, B100x0, hi, hx, IntWalk.i64_in, List.map_append, List.foldl_cons, Row.cells, Row.v, h1]
        (simp -implicitDefEqProofs (disch := first | omega | assumption) only [go_sem, Nat.reduceBEq, Nat.reduceAdd, Nat.reduceSub, Nat.reduceMul, Nat.reduceLeDiff, Nat.reduceEqDiff, Nat.reduceLT, Int.reduceNeg, Int.reduceAdd, Int.reduceSub, Int.reduceMul, Int.reduceLE, Int.reduceLT, Int.reduceEq, Int.reduceToNat, reduceCtorEq, hgx, keep1, hP, h1, IntWalk.i64_in, Row.cells, Row.v, List.map_append, if_true, if_false, Bool.false_eq_true])
def inP (bs : List Row) (i j t : Int) (x : Row) : Bool := decide (inT (valAt i x) (valsAt j bs) = t)
-- find101
theorem clo_notIn (d : Nat) (cb : Bool) (bs : List Row) (i j : Int) (x : Row) (st : Nat) (l : List (List V)) (hb : bs.length < 4294967296) (hj : HasCol j bs) (hi0 : 0 ≤ i) (hi : i < x.vs.length) :
    callS (runD tab noExt (d + 8)) [.box [.sl cb 1 (bs.map Row.cells)], .box [.int .i64 i], .box [.int .i64 j], .rows st 1 l] 101 [Row.v x, .ptr 1 0 0 0, .ptr 0 0 0 0, .ptr 2 0 0 0] false =
      some (.bool (inP bs i j 0 x), [.box [.sl cb 1 (bs.map Row.cells)], .box [.int .i64 i], .box [.int .i64 j], .rows st 1 l]) := by
  rw [callS_eq, runD_eq find101 _ _ _ (by simp)]
  have hat : x.vs[i.toNat]? = some (valAt i x) := at_getD _ (by omega)
  have hlen : (valsAt j bs).length < 1099511627776 := by simp [valsAt]; omega
  have hc := run_column (d + 6) cb bs j hb hj
  have hin := run_inT d false (valAt i x).kind (valAt i x).n (valAt i x).s (valsAt j bs) hlen
  simp -implicitDefEqProofs (disch := omega) only [go_sem, Nat.reduceBEq, Nat.reduceAdd, Nat.reduceSub, Nat.reduceMul, Nat.reduceLeDiff, Nat.reduceEqDiff, Nat.reduceLT, Int.reduceNeg, Int.reduceAdd, Int.reduceSub, Int.reduceMul, Int.reduceLE, Int.reduceLT, Int.reduceEq, Int.reduceToNat, reduceCtorEq, evC_draw, evD101x0, E101x0, Row.v, hat, hi0, Val.cells, hc, hin, Val.eta]
  rfl
-- find112
theorem clo_inRows (d : Nat) (cb : Bool) (bs : List Row) (i j : Int) (x : Row) (st : Nat) (l : List (List V)) (hb : bs.length < 4294967296) (hj : HasCol j bs) (hi0 : 0 ≤ i) (hi : i < x.vs.length) :
    callS (runD tab noExt (d + 8)) [.box [.sl cb 1 (bs.map Row.cells)], .box [.int .i64 i], .box [.int .i64 j], .rows st 1 l] 112 [Row.v x, .ptr 1 0 0 0, .ptr 0 0 0 0, .ptr 2 0 0 0] false =
      some (.bool (inP bs i j 1 x), [.box [.sl cb 1 (bs.map Row.cells)], .box [.int .i64 i], .box [.int .i64 j], .rows st 1 l]) := by
  rw [callS_eq, runD_eq find112 _ _ _ (by simp)]
  have hat : x.vs[i.toNat]? = some (valAt i x) := at_getD _ (by omega)
  have hlen : (valsAt j bs).length < 1099511627776 := by simp [valsAt]; omega
  have hc := run_column (d + 6) cb bs j hb hj
  have hin := run_inT d false (valAt i x).kind (valAt i x).n (valAt i x).s (valsAt j bs) hlen
  simp -implicitDefEqProofs (disch := omega) only [go_sem, Nat.reduceBEq, Nat.reduceAdd, Nat.reduceSub, Nat.reduceMul, Nat.reduceLeDiff, Nat.reduceEqDiff, Nat.reduceLT, Int.reduceNeg, Int.reduceAdd, Int.reduceSub, Int.reduceMul, Int.reduceLE, Int.reduceLT, Int.reduceEq, Int.reduceToNat, reduceCtorEq, evC_draw, evD112x0, E112x0, Row.v, hat, hi0, Val.cells, hc, hin, Val.eta]
  rfl
end Go.Proofs.Ytgepapgabnaonaa.PE
/- Rows whose value is in a list, or out of it: both, and how many rows are a row. -/
set_option linter.unusedSimpArgs false
set_option linter.unusedVariables false
set_option maxHeartbeats 4000000
namespace Go.Proofs.Ytgepapgabnaonaa.PE
open Go.RowKit

theorem hasCol_of {cs : List Col} {rs : List Row} {j : Int} (h : rowsOk cs rs = true) (h0 : 0 ≤ j) (h1 : j < cs.length) : HasCol j rs := by
  refine ⟨h0, fun r hr => ?_⟩
  simp only [rowsOk, rowsFit, Bool.and_eq_true, List.all_eq_true] at h
  have := h.1 r hr
  simp only [fitsRow, Bool.and_eq_true, decide_eq_true_eq] at this
  have := this.1.2
  omega
theorem joinR_of {ca cb : List Col} {a b : List Row} {i j : Int} (h : joinR ca cb a b i j = true) : rowsOk ca a = true ∧ rowsOk cb b = true ∧ (0 ≤ i ∧ i < ca.length) ∧ (0 ≤ j ∧ j < cb.length) ∧ (ca.getD i.toNat ⟨0, false⟩).kind = (cb.getD j.toNat ⟨0, false⟩).kind := by
  unfold joinR at h
  simp only [Bool.and_eq_true, decide_eq_true_eq] at h
  obtain ⟨h1, h2, h3, h4, h5, _⟩ := h
  exact ⟨h1, h2, by omega, by omega, h5⟩
def notRows (ca cb : List Col) (a b : List Row) (i j t : Int) : List Row := if joinR ca cb a b i j then a.filter (inP b i j t) else []
theorem filter_fine {P : Row → Bool} {a : List Row} (h : Fine a) : Fine (a.filter P) := ⟨Nat.lt_of_le_of_lt (List.length_filter_le _ _) h.1, fun r hr => h.2 r (List.mem_filter.1 hr).1⟩
/-! ### the reference's -/
-- find109
theorem run_l3Own (d : Nat) (c : Bool) (l : List (List V)) (hl : l.length < 4294967296) : retP (runD tab noExt (d + 1)) 109 [.sl c 3 l] = some [.sl false 3 l] := by
  rw [retP, runD_eq find109 _ _ _ (by simp)]
  have hl' : 0 + l.length < 4294967296 := by omega
  simp -implicitDefEqProofs (disch := omega) only [go_sem, Nat.reduceBEq, Nat.reduceAdd, Nat.reduceSub, Nat.reduceMul, Nat.reduceLeDiff, Nat.reduceEqDiff, Nat.reduceLT, Int.reduceNeg, Int.reduceAdd, Int.reduceSub, Int.reduceMul, Int.reduceLE, Int.reduceLT, Int.reduceEq, Int.reduceToNat, reduceCtorEq, List.take_length, hl, hl']

def keepO (P : Row → Bool) (b : List Row) (x : Row) : List Row := if P x then b ++ [Row.own false x] else b
theorem keepO_filter (P : Row → Bool) : ∀ (l : List Row) (b : List Row), l.foldl (keepO P) b = b ++ own false (l.filter P)
  | [], b => by simp [own]
  | x :: r, b => by
    rw [List.foldl_cons, keepO_filter P r]
    unfold keepO
    cases h : P x <;> simp [h, own]
theorem keepO_len {P : Row → Bool} {b : List Row} {x : Row} {i : Nat} (h : b.length ≤ i) : (keepO P b x).length ≤ i + 1 := by
  unfold keepO
  split
  · simp; omega
  · omega
theorem notT_yes (t : Int) : (notT t = 1) = (t = 0) := by
  unfold notT
  by_cases h0 : t = 0
  · simp [h0]
  · by_cases h1 : t = 1
    · simp [h1]
    · by_cases h2 : t = 2
      · simp [h2]
      · simp [h0, h1, h2]
theorem vals_short {j : Int} {rs : List Row} (h : Short rs) (hj : HasCol j rs) : ∀ w ∈ valsAt j rs, w.s.size < 1099511627776 := by
  intro w hw
  obtain ⟨r, hr, rfl⟩ := List.mem_map.1 hw
  obtain ⟨k, hk⟩ := List.getElem?_of_mem hr
  exact (h r hr).2 _ (List.mem_of_getElem? (HasCol_at hj hk))
theorem loop_notInR (d : Nat) (c1 c2 c3 c4 : Bool) (ca cb : List Col) (a bb : List Row) (i0 j : Int) (h1 : ca.length < 4294967296) (h2 : cb.length < 4294967296) (fa : Fine a) (fb : Fine bb) (sa : Short a) (sb : Short bb) (g : joinR ca cb a bb i0 j = true) (K : Nat) (hK : (a).length ≤ K) (b0 : List Row) (hb0 : (fun i b => b.length ≤ i) 0 b0) : LoopS (runD tab noExt (d + 7)) (drawI (runD tab noExt (d + 7))) [0, 1, 2, 3, 4, 5, 13, 14] [13] L50x0 ([.rows 0 1 [], .rows (b0).length 1 ((b0).map Row.cells)] : Heap).length K [(0, .sl c1 2 (ca.map Col.cells)), (1, .sl c2 2 (cb.map Col.cells)), (2, .sl c3 1 (a.map Row.cells)), (3, .sl c4 1 (bb.map Row.cells)), (4, .int .i64 i0), (5, .int .i64 j), (13, .ref 1 (b0).length 0 (b0).length false), (14, .int .i64 (0 : Nat))] [.rows 0 1 [], .rows (b0).length 1 ((b0).map Row.cells)] = (some (.exit 0, [(13, .ref 1 (((a).foldl (keepO (inP bb i0 j 0)) b0)).length 0 (((a).foldl (keepO (inP bb i0 j 0)) b0)).length false)], [.rows 0 1 [], .rows (((a).foldl (keepO (inP bb i0 j 0)) b0)).length 1 ((((a).foldl (keepO (inP bb i0 j 0)) b0)).map Row.cells)]) : Out) ∧ (fun i b => b.length ≤ i) (a).length ((a).foldl (keepO (inP bb i0 j 0)) b0) := by
  have key := LoopS_foldI (run := (runD tab noExt (d + 7))) (draw := drawI (runD tab noExt (d + 7))) (live := [0, 1, 2, 3, 4, 5, 13, 14]) (out := [13]) (c := L50x0) (n0 := ([.rows 0 1 [], .rows (b0).length 1 ((b0).map Row.cells)] : Heap).length) (a) (keepO (inP bb i0 j 0)) (fun i b => b.length ≤ i) (fun (i : Nat) (b : List Row) => [(0, .sl c1 2 (ca.map Col.cells)), (1, .sl c2 2 (cb.map Col.cells)), (2, .sl c3 1 (a.map Row.cells)), (3, .sl c4 1 (bb.map Row.cells)), (4, .int .i64 i0), (5, .int .i64 j), (13, .ref 1 (b).length 0 (b).length false), (14, .int .i64 (i : Nat))]) (fun (i : Nat) (b : List Row) => [.rows 0 1 [], .rows (b).length 1 ((b).map Row.cells)]) (fun b => (some (.exit 0, [(13, .ref 1 (b).length 0 (b).length false)], [.rows 0 1 [], .rows (b).length 1 ((b).map Row.cells)]) : Out)) (fun b K hb => ?_) (fun (i : Nat) (x : Row) b K hi hx hb => ?_) K hK b0 hb0
  · simp only [Int.natCast_zero] at key
    exact key
  · rw [LoopS_eq]
    simp -implicitDefEqProofs only [go_sem, Nat.reduceBEq, Nat.reduceAdd, Nat.reduceSub, Nat.reduceMul, Nat.reduceLeDiff, Nat.reduceEqDiff, Nat.reduceLT, Int.reduceNeg, Int.reduceAdd, Int.reduceSub, Int.reduceMul, Int.reduceLE, Int.reduceLT, Int.reduceEq, Int.reduceToNat, reduceCtorEq, evL50x0, B50x0, Int.lt_irrefl]
  · have hfa := fa.1; have hsm := le_small hb hi fa.1; have hready := run_ready (d + 1) c1 c2 c3 c4 ca cb a bb i0 j h1 h2 fa.1 fb.1 sa sb; obtain ⟨ra, rb, hi0, hj0, _⟩ := joinR_of g; have hca := hasCol_of ra hi0.1 hi0.2; have hcb := hasCol_of rb hj0.1 hj0.2; have hat := HasCol_at hca hx; have hi00 := hi0.1; have hvals := run_values (d + 6) c4 bb j fb.1 hcb; have hxv := (sa x (List.mem_of_getElem? hx)).2 _ (List.mem_of_getElem? hat); have hin := run_inR (d + 1) false (valAt i0 x).kind (valAt i0 x).n (valAt i0 x).s (valsAt j bb) (by have := fb.1; simp [valsAt]; omega) hxv (vals_short sb hcb); have hno := run_NotOfR (d + 4) (inR (valAt i0 x) (valsAt j bb)); have hown := run_l3Own (d + 6) x.clip (x.vs.map Val.cells) (by have := Fine_at fa hx; simpa using this); have hd : decide (notT (inR (valAt i0 x) (valsAt j bb)) = 1) = inP bb i0 j 0 x := (by unfold inP; rw [inR_eq]; simp only [notT_yes]); cases hP : inP bb i0 j 0 x <;> rw [hP] at hd
    all_goals
      refine ⟨?_, ?_⟩
      · exact keepO_len hb
      · rw [LoopS_eq]
        simp -implicitDefEqProofs (disch := first | omega | assumption) only [go_sem, Nat.reduceBEq, Nat.reduceAdd, Nat.reduceSub, Nat.reduceMul, Nat.reduceLeDiff, Nat.reduceEqDiff, Nat.reduceLT, Int.reduceNeg, Int.reduceAdd, Int.reduceSub, Int.reduceMul, Int.reduceLE, Int.reduceLT, Int.reduceEq, Int.reduceToNat, reduceCtorEq, evL50x0, B50x0, hi, hx, IntWalk.i64_in, List.map_append, List.foldl_cons, hready, g, Row.cells, Row.v, hat, hi00, hvals, hin, Val.cells, Val.eta, hno, evC_draw, evD50x0, E50x0]
        (simp -implicitDefEqProofs (disch := first | omega | assumption) only [go_sem, Nat.reduceBEq, Nat.reduceAdd, Nat.reduceSub, Nat.reduceMul, Nat.reduceLeDiff, Nat.reduceEqDiff, Nat.reduceLT, Int.reduceNeg, Int.reduceAdd, Int.reduceSub, Int.reduceMul, Int.reduceLE, Int.reduceLT, Int.reduceEq, Int.reduceToNat, reduceCtorEq, hx, hd, keepO, hP, hown, hsm, IntWalk.i64_in, Row.own, Row.cells, Row.v, List.map_append, if_true, if_false, Bool.false_eq_true])
theorem loop_inRowsR (d : Nat) (c1 c2 c3 c4 : Bool) (ca cb : List Col) (a bb : List Row) (i0 j : Int) (h1 : ca.length < 4294967296) (h2 : cb.length < 4294967296) (fa : Fine a) (fb : Fine bb) (sa : Short a) (sb : Short bb) (g : joinR ca cb a bb i0 j = true) (K : Nat) (hK : (a).length ≤ K) (b0 : List Row) (hb0 : (fun i b => b.length ≤ i) 0 b0) : LoopS (runD tab noExt (d + 7)) (drawI (runD tab noExt (d + 7))) [0, 1, 2, 3, 4, 5, 13, 14] [13] L55x0 ([.rows 0 1 [], .rows (b0).length 1 ((b0).map Row.cells)] : Heap).length K [(0, .sl c1 2 (ca.map Col.cells)), (1, .sl c2 2 (cb.map Col.cells)), (2, .sl c3 1 (a.map Row.cells)), (3, .sl c4 1 (bb.map Row.cells)), (4, .int .i64 i0), (5, .int .i64 j), (13, .ref 1 (b0).length 0 (b0).length false), (14, .int .i64 (0 : Nat))] [.rows 0 1 [], .rows (b0).length 1 ((b0).map Row.cells)] = (some (.exit 0, [(13, .ref 1 (((a).foldl (keepO (inP bb i0 j 1)) b0)).length 0 (((a).foldl (keepO (inP bb i0 j 1)) b0)).length false)], [.rows 0 1 [], .rows (((a).foldl (keepO (inP bb i0 j 1)) b0)).length 1 ((((a).foldl (keepO (inP bb i0 j 1)) b0)).map Row.cells)]) : Out) ∧ (fun i b => b.length ≤ i) (a).length ((a).foldl (keepO (inP bb i0 j 1)) b0) := by
  have key := LoopS_foldI (run := (runD tab noExt (d + 7))) (draw := drawI (runD tab noExt (d + 7))) (live := [0, 1, 2, 3, 4, 5, 13, 14]) (out := [13]) (c := L55x0) (n0 := ([.rows 0 1 [], .rows (b0).length 1 ((b0).map Row.cells)] : Heap).length) (a) (keepO (inP bb i0 j 1)) (fun i b => b.length ≤ i) (fun (i : Nat) (b : List Row) => [(0, .sl c1 2 (ca.map Col.cells)), (1, .sl c2 2 (cb.map Col.cells)), (2, .sl c3 1 (a.map Row.cells)), (3, .sl c4 1 (bb.map Row.cells)), (4, .int .i64 i0), (5, .int .i64 j), (13, .ref 1 (b).length 0 (b).length false), (14, .int .i64 (i : Nat))]) (fun (i : Nat) (b : List Row) => [.rows 0 1 [], .rows (b).length 1 ((b).map Row.cells)]) (fun b => (some (.exit 0, [(13, .ref 1 (b).length 0 (b).length false)], [.rows 0 1 [], .rows (b).length 1 ((b).map Row.cells)]) : Out)) (fun b K hb => ?_) (fun (i : Nat) (x : Row) b K hi hx hb => ?_) K hK b0 hb0
  · simp only [Int.natCast_zero] at key
    exact key
  · rw [LoopS_eq]
    simp -implicitDefEqProofs only [go_sem, Nat.reduceBEq, Nat.reduceAdd, Nat.reduceSub, Nat.reduceMul, Nat.reduceLeDiff, Nat.reduceEqDiff, Nat.reduceLT, Int.reduceNeg, Int.reduceAdd, Int.reduceSub, Int.reduceMul, Int.reduceLE, Int.reduceLT, Int.reduceEq, Int.reduceToNat, reduceCtorEq, evL55x0, B55x0, Int.lt_irrefl]
  · have hfa := fa.1; have hsm := le_small hb hi fa.1; have hready := run_ready (d + 1) c1 c2 c3 c4 ca cb a bb i0 j h1 h2 fa.1 fb.1 sa sb; obtain ⟨ra, rb, hi0, hj0, _⟩ := joinR_of g; have hca := hasCol_of ra hi0.1 hi0.2; have hcb := hasCol_of rb hj0.1 hj0.2; have hat := HasCol_at hca hx; have hi00 := hi0.1; have hvals := run_values (d + 6) c4 bb j fb.1 hcb; have hxv := (sa x (List.mem_of_getElem? hx)).2 _ (List.mem_of_getElem? hat); have hin := run_inR (d + 1) false (valAt i0 x).kind (valAt i0 x).n (valAt i0 x).s (valsAt j bb) (by have := fb.1; simp [valsAt]; omega) hxv (vals_short sb hcb); have hown := run_l3Own (d + 6) x.clip (x.vs.map Val.cells) (by have := Fine_at fa hx; simpa using this); have hd : decide (inR (valAt i0 x) (valsAt j bb) = 1) = inP bb i0 j 1 x := (by unfold inP; rw [inR_eq]); cases hP : inP bb i0 j 1 x <;> rw [hP] at hd
    all_goals
      refine ⟨?_, ?_⟩
      · exact keepO_len hb
      · rw [LoopS_eq]
        simp -implicitDefEqProofs (disch := first | omega | assumption) only [go_sem, Nat.reduceBEq, Nat.reduceAdd, Nat.reduceSub, Nat.reduceMul, Nat.reduceLeDiff, Nat.reduceEqDiff, Nat.reduceLT, Int.reduceNeg, Int.reduceAdd, Int.reduceSub, Int.reduceMul, Int.reduceLE, Int.reduceLT, Int.reduceEq, Int.reduceToNat, reduceCtorEq, evL55x0, B55x0, hi, hx, IntWalk.i64_in, List.map_append, List.foldl_cons, hready, g, Row.cells, Row.v, hat, hi00, hvals, hin, Val.cells, Val.eta, evC_draw, evD55x0, E55x0]
        (simp -implicitDefEqProofs (disch := first | omega | assumption) only [go_sem, Nat.reduceBEq, Nat.reduceAdd, Nat.reduceSub, Nat.reduceMul, Nat.reduceLeDiff, Nat.reduceEqDiff, Nat.reduceLT, Int.reduceNeg, Int.reduceAdd, Int.reduceSub, Int.reduceMul, Int.reduceLE, Int.reduceLT, Int.reduceEq, Int.reduceToNat, reduceCtorEq, hx, hd, keepO, hP, hown, hsm, IntWalk.i64_in, Row.own, Row.cells, Row.v, List.map_append, if_true, if_false, Bool.false_eq_true])
-- find50
theorem run_notInR (d : Nat) (c1 c2 c3 c4 : Bool) (ca cb : List Col) (a b : List Row) (i j : Int) (h1 : ca.length < 4294967296) (h2 : cb.length < 4294967296) (fa : Fine a) (fb : Fine b) (sa : Short a) (sb : Short b) :
    retP (runD tab noExt (d + 8)) 50 [.sl c1 2 (ca.map Col.cells), .sl c2 2 (cb.map Col.cells), .sl c3 1 (a.map Row.cells), .sl c4 1 (b.map Row.cells), .int .i64 i, .int .i64 j] = some [.sl false 1 ((own false (notRows ca cb a b i j 0)).map Row.cells)] := by
  rw [retP, runD_eq find50 _ _ _ (by simp)]
  have hready := run_ready (d + 1) c1 c2 c3 c4 ca cb a b i j h1 h2 fa.1 fb.1 sa sb
  unfold notRows
  cases g : joinR ca cb a b i j
  · simp -implicitDefEqProofs (disch := omega) only [go_sem, Nat.reduceBEq, Nat.reduceAdd, Nat.reduceSub, Nat.reduceMul, Nat.reduceLeDiff, Nat.reduceEqDiff, Nat.reduceLT, Int.reduceNeg, Int.reduceAdd, Int.reduceSub, Int.reduceMul, Int.reduceLE, Int.reduceLT, Int.reduceEq, Int.reduceToNat, reduceCtorEq]
    rw [LoopS_eq]
    by_cases h0 : (0 : Int) < a.length
    · simp -implicitDefEqProofs (disch := omega) only [go_sem, Nat.reduceBEq, Nat.reduceAdd, Nat.reduceSub, Nat.reduceMul, Nat.reduceLeDiff, Nat.reduceEqDiff, Nat.reduceLT, Int.reduceNeg, Int.reduceAdd, Int.reduceSub, Int.reduceMul, Int.reduceLE, Int.reduceLT, Int.reduceEq, Int.reduceToNat, reduceCtorEq, evL50x0, B50x0, hready, g, h0]
      try rfl
    · simp -implicitDefEqProofs (disch := omega) only [go_sem, Nat.reduceBEq, Nat.reduceAdd, Nat.reduceSub, Nat.reduceMul, Nat.reduceLeDiff, Nat.reduceEqDiff, Nat.reduceLT, Int.reduceNeg, Int.reduceAdd, Int.reduceSub, Int.reduceMul, Int.reduceLE, Int.reduceLT, Int.reduceEq, Int.reduceToNat, reduceCtorEq, evL50x0, B50x0, hready, g, h0]
      try rfl
  · have hl := (loop_notInR d c1 c2 c3 c4 ca cb a b i j h1 h2 fa fb sa sb g 1099511627775 (by have := fa.1; omega) [] (Nat.le_refl _)).1
    simp only [keepO_filter, List.nil_append, List.length_nil, List.map_nil, Int.natCast_zero, List.length_cons] at hl
    have e : List.take (own false (a.filter (inP b i j 0))).length ((own false (a.filter (inP b i j 0))).map Row.cells) = (own false (a.filter (inP b i j 0))).map Row.cells := List.take_of_length_le (by simp)
    simp -implicitDefEqProofs (disch := omega) only [go_sem, Nat.reduceBEq, Nat.reduceAdd, Nat.reduceSub, Nat.reduceMul, Nat.reduceLeDiff, Nat.reduceEqDiff, Nat.reduceLT, Int.reduceNeg, Int.reduceAdd, Int.reduceSub, Int.reduceMul, Int.reduceLE, Int.reduceLT, Int.reduceEq, Int.reduceToNat, reduceCtorEq]
    simp -implicitDefEqProofs only [go_sem, Nat.reduceBEq, Nat.reduceAdd, Nat.reduceSub, Nat.reduceMul, Nat.reduceLeDiff, Nat.reduceEqDiff, Nat.reduceLT, Int.reduceNeg, Int.reduceAdd, Int.reduceSub, Int.reduceMul, Int.reduceLE, Int.reduceLT, Int.reduceEq, Int.reduceToNat, reduceCtorEq] at hl
    rw [hl]
    simp -implicitDefEqProofs (disch := omega) only [go_sem, Nat.reduceBEq, Nat.reduceAdd, Nat.reduceSub, Nat.reduceMul, Nat.reduceLeDiff, Nat.reduceEqDiff, Nat.reduceLT, Int.reduceNeg, Int.reduceAdd, Int.reduceSub, Int.reduceMul, Int.reduceLE, Int.reduceLT, Int.reduceEq, Int.reduceToNat, reduceCtorEq, e]
    try rfl
-- find55
theorem run_inRowsR (d : Nat) (c1 c2 c3 c4 : Bool) (ca cb : List Col) (a b : List Row) (i j : Int) (h1 : ca.length < 4294967296) (h2 : cb.length < 4294967296) (fa : Fine a) (fb : Fine b) (sa : Short a) (sb : Short b) :
    retP (runD tab noExt (d + 8)) 55 [.sl c1 2 (ca.map Col.cells), .sl c2 2 (cb.map Col.cells), .sl c3 1 (a.map Row.cells), .sl c4 1 (b.map Row.cells), .int .i64 i, .int .i64 j] = some [.sl false 1 ((own false (notRows ca cb a b i j 1)).map Row.cells)] := by
  rw [retP, runD_eq find55 _ _ _ (by simp)]
  have hready := run_ready (d + 1) c1 c2 c3 c4 ca cb a b i j h1 h2 fa.1 fb.1 sa sb
  unfold notRows
  cases g : joinR ca cb a b i j
  · simp -implicitDefEqProofs (disch := omega) only [go_sem, Nat.reduceBEq, Nat.reduceAdd, Nat.reduceSub, Nat.reduceMul, Nat.reduceLeDiff, Nat.reduceEqDiff, Nat.reduceLT, Int.reduceNeg, Int.reduceAdd, Int.reduceSub, Int.reduceMul, Int.reduceLE, Int.reduceLT, Int.reduceEq, Int.reduceToNat, reduceCtorEq]
    rw [LoopS_eq]
    by_cases h0 : (0 : Int) < a.length
    · simp -implicitDefEqProofs (disch := omega) only [go_sem, Nat.reduceBEq, Nat.reduceAdd, Nat.reduceSub, Nat.reduceMul, Nat.reduceLeDiff, Nat.reduceEqDiff, Nat.reduceLT, Int.reduceNeg, Int.reduceAdd, Int.reduceSub, Int.reduceMul, Int.reduceLE, Int.reduceLT, Int.reduceEq, Int.reduceToNat, reduceCtorEq, evL55x0, B55x0, hready, g, h0]
      try rfl
    · simp -implicitDefEqProofs (disch := omega) only [go_sem, Nat.reduceBEq, Nat.reduceAdd, Nat.reduceSub, Nat.reduceMul, Nat.reduceLeDiff, Nat.reduceEqDiff, Nat.reduceLT, Int.reduceNeg, Int.reduceAdd, Int.reduceSub, Int.reduceMul, Int.reduceLE, Int.reduceLT, Int.reduceEq, Int.reduceToNat, reduceCtorEq, evL55x0, B55x0, hready, g, h0]
      try rfl
  · have hl := (loop_inRowsR d c1 c2 c3 c4 ca cb a b i j h1 h2 fa fb sa sb g 1099511627775 (by have := fa.1; omega) [] (Nat.le_refl _)).1
    simp only [keepO_filter, List.nil_append, List.length_nil, List.map_nil, Int.natCast_zero, List.length_cons] at hl
    have e : List.take (own false (a.filter (inP b i j 1))).length ((own false (a.filter (inP b i j 1))).map Row.cells) = (own false (a.filter (inP b i j 1))).map Row.cells := List.take_of_length_le (by simp)
    simp -implicitDefEqProofs (disch := omega) only [go_sem, Nat.reduceBEq, Nat.reduceAdd, Nat.reduceSub, Nat.reduceMul, Nat.reduceLeDiff, Nat.reduceEqDiff, Nat.reduceLT, Int.reduceNeg, Int.reduceAdd, Int.reduceSub, Int.reduceMul, Int.reduceLE, Int.reduceLT, Int.reduceEq, Int.reduceToNat, reduceCtorEq]
    simp -implicitDefEqProofs only [go_sem, Nat.reduceBEq, Nat.reduceAdd, Nat.reduceSub, Nat.reduceMul, Nat.reduceLeDiff, Nat.reduceEqDiff, Nat.reduceLT, Int.reduceNeg, Int.reduceAdd, Int.reduceSub, Int.reduceMul, Int.reduceLE, Int.reduceLT, Int.reduceEq, Int.reduceToNat, reduceCtorEq] at hl
    rw [hl]
    simp -implicitDefEqProofs (disch := omega) only [go_sem, Nat.reduceBEq, Nat.reduceAdd, Nat.reduceSub, Nat.reduceMul, Nat.reduceLeDiff, Nat.reduceEqDiff, Nat.reduceLT, Int.reduceNeg, Int.reduceAdd, Int.reduceSub, Int.reduceMul, Int.reduceLE, Int.reduceLT, Int.reduceEq, Int.reduceToNat, reduceCtorEq, e]
    try rfl
end Go.Proofs.Ytgepapgabnaonaa.PE
/- Trees of memory of one's own: what lies in them, that they stay ays they are, how they are told ays values, how a call hands them over. -/
set_option linter.unusedVariables false
set_option linter.unusedSimpArgs false
namespace Go.Proofs.Ytgepapgabnaonaa.PE
open Go.RowKit

/-- The kind of a cell. -/
inductive Fd where
  | int (k : IntKind)
  | bool
  | str
  | sub (fs : List Fd)
/-- What lies in a cell. -/
inductive U where
  | int (n : Int)
  | bool (b : Bool)
  | str (s : ByteArray)
  | sub (xs : List (List U))
def Fd.deep : Fd → Bool
  | .sub _ => true
  | _ => false
def blkOf (fs : List Fd) (st : Nat) (cont : List (List V)) : Blk := if fs.any Fd.deep then .nest st fs.length cont else .rows st fs.length cont

def Zip3 {α β : Type} (R : α → β → List Nat → Prop) : List α → List β → List Nat → Prop
  | [], [], ids => ids = []
  | a :: ays, b :: bs, ids => ∃ i j, ids = i ++ j ∧ R a b i ∧ Zip3 R ays bs j
  | _, _, _ => False
def Zip2 {α β : Type} (R : α → β → Prop) : List α → List β → Prop
  | [], [] => True
  | a :: ays, b :: bs => R a b ∧ Zip2 R ays bs
  | _, _ => False

mutual
/-- A cell whose memory is one's own: the blocks that it lies in. -/
def OwnF (h : Heap) : Fd → V → U → List Nat → Prop
  | .int k, v, u, ids => ∃ n, v = .int k n ∧ u = .int n ∧ ids = []
  | .bool, v, u, ids => ∃ b, v = .bool b ∧ u = .bool b ∧ ids = []
  | .str, v, u, ids => ∃ s, v = .str s ∧ u = .str s ∧ ids = []
  | .sub fs, v, u, ids => ∃ xs, u = .sub xs ∧ ((∃ c, v = .sl c fs.length [] ∧ xs = [] ∧ ids = []) ∨
      ∃ id st clip cont r, v = .ref id st 0 cont.length clip ∧ h[id]? = some (blkOf fs st cont) ∧ ids = id :: r ∧ Zip3 (OwnR h fs) cont xs r)
def OwnR (h : Heap) : List Fd → List V → List U → List Nat → Prop
  | [], c, x, ids => c = [] ∧ x = [] ∧ ids = []
  | f :: fs, c, x, ids => ∃ v c' u x' i j, c = v :: c' ∧ x = u :: x' ∧ ids = i ++ j ∧ OwnF h f v u i ∧ OwnR h fs c' x' j
end
mutual
/-- A cell of a value. -/
def PurF : Fd → V → U → Prop
  | .int k, v, u => ∃ n, v = .int k n ∧ u = .int n
  | .bool, v, u => ∃ b, v = .bool b ∧ u = .bool b
  | .str, v, u => ∃ s, v = .str s ∧ u = .str s
  | .sub fs, v, u => ∃ c cont xs, v = .sl c fs.length cont ∧ u = .sub xs ∧ Zip2 (PurR fs) cont xs
def PurR : List Fd → List V → List U → Prop
  | [], c, x => c = [] ∧ x = []
  | f :: fs, c, x => ∃ v c' u x', c = v :: c' ∧ x = u :: x' ∧ PurF f v u ∧ PurR fs c' x'
end

theorem Zip3_len {α β : Type} {R : α → β → List Nat → Prop} : ∀ {ays : List α} {bs : List β} {ids : List Nat}, Zip3 R ays bs ids → ays.length = bs.length
  | [], [], _, _ => rfl
  | a :: ays, b :: bs, ids, ⟨i, j, _, _, h⟩ => by simp [Zip3_len h]
  | [], _ :: _, _, h => h.elim
  | _ :: _, [], _, h => h.elim
theorem Zip2_len {α β : Type} {R : α → β → Prop} : ∀ {ays : List α} {bs : List β}, Zip2 R ays bs → ays.length = bs.length
  | [], [], _ => rfl
  | a :: ays, b :: bs, ⟨_, h⟩ => by simp [Zip2_len h]
  | [], _ :: _, h => h.elim
  | _ :: _, [], h => h.elim
theorem Zip2_at {α β : Type} {R : α → β → Prop} : ∀ {ays : List α} {bs : List β}, Zip2 R ays bs → ∀ {i : Nat} {a : α}, ays[i]? = some a → ∃ b, bs[i]? = some b ∧ R a b
  | a :: ays, b :: bs, ⟨h1, h2⟩, 0, x, hx => by simp at hx; subst hx; exact ⟨b, rfl, h1⟩
  | a :: ays, b :: bs, ⟨h1, h2⟩, i + 1, x, hx => by simp at hx; simpa using Zip2_at h2 hx
  | [], [], _, i, x, hx => by simp at hx
  | [], _ :: _, h, _, _, _ => h.elim
  | _ :: _, [], h, _, _, _ => h.elim
theorem Zip2_mono {α β : Type} {R S : α → β → Prop} (f : ∀ a b, R a b → S a b) : ∀ {ays : List α} {bs : List β}, Zip2 R ays bs → Zip2 S ays bs
  | [], [], _ => trivial
  | a :: ays, b :: bs, ⟨h1, h2⟩ => ⟨f a b h1, Zip2_mono f h2⟩
  | [], _ :: _, h => h.elim
  | _ :: _, [], h => h.elim
theorem Zip3_mono {α β : Type} {R S : α → β → List Nat → Prop} {P : Nat → Prop} (f : ∀ a b i, R a b i → (∀ id ∈ i, P id) → S a b i) : ∀ {ays : List α} {bs : List β} {ids : List Nat}, Zip3 R ays bs ids → (∀ id ∈ ids, P id) → Zip3 S ays bs ids
  | [], [], _, h, _ => h
  | a :: ays, b :: bs, _, ⟨i, j, e, h1, h2⟩, hp => ⟨i, j, e, f a b i h1 (fun id hid => hp id (e ▸ List.mem_append_left _ hid)), Zip3_mono f h2 (fun id hid => hp id (e ▸ List.mem_append_right _ hid))⟩
  | [], _ :: _, _, h, _ => h.elim
  | _ :: _, [], _, h, _ => h.elim
theorem Zip3_map {α β : Type} {R S : α → β → List Nat → Prop} {g : α → α} {m : Nat → Nat} (f : ∀ a b i, R a b i → S (g a) b (i.map m)) : ∀ {ays : List α} {bs : List β} {ids : List Nat}, Zip3 R ays bs ids → Zip3 S (ays.map g) bs (ids.map m)
  | [], [], _, h => by cases h; rfl
  | a :: ays, b :: bs, _, ⟨i, j, e, h1, h2⟩ => ⟨i.map m, j.map m, by rw [e, List.map_append], f a b i h1, Zip3_map f h2⟩
  | [], _ :: _, _, h => h.elim
  | _ :: _, [], _, h => h.elim
theorem Zip3_app {α β : Type} {R : α → β → List Nat → Prop} : ∀ {ays : List α} {bs : List β} {ids : List Nat} {a2 : List α} {b2 : List β} {i2 : List Nat}, Zip3 R ays bs ids → Zip3 R a2 b2 i2 → Zip3 R (ays ++ a2) (bs ++ b2) (ids ++ i2)
  | [], [], _, _, _, _, h, h2 => by cases h; exact h2
  | a :: ays, b :: bs, _, _, _, _, ⟨i, j, e, h1, h3⟩, h2 => ⟨i, j ++ _, by rw [e, List.append_assoc], h1, Zip3_app h3 h2⟩
  | [], _ :: _, _, _, _, _, h, _ => h.elim
  | _ :: _, [], _, _, _, _, h, _ => h.elim
theorem Zip3_one {α β : Type} {R : α → β → List Nat → Prop} {a : α} {b : β} {i : List Nat} (h : R a b i) : Zip3 R [a] [b] i := ⟨i, [], by simp, h, rfl⟩

/-! ### they stay where the blocks stay -/
mutual
theorem OwnF_frame {h h' : Heap} : ∀ (f : Fd) {v : V} {u : U} {ids : List Nat}, OwnF h f v u ids → (∀ id ∈ ids, h'[id]? = h[id]?) → OwnF h' f v u ids
  | .int k, _, _, _, ho, _ => by simpa only [OwnF] using ho
  | .bool, _, _, _, ho, _ => by simpa only [OwnF] using ho
  | .str, _, _, _, ho, _ => by simpa only [OwnF] using ho
  | .sub fs, v, u, ids, ho, hk => by
    simp only [OwnF] at ho ⊢
    obtain ⟨xs, e, ho | ⟨id, st, clip, cont, r, e1, e2, e3, ho⟩⟩ := ho
    · exact ⟨xs, e, .inl ho⟩
    · subst e3
      exact ⟨xs, e, .inr ⟨id, st, clip, cont, r, e1, (hk id List.mem_cons_self).trans e2, rfl, Zip3_mono (fun c x i hr hp => OwnR_frame fs hr hp) ho (fun i hi => hk i (List.mem_cons_of_mem _ hi))⟩⟩
theorem OwnR_frame {h h' : Heap} : ∀ (fs : List Fd) {c : List V} {x : List U} {ids : List Nat}, OwnR h fs c x ids → (∀ id ∈ ids, h'[id]? = h[id]?) → OwnR h' fs c x ids
  | [], _, _, _, ho, _ => by simpa only [OwnR] using ho
  | f :: fs, c, x, ids, ho, hk => by
    simp only [OwnR] at ho ⊢
    obtain ⟨v, c', u, x', i, j, e1, e2, e3, h1, h2⟩ := ho
    subst e3
    exact ⟨v, c', u, x', i, j, e1, e2, rfl, OwnF_frame f h1 (fun id hid => hk id (List.mem_append_left _ hid)), OwnR_frame fs h2 (fun id hid => hk id (List.mem_append_right _ hid))⟩
end
theorem Zip3_all {α β : Type} {R : α → β → List Nat → Prop} {P : Nat → Prop} (f : ∀ a b i, R a b i → ∀ id ∈ i, P id) : ∀ {ays : List α} {bs : List β} {ids : List Nat}, Zip3 R ays bs ids → ∀ id ∈ ids, P id
  | [], [], _, h => by cases h; intro _ hm; cases hm
  | a :: ays, b :: bs, _, ⟨i, j, e, h1, h2⟩ => by
    subst e
    intro id hm
    rcases List.mem_append.1 hm with hm | hm
    · exact f a b i h1 id hm
    · exact Zip3_all f h2 id hm
  | [], _ :: _, _, h => h.elim
  | _ :: _, [], _, h => h.elim
mutual
theorem OwnF_lt {h : Heap} : ∀ (f : Fd) {v : V} {u : U} {ids : List Nat}, OwnF h f v u ids → ∀ id ∈ ids, id < h.length
  | .int k, _, _, _, ho => by simp only [OwnF] at ho; obtain ⟨_, _, _, rfl⟩ := ho; intro _ hm; cases hm
  | .bool, _, _, _, ho => by simp only [OwnF] at ho; obtain ⟨_, _, _, rfl⟩ := ho; intro _ hm; cases hm
  | .str, _, _, _, ho => by simp only [OwnF] at ho; obtain ⟨_, _, _, rfl⟩ := ho; intro _ hm; cases hm
  | .sub fs, v, u, ids, ho => by
    simp only [OwnF] at ho
    obtain ⟨xs, e, ⟨_, _, _, rfl⟩ | ⟨id, st, clip, cont, r, e1, e2, rfl, ho⟩⟩ := ho
    · intro _ hm; cases hm
    · intro i hm
      rcases List.mem_cons.1 hm with rfl | hm
      · exact (List.getElem?_eq_some_iff.1 e2).1
      · exact Zip3_all (fun c x i hr => OwnR_lt fs hr) ho i hm
theorem OwnR_lt {h : Heap} : ∀ (fs : List Fd) {c : List V} {x : List U} {ids : List Nat}, OwnR h fs c x ids → ∀ id ∈ ids, id < h.length
  | [], _, _, _, ho => by simp only [OwnR] at ho; obtain ⟨_, _, rfl⟩ := ho; intro _ hm; cases hm
  | f :: fs, c, x, ids, ho => by
    simp only [OwnR] at ho
    obtain ⟨v, c', u, x', i, j, e1, e2, rfl, h1, h2⟩ := ho
    intro id hm
    rcases List.mem_append.1 hm with hm | hm
    · exact OwnF_lt f h1 id hm
    · exact OwnR_lt fs h2 id hm
end

/-! ### told ays values -/
def dep : Fd → Nat
  | .sub fs => depR fs + 1
  | _ => 0
where depR : List Fd → Nat
  | [] => 0
  | f :: fs => max (dep f) (depR fs)
theorem mapO_zip {α β γ' : Type} {R : α → β → List Nat → Prop} {S : γ' → β → Prop} {f : α → Option γ'} (hf : ∀ a b i, R a b i → ∃ c, f a = some c ∧ S c b) : ∀ {ays : List α} {bs : List β} {ids : List Nat}, Zip3 R ays bs ids → ∃ cs, mapO f ays = some cs ∧ Zip2 S cs bs
  | [], [], _, _ => ⟨[], rfl, trivial⟩
  | a :: ays, b :: bs, _, ⟨i, j, _, h1, h2⟩ => by
    obtain ⟨c, e1, s1⟩ := hf a b i h1
    obtain ⟨cs, e2, s2⟩ := mapO_zip hf h2
    exact ⟨c :: cs, by simp only [mapO, e1, e2], s1, s2⟩
  | [], _ :: _, _, h => h.elim
  | _ :: _, [], _, h => h.elim
theorem Zip3_to2 {α β : Type} {R : α → β → List Nat → Prop} {S : α → β → Prop} (f : ∀ a b i, R a b i → S a b) : ∀ {ays : List α} {bs : List β} {ids : List Nat}, Zip3 R ays bs ids → Zip2 S ays bs
  | [], [], _, _ => trivial
  | a :: ays, b :: bs, _, ⟨i, j, _, h1, h2⟩ => ⟨f a b i h1, Zip3_to2 f h2⟩
  | [], _ :: _, _, h => h.elim
  | _ :: _, [], _, h => h.elim
/-- Rows whose cells are no slices lie ays they are told. -/
theorem OwnR_flat {h : Heap} : ∀ (fs : List Fd) {c : List V} {x : List U} {ids : List Nat}, fs.any Fd.deep = false → OwnR h fs c x ids → PurR fs c x
  | [], _, _, _, _, ho => by simp only [OwnR] at ho; simp only [PurR]; exact ⟨ho.1, ho.2.1⟩
  | f :: fs, c, x, ids, hd, ho => by
    simp only [OwnR] at ho
    simp only [PurR]
    simp only [List.any_cons, Bool.or_eq_false_iff] at hd
    obtain ⟨v, c', u, x', i, j, e1, e2, e3, h1, h2⟩ := ho
    refine ⟨v, c', u, x', e1, e2, ?_, OwnR_flat fs hd.2 h2⟩
    cases f with
    | int k => simp only [OwnF] at h1; simp only [PurF]; obtain ⟨n, a, b, _⟩ := h1; exact ⟨n, a, b⟩
    | bool => simp only [OwnF] at h1; simp only [PurF]; obtain ⟨n, a, b, _⟩ := h1; exact ⟨n, a, b⟩
    | str => simp only [OwnF] at h1; simp only [PurF]; obtain ⟨n, a, b, _⟩ := h1; exact ⟨n, a, b⟩
    | sub gs => simp [Fd.deep] at hd
mutual
theorem OwnF_pure {h : Heap} : ∀ (f : Fd) (d : Nat) {v : V} {u : U} {ids : List Nat}, dep f ≤ d → OwnF h f v u ids → ∃ p, pureD h d v = some p ∧ PurF f p u
  | .int k, d, _, _, _, _, ho => by
    simp only [OwnF] at ho
    obtain ⟨n, rfl, rfl, _⟩ := ho
    exact ⟨.int k n, by cases d <;> rfl, by simp only [PurF]; exact ⟨n, rfl, rfl⟩⟩
  | .bool, d, _, _, _, _, ho => by
    simp only [OwnF] at ho
    obtain ⟨n, rfl, rfl, _⟩ := ho
    exact ⟨.bool n, by cases d <;> rfl, by simp only [PurF]; exact ⟨n, rfl, rfl⟩⟩
  | .str, d, _, _, _, _, ho => by
    simp only [OwnF] at ho
    obtain ⟨n, rfl, rfl, _⟩ := ho
    exact ⟨.str n, by cases d <;> rfl, by simp only [PurF]; exact ⟨n, rfl, rfl⟩⟩
  | .sub fs, d, v, u, ids, hd, ho => by
    simp only [OwnF] at ho
    obtain ⟨xs, rfl, ⟨c, rfl, rfl, _⟩ | ⟨id, st, clip, cont, r, rfl, e2, _, ho⟩⟩ := ho
    · exact ⟨.sl c fs.length [], by cases d <;> rfl, by simp only [PurF]; exact ⟨c, [], [], rfl, rfl, trivial⟩⟩
    · obtain ⟨d, rfl⟩ : ∃ m, d = m + 1 := ⟨d - 1, by simp only [dep] at hd; omega⟩
      have hd' : dep.depR fs ≤ d := by simp only [dep] at hd; omega
      cases hdeep : fs.any Fd.deep
      · refine ⟨.sl clip fs.length cont, ?_, ?_⟩
        · simp only [pureD, e2, blkOf, hdeep, Bool.false_eq_true, if_false, if_true, List.drop_zero, List.take_length]
        · simp only [PurF]
          exact ⟨clip, cont, xs, rfl, rfl, Zip3_to2 (fun c x i hr => OwnR_flat fs hdeep hr) ho⟩
      · obtain ⟨cs, m1, m2⟩ := mapO_zip (f := mapO (pureD h d)) (S := PurR fs) (fun c x i hr => OwnR_pure fs d hd' hr) ho
        refine ⟨.sl clip fs.length cs, ?_, ?_⟩
        · simp only [pureD, e2, blkOf, hdeep, if_true, List.drop_zero, List.take_length, m1, Option.map_some]
        · simp only [PurF]
          exact ⟨clip, cs, xs, rfl, rfl, m2⟩
theorem OwnR_pure {h : Heap} : ∀ (fs : List Fd) (d : Nat) {c : List V} {x : List U} {ids : List Nat}, dep.depR fs ≤ d → OwnR h fs c x ids → ∃ p, mapO (pureD h d) c = some p ∧ PurR fs p x
  | [], d, _, _, _, _, ho => by
    simp only [OwnR] at ho
    obtain ⟨rfl, rfl, _⟩ := ho
    exact ⟨[], rfl, by simp [PurR]⟩
  | f :: fs, d, c, x, ids, hd, ho => by
    simp only [OwnR] at ho
    simp only [dep.depR] at hd
    obtain ⟨v, c', u, x', i, j, rfl, rfl, _, h1, h2⟩ := ho
    obtain ⟨p, e1, p1⟩ := OwnF_pure f d (by omega) h1
    obtain ⟨q, e2, q1⟩ := OwnR_pure fs d (by omega) h2
    exact ⟨p :: q, by simp only [mapO, e1, e2], by simp only [PurR]; exact ⟨p, q, u, x', rfl, rfl, p1, q1⟩⟩
end

/-! ### handed over by a call -/
theorem Zip3_fresh {α β : Type} {R : α → β → List Nat → Prop} {P : α → Bool} (f : ∀ a b i, R a b i → P a = true) : ∀ {ays : List α} {bs : List β} {ids : List Nat}, Zip3 R ays bs ids → ays.all P = true
  | [], [], _, _ => rfl
  | a :: ays, b :: bs, _, ⟨i, j, _, h1, h2⟩ => by rw [List.all_cons, f a b i h1, Zip3_fresh f h2]; rfl
  | [], _ :: _, _, h => h.elim
  | _ :: _, [], _, h => h.elim
theorem OwnF_fresh {h : Heap} (f : Fd) {v : V} {u : U} {ids : List Nat} (ho : OwnF h f v u ids) : freshC v = true := by
  cases f with
  | int k => simp only [OwnF] at ho; obtain ⟨_, rfl, _⟩ := ho; rfl
  | bool => simp only [OwnF] at ho; obtain ⟨_, rfl, _⟩ := ho; rfl
  | str => simp only [OwnF] at ho; obtain ⟨_, rfl, _⟩ := ho; rfl
  | sub fs =>
    simp only [OwnF] at ho
    obtain ⟨xs, _, ⟨c, rfl, _⟩ | ⟨id, st, clip, cont, r, rfl, _⟩⟩ := ho <;> rfl
theorem OwnR_fresh {h : Heap} : ∀ (fs : List Fd) {c : List V} {x : List U} {ids : List Nat}, OwnR h fs c x ids → c.all freshC = true
  | [], _, _, _, ho => by simp only [OwnR] at ho; rw [ho.1]; rfl
  | f :: fs, c, x, ids, ho => by
    simp only [OwnR] at ho
    obtain ⟨v, c', u, x', i, j, rfl, _, _, h1, h2⟩ := ho
    rw [List.all_cons, OwnF_fresh f h1, OwnR_fresh fs h2]
    rfl
theorem moved_get {h hc : Heap} {id : Nat} {b : Blk} (hb : hc[id]? = some b) : (h ++ movedH h.length hc)[id + h.length]? = some (shB h.length (clean b)) := by
  rw [List.getElem?_append_right (by omega), Nat.add_sub_cancel]
  simp [movedH, hb]
mutual
theorem OwnF_moved {h hc : Heap} : ∀ (f : Fd) {v : V} {u : U} {ids : List Nat}, OwnF hc f v u ids → OwnF (h ++ movedH h.length hc) f (shC h.length v) u (ids.map (· + h.length))
  | .int k, _, _, _, ho => by simp only [OwnF] at ho ⊢; obtain ⟨n, rfl, rfl, rfl⟩ := ho; exact ⟨n, rfl, rfl, rfl⟩
  | .bool, _, _, _, ho => by simp only [OwnF] at ho ⊢; obtain ⟨n, rfl, rfl, rfl⟩ := ho; exact ⟨n, rfl, rfl, rfl⟩
  | .str, _, _, _, ho => by simp only [OwnF] at ho ⊢; obtain ⟨n, rfl, rfl, rfl⟩ := ho; exact ⟨n, rfl, rfl, rfl⟩
  | .sub fs, v, u, ids, ho => by
    simp only [OwnF] at ho ⊢
    obtain ⟨xs, e, ⟨c, rfl, e1, rfl⟩ | ⟨id, st, clip, cont, r, rfl, e2, rfl, ho⟩⟩ := ho
    · exact ⟨xs, e, .inl ⟨c, rfl, e1, rfl⟩⟩
    · have hz := Zip3_map (S := OwnR (h ++ movedH h.length hc) fs) (g := fun x => x.map (shC h.length)) (m := (· + h.length)) (fun c x i hr => OwnR_moved fs hr) ho
      have hf : cont.all (fun x => x.all freshC) = true := Zip3_fresh (fun c x i hr => OwnR_fresh fs hr) ho
      have hg := moved_get (h := h) e2
      refine ⟨xs, e, .inr ⟨id + h.length, st, clip, cont.map (fun x => x.map (shC h.length)), r.map (· + h.length), by rw [List.length_map]; rfl, ?_, rfl, hz⟩⟩
      rw [hg]
      unfold blkOf
      cases hdeep : fs.any Fd.deep
      · have hid : cont.map (fun x => x.map (shC h.length)) = cont := by
          have := Zip3_to2 (S := fun (c : List V) (_ : List U) => c.map (shC h.length) = c) (fun c x i hr => OwnR_shift fs h.length hdeep hr) ho
          clear hz hf hg e2 ho
          revert this
          generalize xs = ys
          intro hz
          induction cont generalizing ys with
          | nil => rfl
          | cons a ays ih =>
            cases ys with
            | nil => exact hz.elim
            | cons b bs => rw [List.map_cons, hz.1, ih bs hz.2]
        simp only [Bool.false_eq_true, if_false, clean, hf, if_true, shB, hid]
      · simp only [if_true, clean, hf, shB]
theorem OwnR_moved {h hc : Heap} : ∀ (fs : List Fd) {c : List V} {x : List U} {ids : List Nat}, OwnR hc fs c x ids → OwnR (h ++ movedH h.length hc) fs (c.map (shC h.length)) x (ids.map (· + h.length))
  | [], _, _, _, ho => by simp only [OwnR] at ho ⊢; obtain ⟨rfl, rfl, rfl⟩ := ho; exact ⟨rfl, rfl, rfl⟩
  | f :: fs, c, x, ids, ho => by
    simp only [OwnR] at ho ⊢
    obtain ⟨v, c', u, x', i, j, rfl, rfl, rfl, h1, h2⟩ := ho
    exact ⟨shC h.length v, c'.map (shC h.length), u, x', i.map (· + h.length), j.map (· + h.length), rfl, rfl, by rw [List.map_append], OwnF_moved f h1, OwnR_moved fs h2⟩
theorem OwnR_shift {h : Heap} : ∀ (fs : List Fd) (n : Nat) {c : List V} {x : List U} {ids : List Nat}, fs.any Fd.deep = false → OwnR h fs c x ids → c.map (shC n) = c
  | [], _, _, _, _, _, ho => by simp only [OwnR] at ho; rw [ho.1]; rfl
  | f :: fs, n, c, x, ids, hd, ho => by
    simp only [OwnR] at ho
    simp only [List.any_cons, Bool.or_eq_false_iff] at hd
    obtain ⟨v, c', u, x', i, j, rfl, rfl, rfl, h1, h2⟩ := ho
    rw [List.map_cons, OwnR_shift fs n hd.2 h2]
    cases f with
    | int k => simp only [OwnF] at h1; obtain ⟨_, rfl, _⟩ := h1; rfl
    | bool => simp only [OwnF] at h1; obtain ⟨_, rfl, _⟩ := h1; rfl
    | str => simp only [OwnF] at h1; obtain ⟨_, rfl, _⟩ := h1; rfl
    | sub gs => simp [Fd.deep] at hd
end
end Go.Proofs.Ytgepapgabnaonaa.PE
/- What the functions of an exact statement do with such trees: sizes, copies, comparisons, marks; their loops. -/
set_option linter.unusedVariables false
set_option linter.unusedSimpArgs false
namespace Go.Proofs.Ytgepapgabnaonaa.PE
open Go.RowKit

/-! ### loops by what holds at their head -/
section
variable {run : Run} {draw : Draw} {live out : List Nat} {c : C} {n0 : Nat}
theorem LoopK_inv {σ : Type} (n : Nat) (Inv : Nat → σ → Prop) (E : Nat → σ → Env) (H : σ → Heap) (fin : σ → Out)
    (h0 : ∀ b K, Inv n b → LoopK run draw live out c K (E n b) (H b) = fin b)
    (h1 : ∀ (i : Nat) b K, i < n → Inv i b → ∃ b', Inv (i + 1) b' ∧ LoopK run draw live out c (K + 1) (E i b) (H b) = LoopK run draw live out c K (E (i + 1) b') (H b'))
    (K : Nat) (hK : n ≤ K) (b : σ) (hb : Inv 0 b) : ∃ b', Inv n b' ∧ LoopK run draw live out c K (E 0 b) (H b) = fin b' := by
  have key : ∀ (m i K : Nat) b, i + m = n → m ≤ K → Inv i b → ∃ b', Inv n b' ∧ LoopK run draw live out c K (E i b) (H b) = fin b' := by
    intro m
    induction m with
    | zero => intro i K b hi _ hb; have : i = n := by omega
              subst this; exact ⟨b, hb, h0 b K hb⟩
    | succ m ih =>
      intro i K b hi hK hb
      obtain ⟨K, rfl⟩ : ∃ K', K = K' + 1 := ⟨K - 1, by omega⟩
      obtain ⟨b', hb', e⟩ := h1 i b K (by omega) hb
      obtain ⟨b2, hb2, e2⟩ := ih (i + 1) K b' (by omega) (by omega) hb'
      exact ⟨b2, hb2, e.trans e2⟩
  exact key n 0 K b (by omega) hK hb
theorem LoopS_inv {σ : Type} (n : Nat) (Inv : Nat → σ → Prop) (E : Nat → σ → Env) (H : σ → Heap) (fin : σ → Out)
    (h0 : ∀ b K, Inv n b → LoopS run draw live out c n0 K (E n b) (H b) = fin b)
    (h1 : ∀ (i : Nat) b K, i < n → Inv i b → ∃ b', Inv (i + 1) b' ∧ LoopS run draw live out c n0 (K + 1) (E i b) (H b) = LoopS run draw live out c n0 K (E (i + 1) b') (H b'))
    (K : Nat) (hK : n ≤ K) (b : σ) (hb : Inv 0 b) : ∃ b', Inv n b' ∧ LoopS run draw live out c n0 K (E 0 b) (H b) = fin b' := by
  have key : ∀ (m i K : Nat) b, i + m = n → m ≤ K → Inv i b → ∃ b', Inv n b' ∧ LoopS run draw live out c n0 K (E i b) (H b) = fin b' := by
    intro m
    induction m with
    | zero => intro i K b hi _ hb; have : i = n := by omega
              subst this; exact ⟨b, hb, h0 b K hb⟩
    | succ m ih =>
      intro i K b hi hK hb
      obtain ⟨K, rfl⟩ : ∃ K', K = K' + 1 := ⟨K - 1, by omega⟩
      obtain ⟨b', hb', e⟩ := h1 i b K (by omega) hb
      obtain ⟨b2, hb2, e2⟩ := ih (i + 1) K b' (by omega) (by omega) hb'
      exact ⟨b2, hb2, e.trans e2⟩
  exact key n 0 K b (by omega) hK hb
end

/-! ### sizes -/
def szZ (R : List U → Int → Int) : List (List U) → Int → Int
  | [], l => l
  | x :: xs, l => if R x l < 0 then -1 else szZ R xs (R x l)
mutual
def szF : Fd → U → Int → Int
  | .str, .str s, l => if l - s.size < 0 then -1 else l - s.size
  | .sub fs, .sub xs, l => if l - xs.length < 0 then -1 else szZ (szR fs) xs (l - xs.length)
  | _, _, l => l
def szR : List Fd → List U → Int → Int
  | f :: fs, u :: x, l => if szF f u l < 0 then -1 else szR fs x (szF f u l)
  | _, _, l => l
end
def AllU (P : List U → Prop) : List (List U) → Prop
  | [] => True
  | x :: xs => P x ∧ AllU P xs
mutual
def LenF (n m : Nat) : Fd → U → Prop
  | .str, .str s => s.size ≤ m
  | .sub fs, .sub xs => xs.length ≤ n ∧ AllU (LenR n m fs) xs
  | _, _ => True
def LenR (n m : Nat) : List Fd → List U → Prop
  | f :: fs, u :: x => LenF n m f u ∧ LenR n m fs x
  | _, _ => True
end
/-- How many numbers are in it. -/
def sumU (c : List U → Nat) : List (List U) → Nat
  | [] => 0
  | x :: xs => c x + sumU c xs
mutual
def cntF : Fd → U → Nat
  | .sub fs, .sub xs => sumU (cntR fs) xs
  | _, _ => 1
def cntR : List Fd → List U → Nat
  | f :: fs, u :: x => cntF f u + cntR fs x
  | _, _ => 0
end
theorem AllU_mono {P Q : List U → Prop} (f : ∀ x, P x → Q x) : ∀ {xs : List (List U)}, AllU P xs → AllU Q xs
  | [], _ => trivial
  | x :: xs, ⟨h1, h2⟩ => ⟨f x h1, AllU_mono f h2⟩
theorem AllU_at {P : List U → Prop} : ∀ {xs : List (List U)}, AllU P xs → ∀ {i : Nat} {x : List U}, xs[i]? = some x → P x
  | x :: xs, ⟨h1, h2⟩, 0, y, hy => by simp at hy; subst hy; exact h1
  | x :: xs, ⟨h1, h2⟩, i + 1, y, hy => by simp at hy; exact AllU_at h2 hy
  | [], _, i, y, hy => by simp at hy
mutual
theorem LenF_mono {n m n' m' : Nat} (hn : n ≤ n') (hm : m ≤ m') : ∀ (f : Fd) {u : U}, LenF n m f u → LenF n' m' f u
  | .str, .str s, h => by simp only [LenF] at h ⊢; omega
  | .sub fs, .sub xs, h => by simp only [LenF] at h ⊢; exact ⟨by omega, AllU_mono (fun x hx => LenR_mono hn hm fs hx) h.2⟩
  | .int _, _, _ => by simp [LenF]
  | .bool, _, _ => by simp [LenF]
  | .str, .int _, _ => by simp [LenF]
  | .str, .bool _, _ => by simp [LenF]
  | .str, .sub _, _ => by simp [LenF]
  | .sub _, .int _, _ => by simp [LenF]
  | .sub _, .bool _, _ => by simp [LenF]
  | .sub _, .str _, _ => by simp [LenF]
theorem LenR_mono {n m n' m' : Nat} (hn : n ≤ n') (hm : m ≤ m') : ∀ (fs : List Fd) {x : List U}, LenR n m fs x → LenR n' m' fs x
  | f :: fs, u :: x, h => by simp only [LenR] at h ⊢; exact ⟨LenF_mono hn hm f h.1, LenR_mono hn hm fs h.2⟩
  | [], _, _ => by simp [LenR]
  | _ :: _, [], _ => by simp [LenR]
end
theorem szZ_spec {N : Nat} {R : List U → Int → Int} {P : List U → Prop} {c : List U → Nat} (hR : ∀ x (l : Int), l ≤ N → 0 ≤ R x l → 0 ≤ l → R x l ≤ l ∧ P x ∧ (c x : Int) ≤ 16 * (l - R x l) + 16) : ∀ (xs : List (List U)) (l : Int), l ≤ N → 0 ≤ szZ R xs l → 0 ≤ l →
    szZ R xs l ≤ l ∧ AllU P xs ∧ (sumU c xs : Int) ≤ 16 * (l - szZ R xs l) + 16 * xs.length
  | [], l, _, _, _ => by simp [szZ, AllU, sumU]
  | x :: xs, l, hl, h, h0 => by
    simp only [szZ] at h ⊢
    by_cases hx : R x l < 0
    · rw [if_pos hx] at h; omega
    · rw [if_neg hx] at h ⊢
      obtain ⟨a1, a2, a3⟩ := hR x l hl (by omega) h0
      obtain ⟨b1, b2, b3⟩ := szZ_spec hR xs (R x l) (by omega) h (by omega)
      refine ⟨by omega, ⟨a2, b2⟩, ?_⟩
      simp only [sumU, List.length_cons]
      push_cast
      omega
mutual
def okFd : Fd → Bool
  | .sub fs => decide (fs.length ≤ 16) && okFds fs
  | _ => true
def okFds : List Fd → Bool
  | [] => true
  | f :: fs => okFd f && okFds fs
end
mutual
theorem szF_spec {N : Nat} : ∀ (f : Fd) (u : U) (l : Int), okFd f = true → l ≤ N → 0 ≤ szF f u l → 0 ≤ l → szF f u l ≤ l ∧ LenF N N f u ∧ (cntF f u : Int) ≤ 16 * (l - szF f u l) + 1
  | .str, .str s, l, _, hl, h, h0 => by
    simp only [szF, LenF, cntF] at h ⊢
    split at h
    · omega
    · rename_i hc; rw [if_neg hc]; omega
  | .sub fs, .sub xs, l, hk, hl, h, h0 => by
    simp only [szF, LenF, cntF] at h ⊢
    simp only [okFd, Bool.and_eq_true, decide_eq_true_eq] at hk
    split at h
    · omega
    · rename_i hc
      rw [if_neg hc]
      obtain ⟨b1, b2, b3⟩ := szZ_spec (N := N) (R := szR fs) (P := LenR N N fs) (c := cntR fs) (fun x l hl h h0 => by
        obtain ⟨c1, c2, c3⟩ := szR_spec (N := N) fs x l hk.2 hl h h0
        exact ⟨c1, c2, by omega⟩) xs (l - xs.length) (by omega) h (by omega)
      exact ⟨by omega, ⟨by omega, b2⟩, by omega⟩
  | .int _, _, l, _, _, h, h0 => by simp [szF, LenF, cntF]
  | .bool, _, l, _, _, h, h0 => by simp [szF, LenF, cntF]
  | .str, .int _, l, _, _, h, h0 => by simp [szF, LenF, cntF]
  | .str, .bool _, l, _, _, h, h0 => by simp [szF, LenF, cntF]
  | .str, .sub _, l, _, _, h, h0 => by simp [szF, LenF, cntF]
  | .sub _, .int _, l, _, _, h, h0 => by simp [szF, LenF, cntF]
  | .sub _, .bool _, l, _, _, h, h0 => by simp [szF, LenF, cntF]
  | .sub _, .str _, l, _, _, h, h0 => by simp [szF, LenF, cntF]
theorem szR_spec {N : Nat} : ∀ (fs : List Fd) (x : List U) (l : Int), okFds fs = true → l ≤ N → 0 ≤ szR fs x l → 0 ≤ l → szR fs x l ≤ l ∧ LenR N N fs x ∧ (cntR fs x : Int) ≤ 16 * (l - szR fs x l) + fs.length
  | f :: fs, u :: x, l, hk, hl, h, h0 => by
    simp only [szR, LenR, cntR] at h ⊢
    simp only [okFds, Bool.and_eq_true] at hk
    split at h
    · omega
    · rename_i hc
      rw [if_neg hc]
      obtain ⟨a1, a2, a3⟩ := szF_spec (N := N) f u l hk.1 hl (by omega) h0
      obtain ⟨b1, b2, b3⟩ := szR_spec (N := N) fs x (szF f u l) hk.2 (by omega) h (by omega)
      refine ⟨by omega, ⟨a2, b2⟩, ?_⟩
      simp only [List.length_cons]
      push_cast
      omega
  | [], _, l, _, _, h, h0 => by simp [szR, LenR, cntR]
  | _ :: _, [], l, _, _, h, h0 => by simp [szR, LenR, cntR]; omega
end
theorem szR_nonneg : ∀ (fs : List Fd) (x : List U) (l : Int), 0 ≤ l → (∀ f ∈ fs, f = .bool ∨ ∃ k, f = .int k) → szR fs x l = l
  | f :: fs, u :: x, l, h0, hf => by
    have e : szF f u l = l := by
      rcases hf f List.mem_cons_self with rfl | ⟨k, rfl⟩ <;> simp [szF]
    simp only [szR, e]
    rw [if_neg (by omega)]
    exact szR_nonneg fs x l h0 (fun g hg => hf g (List.mem_cons_of_mem _ hg))
  | [], _, l, _, _ => by simp [szR]
  | _ :: _, [], l, _, _ => by simp [szR]
theorem szZ_nonneg {R : List U → Int → Int} {l : Int} (h0 : 0 ≤ l) (hR : ∀ x, R x l = l) : ∀ (xs : List (List U)), szZ R xs l = l
  | [] => rfl
  | x :: xs => by simp only [szZ, hR]; rw [if_neg (by omega)]; exact szZ_nonneg h0 hR xs

/-! ### marks -/
/-- The digits of a number, ahead of others. -/
def digs : Nat → Nat → ByteArray → ByteArray
  | 0, _, s => s
  | f + 1, n, s => if n = 0 then s else digs f (n / 10) (⟨#[UInt8.ofNat (48 + n % 10)]⟩ ++ s)
def txt (k : Int) : ByteArray := if k ≤ 0 then ⟨#[109, 48]⟩ else ⟨#[109]⟩ ++ digs 20 k.toNat ⟨#[]⟩
def HeldZ (R : List U → Int → Int → Prop) : List (List U) → Int → Int → Prop
  | [], k, k' => k' = k
  | x :: xs, k, k' => ∃ m, R x k m ∧ HeldZ R xs m k'
mutual
def HeldF : Fd → U → Int → Int → Prop
  | .int kk, u, k, k' => u = .int (kk.wrap k) ∧ k' = k + 1
  | .bool, u, k, k' => u = .bool (decide (k.tmod 3 = 0)) ∧ k' = k + 1
  | .str, u, k, k' => u = .str (txt k) ∧ k' = k + 1
  | .sub fs, u, k, k' => ∃ xs, u = .sub xs ∧ HeldZ (HeldR fs) xs k k'
def HeldR : List Fd → List U → Int → Int → Prop
  | [], x, k, k' => x = [] ∧ k' = k
  | f :: fs, x, k, k' => ∃ u x' m, x = u :: x' ∧ HeldF f u k m ∧ HeldR fs x' m k'
end
theorem HeldZ_le {R : List U → Int → Int → Prop} (hR : ∀ x k k', R x k k' → k ≤ k') : ∀ {xs : List (List U)} {k k' : Int}, HeldZ R xs k k' → k ≤ k'
  | [], k, k', h => by simp only [HeldZ] at h; omega
  | x :: xs, k, k', ⟨m, h1, h2⟩ => by have := hR x k m h1; have := HeldZ_le hR h2; omega
mutual
theorem HeldF_le : ∀ (f : Fd) {u : U} {k k' : Int}, HeldF f u k k' → k ≤ k'
  | .int kk, _, _, _, h => by simp only [HeldF] at h; omega
  | .bool, _, _, _, h => by simp only [HeldF] at h; omega
  | .str, _, _, _, h => by simp only [HeldF] at h; omega
  | .sub fs, _, _, _, h => by
    simp only [HeldF] at h
    obtain ⟨xs, _, h⟩ := h
    exact HeldZ_le (fun x k k' => HeldR_le fs) h
theorem HeldR_le : ∀ (fs : List Fd) {x : List U} {k k' : Int}, HeldR fs x k k' → k ≤ k'
  | [], _, _, _, h => by simp only [HeldR] at h; omega
  | f :: fs, _, _, _, h => by
    simp only [HeldR] at h
    obtain ⟨u, x', m, _, h1, h2⟩ := h
    have := HeldF_le f h1
    have := HeldR_le fs h2
    omega
end
theorem HeldZ_snoc {R : List U → Int → Int → Prop} : ∀ {xs : List (List U)} {x : List U} {k m k' : Int}, HeldZ R xs k m → R x m k' → HeldZ R (xs ++ [x]) k k'
  | [], x, k, m, k', h, hx => by simp only [HeldZ] at h; subst h; exact ⟨k', hx, rfl⟩
  | y :: ys, x, k, m, k', ⟨m1, h1, h2⟩, hx => ⟨m1, h1, HeldZ_snoc h2 hx⟩
end Go.Proofs.Ytgepapgabnaonaa.PE
/- The loops of copies, comparisons, sizes and marks, by what one round does. -/
set_option linter.unusedVariables false
set_option linter.unusedSimpArgs false
namespace Go.Proofs.Ytgepapgabnaonaa.PE
open Go.RowKit

def big : Nat := 1099511627775
theorem HeldZ_drop {R : List U → Int → Int → Prop} {xs : List (List U)} {i : Nat} {x : List U} {k k' : Int} (hx : xs[i]? = some x) (h : HeldZ R (xs.drop i) k k') : ∃ m, R x k m ∧ HeldZ R (xs.drop (i + 1)) m k' := by
  obtain ⟨hi, e⟩ := List.getElem?_eq_some_iff.1 hx
  rw [List.drop_eq_getElem_cons hi, e] at h
  exact h
section
variable {run : Run} {draw : Draw} {c : C} {n0 : Nat}
theorem held_loop {R : List V → List U → Prop} {HR : List U → Int → Int → Prop} {cl : Bool} {sz : Nat} {cont : List (List V)} {xs : List (List U)} {kf : Int} (hz : Zip2 R cont xs) (hle : ∀ x k k', HR x k k' → k ≤ k')
    (hend : ∀ (k : Int) K, LoopS run draw [0, 1, 5] [1, 4] c n0 K [(0, .sl cl sz cont), (1, .int .i64 k), (5, .int .i64 (cont.length : Nat))] [] = some (.exit 0, [(1, .int .i64 k), (4, .undef)], []))
    (hstep : ∀ (i : Nat) cc x (k m : Int) K, cont[i]? = some cc → xs[i]? = some x → (i : Int) < cont.length → R cc x → HR x k m → 0 ≤ k → m ≤ 4611686018427387904 → LoopS run draw [0, 1, 5] [1, 4] c n0 (K + 1) [(0, .sl cl sz cont), (1, .int .i64 k), (5, .int .i64 (i : Nat))] [] = LoopS run draw [0, 1, 5] [1, 4] c n0 K [(0, .sl cl sz cont), (1, .int .i64 m), (5, .int .i64 ((i + 1 : Nat) : Int))] [])
    {k : Int} (hk : HeldZ HR xs k kf) (h0 : 0 ≤ k) (hf : kf ≤ 4611686018427387904) (K : Nat) (hK : cont.length ≤ K) :
    LoopS run draw [0, 1, 5] [1, 4] c n0 K [(0, .sl cl sz cont), (1, .int .i64 k), (5, .int .i64 0)] [] = some (.exit 0, [(1, .int .i64 kf), (4, .undef)], []) := by
  have hl := Zip2_len hz
  obtain ⟨b', hb, e⟩ := LoopS_inv (run := run) (draw := draw) (live := [0, 1, 5]) (out := [1, 4]) (c := c) (n0 := n0) cont.length (fun i (k : Int) => HeldZ HR (xs.drop i) k kf ∧ 0 ≤ k) (fun i k => [(0, .sl cl sz cont), (1, .int .i64 k), (5, .int .i64 (i : Nat))]) (fun _ => []) (fun k => some (.exit 0, [(1, .int .i64 k), (4, .undef)], []))
    (fun k K _ => hend k K) (fun i k K hi hb => by
      have hc := List.getElem?_eq_getElem hi
      obtain ⟨x, hx, hr⟩ := Zip2_at hz hc
      obtain ⟨m, h1, h2⟩ := HeldZ_drop hx hb.1
      have l1 := hle _ _ _ h1
      have l2 := HeldZ_le hle h2
      exact ⟨m, ⟨h2, by omega⟩, hstep i _ x k m K hc hx (by omega) hr h1 hb.2 (by omega)⟩) K hK k ⟨by simpa using hk, h0⟩
  have h3 := hb.1
  rw [List.drop_of_length_le (by omega)] at h3
  simp only [HeldZ] at h3
  subst h3
  exact e
theorem eq_loop {R : List V → List U → Prop} {cl cl' : Bool} {sz : Nat} {cont cont' : List (List V)} {xs : List (List U)} (hz : Zip2 R cont xs) (hz' : Zip2 R cont' xs)
    (hend : ∀ K, LoopS run draw [0, 1, 5] [4] c n0 K [(0, .sl cl sz cont), (1, .sl cl' sz cont'), (5, .int .i64 (xs.length : Nat))] [] = some (.exit 0, [(4, .undef)], []))
    (hstep : ∀ (i : Nat) cc cc' x K, cont[i]? = some cc → cont'[i]? = some cc' → xs[i]? = some x → (i : Int) < cont.length → R cc x → R cc' x → LoopS run draw [0, 1, 5] [4] c n0 (K + 1) [(0, .sl cl sz cont), (1, .sl cl' sz cont'), (5, .int .i64 (i : Nat))] [] = LoopS run draw [0, 1, 5] [4] c n0 K [(0, .sl cl sz cont), (1, .sl cl' sz cont'), (5, .int .i64 ((i + 1 : Nat) : Int))] [])
    (K : Nat) (hK : cont.length ≤ K) :
    LoopS run draw [0, 1, 5] [4] c n0 K [(0, .sl cl sz cont), (1, .sl cl' sz cont'), (5, .int .i64 0)] [] = some (.exit 0, [(4, .undef)], []) := by
  have hl := Zip2_len hz
  have hl' := Zip2_len hz'
  obtain ⟨b', hb, e⟩ := LoopS_inv (run := run) (draw := draw) (live := [0, 1, 5]) (out := [4]) (c := c) (n0 := n0) xs.length (fun i (_ : Unit) => True) (fun i _ => [(0, .sl cl sz cont), (1, .sl cl' sz cont'), (5, .int .i64 (i : Nat))]) (fun _ => []) (fun _ => some (.exit 0, [(4, .undef)], []))
    (fun _ K _ => hend K) (fun i _ K hi _ => by
      have hc := List.getElem?_eq_getElem (show i < cont.length by omega)
      have hc' := List.getElem?_eq_getElem (show i < cont'.length by omega)
      obtain ⟨x, hx, hr⟩ := Zip2_at hz hc
      obtain ⟨x', hx', hr'⟩ := Zip2_at hz' hc'
      rw [hx] at hx'
      injection hx' with hx'
      subst hx'
      exact ⟨(), trivial, hstep i _ _ x K hc hc' hx (by omega) hr hr'⟩) K (by omega) () trivial
  exact e
theorem sz_loop {R : List V → List U → Prop} {SR : List U → Int → Int} {cl : Bool} {sz : Nat} {cont : List (List V)} {xs : List (List U)} (hz : Zip2 R cont xs)
    (hend : ∀ (l : Int) K, LoopS run draw [0, 1, 5] [1, 4] c n0 K [(0, .sl cl sz cont), (1, .int .i64 l), (5, .int .i64 (cont.length : Nat))] [] = some (.exit 0, [(1, .int .i64 l), (4, .undef)], []))
    (hstep : ∀ (i : Nat) cc x (l : Int) K, cont[i]? = some cc → xs[i]? = some x → (i : Int) < cont.length → R cc x → 0 ≤ l → l ≤ 1048576 →
      (SR x l < 0 ∧ ∃ v, LoopS run draw [0, 1, 5] [1, 4] c n0 (K + 1) [(0, .sl cl sz cont), (1, .int .i64 l), (5, .int .i64 (i : Nat))] [] = some (.ret, [(1, v), (4, .int .i64 (-1))], [])) ∨
      (0 ≤ SR x l ∧ SR x l ≤ l ∧ LoopS run draw [0, 1, 5] [1, 4] c n0 (K + 1) [(0, .sl cl sz cont), (1, .int .i64 l), (5, .int .i64 (i : Nat))] [] = LoopS run draw [0, 1, 5] [1, 4] c n0 K [(0, .sl cl sz cont), (1, .int .i64 (SR x l)), (5, .int .i64 ((i + 1 : Nat) : Int))] []))
    {l : Int} (h0 : 0 ≤ l) (hf : l ≤ 1048576) (K : Nat) (hK : cont.length ≤ K) :
    (szZ SR xs l < 0 ∧ ∃ v, LoopS run draw [0, 1, 5] [1, 4] c n0 K [(0, .sl cl sz cont), (1, .int .i64 l), (5, .int .i64 0)] [] = some (.ret, [(1, v), (4, .int .i64 (-1))], [])) ∨
    (0 ≤ szZ SR xs l ∧ LoopS run draw [0, 1, 5] [1, 4] c n0 K [(0, .sl cl sz cont), (1, .int .i64 l), (5, .int .i64 0)] [] = some (.exit 0, [(1, .int .i64 (szZ SR xs l)), (4, .undef)], [])) := by
  have hl := Zip2_len hz
  have key : ∀ (m i K : Nat) (l : Int), i + m = cont.length → m ≤ K → 0 ≤ l → l ≤ 1048576 →
      (szZ SR (xs.drop i) l < 0 ∧ ∃ v, LoopS run draw [0, 1, 5] [1, 4] c n0 K [(0, .sl cl sz cont), (1, .int .i64 l), (5, .int .i64 (i : Nat))] [] = some (.ret, [(1, v), (4, .int .i64 (-1))], [])) ∨
      (0 ≤ szZ SR (xs.drop i) l ∧ LoopS run draw [0, 1, 5] [1, 4] c n0 K [(0, .sl cl sz cont), (1, .int .i64 l), (5, .int .i64 (i : Nat))] [] = some (.exit 0, [(1, .int .i64 (szZ SR (xs.drop i) l)), (4, .undef)], [])) := by
    intro m
    induction m with
    | zero =>
      intro i K l hi _ h0 hf
      have : i = cont.length := by omega
      subst this
      rw [List.drop_of_length_le (by omega)]
      exact .inr ⟨h0, hend l K⟩
    | succ m ih =>
      intro i K l hi hK h0 hf
      obtain ⟨K, rfl⟩ : ∃ K', K = K' + 1 := ⟨K - 1, by omega⟩
      have hc := List.getElem?_eq_getElem (show i < cont.length by omega)
      obtain ⟨x, hx, hr⟩ := Zip2_at hz hc
      obtain ⟨hi2, ex⟩ := List.getElem?_eq_some_iff.1 hx
      rw [List.drop_eq_getElem_cons hi2, ex]
      simp only [szZ]
      rcases hstep i _ x l K hc hx (by omega) hr h0 hf with ⟨s1, s2⟩ | ⟨s1, s2, s3⟩
      · rw [if_pos s1]
        exact .inl ⟨by omega, s2⟩
      · rw [if_neg (by omega), s3]
        exact ih (i + 1) K _ (by omega) (by omega) s1 (by omega)
  have := key cont.length 0 K l (by omega) hK h0 hf
  simpa using this
/-- One element more is one's own. -/
theorem own_set {h : Heap} {fs : List Fd} {done rest : List (List V)} {cells old : List V} {xd : List (List U)} {x : List U} {ia a : List Nat} (hd : Zip3 (OwnR h fs) done xd ia) (ho : OwnR h fs cells x a) : Zip3 (OwnR h fs) (done ++ [cells]) (xd ++ [x]) (ia ++ a) := Zip3_app hd (Zip3_one ho)
theorem take_snoc {α : Type} {l : List α} {i : Nat} {x : α} (hx : l[i]? = some x) : l.take (i + 1) = l.take i ++ [x] := by
  rw [List.take_add_one, hx]; rfl
theorem to_loop {fs : List Fd} {zero : List V} {cl : Bool} {sz : Nat} {cont : List (List V)} {xs : List (List U)} (hz : Zip2 (PurR fs) cont xs)
    (hend : ∀ h K, LoopK run draw [0, 3, 4] [3] c K [(0, .sl cl sz cont), (3, .ref 0 0 0 cont.length true), (4, .int .i64 (cont.length : Nat))] h = some (.exit 0, [(3, .ref 0 0 0 cont.length true)], h))
    (hstep : ∀ (i : Nat) cc x h C K, cont[i]? = some cc → xs[i]? = some x → (i : Int) < cont.length → PurR fs cc x → h[0]? = some (blkOf fs 0 C) → C[i]? = some zero → C.length = cont.length →
      ∃ h' cells a, LoopK run draw [0, 3, 4] [3] c (K + 1) [(0, .sl cl sz cont), (3, .ref 0 0 0 cont.length true), (4, .int .i64 (i : Nat))] h = LoopK run draw [0, 3, 4] [3] c K [(0, .sl cl sz cont), (3, .ref 0 0 0 cont.length true), (4, .int .i64 ((i + 1 : Nat) : Int))] h' ∧
        h'[0]? = some (blkOf fs 0 (C.set i cells)) ∧ OwnR h' fs cells x a ∧ a.Nodup ∧ (∀ j ∈ a, h.length ≤ j) ∧ (∀ j, j ≠ 0 → j < h.length → h'[j]? = h[j]?) ∧ h.length ≤ h'.length)
    {h : Heap} (hh : h[0]? = some (blkOf fs 0 (List.replicate cont.length zero))) (K : Nat) (hK : cont.length ≤ K) :
    ∃ h' r, LoopK run draw [0, 3, 4] [3] c K [(0, .sl cl sz cont), (3, .ref 0 0 0 cont.length true), (4, .int .i64 0)] h = some (.exit 0, [(3, .ref 0 0 0 cont.length true)], h') ∧
      OwnF h' (.sub fs) (.ref 0 0 0 cont.length true) (.sub xs) (0 :: r) ∧ (0 :: r).Nodup := by
  have hl := Zip2_len hz
  obtain ⟨h', ⟨done, ids, g1, g2, g3, g4, g5⟩, e⟩ := LoopK_inv (run := run) (draw := draw) (live := [0, 3, 4]) (out := [3]) (c := c) cont.length
    (fun i (h : Heap) => ∃ done ids, h[0]? = some (blkOf fs 0 (done ++ List.replicate (cont.length - i) zero)) ∧ done.length = i ∧ Zip3 (OwnR h fs) done (xs.take i) ids ∧ ids.Nodup ∧ 0 ∉ ids)
    (fun i _ => [(0, .sl cl sz cont), (3, .ref 0 0 0 cont.length true), (4, .int .i64 (i : Nat))]) (fun h => h) (fun h => some (.exit 0, [(3, .ref 0 0 0 cont.length true)], h))
    (fun h K _ => hend h K) (fun i h K hi hb => by
      obtain ⟨done, ids, g1, g2, g3, g4, g5⟩ := hb
      have hc := List.getElem?_eq_getElem hi
      obtain ⟨x, hx, hr⟩ := Zip2_at hz hc
      have hC : (done ++ List.replicate (cont.length - i) zero)[i]? = some zero := by
        rw [List.getElem?_append_right (by omega), g2, Nat.sub_self, List.getElem?_replicate, if_pos (by omega)]
      obtain ⟨h', cells, a, e, f1, f2, f3, f4, f5, f6⟩ := hstep i _ x h _ K hc hx (by omega) hr g1 hC (by simp; omega)
      have hlt := Zip3_all (fun c x i hr => OwnR_lt fs hr) g3
      refine ⟨h', ⟨done ++ [cells], ids ++ a, ?_, by simp [g2], ?_, ?_, ?_⟩, e⟩
      · rw [f1, List.set_append_right _ _ (by omega), g2, Nat.sub_self, List.append_assoc]
        obtain ⟨m, hm⟩ : ∃ m, cont.length - i = m + 1 := ⟨cont.length - i - 1, by omega⟩
        rw [hm, List.replicate_succ, List.set_cons_zero, show cont.length - (i + 1) = m by omega]
        rfl
      · rw [take_snoc hx]
        refine Zip3_app (Zip3_mono (P := fun id => id ∈ ids) (fun c x j hr hp => OwnR_frame fs hr (fun id hid => f5 id (fun e => g5 (e ▸ hp id hid)) (hlt id (hp id hid)))) g3 (fun _ h => h)) (Zip3_one f2)
      · refine List.nodup_append.2 ⟨g4, f3, fun p hp q hq => ?_⟩
        have := hlt p hp
        have := f4 q hq
        omega
      · intro hm
        rcases List.mem_append.1 hm with hm | hm
        · exact g5 hm
        · have := f4 0 hm
          have := (List.getElem?_eq_some_iff.1 g1).1
          omega) K hK h ⟨[], [], by simpa using hh, rfl, by simp [Zip3], List.nodup_nil, by simp⟩
  rw [List.take_of_length_le (by omega)] at g3
  rw [Nat.sub_self, List.replicate_zero, List.append_nil] at g1
  refine ⟨h', ids, e, ?_, List.nodup_cons.2 ⟨g5, g4⟩⟩
  simp only [OwnF]
  exact ⟨xs, rfl, .inr ⟨0, 0, true, done, ids, by rw [g2], g1, rfl, g3⟩⟩

theorem Zip3_cons {α β : Type} {R : α → β → List Nat → Prop} {ays : List α} {bs : List β} {ids : List Nat} (h : Zip3 R ays bs ids) {b : β} {bs' : List β} (e : bs = b :: bs') : ∃ a ays' i j, ays = a :: ays' ∧ ids = i ++ j ∧ R a b i ∧ Zip3 R ays' bs' j := by
  subst e
  cases ays with
  | nil => exact h.elim
  | cons a ays => obtain ⟨i, j, e, h1, h2⟩ := h; exact ⟨a, ays, i, j, rfl, e, h1, h2⟩
theorem sumU_snoc (c : List U → Nat) : ∀ (xs : List (List U)) (x : List U), sumU c (xs ++ [x]) = sumU c xs + c x
  | [], x => by simp [sumU]
  | y :: ys, x => by simp [sumU, sumU_snoc c ys x]; omega
/-- The root of a tree and all that lies beneath it, marked. -/
theorem mark_loop {fs : List Fd} {id st n : Nat} {clip : Bool} {xs : List (List U)} {h : Heap} {cont : List (List V)} {r : List Nat} {k : Int}
    (hend : ∀ h (k : Int) K, LoopK run draw [0, 1, 5] [1] c K [(0, .ref id st 0 n clip), (1, .int .i64 k), (5, .int .i64 (n : Nat))] h = some (.exit 0, [(1, .int .i64 k)], h))
    (hstep : ∀ (i : Nat) h C cc x a (k : Int) K, (i : Int) < n → h[id]? = some (blkOf fs st C) → C.length = n → C[i]? = some cc → OwnR h fs cc x a → LenR big big fs x → id ∉ a → a.Nodup → 0 ≤ k → k + cntR fs x ≤ 4611686018427387904 →
      ∃ h' cells y, LoopK run draw [0, 1, 5] [1] c (K + 1) [(0, .ref id st 0 n clip), (1, .int .i64 k), (5, .int .i64 (i : Nat))] h = LoopK run draw [0, 1, 5] [1] c K [(0, .ref id st 0 n clip), (1, .int .i64 (k + cntR fs x)), (5, .int .i64 ((i + 1 : Nat) : Int))] h' ∧
        h'[id]? = some (blkOf fs st (C.set i cells)) ∧ OwnR h' fs cells y a ∧ HeldR fs y k (k + cntR fs x) ∧ LenR big big fs y ∧ (∀ j, j ≠ id → j ∉ a → h'[j]? = h[j]?) ∧ h'.length = h.length)
    (hn : cont.length = n) (hb : h[id]? = some (blkOf fs st cont)) (ho : Zip3 (OwnR h fs) cont xs r) (hnd : (id :: r).Nodup) (hlen : AllU (LenR big big fs) xs) (h0 : 0 ≤ k) (hk : k + sumU (cntR fs) xs ≤ 4611686018427387904) (K : Nat) (hK : n ≤ K) :
    ∃ h' ys, LoopK run draw [0, 1, 5] [1] c K [(0, .ref id st 0 n clip), (1, .int .i64 k), (5, .int .i64 0)] h = some (.exit 0, [(1, .int .i64 (k + sumU (cntR fs) xs))], h') ∧
      OwnF h' (.sub fs) (.ref id st 0 n clip) (.sub ys) (id :: r) ∧ HeldZ (HeldR fs) ys k (k + sumU (cntR fs) xs) ∧ ys.length = xs.length ∧ AllU (LenR big big fs) ys ∧ (∀ j, j ∉ id :: r → h'[j]? = h[j]?) ∧ h'.length = h.length := by
  have hl := Zip3_len ho
  obtain ⟨⟨h', k'⟩, ⟨done, rest, ys, ia, ib, g1, g2, g3, g4, g5, g6, g7, g8, g9, ga, gb, gc⟩, e⟩ := LoopK_inv (run := run) (draw := draw) (live := [0, 1, 5]) (out := [1]) (c := c) n
    (fun i (b : Heap × Int) => ∃ done rest ys ia ib, b.1[id]? = some (blkOf fs st (done ++ rest)) ∧ done.length = i ∧ (done ++ rest).length = n ∧ Zip3 (OwnR b.1 fs) done ys ia ∧ Zip3 (OwnR b.1 fs) rest (xs.drop i) ib ∧ r = ia ++ ib ∧ HeldZ (HeldR fs) ys k b.2 ∧ b.2 = k + sumU (cntR fs) (xs.take i) ∧ ys.length = i ∧ AllU (LenR big big fs) ys ∧ b.1.length = h.length ∧ ∀ j, j ∉ id :: r → b.1[j]? = h[j]?)
    (fun i b => [(0, .ref id st 0 n clip), (1, .int .i64 b.2), (5, .int .i64 (i : Nat))]) (fun b => b.1) (fun b => some (.exit 0, [(1, .int .i64 b.2)], b.1))
    (fun b K _ => hend b.1 b.2 K) (fun i b K hi hb => by
      obtain ⟨hp, kp⟩ := b
      obtain ⟨done, rest, ys, ia, ib, g1, g2, g3, g4, g5, g6, g7, g8, g9, ga, gb, gc⟩ := hb
      simp only at g1 g4 g5 g7 g8 gb gc ⊢
      have hix : i < xs.length := by omega
      obtain ⟨cc, rest', a, jb, e1, e2, o1, o2⟩ := Zip3_cons g5 (List.drop_eq_getElem_cons hix)
      have hx : xs[i]? = some xs[i] := List.getElem?_eq_getElem hix
      generalize xs[i] = x at *
      subst e1 e2
      have hC : (done ++ cc :: rest')[i]? = some cc := by rw [List.getElem?_append_right (by omega), g2, Nat.sub_self]; rfl
      subst g6
      obtain ⟨n1, n2⟩ := List.nodup_cons.1 hnd
      have hida : id ∉ a := fun hm => n1 (by simp [hm])
      obtain ⟨m1, m2, m3⟩ := List.nodup_append.1 n2
      obtain ⟨m4, m5, m6⟩ := List.nodup_append.1 m2
      have hle : sumU (cntR fs) (xs.take (i + 1)) ≤ sumU (cntR fs) xs := by
        have : ∀ (m : Nat) (zs : List (List U)), sumU (cntR fs) (zs.take m) ≤ sumU (cntR fs) zs := by
          intro m
          induction m with
          | zero => intro zs; simp [sumU]
          | succ m ih =>
            intro zs
            cases zs with
            | nil => simp [sumU]
            | cons z zs => simp only [List.take_succ_cons, sumU]; have := ih zs; omega
        exact this _ _
      rw [take_snoc hx, sumU_snoc] at hle
      obtain ⟨h', cells, y, e, f1, f2, f3, f4, f5, f6⟩ := hstep i hp _ cc x a kp K (by omega) g1 g3 hC o1 (AllU_at hlen hx) hida m4 (by omega) (by omega)
      refine ⟨(h', kp + cntR fs x), ⟨done ++ [cells], rest', ys ++ [y], ia ++ a, jb, ?_, by simp [g2], by simpa using g3, ?_, ?_, by simp, HeldZ_snoc g7 f3, ?_, by simp [g9], ?_, f6.trans gb, fun j hj => ?_⟩, e⟩
      · rw [f1, List.set_append_right _ _ (by omega), g2, Nat.sub_self, List.set_cons_zero, List.append_assoc]; rfl
      · refine Zip3_app (Zip3_mono (P := fun j => j ∈ ia) (fun c x j hr hp => OwnR_frame fs hr (fun q hq => f5 q (fun e => n1 (by rw [← e]; simp [hp q hq])) (fun hm => m3 q (hp q hq) q (by simp [hm]) rfl))) g4 (fun _ h => h)) (Zip3_one f2)
      · refine Zip3_mono (P := fun j => j ∈ jb) (fun c x j hr hp => OwnR_frame fs hr (fun q hq => f5 q (fun e => n1 (by rw [← e]; simp [hp q hq])) (fun hm => m6 q hm q (hp q hq) rfl))) o2 (fun _ h => h)
      · simp only
        rw [take_snoc hx, sumU_snoc]
        push_cast
        omega
      · have : ∀ (zs : List (List U)), AllU (LenR big big fs) zs → AllU (LenR big big fs) (zs ++ [y]) := by
          intro zs
          induction zs with
          | nil => intro _; exact ⟨f4, trivial⟩
          | cons z zs ih => intro h; exact ⟨h.1, ih h.2⟩
        exact this ys ga
      · simp only
        rw [← gc j hj]
        refine f5 j (fun e => hj (by simp [e])) (fun hm => hj (by simp [hm]))) K hK (h, k) ⟨[], cont, [], [], r, by simpa using hb, rfl, by simpa using hn, rfl, by simpa using ho, rfl, rfl, by simp [sumU], rfl, trivial, rfl, fun _ _ => rfl⟩
  simp only at g1 g4 g5 g7 g8 gb gc e
  rw [List.take_of_length_le (by omega)] at g8
  rw [List.drop_of_length_le (by omega)] at g5
  have hr0 : rest = [] := by
    cases rest with
    | nil => rfl
    | cons a ays => simp [Zip3] at g5
  subst hr0
  simp only [Zip3] at g5
  subst g5 g6
  subst g8
  rw [List.append_nil] at g1 g3
  refine ⟨h', ys, e, ?_, g7, by omega, ga, gc, gb⟩
  simp only [OwnF]
  exact ⟨ys, rfl, .inr ⟨id, st, clip, done, ia, by rw [g3], g1, by simp, g4⟩⟩
end
end Go.Proofs.Ytgepapgabnaonaa.PE
/- What the functions of exact statements promise; the text of a mark. -/
set_option linter.unusedVariables false
set_option linter.unusedSimpArgs false
set_option maxHeartbeats 4000000
namespace Go.Proofs.Ytgepapgabnaonaa.PE
open Go.RowKit

theorem szZ_neg {R : List U → Int → Int} : ∀ {xs : List (List U)} {l : Int}, 0 ≤ l → szZ R xs l < 0 → szZ R xs l = -1
  | [], l, h0, h => by simp only [szZ] at h; omega
  | x :: xs, l, h0, h => by
    simp only [szZ] at h ⊢
    by_cases hx : R x l < 0
    · rw [if_pos hx]
    · rw [if_neg hx] at h ⊢; exact szZ_neg (by omega) h

theorem szF_le {f : Fd} {u : U} {l : Int} (hk : okFd f = true) (h0 : 0 ≤ l) (h1 : l ≤ 1048576) : szF f u l ≤ l := by
  by_cases h : 0 ≤ szF f u l
  · exact (szF_spec (N := 1048576) f u l hk (by omega) h h0).1
  · omega
theorem szR_le {fs : List Fd} {x : List U} {l : Int} (hk : okFds fs = true) (h0 : 0 ≤ l) (h1 : l ≤ 1048576) : szR fs x l ≤ l := by
  by_cases h : 0 ≤ szR fs x l
  · exact (szR_spec (N := 1048576) fs x l hk (by omega) h h0).1
  · omega

theorem Zip2_len2 {R : List V → List U → Prop} {P : List U → Prop} : ∀ {l1 : List (List V)} {l2 : List (List U)}, Zip2 R l1 l2 → AllU P l2 → Zip2 (fun c x => R c x ∧ P x) l1 l2
  | [], [], _, _ => trivial
  | a :: l1, b :: l2, ⟨h1, h2⟩, ⟨g1, g2⟩ => ⟨⟨h1, g1⟩, Zip2_len2 h2 g2⟩
  | [], _ :: _, h, _ => h.elim
  | _ :: _, [], h, _ => h.elim
/-! ### copies -/
def ToOK (d f : Nat) (fs : List Fd) : Prop := ∀ {p : V} {xs : List (List U)}, PurF (.sub fs) p (.sub xs) → xs.length ≤ 1048576 → AllU (LenR 1048576 1048576 fs) xs → ∃ v hc ids, runD tab noExt d f [p] [] = some ([v], hc) ∧ OwnF hc (.sub fs) v (.sub xs) ids ∧ ids.Nodup

theorem own_cases {h : Heap} {fs : List Fd} {v : V} {u : U} {ids : List Nat} (ho : OwnF h (.sub fs) v u ids) : (∃ c, v = .sl c fs.length []) ∨ ∃ id st n clip, v = .ref id st 0 n clip := by
  simp only [OwnF] at ho
  obtain ⟨xs, _, ⟨c, e, _⟩ | ⟨id, st, clip, cont, r, e, _⟩⟩ := ho
  · exact .inl ⟨c, e⟩
  · exact .inr ⟨id, st, _, clip, e⟩
theorem own_call {run : Run} {h : Heap} {f : Nat} {args args' : List V} {v : V} {hc : Heap} {fs : List Fd} {u : U} {ids : List Nat} (hp : pureDAs h args = some args') (hr : run f args' [] = some ([v], hc)) (ho : OwnF hc (.sub fs) v u ids) (hn : ids.Nodup) :
    ∃ v' h' ids', callX run h 0 f args = some (v', h') ∧ OwnF h' (.sub fs) v' u ids' ∧ ids'.Nodup ∧ (∀ j ∈ ids', h.length ≤ j) ∧ (∀ j, j < h.length → h'[j]? = h[j]?) ∧ h.length ≤ h'.length := by
  have hs : [v].all scalarA = false := by
    rcases own_cases ho with ⟨c, rfl⟩ | ⟨id, st, n, clip, rfl⟩ <;> rfl
  have hf : [v].all freshA = true := by
    rcases own_cases ho with ⟨c, rfl⟩ | ⟨id, st, n, clip, rfl⟩ <;> rfl
  have ha : shA h.length v = shC h.length v := by
    rcases own_cases ho with ⟨c, rfl⟩ | ⟨id, st, n, clip, rfl⟩ <;> rfl
  refine ⟨shC h.length v, h ++ movedH h.length hc, ids.map (· + h.length), ?_, OwnF_moved _ ho, ?_, fun j hj => ?_, fun j hj => by rw [List.getElem?_append_left hj], by simp⟩
  · simp only [callX, callO, hp, hr, BackO, hs, hf, Bool.false_eq_true, if_false, if_true, List.map_cons, List.map_nil, oneOf, ha]
  · exact (List.pairwise_map.2 (List.Pairwise.imp (fun {a b} hab => by simp only [ne_eq] at hab ⊢; omega) hn))
  · obtain ⟨i, _, rfl⟩ := List.mem_map.1 hj
    omega
theorem pureDA_pur {h : Heap} {f : Fd} {p : V} {u : U} (hp : PurF f p u) : pureDA h p = some p := by
  cases f with
  | int k => simp only [PurF] at hp; obtain ⟨_, rfl, _⟩ := hp; rfl
  | bool => simp only [PurF] at hp; obtain ⟨_, rfl, _⟩ := hp; rfl
  | str => simp only [PurF] at hp; obtain ⟨_, rfl, _⟩ := hp; rfl
  | sub fs => simp only [PurF] at hp; obtain ⟨_, _, _, rfl, _⟩ := hp; rfl

def EqOK (d f : Nat) (fs : List Fd) : Prop := ∀ {p q : V} {xs : List (List U)}, PurF (.sub fs) p (.sub xs) → PurF (.sub fs) q (.sub xs) → LenF big big (.sub fs) (.sub xs) → retP (runD tab noExt d) f [p, q] = some [.bool true]

theorem digs_size : ∀ (f n : Nat) (s : ByteArray), (digs f n s).size ≤ s.size + f
  | 0, n, s => by simp [digs]
  | f + 1, n, s => by
    simp only [digs]
    split
    · omega
    · have := digs_size f (n / 10) (⟨#[UInt8.ofNat (48 + n % 10)]⟩ ++ s)
      have e : (⟨#[UInt8.ofNat (48 + n % 10)]⟩ ++ s : ByteArray).size = 1 + s.size := by rw [ByteArray.size_append]; rfl
      omega
theorem txt_size (k : Int) : (txt k).size ≤ 21 := by
  unfold txt
  split
  · decide
  · rw [ByteArray.size_append]
    have := digs_size 20 k.toNat ⟨#[]⟩
    have e : (⟨#[109]⟩ : ByteArray).size = 1 := rfl
    have e2 : (⟨#[]⟩ : ByteArray).size = 0 := rfl
    omega
-- find80
theorem loop_markText (d : Nat) : ∀ (f n K : Nat) (s : ByteArray), n < 10 ^ f → n ≤ 4611686018427387904 → s.size + f ≤ 1000 → f ≤ K → LoopS (runD tab noExt d) (drawI (runD tab noExt d)) [0, 3] [3] L80x0 0 K [(0, .int .i64 (n : Nat)), (3, .str s)] [] = some (.exit 0, [(3, .str (digs f n s))], []) := by
  intro f
  induction f with
  | zero =>
    intro n K s hn _ _ _
    have : n = 0 := by simpa using hn
    subst this
    rw [LoopS_eq]
    simp -implicitDefEqProofs only [go_sem, Nat.reduceBEq, Nat.reduceAdd, Nat.reduceSub, Nat.reduceMul, Nat.reduceLeDiff, Nat.reduceEqDiff, Nat.reduceLT, Int.reduceNeg, Int.reduceAdd, Int.reduceSub, Int.reduceMul, Int.reduceLE, Int.reduceLT, Int.reduceEq, Int.reduceToNat, reduceCtorEq, evL80x0, B80x0, Int.lt_irrefl, digs]
  | succ f ih =>
    intro n K s hn hb hs hK
    by_cases h0 : n = 0
    · subst h0
      rw [LoopS_eq]
      simp -implicitDefEqProofs only [go_sem, Nat.reduceBEq, Nat.reduceAdd, Nat.reduceSub, Nat.reduceMul, Nat.reduceLeDiff, Nat.reduceEqDiff, Nat.reduceLT, Int.reduceNeg, Int.reduceAdd, Int.reduceSub, Int.reduceMul, Int.reduceLE, Int.reduceLT, Int.reduceEq, Int.reduceToNat, reduceCtorEq, evL80x0, B80x0, Int.lt_irrefl, digs]
    · obtain ⟨K, rfl⟩ : ∃ K', K = K' + 1 := ⟨K - 1, by omega⟩
      have e1 : (0 < (n : Int)) = True := eq_true (by omega)
      have e2 : ((n : Int).tmod 10) = ((n % 10 : Nat) : Int) := by rw [Int.tmod_eq_emod_of_nonneg (by omega)]; omega
      have e3 : ((n : Int).tdiv 10) = ((n / 10 : Nat) : Int) := by rw [Int.tdiv_eq_ediv_of_nonneg (by omega)]; omega
      have e4 : UInt8.ofNat ((48 + (n % 10 : Nat) : Int)).toNat = UInt8.ofNat (48 + n % 10) := by congr 1
      have e5 : (⟨#[UInt8.ofNat (48 + n % 10)]⟩ : ByteArray).size = 1 := rfl
      have e6 : (⟨#[UInt8.ofNat (48 + n % 10)]⟩ ++ s : ByteArray).size = 1 + s.size := by rw [ByteArray.size_append]; rfl
      have hih := ih (n / 10) K (⟨#[UInt8.ofNat (48 + n % 10)]⟩ ++ s) (by rw [Nat.pow_succ] at hn; omega) (by omega) (by omega) (by omega)
      have e7 : (1 + s.size < 4294967296) = True := eq_true (by omega)
      rw [LoopS_eq]
      simp -implicitDefEqProofs (disch := omega) only [go_sem, Nat.reduceBEq, Nat.reduceAdd, Nat.reduceSub, Nat.reduceMul, Nat.reduceLeDiff, Nat.reduceEqDiff, Nat.reduceLT, Int.reduceNeg, Int.reduceAdd, Int.reduceSub, Int.reduceMul, Int.reduceLE, Int.reduceLT, Int.reduceEq, Int.reduceToNat, reduceCtorEq, evL80x0, B80x0, e1, e2, e3, IntWalk.i64_in, IntWalk.u8_in, elemsOf, elemOf, refsV, refs, refC, List.flatMap_cons, List.flatMap_nil, frzs, listOf, bytesOf, e4, e5, e7, digs, h0, hih]
theorem run_markText (d : Nat) (k : Int) (h0 : 0 ≤ k) (h1 : k ≤ 4611686018427387904) : retP (runD tab noExt (d + 1)) 80 [.int .i64 k] = some [.str (txt k)] := by
  rw [retP, runD_eq find80 _ _ _ (by simp)]
  by_cases e : k ≤ 0
  · simp -implicitDefEqProofs (disch := omega) only [go_sem, Nat.reduceBEq, Nat.reduceAdd, Nat.reduceSub, Nat.reduceMul, Nat.reduceLeDiff, Nat.reduceEqDiff, Nat.reduceLT, Int.reduceNeg, Int.reduceAdd, Int.reduceSub, Int.reduceMul, Int.reduceLE, Int.reduceLT, Int.reduceEq, Int.reduceToNat, reduceCtorEq, e, txt]
  · obtain ⟨n, rfl⟩ : ∃ n : Nat, k = n := ⟨k.toNat, by omega⟩
    have hlp := loop_markText d 20 n 1099511627775 ⟨#[]⟩ (by omega) (by omega) (by decide) (by omega)
    have hd := digs_size 20 n ⟨#[]⟩
    have e0 : (⟨#[]⟩ : ByteArray).size = 0 := rfl
    have e1 : (⟨#[109]⟩ : ByteArray).size = 1 := rfl
    have e2 : (1 + (digs 20 n ⟨#[]⟩).size < 4294967296) = True := eq_true (by omega)
    simp -implicitDefEqProofs (disch := omega) only [go_sem, Nat.reduceBEq, Nat.reduceAdd, Nat.reduceSub, Nat.reduceMul, Nat.reduceLeDiff, Nat.reduceEqDiff, Nat.reduceLT, Int.reduceNeg, Int.reduceAdd, Int.reduceSub, Int.reduceMul, Int.reduceLE, Int.reduceLT, Int.reduceEq, Int.reduceToNat, reduceCtorEq, e, txt]
    rw [hlp]
    simp -implicitDefEqProofs (disch := omega) only [go_sem, Nat.reduceBEq, Nat.reduceAdd, Nat.reduceSub, Nat.reduceMul, Nat.reduceLeDiff, Nat.reduceEqDiff, Nat.reduceLT, Int.reduceNeg, Int.reduceAdd, Int.reduceSub, Int.reduceMul, Int.reduceLE, Int.reduceLT, Int.reduceEq, Int.reduceToNat, reduceCtorEq, e1, e2]
theorem txt_big (k : Int) : LenF big big .str (.str (txt k)) := by
  have := txt_size k
  simp only [LenF]
  unfold big
  omega
def HeldOK (d f : Nat) (fs : List Fd) : Prop := ∀ {p : V} {xs : List (List U)} {k k' : Int}, PurF (.sub fs) p (.sub xs) → HeldF (.sub fs) (.sub xs) k k' → 0 ≤ k → k' ≤ 4611686018427387904 → LenF big big (.sub fs) (.sub xs) → retP (runD tab noExt d) f [p, .int .i64 k] = some [.int .i64 k']

def MarkOK (d f : Nat) (fs : List Fd) : Prop := ∀ {h : Heap} {v : V} {xs : List (List U)} {ids : List Nat} {k : Int}, OwnF h (.sub fs) v (.sub xs) ids → ids.Nodup → LenF big big (.sub fs) (.sub xs) → 0 ≤ k → k + cntF (.sub fs) (.sub xs) ≤ 4611686018427387904 →
  ∃ h' ys, callX (runD tab noExt d) h 2 f [v, .int .i64 k] = some (.int .i64 (k + cntF (.sub fs) (.sub xs)), h') ∧ OwnF h' (.sub fs) v (.sub ys) ids ∧ HeldF (.sub fs) (.sub ys) k (k + cntF (.sub fs) (.sub xs)) ∧ LenF big big (.sub fs) (.sub ys) ∧ (∀ j, j ∉ ids → h'[j]? = h[j]?) ∧ h'.length = h.length

theorem set_same {α : Type} {l : List α} {i : Nat} {x : α} (hx : l[i]? = some x) : l.set i x = l := by
  obtain ⟨hi, rfl⟩ := List.getElem?_eq_some_iff.1 hx
  exact List.set_getElem_self hi
theorem szF_int (k : IntKind) (u : U) (l : Int) : szF (.int k) u l = l := by cases u <;> simp [szF]
theorem szF_bool (u : U) (l : Int) : szF .bool u l = l := by cases u <;> simp [szF]
theorem szF_str (s : ByteArray) (l : Int) : szF .str (.str s) l = if l - s.size < 0 then -1 else l - s.size := by simp only [szF]
theorem cntF_int (k : IntKind) (u : U) : cntF (.int k) u = 1 := by cases u <;> simp [cntF]
theorem cntF_bool (u : U) : cntF .bool u = 1 := by cases u <;> simp [cntF]
theorem cntF_str (u : U) : cntF .str u = 1 := by cases u <;> simp [cntF]
theorem pureD_pur {h : Heap} {f : Fd} {p : V} {u : U} (hp : PurF f p u) (n : Nat) : pureD h n p = some p := by
  cases f with
  | int k => simp only [PurF] at hp; obtain ⟨_, rfl, _⟩ := hp; cases n <;> rfl
  | bool => simp only [PurF] at hp; obtain ⟨_, rfl, _⟩ := hp; cases n <;> rfl
  | str => simp only [PurF] at hp; obtain ⟨_, rfl, _⟩ := hp; cases n <;> rfl
  | sub fs => simp only [PurF] at hp; obtain ⟨_, _, _, rfl, _⟩ := hp; cases n <;> rfl
theorem own_callA {run : Run} {h : Heap} {f : Nat} {args args' : List V} {cs : List V} {hc : Heap} {fs : List Fd} {x : List U} {ids : List Nat} (hp : pureDAs h args = some args') (hr : run f args' [] = some ([.agg cs], hc)) (ho : OwnR hc fs cs x ids) (hn : ids.Nodup) (hs : cs.all scalar = false) :
    ∃ cs' h' ids', callX run h 0 f args = some (.agg cs', h') ∧ OwnR h' fs cs' x ids' ∧ ids'.Nodup ∧ (∀ j ∈ ids', h.length ≤ j) ∧ (∀ j, j < h.length → h'[j]? = h[j]?) ∧ h.length ≤ h'.length := by
  have hf := OwnR_fresh fs ho
  refine ⟨cs.map (shC h.length), h ++ movedH h.length hc, ids.map (· + h.length), ?_, OwnR_moved _ ho, ?_, fun j hj => ?_, fun j hj => by rw [List.getElem?_append_left hj], by simp⟩
  · simp only [callX, callO, hp, hr, BackO, List.all_cons, List.all_nil, scalarA, freshA, hs, hf, Bool.false_eq_true, Bool.false_and, Bool.true_and, if_false, if_true, List.map_cons, List.map_nil, oneOf, shA]
  · exact (List.pairwise_map.2 (List.Pairwise.imp (fun {a b} hab => by simp only [ne_eq] at hab ⊢; omega) hn))
  · obtain ⟨i, _, rfl⟩ := List.mem_map.1 hj
    omega
end Go.Proofs.Ytgepapgabnaonaa.PE
