/- Texts of this claim, one behind the other: Pv1, Pv2, Pv3, Pv5, Pw1, Pl0, Pi1, Pvs, Pvt, Pj1, Pj2, Pj3, Pd1, Pvw, Pvx, Pu1, Pu2, Pu3, Pd2, Pd3, Pr1, Pd4, Pj4, Pu4, Pu5, Pu6, Pn1, Pnr, Pvy, Pvr, Pq0, Png, Pnc, Psz, Pvq, Ph4, Pu7, Pu8, Pru, Pv4, Pv7, Pv8, Pv9, Ph5, Ph6, Pj5, Pj6. -/
import Derived.Test.YtfbjbkkcilhgjaaPeT
import Derived.Test.YtfbjbkkcilhgjaaPeX
import Derived.IntWalk
import Derived.Test.YtfbjbkkcilhgjaaPeZ
/- Values of the tables: what the small functions come to. -/
set_option linter.unusedSimpArgs false
namespace Go.Proofs.Ytfbjbkkcilhgjaa.PE
open Go.RowKit

/-- A value. -/
structure Val where
  kind : Int
  n : Int
  s : ByteArray
  deriving DecidableEq

def Val.cells (v : Val) : List V := [.int .i64 v.kind, .int .i64 v.n, .str v.s]
def Val.enc (v : Val) : V := .agg [.int .i64 v.kind, .int .i64 v.n, .str v.s]

def letterB (b : UInt8) : Bool := decide (97 ≤ (b.toNat : Int) ∧ (b.toNat : Int) ≤ 122)
def lettersB (s : ByteArray) : Bool := s.data.toList.all letterB

/-- Is a value one? -/
def Val.ok (v : Val) : Bool :=
  if v.kind = 0 then decide (v.n = 0) && decide (v.s = ⟨#[]⟩)
  else if v.kind = 1 then decide (v.s = ⟨#[]⟩) && (decide (-9999 ≤ v.n) && decide (v.n ≤ 9999))
  else if v.kind = 2 then decide (v.n = 0) && decide ((v.s.size : Int) ≤ 6) && lettersB v.s
  else if v.kind = 3 then decide (v.s = ⟨#[]⟩) && (decide (0 ≤ v.n) && decide (v.n ≤ 1))
  else false

theorem run_between (d : Nat) (n lo hi : Int) : retP (runD tab noExt (d + 1)) 79 [.int .i64 n, .int .i64 lo, .int .i64 hi] = some [.bool (decide (lo ≤ n ∧ n ≤ hi))] := by
  rw [retP, runD_eq find79 _ _ _ (by simp)]
  simp -implicitDefEqProofs (disch := omega) only [go_sem, Nat.reduceBEq, Nat.reduceAdd, Nat.reduceSub, Nat.reduceMul, Nat.reduceLeDiff, Nat.reduceEqDiff, Nat.reduceLT, Int.reduceNeg, Int.reduceAdd, Int.reduceSub, Int.reduceMul, Int.reduceLE, Int.reduceLT, Int.reduceEq, Int.reduceToNat, reduceCtorEq]
  repeat' ((first | rw [GuardI_ndec] | rw [CondC_ndec] | rw [GuardQ_ndec] | rw [GuardI_dec] | rw [CondC_dec] | rw [GuardQ_dec] | rw [GuardI_nby] | rw [CondC_nby] | rw [GuardQ_nby] | rw [GuardQ_by] | rw [GuardI_by] | rw [CondC_by]) <;> split <;> simp -implicitDefEqProofs (disch := omega) only [go_sem, Nat.reduceBEq, Nat.reduceAdd, Nat.reduceSub, Nat.reduceMul, Nat.reduceLeDiff, Nat.reduceEqDiff, Nat.reduceLT, Int.reduceNeg, Int.reduceAdd, Int.reduceSub, Int.reduceMul, Int.reduceLE, Int.reduceLT, Int.reduceEq, Int.reduceToNat, reduceCtorEq, *])
  all_goals simp_all
theorem run_l1In (d : Nat) (n lo hi : Int) : retP (runD tab noExt (d + 1)) 84 [.int .i64 n, .int .i64 lo, .int .i64 hi] = some [.bool (decide (lo ≤ n ∧ n ≤ hi))] := by
  rw [retP, runD_eq find84 _ _ _ (by simp)]
  simp -implicitDefEqProofs (disch := omega) only [go_sem, Nat.reduceBEq, Nat.reduceAdd, Nat.reduceSub, Nat.reduceMul, Nat.reduceLeDiff, Nat.reduceEqDiff, Nat.reduceLT, Int.reduceNeg, Int.reduceAdd, Int.reduceSub, Int.reduceMul, Int.reduceLE, Int.reduceLT, Int.reduceEq, Int.reduceToNat, reduceCtorEq]
  repeat' ((first | rw [GuardI_ndec] | rw [CondC_ndec] | rw [GuardQ_ndec] | rw [GuardI_dec] | rw [CondC_dec] | rw [GuardQ_dec] | rw [GuardI_nby] | rw [CondC_nby] | rw [GuardQ_nby] | rw [GuardQ_by] | rw [GuardI_by] | rw [CondC_by]) <;> split <;> simp -implicitDefEqProofs (disch := omega) only [go_sem, Nat.reduceBEq, Nat.reduceAdd, Nat.reduceSub, Nat.reduceMul, Nat.reduceLeDiff, Nat.reduceEqDiff, Nat.reduceLT, Int.reduceNeg, Int.reduceAdd, Int.reduceSub, Int.reduceMul, Int.reduceLE, Int.reduceLT, Int.reduceEq, Int.reduceToNat, reduceCtorEq, *])
  all_goals simp_all

theorem str_len (s : ByteArray) : s.data.toList.length = s.size := by rw [Array.length_toList]; rfl
/-- From an index on to the end. -/
theorem drop_ind {α : Type} (l : List α) (M : Nat → List α → Prop) (h0 : M l.length []) (h1 : ∀ i x r, i < l.length → l[i]? = some x → M (i + 1) r → M i (x :: r)) : ∀ rest i, l.drop i = rest → i ≤ l.length → M i rest
  | [], i, hd, hi => by
    have := List.drop_eq_nil_iff.1 hd
    have e : i = l.length := by omega
    subst e
    exact h0
  | x :: r, i, hd, hi => by
    have hlt : i < l.length := by
      rcases Nat.lt_or_ge i l.length with h2 | h2
      · exact h2
      · rw [List.drop_eq_nil_of_le h2] at hd; cases hd
    have hx : l[i]? = some x := by rw [← List.head?_drop, hd]; rfl
    have hr : l.drop (i + 1) = r := by rw [← List.drop_drop, hd]; rfl
    exact h1 i x r hlt hx (drop_ind l M h0 h1 r (i + 1) hr (by omega))

theorem ofBytes_at {l : List UInt8} {i : Nat} {b : UInt8} (h : l[i]? = some b) : (cellsOfBytes l)[i]? = some [.int .u8 b.toNat] := by simp [cellsOfBytes, h]

theorem loop_letters (d : Nat) (draw : Draw) (l : List UInt8) (hl : l.length < 1099511627776) : ∀ (rest : List UInt8) (i : Nat), l.drop i = rest → i ≤ l.length → ∀ k, rest.length ≤ k →
    LoopS (runD tab noExt (d + 1)) draw [6, 7, 8] [2] L150x0 0 k [(6, .sl false 1 (cellsOfBytes l)), (7, .int .i64 l.length), (8, .int .i64 i)] [] =
    if rest.all letterB then some (.exit 0, [(2, .undef)], []) else some (.ret, [(2, .bool false)], []) := by
  refine drop_ind l (fun i rest => _) ?_ ?_
  · intro k hk
    rw [LoopS_eq]
    simp [go_sem, Nat.reduceBEq, Nat.reduceAdd, Nat.reduceSub, Nat.reduceMul, Nat.reduceLeDiff, Nat.reduceEqDiff, Nat.reduceLT, Int.reduceNeg, Int.reduceAdd, Int.reduceSub, Int.reduceMul, Int.reduceLE, Int.reduceLT, Int.reduceEq, Int.reduceToNat, reduceCtorEq, evL150x0, B150x0, Int.lt_irrefl]
  · intro i b r hlt hb ih k hk
    have hi : (i : Int) < l.length := by omega
    have hb8 := b.toNat_lt
    obtain ⟨k, rfl⟩ : ∃ k', k = k' + 1 := ⟨k - 1, by simp at hk; omega⟩
    have ih' := ih k (by simp at hk; omega)
    simp only [Int.natCast_add, Int.natCast_one] at ih'
    rw [LoopS_eq]
    simp -implicitDefEqProofs (disch := omega) only [go_sem, Nat.reduceBEq, Nat.reduceAdd, Nat.reduceSub, Nat.reduceMul, Nat.reduceLeDiff, Nat.reduceEqDiff, Nat.reduceLT, Int.reduceNeg, Int.reduceAdd, Int.reduceSub, Int.reduceMul, Int.reduceLE, Int.reduceLT, Int.reduceEq, Int.reduceToNat, reduceCtorEq, evL150x0, B150x0, hi, ofBytes_at hb, run_between, IntWalk.i64_in]
    have e1 : letterB b = decide (97 ≤ (b.toNat : Int) ∧ (b.toNat : Int) ≤ 122) := rfl
    rw [← e1]
    rcases Bool.eq_false_or_eq_true (letterB b) with hlb | hlb
    · simp -implicitDefEqProofs (disch := omega) only [go_sem, Nat.reduceBEq, Nat.reduceAdd, Nat.reduceSub, Nat.reduceMul, Nat.reduceLeDiff, Nat.reduceEqDiff, Nat.reduceLT, Int.reduceNeg, Int.reduceAdd, Int.reduceSub, Int.reduceMul, Int.reduceLE, Int.reduceLT, Int.reduceEq, Int.reduceToNat, reduceCtorEq, hlb, IntWalk.i64_in, ih']
    · simp -implicitDefEqProofs only [go_sem, Nat.reduceBEq, Nat.reduceAdd, Nat.reduceSub, Nat.reduceMul, Nat.reduceLeDiff, Nat.reduceEqDiff, Nat.reduceLT, Int.reduceNeg, Int.reduceAdd, Int.reduceSub, Int.reduceMul, Int.reduceLE, Int.reduceLT, Int.reduceEq, Int.reduceToNat, reduceCtorEq, hlb]

theorem loop_l1Text (d : Nat) (draw : Draw) (s : ByteArray) (hl : s.size < 1099511627776) : ∀ (rest : List UInt8) (i : Nat), s.data.toList.drop i = rest → i ≤ s.data.toList.length → ∀ k, rest.length ≤ k →
    LoopS (runD tab noExt d) draw [0, 3] [0, 2] L152x0 0 k [(0, .str s), (3, .int .i64 i)] [] =
    if rest.all letterB then some (.exit 0, [(0, .str s), (2, .undef)], []) else some (.ret, [(0, .str s), (2, .bool false)], []) := by
  have hsz := str_len s
  refine drop_ind s.data.toList (fun i rest => _) ?_ ?_
  · intro k hk
    rw [LoopS_eq, hsz]
    simp [go_sem, Nat.reduceBEq, Nat.reduceAdd, Nat.reduceSub, Nat.reduceMul, Nat.reduceLeDiff, Nat.reduceEqDiff, Nat.reduceLT, Int.reduceNeg, Int.reduceAdd, Int.reduceSub, Int.reduceMul, Int.reduceLE, Int.reduceLT, Int.reduceEq, Int.reduceToNat, reduceCtorEq, evL152x0, B152x0, Int.lt_irrefl]
  · intro i b r hlt hb ih k hk
    have hi : (i : Int) < s.size := by omega
    have hb8 := b.toNat_lt
    obtain ⟨k, rfl⟩ : ∃ k', k = k' + 1 := ⟨k - 1, by simp at hk; omega⟩
    have ih' := ih k (by simp at hk; omega)
    simp only [Int.natCast_add, Int.natCast_one] at ih'
    rw [LoopS_eq]
    simp -implicitDefEqProofs (disch := omega) only [go_sem, Nat.reduceBEq, Nat.reduceAdd, Nat.reduceSub, Nat.reduceMul, Nat.reduceLeDiff, Nat.reduceEqDiff, Nat.reduceLT, Int.reduceNeg, Int.reduceAdd, Int.reduceSub, Int.reduceMul, Int.reduceLE, Int.reduceLT, Int.reduceEq, Int.reduceToNat, reduceCtorEq, evL152x0, B152x0, hi, hb, IntWalk.i64_in]
    have e1 : letterB b = decide (97 ≤ (b.toNat : Int) ∧ (b.toNat : Int) ≤ 122) := rfl
    by_cases h1 : (b.toNat : Int) < 97
    · have hlb : letterB b = false := by rw [e1]; simp; omega
      simp -implicitDefEqProofs (disch := omega) only [go_sem, Nat.reduceBEq, Nat.reduceAdd, Nat.reduceSub, Nat.reduceMul, Nat.reduceLeDiff, Nat.reduceEqDiff, Nat.reduceLT, Int.reduceNeg, Int.reduceAdd, Int.reduceSub, Int.reduceMul, Int.reduceLE, Int.reduceLT, Int.reduceEq, Int.reduceToNat, reduceCtorEq, h1, hlb]
    · by_cases h2 : 122 < (b.toNat : Int)
      · have hlb : letterB b = false := by rw [e1]; simp; omega
        simp -implicitDefEqProofs (disch := omega) only [go_sem, Nat.reduceBEq, Nat.reduceAdd, Nat.reduceSub, Nat.reduceMul, Nat.reduceLeDiff, Nat.reduceEqDiff, Nat.reduceLT, Int.reduceNeg, Int.reduceAdd, Int.reduceSub, Int.reduceMul, Int.reduceLE, Int.reduceLT, Int.reduceEq, Int.reduceToNat, reduceCtorEq, hb, h1, h2, hlb]
      · have hlb : letterB b = true := by rw [e1]; simp; omega
        simp -implicitDefEqProofs (disch := omega) only [go_sem, Nat.reduceBEq, Nat.reduceAdd, Nat.reduceSub, Nat.reduceMul, Nat.reduceLeDiff, Nat.reduceEqDiff, Nat.reduceLT, Int.reduceNeg, Int.reduceAdd, Int.reduceSub, Int.reduceMul, Int.reduceLE, Int.reduceLT, Int.reduceEq, Int.reduceToNat, reduceCtorEq, hb, h1, h2, hlb, IntWalk.i64_in, ih']

-- find150
theorem run_letters (d : Nat) (s : ByteArray) (hs : s.size < 1099511627776) : retP (runD tab noExt (d + 2)) 150 [.str s] = some [.bool (lettersB s)] := by
  rw [retP, runD_eq find150 _ _ _ (by simp)]
  have hl := loop_letters d (drawI (runD tab noExt (d + 1))) s.data.toList (by rw [str_len]; exact hs) s.data.toList 0 rfl (Nat.zero_le _) 1099511627775 (by rw [str_len]; omega)
  simp -implicitDefEqProofs only [go_sem, Nat.reduceBEq, Nat.reduceAdd, Nat.reduceSub, Nat.reduceMul, Nat.reduceLeDiff, Nat.reduceEqDiff, Nat.reduceLT, Int.reduceNeg, Int.reduceAdd, Int.reduceSub, Int.reduceMul, Int.reduceLE, Int.reduceLT, Int.reduceEq, Int.reduceToNat, reduceCtorEq, cellsOfBytes, List.length_map]
  simp only [cellsOfBytes, Int.natCast_zero] at hl
  rw [hl]
  split <;> simp -implicitDefEqProofs only [go_sem, Nat.reduceBEq, Nat.reduceAdd, Nat.reduceSub, Nat.reduceMul, Nat.reduceLeDiff, Nat.reduceEqDiff, Nat.reduceLT, Int.reduceNeg, Int.reduceAdd, Int.reduceSub, Int.reduceMul, Int.reduceLE, Int.reduceLT, Int.reduceEq, Int.reduceToNat, reduceCtorEq, lettersB, *]

theorem Val.eta (v : Val) : (⟨v.kind, v.n, v.s⟩ : Val) = v := rfl

theorem run_ok (d : Nat) (k n : Int) (s : ByteArray) : retP (runD tab noExt (d + 3)) 96 [.agg [.int .i64 k, .int .i64 n, .str s]] = some [.bool (Val.ok ⟨k, n, s⟩)] := by
  rw [retP, runD_eq find96 _ _ _ (by simp)]
  simp -implicitDefEqProofs (disch := omega) only [go_sem, Nat.reduceBEq, Nat.reduceAdd, Nat.reduceSub, Nat.reduceMul, Nat.reduceLeDiff, Nat.reduceEqDiff, Nat.reduceLT, Int.reduceNeg, Int.reduceAdd, Int.reduceSub, Int.reduceMul, Int.reduceLE, Int.reduceLT, Int.reduceEq, Int.reduceToNat, reduceCtorEq, run_between, run_letters]
  repeat' ((first | rw [GuardI_ndec] | rw [CondC_ndec] | rw [GuardQ_ndec] | rw [GuardI_dec] | rw [CondC_dec] | rw [GuardQ_dec] | rw [GuardI_nby] | rw [CondC_nby] | rw [GuardQ_nby] | rw [GuardQ_by] | rw [GuardI_by] | rw [CondC_by]) <;> split <;> simp -implicitDefEqProofs (disch := omega) only [go_sem, Nat.reduceBEq, Nat.reduceAdd, Nat.reduceSub, Nat.reduceMul, Nat.reduceLeDiff, Nat.reduceEqDiff, Nat.reduceLT, Int.reduceNeg, Int.reduceAdd, Int.reduceSub, Int.reduceMul, Int.reduceLE, Int.reduceLT, Int.reduceEq, Int.reduceToNat, reduceCtorEq, run_between, run_letters, *])
  all_goals (simp_all [Val.ok]; try omega)
theorem run_ValueOk (d : Nat) (k n : Int) (s : ByteArray) : retP (runD tab noExt (d + 4)) 72 [.agg [.int .i64 k, .int .i64 n, .str s]] = some [.bool (Val.ok ⟨k, n, s⟩)] := by
  rw [retP, runD_eq find72 _ _ _ (by simp)]
  simp -implicitDefEqProofs (disch := omega) only [go_sem, Nat.reduceBEq, Nat.reduceAdd, Nat.reduceSub, Nat.reduceMul, Nat.reduceLeDiff, Nat.reduceEqDiff, Nat.reduceLT, Int.reduceNeg, Int.reduceAdd, Int.reduceSub, Int.reduceMul, Int.reduceLE, Int.reduceLT, Int.reduceEq, Int.reduceToNat, reduceCtorEq, run_ok]
  repeat' ((first | rw [GuardI_ndec] | rw [CondC_ndec] | rw [GuardQ_ndec] | rw [GuardI_dec] | rw [CondC_dec] | rw [GuardQ_dec] | rw [GuardI_nby] | rw [CondC_nby] | rw [GuardQ_nby] | rw [GuardQ_by] | rw [GuardI_by] | rw [CondC_by]) <;> split <;> simp -implicitDefEqProofs (disch := omega) only [go_sem, Nat.reduceBEq, Nat.reduceAdd, Nat.reduceSub, Nat.reduceMul, Nat.reduceLeDiff, Nat.reduceEqDiff, Nat.reduceLT, Int.reduceNeg, Int.reduceAdd, Int.reduceSub, Int.reduceMul, Int.reduceLE, Int.reduceLT, Int.reduceEq, Int.reduceToNat, reduceCtorEq, run_ok, *])
  all_goals simp_all
theorem run_isNaNI (d : Nat) (a : Int) : retP (runD tab noExt (d + 1)) 183 [.int .i64 a] = some [.bool false] := by
  rw [retP, runD_eq find183 _ _ _ (by simp)]
  simp -implicitDefEqProofs (disch := omega) only [go_sem, Nat.reduceBEq, Nat.reduceAdd, Nat.reduceSub, Nat.reduceMul, Nat.reduceLeDiff, Nat.reduceEqDiff, Nat.reduceLT, Int.reduceNeg, Int.reduceAdd, Int.reduceSub, Int.reduceMul, Int.reduceLE, Int.reduceLT, Int.reduceEq, Int.reduceToNat, reduceCtorEq]
  repeat' ((first | rw [GuardI_ndec] | rw [CondC_ndec] | rw [GuardQ_ndec] | rw [GuardI_dec] | rw [CondC_dec] | rw [GuardQ_dec] | rw [GuardI_nby] | rw [CondC_nby] | rw [GuardQ_nby] | rw [GuardQ_by] | rw [GuardI_by] | rw [CondC_by]) <;> split <;> simp -implicitDefEqProofs (disch := omega) only [go_sem, Nat.reduceBEq, Nat.reduceAdd, Nat.reduceSub, Nat.reduceMul, Nat.reduceLeDiff, Nat.reduceEqDiff, Nat.reduceLT, Int.reduceNeg, Int.reduceAdd, Int.reduceSub, Int.reduceMul, Int.reduceLE, Int.reduceLT, Int.reduceEq, Int.reduceToNat, reduceCtorEq, *])
  all_goals simp_all
theorem run_isNaNS (d : Nat) (a : ByteArray) : retP (runD tab noExt (d + 1)) 187 [.str a] = some [.bool false] := by
  rw [retP, runD_eq find187 _ _ _ (by simp)]
  simp -implicitDefEqProofs (disch := omega) only [go_sem, Nat.reduceBEq, Nat.reduceAdd, Nat.reduceSub, Nat.reduceMul, Nat.reduceLeDiff, Nat.reduceEqDiff, Nat.reduceLT, Int.reduceNeg, Int.reduceAdd, Int.reduceSub, Int.reduceMul, Int.reduceLE, Int.reduceLT, Int.reduceEq, Int.reduceToNat, reduceCtorEq]
  repeat' ((first | rw [GuardI_ndec] | rw [CondC_ndec] | rw [GuardQ_ndec] | rw [GuardI_dec] | rw [CondC_dec] | rw [GuardQ_dec] | rw [GuardI_nby] | rw [CondC_nby] | rw [GuardQ_nby] | rw [GuardQ_by] | rw [GuardI_by] | rw [CondC_by]) <;> split <;> simp -implicitDefEqProofs (disch := omega) only [go_sem, Nat.reduceBEq, Nat.reduceAdd, Nat.reduceSub, Nat.reduceMul, Nat.reduceLeDiff, Nat.reduceEqDiff, Nat.reduceLT, Int.reduceNeg, Int.reduceAdd, Int.reduceSub, Int.reduceMul, Int.reduceLE, Int.reduceLT, Int.reduceEq, Int.reduceToNat, reduceCtorEq, *])
  all_goals simp_all

def cmpI (a b : Int) : Int := if a < b then -1 else if b < a then 1 else 0
def ltS (a b : ByteArray) : Bool := decide (a.data.toList < b.data.toList)
def cmpS (a b : ByteArray) : Int := if ltS a b then -1 else if ltS b a then 1 else 0
theorem str_lt (a b : ByteArray) : Op.bytesLess a.toList b.toList = ltS a b := by rw [bytes_less, ByteArray.toList_eq, ByteArray.toList_eq]; rfl
theorem str_gt (a b : ByteArray) : (!(ltS a b || decide (a = b))) = ltS b a := by
  unfold ltS
  by_cases h : a = b
  · subst h
    simp [List.lt_irrefl]
  · simp only [h, decide_false, Bool.or_false]
    have hne : a.data.toList ≠ b.data.toList := fun e => h (by
      cases a; cases b
      congr 1
      exact Array.toList_inj.1 e)
    by_cases h1 : a.data.toList < b.data.toList
    · have := List.lt_asymm h1
      simp [h1, this]
    · have h2 : b.data.toList ≤ a.data.toList := List.not_lt.1 h1
      have h3 : b.data.toList < a.data.toList := by
        rcases Classical.em (b.data.toList < a.data.toList) with h3 | h3
        · exact h3
        · exact absurd (List.le_antisymm (List.not_lt.1 h3) h2) hne
      simp [h1, h3]

theorem run_cmpI (d : Nat) (a b : Int) : retP (runD tab noExt (d + 2)) 147 [.int .i64 a, .int .i64 b] = some [.int .i64 (cmpI a b)] := by
  rw [retP, runD_eq find147 _ _ _ (by simp)]
  simp -implicitDefEqProofs (disch := omega) only [go_sem, Nat.reduceBEq, Nat.reduceAdd, Nat.reduceSub, Nat.reduceMul, Nat.reduceLeDiff, Nat.reduceEqDiff, Nat.reduceLT, Int.reduceNeg, Int.reduceAdd, Int.reduceSub, Int.reduceMul, Int.reduceLE, Int.reduceLT, Int.reduceEq, Int.reduceToNat, reduceCtorEq, run_isNaNI]
  repeat' ((first | rw [GuardI_ndec] | rw [CondC_ndec] | rw [GuardQ_ndec] | rw [GuardI_dec] | rw [CondC_dec] | rw [GuardQ_dec] | rw [GuardI_nby] | rw [CondC_nby] | rw [GuardQ_nby] | rw [GuardQ_by] | rw [GuardI_by] | rw [CondC_by]) <;> split <;> simp -implicitDefEqProofs (disch := omega) only [go_sem, Nat.reduceBEq, Nat.reduceAdd, Nat.reduceSub, Nat.reduceMul, Nat.reduceLeDiff, Nat.reduceEqDiff, Nat.reduceLT, Int.reduceNeg, Int.reduceAdd, Int.reduceSub, Int.reduceMul, Int.reduceLE, Int.reduceLT, Int.reduceEq, Int.reduceToNat, reduceCtorEq, run_isNaNI, *])
  all_goals (first | (simp_all [cmpI]; done) | (unfold cmpI; split <;> (try split) <;> simp_all <;> omega))
theorem run_cmpS (d : Nat) (a b : ByteArray) : retP (runD tab noExt (d + 2)) 154 [.str a, .str b] = some [.int .i64 (cmpS a b)] := by
  rw [retP, runD_eq find154 _ _ _ (by simp)]
  simp -implicitDefEqProofs (disch := omega) only [go_sem, Nat.reduceBEq, Nat.reduceAdd, Nat.reduceSub, Nat.reduceMul, Nat.reduceLeDiff, Nat.reduceEqDiff, Nat.reduceLT, Int.reduceNeg, Int.reduceAdd, Int.reduceSub, Int.reduceMul, Int.reduceLE, Int.reduceLT, Int.reduceEq, Int.reduceToNat, reduceCtorEq, run_isNaNS, str_lt, str_gt]
  repeat' ((first | rw [GuardI_ndec] | rw [CondC_ndec] | rw [GuardQ_ndec] | rw [GuardI_dec] | rw [CondC_dec] | rw [GuardQ_dec] | rw [GuardI_nby] | rw [CondC_nby] | rw [GuardQ_nby] | rw [GuardQ_by] | rw [GuardI_by] | rw [CondC_by]) <;> split <;> simp -implicitDefEqProofs (disch := omega) only [go_sem, Nat.reduceBEq, Nat.reduceAdd, Nat.reduceSub, Nat.reduceMul, Nat.reduceLeDiff, Nat.reduceEqDiff, Nat.reduceLT, Int.reduceNeg, Int.reduceAdd, Int.reduceSub, Int.reduceMul, Int.reduceLE, Int.reduceLT, Int.reduceEq, Int.reduceToNat, reduceCtorEq, run_isNaNS, str_lt, str_gt, *])
  all_goals (simp_all [cmpS]; try (have := str_gt a b; simp_all))

/-- The order of values. -/
def Val.cmp (v w : Val) : Int := if cmpI v.kind w.kind ≠ 0 then cmpI v.kind w.kind else if cmpI v.n w.n ≠ 0 then cmpI v.n w.n else cmpS v.s w.s

theorem run_Or3 (d : Nat) (a b c : Int) : retP (runD tab noExt (d + 1)) 145 [.sl true 1 [[.int .i64 a], [.int .i64 b], [.int .i64 c]]] = some [.int .i64 (if a ≠ 0 then a else if b ≠ 0 then b else c)] := by
  rw [retP, runD_eq find145 _ _ _ (by simp)]
  simp -implicitDefEqProofs (disch := omega) only [go_sem, Nat.reduceBEq, Nat.reduceAdd, Nat.reduceSub, Nat.reduceMul, Nat.reduceLeDiff, Nat.reduceEqDiff, Nat.reduceLT, Int.reduceNeg, Int.reduceAdd, Int.reduceSub, Int.reduceMul, Int.reduceLE, Int.reduceLT, Int.reduceEq, Int.reduceToNat, reduceCtorEq, LoopS_eq, evL145x0, B145x0, IntWalk.i64_in, Int.cast_ofNat_Int]
  repeat' ((first | rw [GuardI_ndec] | rw [CondC_ndec] | rw [GuardQ_ndec] | rw [GuardI_dec] | rw [CondC_dec] | rw [GuardQ_dec] | rw [GuardI_nby] | rw [CondC_nby] | rw [GuardQ_nby] | rw [GuardQ_by] | rw [GuardI_by] | rw [CondC_by]) <;> split <;> simp -implicitDefEqProofs (disch := omega) only [go_sem, Nat.reduceBEq, Nat.reduceAdd, Nat.reduceSub, Nat.reduceMul, Nat.reduceLeDiff, Nat.reduceEqDiff, Nat.reduceLT, Int.reduceNeg, Int.reduceAdd, Int.reduceSub, Int.reduceMul, Int.reduceLE, Int.reduceLT, Int.reduceEq, Int.reduceToNat, reduceCtorEq, LoopS_eq, evL145x0, B145x0, IntWalk.i64_in, Int.cast_ofNat_Int, *])
  all_goals simp_all
theorem run_order (d : Nat) (k n : Int) (s : ByteArray) (k' n' : Int) (s' : ByteArray) : retP (runD tab noExt (d + 3)) 108 [.agg [.int .i64 k, .int .i64 n, .str s], .agg [.int .i64 k', .int .i64 n', .str s']] = some [.int .i64 (Val.cmp ⟨k, n, s⟩ ⟨k', n', s'⟩)] := by
  rw [retP, runD_eq find108 _ _ _ (by simp)]
  simp -implicitDefEqProofs (disch := omega) only [go_sem, Nat.reduceBEq, Nat.reduceAdd, Nat.reduceSub, Nat.reduceMul, Nat.reduceLeDiff, Nat.reduceEqDiff, Nat.reduceLT, Int.reduceNeg, Int.reduceAdd, Int.reduceSub, Int.reduceMul, Int.reduceLE, Int.reduceLT, Int.reduceEq, Int.reduceToNat, reduceCtorEq, run_cmpI, run_cmpS, run_Or3, evC_draw, evD108x0, E108x0, elemsOf, elemOf, refsV, refs, refC, List.flatMap_cons, List.flatMap_nil, frzs, List.append_nil, Val.cmp]
  repeat' ((first | rw [GuardI_ndec] | rw [CondC_ndec] | rw [GuardQ_ndec] | rw [GuardI_dec] | rw [CondC_dec] | rw [GuardQ_dec] | rw [GuardI_nby] | rw [CondC_nby] | rw [GuardQ_nby] | rw [GuardQ_by] | rw [GuardI_by] | rw [CondC_by]) <;> split <;> simp -implicitDefEqProofs (disch := omega) only [go_sem, Nat.reduceBEq, Nat.reduceAdd, Nat.reduceSub, Nat.reduceMul, Nat.reduceLeDiff, Nat.reduceEqDiff, Nat.reduceLT, Int.reduceNeg, Int.reduceAdd, Int.reduceSub, Int.reduceMul, Int.reduceLE, Int.reduceLT, Int.reduceEq, Int.reduceToNat, reduceCtorEq, run_cmpI, run_cmpS, run_Or3, evC_draw, evD108x0, E108x0, elemsOf, elemOf, refsV, refs, refC, List.flatMap_cons, List.flatMap_nil, frzs, List.append_nil, Val.cmp, *])
  all_goals simp_all

-- find152
theorem run_l1Text (d : Nat) (s : ByteArray) (hs : s.size < 1099511627776) : retP (runD tab noExt (d + 1)) 152 [.str s] = some [.bool (lettersB s && decide ((s.size : Int) ≤ 6))] := by
  rw [retP, runD_eq find152 _ _ _ (by simp)]
  have hl := loop_l1Text d (drawI (runD tab noExt d)) s hs s.data.toList 0 rfl (Nat.zero_le _) 1099511627775 (by rw [str_len]; omega)
  simp only [Int.natCast_zero] at hl
  simp -implicitDefEqProofs only [go_sem, Nat.reduceBEq, Nat.reduceAdd, Nat.reduceSub, Nat.reduceMul, Nat.reduceLeDiff, Nat.reduceEqDiff, Nat.reduceLT, Int.reduceNeg, Int.reduceAdd, Int.reduceSub, Int.reduceMul, Int.reduceLE, Int.reduceLT, Int.reduceEq, Int.reduceToNat, reduceCtorEq]
  rw [hl]
  split <;> simp -implicitDefEqProofs only [go_sem, Nat.reduceBEq, Nat.reduceAdd, Nat.reduceSub, Nat.reduceMul, Nat.reduceLeDiff, Nat.reduceEqDiff, Nat.reduceLT, Int.reduceNeg, Int.reduceAdd, Int.reduceSub, Int.reduceMul, Int.reduceLE, Int.reduceLT, Int.reduceEq, Int.reduceToNat, reduceCtorEq, lettersB, *]

theorem run_specValueOk (d : Nat) (k n : Int) (s : ByteArray) (hs : s.size < 1099511627776) : retP (runD tab noExt (d + 2)) 101 [.agg [.int .i64 k, .int .i64 n, .str s]] = some [.bool (Val.ok ⟨k, n, s⟩)] := by
  rw [retP, runD_eq find101 _ _ _ (by simp)]
  simp -implicitDefEqProofs (disch := omega) only [go_sem, Nat.reduceBEq, Nat.reduceAdd, Nat.reduceSub, Nat.reduceMul, Nat.reduceLeDiff, Nat.reduceEqDiff, Nat.reduceLT, Int.reduceNeg, Int.reduceAdd, Int.reduceSub, Int.reduceMul, Int.reduceLE, Int.reduceLT, Int.reduceEq, Int.reduceToNat, reduceCtorEq, run_l1In, run_l1Text]
  repeat' ((first | rw [GuardI_ndec] | rw [CondC_ndec] | rw [GuardQ_ndec] | rw [GuardI_dec] | rw [CondC_dec] | rw [GuardQ_dec] | rw [GuardI_nby] | rw [CondC_nby] | rw [GuardQ_nby] | rw [GuardQ_by] | rw [GuardI_by] | rw [CondC_by]) <;> split <;> simp -implicitDefEqProofs (disch := omega) only [go_sem, Nat.reduceBEq, Nat.reduceAdd, Nat.reduceSub, Nat.reduceMul, Nat.reduceLeDiff, Nat.reduceEqDiff, Nat.reduceLT, Int.reduceNeg, Int.reduceAdd, Int.reduceSub, Int.reduceMul, Int.reduceLE, Int.reduceLT, Int.reduceEq, Int.reduceToNat, reduceCtorEq, run_l1In, run_l1Text, *])
  all_goals (simp_all [Val.ok, Bool.and_comm]; try omega)
theorem run_l1Less (d : Nat) (a b : Int) : retP (runD tab noExt (d + 1)) 155 [.int .i64 a, .int .i64 b] = some [.int .i64 (if a < b then 1 else 0)] := by
  rw [retP, runD_eq find155 _ _ _ (by simp)]
  simp -implicitDefEqProofs (disch := omega) only [go_sem, Nat.reduceBEq, Nat.reduceAdd, Nat.reduceSub, Nat.reduceMul, Nat.reduceLeDiff, Nat.reduceEqDiff, Nat.reduceLT, Int.reduceNeg, Int.reduceAdd, Int.reduceSub, Int.reduceMul, Int.reduceLE, Int.reduceLT, Int.reduceEq, Int.reduceToNat, reduceCtorEq]
  repeat' ((first | rw [GuardI_ndec] | rw [CondC_ndec] | rw [GuardQ_ndec] | rw [GuardI_dec] | rw [CondC_dec] | rw [GuardQ_dec] | rw [GuardI_nby] | rw [CondC_nby] | rw [GuardQ_nby] | rw [GuardQ_by] | rw [GuardI_by] | rw [CondC_by]) <;> split <;> simp -implicitDefEqProofs (disch := omega) only [go_sem, Nat.reduceBEq, Nat.reduceAdd, Nat.reduceSub, Nat.reduceMul, Nat.reduceLeDiff, Nat.reduceEqDiff, Nat.reduceLT, Int.reduceNeg, Int.reduceAdd, Int.reduceSub, Int.reduceMul, Int.reduceLE, Int.reduceLT, Int.reduceEq, Int.reduceToNat, reduceCtorEq, *])
  all_goals simp_all
theorem run_l1Cmp (d : Nat) (a b : ByteArray) : retP (runD tab noExt (d + 1)) 156 [.str a, .str b] = some [.int .i64 (cmpS a b)] := by
  rw [retP, runD_eq find156 _ _ _ (by simp)]
  simp -implicitDefEqProofs (disch := omega) only [go_sem, Nat.reduceBEq, Nat.reduceAdd, Nat.reduceSub, Nat.reduceMul, Nat.reduceLeDiff, Nat.reduceEqDiff, Nat.reduceLT, Int.reduceNeg, Int.reduceAdd, Int.reduceSub, Int.reduceMul, Int.reduceLE, Int.reduceLT, Int.reduceEq, Int.reduceToNat, reduceCtorEq, str_lt, str_gt]
  repeat' ((first | rw [GuardI_ndec] | rw [CondC_ndec] | rw [GuardQ_ndec] | rw [GuardI_dec] | rw [CondC_dec] | rw [GuardQ_dec] | rw [GuardI_nby] | rw [CondC_nby] | rw [GuardQ_nby] | rw [GuardQ_by] | rw [GuardI_by] | rw [CondC_by]) <;> split <;> simp -implicitDefEqProofs (disch := omega) only [go_sem, Nat.reduceBEq, Nat.reduceAdd, Nat.reduceSub, Nat.reduceMul, Nat.reduceLeDiff, Nat.reduceEqDiff, Nat.reduceLT, Int.reduceNeg, Int.reduceAdd, Int.reduceSub, Int.reduceMul, Int.reduceLE, Int.reduceLT, Int.reduceEq, Int.reduceToNat, reduceCtorEq, str_lt, str_gt, *])
  all_goals (simp_all [cmpS]; try (have := str_gt a b; simp_all))
end Go.Proofs.Ytfbjbkkcilhgjaa.PE
/- What is known of values: what the functions come to. -/
set_option linter.unusedSimpArgs false
namespace Go.Proofs.Ytfbjbkkcilhgjaa.PE
open Go.RowKit

/-- What is known of values. -/
structure Kn where
  many : Int
  sum : Int
  least : Val
  most : Val
  deriving DecidableEq

def Val.ord (v w : Val) : Int := if v.ok && w.ok then v.cmp w else 0
def Val.zero : Val := ⟨0, 0, ⟨#[]⟩⟩
def Kn.zero : Kn := ⟨0, 0, .zero, .zero⟩
def Kn.ok (k : Kn) : Bool :=
  if k.many = 0 then decide (k = .zero)
  else decide (1 ≤ k.many) && decide (k.many ≤ 100) && (decide (-9999 * k.many ≤ k.sum) && decide (k.sum ≤ 9999 * k.many)) && k.least.ok && k.most.ok &&
    decide (k.least.kind = k.most.kind) && !decide (k.least.kind = 0) && decide (k.least.cmp k.most ≤ 0) && (decide (k.least.kind = 1) || decide (k.sum = 0))

theorem run_ValueOrder (d : Nat) (ak an : Int) (aq : ByteArray) (bk bn : Int) (bq : ByteArray) (ha : aq.size < 1099511627776) (hb : bq.size < 1099511627776) : retP (runD tab noExt (d + 3)) 109 [.agg [.int .i64 ak, .int .i64 an, .str aq], .agg [.int .i64 bk, .int .i64 bn, .str bq]] = some [.int .i64 (Val.ord (⟨ak, an, aq⟩ : Val) (⟨bk, bn, bq⟩ : Val))] := by
  rw [retP, runD_eq find109 _ _ _ (by simp)]
  simp -implicitDefEqProofs (disch := omega) only [go_sem, Nat.reduceBEq, Nat.reduceAdd, Nat.reduceSub, Nat.reduceMul, Nat.reduceLeDiff, Nat.reduceEqDiff, Nat.reduceLT, Int.reduceNeg, Int.reduceAdd, Int.reduceSub, Int.reduceMul, Int.reduceLE, Int.reduceLT, Int.reduceEq, Int.reduceToNat, reduceCtorEq, run_specValueOk, run_l1Less, run_l1Cmp, IntWalk.i64_in]
  repeat' ((first | rw [GuardI_ndec] | rw [CondC_ndec] | rw [GuardQ_ndec] | rw [GuardI_dec] | rw [CondC_dec] | rw [GuardQ_dec] | rw [GuardI_nby] | rw [CondC_nby] | rw [GuardQ_nby] | rw [GuardQ_by] | rw [GuardI_by] | rw [CondC_by]) <;> split <;> simp -implicitDefEqProofs (disch := omega) only [go_sem, Nat.reduceBEq, Nat.reduceAdd, Nat.reduceSub, Nat.reduceMul, Nat.reduceLeDiff, Nat.reduceEqDiff, Nat.reduceLT, Int.reduceNeg, Int.reduceAdd, Int.reduceSub, Int.reduceMul, Int.reduceLE, Int.reduceLT, Int.reduceEq, Int.reduceToNat, reduceCtorEq, run_specValueOk, run_l1Less, run_l1Cmp, IntWalk.i64_in, *])
  all_goals (simp_all [Val.ord]; try (unfold Val.cmp cmpI; repeat' split <;> simp_all <;> omega))
end Go.Proofs.Ytfbjbkkcilhgjaa.PE
/- The reader of the drawn bytes. -/
set_option linter.unusedSimpArgs false
set_option linter.unusedVariables false
namespace Go.Proofs.Ytfbjbkkcilhgjaa.PE
open Go.RowKit

theorem ofBytes_lt {l : List UInt8} {i : Nat} (h : i < l.length) : (cellsOfBytes l)[i]? = some [.int .u8 ((l.getD i 0).toNat : Int)] := by
  simp [cellsOfBytes, List.getElem?_eq_getElem h, List.getD_eq_getElem?_getD]
theorem ofBytes_len (l : List UInt8) : (cellsOfBytes l).length = l.length := by simp [cellsOfBytes]
theorem tmod_idx {a : Int} {n : Nat} (h : 0 ≤ a) (hn : 0 < n) : (a.tmod (n : Int)).toNat < n := by
  rw [Int.tmod_eq_emod_of_nonneg h]
  have := Int.emod_lt_of_pos a (show (0 : Int) < n by omega)
  omega
theorem tmod_nn {a n : Int} (h : 0 ≤ a) (hn : 0 < n) : 0 ≤ a.tmod n := by
  rw [Int.tmod_eq_emod_of_nonneg h]
  exact Int.emod_nonneg a (by omega)
theorem tmod_lt {a n : Int} (h : 0 ≤ a) (hn : 0 < n) : a.tmod n < n := by
  rw [Int.tmod_eq_emod_of_nonneg h]
  exact Int.emod_lt_of_pos a (by omega)
theorem tmod_nn' {a : Int} {n : Nat} (h : 0 ≤ a) (hn : 0 < n) : (0 ≤ a.tmod (n : Int)) = True := by simp [tmod_nn h (show (0 : Int) < n by omega)]
theorem tdiv_in {a n : Int} (h : 0 ≤ a) (hn : 0 < n) : 0 ≤ a.tdiv n ∧ a.tdiv n ≤ a := by
  rw [Int.tdiv_eq_ediv_of_nonneg h]
  exact ⟨Int.ediv_nonneg h (by omega), Int.ediv_le_self n h⟩
theorem tdiv64 {a : Int} (h : 0 ≤ a) : a.tdiv 64 = a / 64 := Int.tdiv_eq_ediv_of_nonneg h
theorem xor_nn {a b : Int} (ha : 0 ≤ a) (ha' : a < 9223372036854775808) (hb : 0 ≤ b) (hb' : b < 9223372036854775808) :
    0 ≤ IntKind.i64.wrap ((BitVec.ofInt IntKind.i64.bits a ^^^ BitVec.ofInt IntKind.i64.bits b).toNat : Int) := by
  have h1 : (BitVec.ofInt IntKind.i64.bits a ^^^ BitVec.ofInt IntKind.i64.bits b).toNat < 2 ^ 63 := by
    rw [BitVec.toNat_xor]
    have e : ∀ x : Int, 0 ≤ x → x < 9223372036854775808 → (BitVec.ofInt IntKind.i64.bits x).toNat < 2 ^ 63 := by
      intro x h0 h1
      rw [BitVec.toNat_ofInt]
      have : ((2 ^ IntKind.i64.bits : Nat) : Int) = 18446744073709551616 := rfl
      rw [this, Int.emod_eq_of_lt h0 (by omega)]
      have : (2 : Nat) ^ 63 = 9223372036854775808 := rfl
      omega
    exact Nat.xor_lt_two_pow (e a ha ha') (e b hb hb')
  have h2 : (2 : Nat) ^ 63 = 9223372036854775808 := rfl
  rw [IntWalk.i64_in _ (by omega)]
  omega
theorem u8_lt (l : List UInt8) (i : Nat) : ((l.getD i 0).toNat : Int) < 256 := by
  have := (l.getD i 0).toNat_lt
  omega
theorem u8_nn (l : List UInt8) (i : Nat) : (0 : Int) ≤ ((l.getD i 0).toNat : Int) := by omega
theorem i64_u8 (l : List UInt8) (i : Nat) : IntKind.i64.wrap ((l.getD i 0).toNat : Int) = ((l.getD i 0).toNat : Int) := by
  have := u8_lt l i
  exact IntWalk.i64_in _ (by omega)

/-- A number below n, or 0. -/
def Pk (n m : Int) : Prop := 0 ≤ m ∧ (m < n ∨ m = 0 ∧ n < 1)

-- find57
theorem ex_pick {d : Nat} {hp t : Heap} {c : Bool} {bs : List UInt8} {p n : Int} {X : Option (V × Heap)} (hx : callS (runD tab noExt (d + 1)) (hp ++ .box [.sl c 1 (cellsOfBytes bs), .int .i64 (p)] :: t) 57 [.ptr hp.length 0 0 0, .int .i64 n] false = X)
    (hp0 : 0 ≤ p) (hq : p ≤ 1099511627776) (hb : bs.length ≤ 2000) (hhp : plainH hp = true) (ht : plainH t = true) :
    ∃ m, X = some (.int .i64 m, hp ++ .box [.sl c 1 (cellsOfBytes bs), .int .i64 (p+1)] :: t) ∧ Pk n m := by
  subst hx
  have hh : ∀ n, t.all (hiB n) = true := fun n => plainH_hi ht n
  have hhq : ∀ n, hp.all (hiB n) = true := fun n => plainH_hi hhp n
  rw [callS_eq, runD_eq find57 _ _ _ (by simp)]
  by_cases h1 : n < 1
  · simp -implicitDefEqProofs (disch := omega) only [go_sem, Nat.reduceBEq, Nat.reduceAdd, Nat.reduceSub, Nat.reduceMul, Nat.reduceLeDiff, Nat.reduceEqDiff, Nat.reduceLT, Int.reduceNeg, Int.reduceAdd, Int.reduceSub, Int.reduceMul, Int.reduceLE, Int.reduceLT, Int.reduceEq, Int.reduceToNat, reduceCtorEq, IntWalk.i64_in, hh, hhq, List.all_append, h1]
    exact ⟨0, rfl, by omega, .inr ⟨rfl, h1⟩⟩
  · by_cases h2 : bs.length = 0
    · have h2' : (bs.length : Int) = 0 := by omega
      simp -implicitDefEqProofs (disch := omega) only [go_sem, Nat.reduceBEq, Nat.reduceAdd, Nat.reduceSub, Nat.reduceMul, Nat.reduceLeDiff, Nat.reduceEqDiff, Nat.reduceLT, Int.reduceNeg, Int.reduceAdd, Int.reduceSub, Int.reduceMul, Int.reduceLE, Int.reduceLT, Int.reduceEq, Int.reduceToNat, reduceCtorEq, IntWalk.i64_in, hh, hhq, List.all_append, h1, h2', ofBytes_len]
      exact ⟨0, rfl, by omega, .inl (by omega)⟩
    · have h2' : ((bs.length : Int) = 0) = False := eq_false (by omega)
      by_cases h3 : p < bs.length
      · have h4 : p.toNat < bs.length := by omega
        simp -implicitDefEqProofs (disch := omega) only [go_sem, Nat.reduceBEq, Nat.reduceAdd, Nat.reduceSub, Nat.reduceMul, Nat.reduceLeDiff, Nat.reduceEqDiff, Nat.reduceLT, Int.reduceNeg, Int.reduceAdd, Int.reduceSub, Int.reduceMul, Int.reduceLE, Int.reduceLT, Int.reduceEq, Int.reduceToNat, reduceCtorEq, IntWalk.i64_in, hh, hhq, List.all_append, h1, h2', h3, ofBytes_len, ofBytes_lt h4, Int.add_sub_cancel, hp0, i64_u8, (eq_false (by omega) : (n = 0) = False)]
        exact ⟨_, rfl, tmod_nn (u8_nn _ _) (by omega), .inl (tmod_lt (u8_nn _ _) (by omega))⟩
      · have k1 := tmod_idx hp0 (show 0 < bs.length by omega)
        have k2 := tmod_idx (show 0 ≤ p * 7 + 3 by omega) (show 0 < bs.length by omega)
        have k3 := tmod_nn' hp0 (show 0 < bs.length by omega)
        have k4 := tmod_nn' (show 0 ≤ p * 7 + 3 by omega) (show 0 < bs.length by omega)
        have k5 := u8_lt bs (p.tmod bs.length).toNat
        have k6 := u8_lt bs ((p * 7 + 3).tmod bs.length).toNat
        have k7 := tdiv_in hp0 (show (0 : Int) < bs.length by omega)
        simp -implicitDefEqProofs (disch := omega) only [go_sem, Nat.reduceBEq, Nat.reduceAdd, Nat.reduceSub, Nat.reduceMul, Nat.reduceLeDiff, Nat.reduceEqDiff, Nat.reduceLT, Int.reduceNeg, Int.reduceAdd, Int.reduceSub, Int.reduceMul, Int.reduceLE, Int.reduceLT, Int.reduceEq, Int.reduceToNat, reduceCtorEq, evC_draw, evD57x0, E57x0, IntWalk.i64_in, hh, hhq, List.all_append, h1, h2', h3, ofBytes_len, Int.add_sub_cancel, hp0, i64_u8, (eq_false (by omega) : (n = 0) = False), k3, k4, ofBytes_lt k1, ofBytes_lt k2, tdiv64]
        refine ⟨_, rfl, tmod_nn (xor_nn ?_ ?_ ?_ ?_) (by omega), .inl (tmod_lt (xor_nn ?_ ?_ ?_ ?_) (by omega))⟩ <;> omega

-- find119
theorem ex_odd {d : Nat} {hp t : Heap} {c : Bool} {bs : List UInt8} {p n : Int} {X : Option (V × Heap)} (hx : callS (runD tab noExt (d + 2)) (hp ++ .box [.sl c 1 (cellsOfBytes bs), .int .i64 (p)] :: t) 119 [.ptr hp.length 0 0 0, .int .i64 n] false = X)
    (hp0 : 0 ≤ p) (hq : p ≤ 1099511627776) (hb : bs.length ≤ 2000) (hhp : plainH hp = true) (ht : plainH t = true) :
    ∃ b p', X = some (.bool b, hp ++ .box [.sl c 1 (cellsOfBytes bs), .int .i64 (p')] :: t) ∧ p ≤ p' ∧ p' ≤ p + 1 ∧ (n ≤ 0 → b = false) := by
  subst hx
  have hh : ∀ n, t.all (hiB n) = true := fun n => plainH_hi ht n
  have hhq : ∀ n, hp.all (hiB n) = true := fun n => plainH_hi hhp n
  rw [callS_eq, runD_eq find119 _ _ _ (by simp)]
  by_cases h1 : 0 < n
  · generalize hP : (fun (p' : Int) (b : Bool) => p ≤ p' ∧ p' ≤ p + 1 ∧ (n ≤ 0 → b = false)) = P
    simp -implicitDefEqProofs only [go_sem, Nat.reduceBEq, Nat.reduceAdd, Nat.reduceSub, Nat.reduceMul, Nat.reduceLeDiff, Nat.reduceEqDiff, Nat.reduceLT, Int.reduceNeg, Int.reduceAdd, Int.reduceSub, Int.reduceMul, Int.reduceLE, Int.reduceLT, Int.reduceEq, Int.reduceToNat, reduceCtorEq, h1]
    generalize hx : callS (runD tab noExt _) _ 57 _ _ = X
    obtain ⟨m, rfl, hm⟩ := ex_pick hx hp0 hq hb hhp ht
    simp -implicitDefEqProofs only [go_sem, Nat.reduceBEq, Nat.reduceAdd, Nat.reduceSub, Nat.reduceMul, Nat.reduceLeDiff, Nat.reduceEqDiff, Nat.reduceLT, Int.reduceNeg, Int.reduceAdd, Int.reduceSub, Int.reduceMul, Int.reduceLE, Int.reduceLT, Int.reduceEq, Int.reduceToNat, reduceCtorEq, hh, hhq, List.all_append]
    exact ⟨_, _, rfl, by omega, by omega, fun h => by omega⟩
  · simp -implicitDefEqProofs only [go_sem, Nat.reduceBEq, Nat.reduceAdd, Nat.reduceSub, Nat.reduceMul, Nat.reduceLeDiff, Nat.reduceEqDiff, Nat.reduceLT, Int.reduceNeg, Int.reduceAdd, Int.reduceSub, Int.reduceMul, Int.reduceLE, Int.reduceLT, Int.reduceEq, Int.reduceToNat, reduceCtorEq, hh, hhq, List.all_append, h1]
    exact ⟨_, _, rfl, by omega, by omega, fun _ => rfl⟩
end Go.Proofs.Ytfbjbkkcilhgjaa.PE
/- Columns and rows: what the reference's small functions come to. -/
set_option linter.unusedSimpArgs false
set_option linter.unusedVariables false
set_option maxHeartbeats 4000000
namespace Go.Proofs.Ytfbjbkkcilhgjaa.PE
open Go.RowKit

structure Col where
  kind : Int
  empty : Bool
  deriving DecidableEq
def Col.cells (c : Col) : List V := [.int .i64 c.kind, .bool c.empty]
def Col.ok (c : Col) : Bool := decide (1 ≤ c.kind ∧ c.kind ≤ 3)
def colsOk (cs : List Col) : Bool := cs.all Col.ok && decide (cs.length ≤ 4)
/-- A row as it lies in a list of rows: whether it is clipped, and its values. -/
structure Row where
  clip : Bool
  vs : List Val
def Row.v (r : Row) : V := .sl r.clip 3 (r.vs.map Val.cells)
def Row.cells (r : Row) : List V := [r.v]
def short (vs : List Val) : Prop := ∀ v ∈ vs, v.s.size < 1099511627776
def rowOk (vs : List Val) : Bool := vs.all Val.ok && decide (vs.length ≤ 4)
theorem short_at {vs : List Val} (h : short vs) {i : Nat} {x : Val} (hx : vs[i]? = some x) : x.s.size < 1099511627776 := h x (List.mem_of_getElem? hx)

theorem loop_rowOk (d : Nat) (c : Bool) (vs : List Val) (hs : vs.length < 1099511627776) (hsh : short vs) (K : Nat) (hK : (vs).length ≤ K) : LoopS (runD tab noExt (d + 2)) (drawI (runD tab noExt (d + 2))) [0, 3] [0, 2] L138x0 ([] : Heap).length K [(0, .sl c 3 (vs.map Val.cells)), (3, .int .i64 0)] [] = if (vs).all (Val.ok) then (some (.exit 0, [(0, .sl c 3 (vs.map Val.cells)), (2, .undef)], []) : Out) else (some (.ret, [(0, .sl c 3 (vs.map Val.cells)), (2, .bool false)], []) : Out) := by
  have key := LoopS_all (run := (runD tab noExt (d + 2))) (draw := drawI (runD tab noExt (d + 2))) (live := [0, 3]) (out := [0, 2]) (c := L138x0) (n0 := ([] : Heap).length) (vs) (Val.ok) (fun (i : Nat) => [(0, .sl c 3 (vs.map Val.cells)), (3, .int .i64 i)]) [] (some (.exit 0, [(0, .sl c 3 (vs.map Val.cells)), (2, .undef)], []) : Out) (some (.ret, [(0, .sl c 3 (vs.map Val.cells)), (2, .bool false)], []) : Out) (fun K => ?_) (fun (i : Nat) (x : Val) K hi hx => ?_) K hK
  · simp only [Int.natCast_zero] at key
    exact key
  · rw [LoopS_eq]
    simp -implicitDefEqProofs only [go_sem, Nat.reduceBEq, Nat.reduceAdd, Nat.reduceSub, Nat.reduceMul, Nat.reduceLeDiff, Nat.reduceEqDiff, Nat.reduceLT, Int.reduceNeg, Int.reduceAdd, Int.reduceSub, Int.reduceMul, Int.reduceLE, Int.reduceLT, Int.reduceEq, Int.reduceToNat, reduceCtorEq, evL138x0, B138x0, Int.lt_irrefl, run_specValueOk, Val.cells, Val.eta]
  · have hxs := short_at hsh hx
    rw [LoopS_eq]
    simp -implicitDefEqProofs (disch := omega) only [go_sem, Nat.reduceBEq, Nat.reduceAdd, Nat.reduceSub, Nat.reduceMul, Nat.reduceLeDiff, Nat.reduceEqDiff, Nat.reduceLT, Int.reduceNeg, Int.reduceAdd, Int.reduceSub, Int.reduceMul, Int.reduceLE, Int.reduceLT, Int.reduceEq, Int.reduceToNat, reduceCtorEq, evL138x0, B138x0, hi, hx, IntWalk.i64_in, run_specValueOk, Val.cells, Val.eta, *]
    repeat' ((first | rw [GuardI_ndec] | rw [CondC_ndec] | rw [GuardQ_ndec] | rw [GuardI_dec] | rw [CondC_dec] | rw [GuardQ_dec] | rw [GuardI_nby] | rw [CondC_nby] | rw [GuardQ_nby] | rw [GuardQ_by] | rw [GuardI_by] | rw [CondC_by]) <;> split <;> simp -implicitDefEqProofs (disch := omega) only [go_sem, Nat.reduceBEq, Nat.reduceAdd, Nat.reduceSub, Nat.reduceMul, Nat.reduceLeDiff, Nat.reduceEqDiff, Nat.reduceLT, Int.reduceNeg, Int.reduceAdd, Int.reduceSub, Int.reduceMul, Int.reduceLE, Int.reduceLT, Int.reduceEq, Int.reduceToNat, reduceCtorEq, hi, hx, IntWalk.i64_in, run_specValueOk, Val.cells, Val.eta, *, *])
    all_goals first | rfl | (simp_all []; done) | (simp_all []; omega)
-- find138
theorem run_rowOk (d : Nat) (c : Bool) (vs : List Val) (hs : vs.length < 1099511627776) (hsh : short vs) : retP (runD tab noExt (d + 3)) 138 [.sl c 3 (vs.map Val.cells)] = some [.bool (rowOk vs)] := by
  rw [retP, runD_eq find138 _ _ _ (by simp)]
  have hl := loop_rowOk d c vs hs hsh 1099511627775 (by omega)
  simp -implicitDefEqProofs only [go_sem, Nat.reduceBEq, Nat.reduceAdd, Nat.reduceSub, Nat.reduceMul, Nat.reduceLeDiff, Nat.reduceEqDiff, Nat.reduceLT, Int.reduceNeg, Int.reduceAdd, Int.reduceSub, Int.reduceMul, Int.reduceLE, Int.reduceLT, Int.reduceEq, Int.reduceToNat, reduceCtorEq] at hl ⊢
  rw [hl]
  split <;> simp -implicitDefEqProofs only [go_sem, Nat.reduceBEq, Nat.reduceAdd, Nat.reduceSub, Nat.reduceMul, Nat.reduceLeDiff, Nat.reduceEqDiff, Nat.reduceLT, Int.reduceNeg, Int.reduceAdd, Int.reduceSub, Int.reduceMul, Int.reduceLE, Int.reduceLT, Int.reduceEq, Int.reduceToNat, reduceCtorEq, rowOk, *]
  norm_cast

def fits1 (p : Col × Val) : Bool := decide (p.2.kind = p.1.kind) || (decide (p.2.kind = 0) && p.1.empty)
def fitsRow (cs : List Col) (vs : List Val) : Bool := colsOk cs && rowOk vs && decide (vs.length = cs.length) && (cs.zip vs).all fits1
def rowsFit (cs : List Col) (rs : List Row) : Bool := rs.all fun r => fitsRow cs r.vs
def rowsOk (cs : List Col) (rs : List Row) : Bool := rowsFit cs rs && colsOk cs
def Short (rs : List Row) : Prop := ∀ r ∈ rs, r.vs.length < 1099511627776 ∧ short r.vs
/-- Rows that are not too long for memory. -/
def Fine (rs : List Row) : Prop := rs.length < 4294967296 ∧ ∀ r ∈ rs, r.vs.length < 4294967296
end Go.Proofs.Ytfbjbkkcilhgjaa.PE
/- Lists that are looked through by a closure; columns and rows: the program's. -/
set_option linter.unusedSimpArgs false
set_option linter.unusedVariables false
set_option maxHeartbeats 4000000
namespace Go.Proofs.Ytfbjbkkcilhgjaa.PE
open Go.RowKit

def intC (n : Int) : List V := [.int .i64 n]





end Go.Proofs.Ytfbjbkkcilhgjaa.PE
/- Writes: what is ok, in plain words; both functions tell it. -/
set_option linter.unusedSimpArgs false
set_option linter.unusedVariables false
set_option maxHeartbeats 4000000
namespace Go.Proofs.Ytfbjbkkcilhgjaa.PE
open Go.RowKit

structure Wr where
  key : Int
  row : Row
  gone : Bool
def Wr.cells (w : Wr) : List V := [.int .i64 w.key, w.row.v, .bool w.gone]
/-- Each element with the one ahead of it. -/
def prevsG {α : Type} : Option α → List α → List (Option α × α)
  | _, [] => []
  | o, v :: r => (o, v) :: prevsG (some v) r
theorem prevsG_len {α : Type} : ∀ (l : List α) (o : Option α), (prevsG o l).length = l.length
  | [], _ => rfl
  | v :: r, o => by simp [prevsG, prevsG_len r]
theorem prevsG_at {α : Type} : ∀ {l : List α} {o : Option α} {i : Nat} {p : Option α} {v : α}, (prevsG o l)[i]? = some (p, v) → l[i]? = some v ∧ (i = 0 → p = o) ∧ ∀ j, i = j + 1 → p = l[j]?
  | [], _, i, _, _, h => by simp [prevsG] at h
  | w :: r, o, 0, p, v, h => by
    simp only [prevsG, List.getElem?_cons_zero, Option.some.injEq, Prod.mk.injEq] at h
    obtain ⟨rfl, rfl⟩ := h
    exact ⟨rfl, fun _ => rfl, fun j hj => by omega⟩
  | w :: r, o, i + 1, p, v, h => by
    simp only [prevsG, List.getElem?_cons_succ] at h
    obtain ⟨h1, h2, h3⟩ := prevsG_at h
    refine ⟨by simpa using h1, fun e => by omega, fun j hj => ?_⟩
    have : j = i := by omega
    subst this
    cases j with
    | zero => rw [h2 rfl]; rfl
    | succ j => rw [h3 j rfl]; simp
def Wr.one (w : Wr) : Bool := decide (0 ≤ w.key ∧ w.key ≤ 4) && (rowOk w.row.vs && !(w.gone && decide ((0 : Int) < w.row.vs.length)))
def wrAhead (p : Option Wr) (v : Wr) : Bool := match p with
  | none => true
  | some q => decide (q.key < v.key)
def wrOk (p : Option Wr × Wr) : Bool := p.2.one && wrAhead p.1 p.2
def wrsOk (ws : List Wr) : Bool := (prevsG none ws).all wrOk
def ShortWs (ws : List Wr) : Prop := ∀ w ∈ ws, w.row.vs.length < 1099511627776 ∧ short w.row.vs
theorem loop_wrsS (d : Nat) (c : Bool) (l : List Wr) (hs : l.length < 1099511627776) (hsh : ShortWs l) (K : Nat) (hK : (prevsG none l).length ≤ K) :
    LoopS (runD tab noExt (d + 3)) (drawI (runD tab noExt (d + 3))) [0, 3] [2] L158x0 0 K [(0, .sl c 3 (l.map Wr.cells)), (3, .int .i64 0)] [] = if (prevsG none l).all wrOk then (some (.exit 0, [(2, .undef)], []) : Out) else some (.ret, [(2, .bool false)], []) := by
  have key := LoopS_all (run := (runD tab noExt (d + 3))) (draw := drawI (runD tab noExt (d + 3))) (live := [0, 3]) (out := [2]) (c := L158x0) (n0 := 0) (prevsG none l) wrOk (fun (i : Nat) => [(0, .sl c 3 (l.map Wr.cells)), (3, .int .i64 (i : Int))]) [] (some (.exit 0, [(2, .undef)], [])) (some (.ret, [(2, .bool false)], [])) (fun K => ?_) (fun (i : Nat) x K hi hx0 => ?_) K hK
  · simp only [Int.natCast_zero] at key
    exact key
  · rw [LoopS_eq, prevsG_len]
    simp -implicitDefEqProofs only [go_sem, Nat.reduceBEq, Nat.reduceAdd, Nat.reduceSub, Nat.reduceMul, Nat.reduceLeDiff, Nat.reduceEqDiff, Nat.reduceLT, Int.reduceNeg, Int.reduceAdd, Int.reduceSub, Int.reduceMul, Int.reduceLE, Int.reduceLT, Int.reduceEq, Int.reduceToNat, reduceCtorEq, evL158x0, B158x0, Int.lt_irrefl]
  · obtain ⟨p, v⟩ := x
    rw [prevsG_len] at hi
    obtain ⟨hx, g2, g3⟩ := prevsG_at hx0
    obtain ⟨h1, h2⟩ := hsh v (List.mem_of_getElem? hx)
    have hr := run_rowOk d v.row.clip v.row.vs h1 h2
    clear hx0
    rw [LoopS_eq]
    have bad : v.one = false → ∀ (A B : Out), (if wrOk (p, v) = true then A else B) = B := fun h A B => by simp only [wrOk, h, Bool.false_and, Bool.false_eq_true, if_false]
    by_cases k1 : 0 ≤ v.key ∧ v.key ≤ 4
    rotate_left
    · rw [bad (by simp [Wr.one, k1])]
      simp -implicitDefEqProofs (disch := omega) only [go_sem, Nat.reduceBEq, Nat.reduceAdd, Nat.reduceSub, Nat.reduceMul, Nat.reduceLeDiff, Nat.reduceEqDiff, Nat.reduceLT, Int.reduceNeg, Int.reduceAdd, Int.reduceSub, Int.reduceMul, Int.reduceLE, Int.reduceLT, Int.reduceEq, Int.reduceToNat, reduceCtorEq, evL158x0, B158x0, evC_draw, evD158x0, E158x0, IntWalk.i64_in, Wr.cells, Row.v, hr, hx, beq_ft, beq_tf, Bool.true_or, Bool.false_or, run_l1In, wrAhead, hi, (eq_false k1 : (0 ≤ v.key ∧ v.key ≤ 4) = False)]
    cases k2 : rowOk v.row.vs
    · rw [bad (by simp [Wr.one, k2])]
      rw [k2] at hr
      simp -implicitDefEqProofs (disch := omega) only [go_sem, Nat.reduceBEq, Nat.reduceAdd, Nat.reduceSub, Nat.reduceMul, Nat.reduceLeDiff, Nat.reduceEqDiff, Nat.reduceLT, Int.reduceNeg, Int.reduceAdd, Int.reduceSub, Int.reduceMul, Int.reduceLE, Int.reduceLT, Int.reduceEq, Int.reduceToNat, reduceCtorEq, evL158x0, B158x0, evC_draw, evD158x0, E158x0, IntWalk.i64_in, Wr.cells, Row.v, hr, hx, beq_ft, beq_tf, Bool.true_or, Bool.false_or, run_l1In, wrAhead, hi, (eq_true k1 : (0 ≤ v.key ∧ v.key ≤ 4) = True)]
    rw [k2] at hr
    have hg : (v.gone = true ∧ (0 : Int) < v.row.vs.length) ∨ (v.gone = true ∧ ¬ (0 : Int) < v.row.vs.length) ∨ v.gone = false := by
      cases hgo : v.gone
      · exact .inr (.inr rfl)
      · by_cases h0 : (0 : Int) < v.row.vs.length
        · exact .inl ⟨rfl, h0⟩
        · exact .inr (.inl ⟨rfl, h0⟩)
    rcases hg with ⟨k3, k4⟩ | hg
    · rw [bad (by unfold Wr.one; rw [k3, decide_eq_true k4]; simp)]
      simp -implicitDefEqProofs (disch := omega) only [go_sem, Nat.reduceBEq, Nat.reduceAdd, Nat.reduceSub, Nat.reduceMul, Nat.reduceLeDiff, Nat.reduceEqDiff, Nat.reduceLT, Int.reduceNeg, Int.reduceAdd, Int.reduceSub, Int.reduceMul, Int.reduceLE, Int.reduceLT, Int.reduceEq, Int.reduceToNat, reduceCtorEq, evL158x0, B158x0, evC_draw, evD158x0, E158x0, IntWalk.i64_in, Wr.cells, Row.v, hr, hx, beq_ft, beq_tf, Bool.true_or, Bool.false_or, run_l1In, wrAhead, hi, k3, k4, (eq_true k1 : (0 ≤ v.key ∧ v.key ≤ 4) = True)]
    have hone : v.one = true := by
      unfold Wr.one
      rw [decide_eq_true k1, k2]
      rcases hg with ⟨k3, k4⟩ | k3
      · rw [k3, decide_eq_false k4]; rfl
      · rw [k3]; rfl
    have e : wrOk (p, v) = wrAhead p v := by simp [wrOk, hone]
    clear bad
    rw [e]
    cases i with
    | zero =>
      obtain rfl := g2 rfl
      have hi0 : (0 : Int) < l.length := by omega
      rcases hg with ⟨k3, k4⟩ | k3
      · simp -implicitDefEqProofs (disch := omega) only [go_sem, Nat.reduceBEq, Nat.reduceAdd, Nat.reduceSub, Nat.reduceMul, Nat.reduceLeDiff, Nat.reduceEqDiff, Nat.reduceLT, Int.reduceNeg, Int.reduceAdd, Int.reduceSub, Int.reduceMul, Int.reduceLE, Int.reduceLT, Int.reduceEq, Int.reduceToNat, reduceCtorEq, evL158x0, B158x0, evC_draw, evD158x0, E158x0, IntWalk.i64_in, Wr.cells, Row.v, hr, hx, beq_ft, beq_tf, Bool.true_or, Bool.false_or, run_l1In, wrAhead, hi0, k3, k4, (eq_true k1 : (0 ≤ v.key ∧ v.key ≤ 4) = True), Int.natCast_zero, Int.lt_irrefl]
      · simp -implicitDefEqProofs (disch := omega) only [go_sem, Nat.reduceBEq, Nat.reduceAdd, Nat.reduceSub, Nat.reduceMul, Nat.reduceLeDiff, Nat.reduceEqDiff, Nat.reduceLT, Int.reduceNeg, Int.reduceAdd, Int.reduceSub, Int.reduceMul, Int.reduceLE, Int.reduceLT, Int.reduceEq, Int.reduceToNat, reduceCtorEq, evL158x0, B158x0, evC_draw, evD158x0, E158x0, IntWalk.i64_in, Wr.cells, Row.v, hr, hx, beq_ft, beq_tf, Bool.true_or, Bool.false_or, run_l1In, wrAhead, hi0, k3, (eq_true k1 : (0 ≤ v.key ∧ v.key ≤ 4) = True), Int.natCast_zero, Int.lt_irrefl]
    | succ j =>
      have hj : j < l.length := by omega
      have hw := List.getElem?_eq_getElem hj
      obtain rfl := (g3 j rfl).trans hw
      generalize l[j] = w at hw
      have hp : (0 : Int) < (j : Int) + 1 := by omega
      have hj' : (j : Int) < l.length := by omega
      have hp0 : (0 : Int) ≤ (j : Int) + 1 := by omega
      have htn : ((j : Int) + 1).toNat = j + 1 := by omega
      have hi' : (j : Int) + 1 < l.length := by omega
      by_cases k5 : w.key < v.key
      · have k6 : ¬ v.key ≤ w.key := by omega
        rcases hg with ⟨k3, k4⟩ | k3
        · simp -implicitDefEqProofs (disch := omega) only [go_sem, Nat.reduceBEq, Nat.reduceAdd, Nat.reduceSub, Nat.reduceMul, Nat.reduceLeDiff, Nat.reduceEqDiff, Nat.reduceLT, Int.reduceNeg, Int.reduceAdd, Int.reduceSub, Int.reduceMul, Int.reduceLE, Int.reduceLT, Int.reduceEq, Int.reduceToNat, reduceCtorEq, evL158x0, B158x0, evC_draw, evD158x0, E158x0, IntWalk.i64_in, Wr.cells, Row.v, hr, hx, beq_ft, beq_tf, Bool.true_or, Bool.false_or, run_l1In, wrAhead, hi', hj', hp0, htn, hp, hw, Int.add_sub_cancel, Int.add_assoc, k3, k4, (eq_true k1 : (0 ≤ v.key ∧ v.key ≤ 4) = True), (eq_true k5 : (w.key < v.key) = True), (eq_false k6 : (v.key ≤ w.key) = False)]
        · simp -implicitDefEqProofs (disch := omega) only [go_sem, Nat.reduceBEq, Nat.reduceAdd, Nat.reduceSub, Nat.reduceMul, Nat.reduceLeDiff, Nat.reduceEqDiff, Nat.reduceLT, Int.reduceNeg, Int.reduceAdd, Int.reduceSub, Int.reduceMul, Int.reduceLE, Int.reduceLT, Int.reduceEq, Int.reduceToNat, reduceCtorEq, evL158x0, B158x0, evC_draw, evD158x0, E158x0, IntWalk.i64_in, Wr.cells, Row.v, hr, hx, beq_ft, beq_tf, Bool.true_or, Bool.false_or, run_l1In, wrAhead, hi', hj', hp0, htn, hp, hw, Int.add_sub_cancel, Int.add_assoc, k3, (eq_true k1 : (0 ≤ v.key ∧ v.key ≤ 4) = True), (eq_true k5 : (w.key < v.key) = True), (eq_false k6 : (v.key ≤ w.key) = False)]
      · have k6 : v.key ≤ w.key := by omega
        rcases hg with ⟨k3, k4⟩ | k3
        · simp -implicitDefEqProofs (disch := omega) only [go_sem, Nat.reduceBEq, Nat.reduceAdd, Nat.reduceSub, Nat.reduceMul, Nat.reduceLeDiff, Nat.reduceEqDiff, Nat.reduceLT, Int.reduceNeg, Int.reduceAdd, Int.reduceSub, Int.reduceMul, Int.reduceLE, Int.reduceLT, Int.reduceEq, Int.reduceToNat, reduceCtorEq, evL158x0, B158x0, evC_draw, evD158x0, E158x0, IntWalk.i64_in, Wr.cells, Row.v, hr, hx, beq_ft, beq_tf, Bool.true_or, Bool.false_or, run_l1In, wrAhead, hi', hj', hp0, htn, hp, hw, Int.add_sub_cancel, Int.add_assoc, k3, k4, (eq_true k1 : (0 ≤ v.key ∧ v.key ≤ 4) = True), (eq_false k5 : (w.key < v.key) = False), (eq_true k6 : (v.key ≤ w.key) = True)]
        · simp -implicitDefEqProofs (disch := omega) only [go_sem, Nat.reduceBEq, Nat.reduceAdd, Nat.reduceSub, Nat.reduceMul, Nat.reduceLeDiff, Nat.reduceEqDiff, Nat.reduceLT, Int.reduceNeg, Int.reduceAdd, Int.reduceSub, Int.reduceMul, Int.reduceLE, Int.reduceLT, Int.reduceEq, Int.reduceToNat, reduceCtorEq, evL158x0, B158x0, evC_draw, evD158x0, E158x0, IntWalk.i64_in, Wr.cells, Row.v, hr, hx, beq_ft, beq_tf, Bool.true_or, Bool.false_or, run_l1In, wrAhead, hi', hj', hp0, htn, hp, hw, Int.add_sub_cancel, Int.add_assoc, k3, (eq_true k1 : (0 ≤ v.key ∧ v.key ≤ 4) = True), (eq_false k5 : (w.key < v.key) = False), (eq_true k6 : (v.key ≤ w.key) = True)]
theorem run_wrsS (d : Nat) (c : Bool) (l : List Wr) (hs : l.length < 1099511627776) (hsh : ShortWs l) : retP (runD tab noExt (d + 4)) 158 [.sl c 3 (l.map Wr.cells)] = some [.bool (wrsOk l)] := by
  rw [retP, runD_eq find158 _ _ _ (by simp)]
  have hl := loop_wrsS d c l hs hsh 1099511627775 (by rw [prevsG_len]; omega)
  simp -implicitDefEqProofs (disch := omega) only [go_sem, Nat.reduceBEq, Nat.reduceAdd, Nat.reduceSub, Nat.reduceMul, Nat.reduceLeDiff, Nat.reduceEqDiff, Nat.reduceLT, Int.reduceNeg, Int.reduceAdd, Int.reduceSub, Int.reduceMul, Int.reduceLE, Int.reduceLT, Int.reduceEq, Int.reduceToNat, reduceCtorEq]
  rw [hl]
  unfold wrsOk
  cases h : (prevsG none l).all wrOk <;> simp -implicitDefEqProofs (disch := omega) only [go_sem, Nat.reduceBEq, Nat.reduceAdd, Nat.reduceSub, Nat.reduceMul, Nat.reduceLeDiff, Nat.reduceEqDiff, Nat.reduceLT, Int.reduceNeg, Int.reduceAdd, Int.reduceSub, Int.reduceMul, Int.reduceLE, Int.reduceLT, Int.reduceEq, Int.reduceToNat, reduceCtorEq]
end Go.Proofs.Ytfbjbkkcilhgjaa.PE
/- Tallies: when they are ok, both functions. -/
set_option linter.unusedSimpArgs false
set_option linter.unusedVariables false
set_option maxHeartbeats 4000000
set_option maxRecDepth 20000
namespace Go.Proofs.Ytfbjbkkcilhgjaa.PE
open Go.RowKit

structure Tal where
  rc : Bool
  key : List Val
  rows : Int
  many : Int
  sum : Int
def Tal.cells (t : Tal) : List V := [.sl t.rc 3 (t.key.map Val.cells), .int .i64 t.rows, .int .i64 t.many, .int .i64 t.sum]
def Tal.one (t : Tal) : Bool := decide ((t.key.length : Int) = 1) && (rowOk t.key && (decide (1 ≤ t.rows ∧ t.rows ≤ 100) && (decide (0 ≤ t.many ∧ t.many ≤ t.rows) && decide (-9999 * t.many ≤ t.sum ∧ t.sum ≤ 9999 * t.many))))
def k0 (t : Tal) : Val := t.key.headD .zero
def talAhead (p : Option Tal) (t : Tal) : Bool := match p with
  | none => true
  | some w => decide ((k0 w).cmp (k0 t) < 0)
def talOk (p : Option Tal × Tal) : Bool := p.2.one && talAhead p.1 p.2
def talsOk (l : List Tal) : Bool := (prevsG none l).all talOk
def ShortT1 (l : List Tal) : Prop := ∀ t ∈ l, t.key.length < 1099511627776 ∧ short t.key
theorem ord_okT {a b : Val} (h : a.ok = true) (h' : b.ok = true) : a.ord b = a.cmp b := by simp [Val.ord, h, h']
end Go.Proofs.Ytfbjbkkcilhgjaa.PE
/- Versions: what is ok, in plain words. -/
set_option linter.unusedVariables false
set_option linter.unusedSimpArgs false
set_option maxHeartbeats 4000000
namespace Go.Proofs.Ytfbjbkkcilhgjaa.PE
open Go.RowKit

structure Ver where
  key : Int
  born : Int
  died : Int
  row : Row
def Ver.cells (v : Ver) : List V := [.int .i64 v.key, .int .i64 v.born, .int .i64 v.died, v.row.v]
def Ver.plain (v : Ver) : Ver := ⟨v.key, v.born, v.died, ⟨false, v.row.vs⟩⟩
def Ver.one (v : Ver) : Bool := decide (0 ≤ v.key ∧ v.key ≤ 4) && (decide (1 ≤ v.born ∧ v.born ≤ 40) && ((decide (v.died = 0) || decide (v.born + 1 ≤ v.died ∧ v.died ≤ 40)) && rowOk v.row.vs))
def ordS (w v : Ver) : Bool := !(decide (v.key ≤ w.key) && (decide (v.key < w.key) || (decide (w.died = 0) || decide (v.born < w.died))))
def ordI (w v : Ver) : Bool := !(decide (v.key < w.key) || (decide (w.key = v.key) && (decide (v.born ≤ w.born) || (decide (w.died = 0) || decide (v.born < w.died)))))
/-- Each version with the one ahead of it. -/
def prevs : Option Ver → List Ver → List (Option Ver × Ver)
  | _, [] => []
  | o, v :: r => (o, v) :: prevs (some v) r
theorem prevs_len : ∀ (l : List Ver) (o : Option Ver), (prevs o l).length = l.length
  | [], _ => rfl
  | v :: r, o => by simp [prevs, prevs_len r]
theorem prevs_at : ∀ {l : List Ver} {o : Option Ver} {i : Nat} {p : Option Ver} {v : Ver}, (prevs o l)[i]? = some (p, v) → l[i]? = some v ∧ (i = 0 → p = o) ∧ ∀ j, i = j + 1 → p = l[j]?
  | [], _, i, _, _, h => by simp [prevs] at h
  | w :: r, o, 0, p, v, h => by
    simp only [prevs, List.getElem?_cons_zero, Option.some.injEq, Prod.mk.injEq] at h
    obtain ⟨rfl, rfl⟩ := h
    exact ⟨rfl, fun _ => rfl, fun j hj => by omega⟩
  | w :: r, o, i + 1, p, v, h => by
    simp only [prevs, List.getElem?_cons_succ] at h
    obtain ⟨h1, h2, h3⟩ := prevs_at h
    refine ⟨by simpa using h1, fun e => by omega, fun j hj => ?_⟩
    have : j = i := by omega
    subst this
    cases j with
    | zero => rw [h2 rfl]; rfl
    | succ j => rw [h3 j rfl]; simp
def okBy (f : Ver → Ver → Bool) (p : Option Ver × Ver) : Bool := p.2.one && (match p.1 with | none => true | some w => f w p.2)
def versOk (l : List Ver) : Bool := (prevs none l).all (okBy ordS) && decide ((l.length : Int) ≤ 60)
end Go.Proofs.Ytfbjbkkcilhgjaa.PE
/- Versions: both functions tell whether they are ok. -/
set_option linter.unusedVariables false
set_option linter.unusedSimpArgs false
set_option maxHeartbeats 4000000
namespace Go.Proofs.Ytfbjbkkcilhgjaa.PE
open Go.RowKit

-- find102
theorem run_l13 (d : Nat) (v : Ver) (h1 : v.row.vs.length < 1099511627776) (h2 : short v.row.vs) : retP (runD tab noExt (d + 4)) 102 [.agg [.int .i64 v.key, .int .i64 v.born, .int .i64 v.died, .sl v.row.clip 3 (v.row.vs.map Val.cells)]] = some [.bool v.one] := by
  rw [retP, runD_eq find102 _ _ _ (by simp)]
  have hr := run_rowOk d v.row.clip v.row.vs h1 h2
  obtain ⟨key, born, died, row⟩ := v
  simp only at hr h1 h2 ⊢
  unfold Ver.one
  simp only
  by_cases k1 : 0 ≤ key ∧ key ≤ 4
  · by_cases k2 : 1 ≤ born ∧ born ≤ 40
    · have k3 := k2.1
      have k4 := k2.2
      by_cases k5 : died = 0
      · simp -implicitDefEqProofs (disch := omega) only [go_sem, Nat.reduceBEq, Nat.reduceAdd, Nat.reduceSub, Nat.reduceMul, Nat.reduceLeDiff, Nat.reduceEqDiff, Nat.reduceLT, Int.reduceNeg, Int.reduceAdd, Int.reduceSub, Int.reduceMul, Int.reduceLE, Int.reduceLT, Int.reduceEq, Int.reduceToNat, reduceCtorEq, run_l1In, hr, Bool.true_or, Bool.false_or, (eq_true k1 : (0 ≤ key ∧ key ≤ 4) = True), (eq_true k2 : (1 ≤ born ∧ born ≤ 40) = True), (eq_true k5 : (died = 0) = True), IntWalk.i64_in]
      · by_cases k6 : born + 1 ≤ died ∧ died ≤ 40
        · simp -implicitDefEqProofs (disch := omega) only [go_sem, Nat.reduceBEq, Nat.reduceAdd, Nat.reduceSub, Nat.reduceMul, Nat.reduceLeDiff, Nat.reduceEqDiff, Nat.reduceLT, Int.reduceNeg, Int.reduceAdd, Int.reduceSub, Int.reduceMul, Int.reduceLE, Int.reduceLT, Int.reduceEq, Int.reduceToNat, reduceCtorEq, run_l1In, hr, Bool.true_or, Bool.false_or, (eq_true k1 : (0 ≤ key ∧ key ≤ 4) = True), (eq_true k2 : (1 ≤ born ∧ born ≤ 40) = True), (eq_false k5 : (died = 0) = False), (eq_true k6 : (born + 1 ≤ died ∧ died ≤ 40) = True), IntWalk.i64_in]
        · simp -implicitDefEqProofs (disch := omega) only [go_sem, Nat.reduceBEq, Nat.reduceAdd, Nat.reduceSub, Nat.reduceMul, Nat.reduceLeDiff, Nat.reduceEqDiff, Nat.reduceLT, Int.reduceNeg, Int.reduceAdd, Int.reduceSub, Int.reduceMul, Int.reduceLE, Int.reduceLT, Int.reduceEq, Int.reduceToNat, reduceCtorEq, run_l1In, hr, Bool.true_or, Bool.false_or, (eq_true k1 : (0 ≤ key ∧ key ≤ 4) = True), (eq_true k2 : (1 ≤ born ∧ born ≤ 40) = True), (eq_false k5 : (died = 0) = False), (eq_false k6 : (born + 1 ≤ died ∧ died ≤ 40) = False), IntWalk.i64_in]
    · simp -implicitDefEqProofs (disch := omega) only [go_sem, Nat.reduceBEq, Nat.reduceAdd, Nat.reduceSub, Nat.reduceMul, Nat.reduceLeDiff, Nat.reduceEqDiff, Nat.reduceLT, Int.reduceNeg, Int.reduceAdd, Int.reduceSub, Int.reduceMul, Int.reduceLE, Int.reduceLT, Int.reduceEq, Int.reduceToNat, reduceCtorEq, run_l1In, hr, Bool.true_or, Bool.false_or, (eq_true k1 : (0 ≤ key ∧ key ≤ 4) = True), (eq_false k2 : (1 ≤ born ∧ born ≤ 40) = False), IntWalk.i64_in]
  · simp -implicitDefEqProofs (disch := omega) only [go_sem, Nat.reduceBEq, Nat.reduceAdd, Nat.reduceSub, Nat.reduceMul, Nat.reduceLeDiff, Nat.reduceEqDiff, Nat.reduceLT, Int.reduceNeg, Int.reduceAdd, Int.reduceSub, Int.reduceMul, Int.reduceLE, Int.reduceLT, Int.reduceEq, Int.reduceToNat, reduceCtorEq, run_l1In, hr, Bool.true_or, Bool.false_or, (eq_false k1 : (0 ≤ key ∧ key ≤ 4) = False), IntWalk.i64_in]
def ShortVs (l : List Ver) : Prop := ∀ v ∈ l, v.row.vs.length < 1099511627776 ∧ short v.row.vs
theorem loop_versS (d : Nat) (c : Bool) (l : List Ver) (hs : l.length < 1099511627776) (hsh : ShortVs l) (K : Nat) (hK : (prevs none l).length ≤ K) :
    LoopS (runD tab noExt (d + 4)) (drawI (runD tab noExt (d + 4))) [0, 3] [0, 2] L62x0 0 K [(0, .sl c 4 (l.map Ver.cells)), (3, .int .i64 0)] [] = if (prevs none l).all (okBy ordS) then (some (.exit 0, [(0, .sl c 4 (l.map Ver.cells)), (2, .undef)], []) : Out) else some (.ret, [(0, .sl c 4 (l.map Ver.cells)), (2, .bool false)], []) := by
  have key := LoopS_all (run := runD tab noExt (d + 4)) (draw := drawI (runD tab noExt (d + 4))) (live := [0, 3]) (out := [0, 2]) (c := L62x0) (n0 := 0) (prevs none l) (okBy ordS) (fun (i : Nat) => [(0, .sl c 4 (l.map Ver.cells)), (3, .int .i64 (i : Int))]) [] (some (.exit 0, [(0, .sl c 4 (l.map Ver.cells)), (2, .undef)], [])) (some (.ret, [(0, .sl c 4 (l.map Ver.cells)), (2, .bool false)], [])) (fun K => ?_) (fun (i : Nat) x K hi hx => ?_) K hK
  · simp only [Int.natCast_zero] at key
    exact key
  · rw [LoopS_eq, prevs_len]
    simp -implicitDefEqProofs only [go_sem, Nat.reduceBEq, Nat.reduceAdd, Nat.reduceSub, Nat.reduceMul, Nat.reduceLeDiff, Nat.reduceEqDiff, Nat.reduceLT, Int.reduceNeg, Int.reduceAdd, Int.reduceSub, Int.reduceMul, Int.reduceLE, Int.reduceLT, Int.reduceEq, Int.reduceToNat, reduceCtorEq, evL62x0, B62x0, Int.lt_irrefl]
  · obtain ⟨p, v⟩ := x
    rw [prevs_len] at hi
    obtain ⟨g1, g2, g3⟩ := prevs_at hx
    obtain ⟨h1, h2⟩ := hsh v (List.mem_of_getElem? g1)
    have hv := run_l13 d v h1 h2
    rw [LoopS_eq]
    unfold okBy
    cases hone : v.one
    · rw [hone] at hv
      simp -implicitDefEqProofs (disch := omega) only [go_sem, Nat.reduceBEq, Nat.reduceAdd, Nat.reduceSub, Nat.reduceMul, Nat.reduceLeDiff, Nat.reduceEqDiff, Nat.reduceLT, Int.reduceNeg, Int.reduceAdd, Int.reduceSub, Int.reduceMul, Int.reduceLE, Int.reduceLT, Int.reduceEq, Int.reduceToNat, reduceCtorEq, evL62x0, B62x0, hi, g1, hv, Ver.cells, Row.v, IntWalk.i64_in]
    · rw [hone] at hv
      cases i with
      | zero =>
        obtain rfl := g2 rfl
        have hi0 : (0 : Int) < l.length := by omega
        simp -implicitDefEqProofs (disch := omega) only [go_sem, Nat.reduceBEq, Nat.reduceAdd, Nat.reduceSub, Nat.reduceMul, Nat.reduceLeDiff, Nat.reduceEqDiff, Nat.reduceLT, Int.reduceNeg, Int.reduceAdd, Int.reduceSub, Int.reduceMul, Int.reduceLE, Int.reduceLT, Int.reduceEq, Int.reduceToNat, reduceCtorEq, evL62x0, B62x0, evC_draw, evD62x0, E62x0, hi0, g1, hv, Ver.cells, Row.v, IntWalk.i64_in, Int.natCast_zero]
      | succ j =>
        have hj : j < l.length := by omega
        have hw := List.getElem?_eq_getElem hj
        obtain rfl := (g3 j rfl).trans hw
        generalize l[j] = w at hw
        have hp : (0 : Int) < (j : Int) + 1 := by omega
        have hj' : (j : Int) < l.length := by omega
        have hp0 : (0 : Int) ≤ (j : Int) + 1 := by omega
        have htn : ((j : Int) + 1).toNat = j + 1 := by omega
        have hi' : (j : Int) + 1 < l.length := by omega
        unfold ordS
        by_cases k1 : v.key ≤ w.key
        · by_cases k2 : v.key < w.key
          · simp -implicitDefEqProofs (disch := omega) only [go_sem, Nat.reduceBEq, Nat.reduceAdd, Nat.reduceSub, Nat.reduceMul, Nat.reduceLeDiff, Nat.reduceEqDiff, Nat.reduceLT, Int.reduceNeg, Int.reduceAdd, Int.reduceSub, Int.reduceMul, Int.reduceLE, Int.reduceLT, Int.reduceEq, Int.reduceToNat, reduceCtorEq, evL62x0, B62x0, evC_draw, evD62x0, E62x0, hi', hj', hp0, htn, hp, hw, g1, hv, Ver.cells, Row.v, IntWalk.i64_in, Int.add_sub_cancel, Int.add_assoc, Bool.true_or, Bool.false_or, (eq_true k1 : (v.key ≤ w.key) = True), (eq_true k2 : (v.key < w.key) = True)]
          · by_cases k3 : w.died = 0
            · simp -implicitDefEqProofs (disch := omega) only [go_sem, Nat.reduceBEq, Nat.reduceAdd, Nat.reduceSub, Nat.reduceMul, Nat.reduceLeDiff, Nat.reduceEqDiff, Nat.reduceLT, Int.reduceNeg, Int.reduceAdd, Int.reduceSub, Int.reduceMul, Int.reduceLE, Int.reduceLT, Int.reduceEq, Int.reduceToNat, reduceCtorEq, evL62x0, B62x0, evC_draw, evD62x0, E62x0, hi', hj', hp0, htn, hp, hw, g1, hv, Ver.cells, Row.v, IntWalk.i64_in, Int.add_sub_cancel, Int.add_assoc, Bool.true_or, Bool.false_or, (eq_true k1 : (v.key ≤ w.key) = True), (eq_false k2 : (v.key < w.key) = False), (eq_true k3 : (w.died = 0) = True)]
            · by_cases k4 : v.born < w.died
              · simp -implicitDefEqProofs (disch := omega) only [go_sem, Nat.reduceBEq, Nat.reduceAdd, Nat.reduceSub, Nat.reduceMul, Nat.reduceLeDiff, Nat.reduceEqDiff, Nat.reduceLT, Int.reduceNeg, Int.reduceAdd, Int.reduceSub, Int.reduceMul, Int.reduceLE, Int.reduceLT, Int.reduceEq, Int.reduceToNat, reduceCtorEq, evL62x0, B62x0, evC_draw, evD62x0, E62x0, hi', hj', hp0, htn, hp, hw, g1, hv, Ver.cells, Row.v, IntWalk.i64_in, Int.add_sub_cancel, Int.add_assoc, Bool.true_or, Bool.false_or, (eq_true k1 : (v.key ≤ w.key) = True), (eq_false k2 : (v.key < w.key) = False), (eq_false k3 : (w.died = 0) = False), (eq_true k4 : (v.born < w.died) = True)]
              · simp -implicitDefEqProofs (disch := omega) only [go_sem, Nat.reduceBEq, Nat.reduceAdd, Nat.reduceSub, Nat.reduceMul, Nat.reduceLeDiff, Nat.reduceEqDiff, Nat.reduceLT, Int.reduceNeg, Int.reduceAdd, Int.reduceSub, Int.reduceMul, Int.reduceLE, Int.reduceLT, Int.reduceEq, Int.reduceToNat, reduceCtorEq, evL62x0, B62x0, evC_draw, evD62x0, E62x0, hi', hj', hp0, htn, hp, hw, g1, hv, Ver.cells, Row.v, IntWalk.i64_in, Int.add_sub_cancel, Int.add_assoc, Bool.true_or, Bool.false_or, (eq_true k1 : (v.key ≤ w.key) = True), (eq_false k2 : (v.key < w.key) = False), (eq_false k3 : (w.died = 0) = False), (eq_false k4 : (v.born < w.died) = False)]
        · simp -implicitDefEqProofs (disch := omega) only [go_sem, Nat.reduceBEq, Nat.reduceAdd, Nat.reduceSub, Nat.reduceMul, Nat.reduceLeDiff, Nat.reduceEqDiff, Nat.reduceLT, Int.reduceNeg, Int.reduceAdd, Int.reduceSub, Int.reduceMul, Int.reduceLE, Int.reduceLT, Int.reduceEq, Int.reduceToNat, reduceCtorEq, evL62x0, B62x0, evC_draw, evD62x0, E62x0, hi', hj', hp0, htn, hp, hw, g1, hv, Ver.cells, Row.v, IntWalk.i64_in, Int.add_sub_cancel, Int.add_assoc, Bool.true_or, Bool.false_or, (eq_false k1 : (v.key ≤ w.key) = False)]
-- find62
theorem run_versS (d : Nat) (c : Bool) (l : List Ver) (hs : l.length < 1099511627776) (hsh : ShortVs l) : retP (runD tab noExt (d + 5)) 62 [.sl c 4 (l.map Ver.cells)] = some [.bool (versOk l)] := by
  rw [retP, runD_eq find62 _ _ _ (by simp)]
  have hl := loop_versS d c l hs hsh 1099511627775 (by rw [prevs_len]; omega)
  simp -implicitDefEqProofs (disch := omega) only [go_sem, Nat.reduceBEq, Nat.reduceAdd, Nat.reduceSub, Nat.reduceMul, Nat.reduceLeDiff, Nat.reduceEqDiff, Nat.reduceLT, Int.reduceNeg, Int.reduceAdd, Int.reduceSub, Int.reduceMul, Int.reduceLE, Int.reduceLT, Int.reduceEq, Int.reduceToNat, reduceCtorEq]
  rw [hl]
  unfold versOk
  cases h : (prevs none l).all (okBy ordS)
  · simp -implicitDefEqProofs (disch := omega) only [go_sem, Nat.reduceBEq, Nat.reduceAdd, Nat.reduceSub, Nat.reduceMul, Nat.reduceLeDiff, Nat.reduceEqDiff, Nat.reduceLT, Int.reduceNeg, Int.reduceAdd, Int.reduceSub, Int.reduceMul, Int.reduceLE, Int.reduceLT, Int.reduceEq, Int.reduceToNat, reduceCtorEq]
  · by_cases h60 : (l.length : Int) ≤ 60 <;> simp -implicitDefEqProofs (disch := omega) only [go_sem, Nat.reduceBEq, Nat.reduceAdd, Nat.reduceSub, Nat.reduceMul, Nat.reduceLeDiff, Nat.reduceEqDiff, Nat.reduceLT, Int.reduceNeg, Int.reduceAdd, Int.reduceSub, Int.reduceMul, Int.reduceLE, Int.reduceLT, Int.reduceEq, Int.reduceToNat, reduceCtorEq, h60]
theorem run_keyOk (d : Nat) (n : Int) : retP (runD tab noExt (d + 2)) 78 [.int .i64 n] = some [.bool (decide (0 ≤ n ∧ n ≤ 4))] := by
  rw [retP, runD_eq find78 _ _ _ (by simp)]
  simp -implicitDefEqProofs (disch := omega) only [go_sem, Nat.reduceBEq, Nat.reduceAdd, Nat.reduceSub, Nat.reduceMul, Nat.reduceLeDiff, Nat.reduceEqDiff, Nat.reduceLT, Int.reduceNeg, Int.reduceAdd, Int.reduceSub, Int.reduceMul, Int.reduceLE, Int.reduceLT, Int.reduceEq, Int.reduceToNat, reduceCtorEq, run_between]
  repeat' ((first | rw [GuardI_ndec] | rw [CondC_ndec] | rw [GuardQ_ndec] | rw [GuardI_dec] | rw [CondC_dec] | rw [GuardQ_dec] | rw [GuardI_nby] | rw [CondC_nby] | rw [GuardQ_nby] | rw [GuardQ_by] | rw [GuardI_by] | rw [CondC_by]) <;> split <;> simp -implicitDefEqProofs (disch := omega) only [go_sem, Nat.reduceBEq, Nat.reduceAdd, Nat.reduceSub, Nat.reduceMul, Nat.reduceLeDiff, Nat.reduceEqDiff, Nat.reduceLT, Int.reduceNeg, Int.reduceAdd, Int.reduceSub, Int.reduceMul, Int.reduceLE, Int.reduceLT, Int.reduceEq, Int.reduceToNat, reduceCtorEq, run_between, *])
  all_goals simp_all
end Go.Proofs.Ytfbjbkkcilhgjaa.PE
/- Indexes: when the reference takes them. -/
set_option linter.unusedSimpArgs false
set_option linter.unusedVariables false
set_option maxHeartbeats 4000000
set_option maxRecDepth 20000
namespace Go.Proofs.Ytfbjbkkcilhgjaa.PE
open Go.RowKit

structure Mk where
  v : Val
  key : Int
  born : Int
  died : Int
def Mk.cells (m : Mk) : List V := [.int .i64 m.v.kind, .int .i64 m.v.n, .str m.v.s, .int .i64 m.key, .int .i64 m.born, .int .i64 m.died]
def Mk.ver (m : Mk) : Ver := ⟨m.key, m.born, m.died, ⟨true, []⟩⟩
def Mk.one (m : Mk) : Bool := m.v.ok && m.ver.one
def lessM (a b : Mk) : Bool := if a.v.cmp b.v = 0 then (decide (a.key < b.key) || (decide (a.key = b.key) && decide (a.born < b.born))) else decide (a.v.cmp b.v < 0)
def lapS (m o : Mk) : Bool := decide (o.key = m.key) && ((decide (o.died = 0) || decide (m.born < o.died)) && (decide (m.died = 0) || decide (o.born < m.died)))
def aheadOk (f : Mk → Mk → Bool) (l : List Mk) (i : Nat) (m : Mk) : Bool := match i with
  | 0 => true
  | j + 1 => match l[j]? with
    | some w => f w m
    | none => true
def markOk (f : Mk → Mk → Bool) (lap : Mk → Mk → Bool) (l : List Mk) (i : Nat) : Bool := match l[i]? with
  | none => false
  | some m => m.one && (aheadOk f l i m && (l.take i).all fun o => !lap m o)
def ShortM (l : List Mk) : Prop := ∀ m ∈ l, m.v.s.size < 1099511627776
def idxOk (l : List Mk) : Bool := (List.range l.length).all (markOk lessM lapS l) && decide ((l.length : Int) ≤ 60)
-- find103
theorem run_lessM (d : Nat) (a b : Mk) (ha : a.v.ok = true) (hb : b.v.ok = true) (sa : a.v.s.size < 1099511627776) (sb : b.v.s.size < 1099511627776) : retP (runD tab noExt (d + 4)) 103 [.agg a.cells, .agg b.cells] = some [.bool (lessM a b)] := by
  have e := ord_okT ha hb
  obtain ⟨⟨ak, an, aq⟩, ka, ba, da⟩ := a
  obtain ⟨⟨bk, bn, bq⟩, kb, bb, db⟩ := b
  have hv := run_ValueOrder d ak an aq bk bn bq sa sb
  simp only at e
  rw [e] at hv
  unfold lessM
  simp only [Mk.cells]
  generalize Val.cmp ⟨ak, an, aq⟩ ⟨bk, bn, bq⟩ = n at hv ⊢
  rw [retP, runD_eq find103 _ _ _ (by simp)]
  by_cases h0 : n = 0
  · subst h0
    have hc : (ka < kb) ∨ (¬ ka < kb ∧ ka = kb) ∨ (¬ ka < kb ∧ ¬ ka = kb) := by omega
    rcases hc with c1 | ⟨c1, c2⟩ | ⟨c1, c2⟩
    · simp -implicitDefEqProofs (disch := omega) only [go_sem, Nat.reduceBEq, Nat.reduceAdd, Nat.reduceSub, Nat.reduceMul, Nat.reduceLeDiff, Nat.reduceEqDiff, Nat.reduceLT, Int.reduceNeg, Int.reduceAdd, Int.reduceSub, Int.reduceMul, Int.reduceLE, Int.reduceLT, Int.reduceEq, Int.reduceToNat, reduceCtorEq, hv, Bool.true_or, Bool.false_or, (eq_true c1 : (ka < kb) = True)]
    · subst c2
      simp -implicitDefEqProofs (disch := omega) only [go_sem, Nat.reduceBEq, Nat.reduceAdd, Nat.reduceSub, Nat.reduceMul, Nat.reduceLeDiff, Nat.reduceEqDiff, Nat.reduceLT, Int.reduceNeg, Int.reduceAdd, Int.reduceSub, Int.reduceMul, Int.reduceLE, Int.reduceLT, Int.reduceEq, Int.reduceToNat, reduceCtorEq, hv, Int.lt_irrefl]
    · simp -implicitDefEqProofs (disch := omega) only [go_sem, Nat.reduceBEq, Nat.reduceAdd, Nat.reduceSub, Nat.reduceMul, Nat.reduceLeDiff, Nat.reduceEqDiff, Nat.reduceLT, Int.reduceNeg, Int.reduceAdd, Int.reduceSub, Int.reduceMul, Int.reduceLE, Int.reduceLT, Int.reduceEq, Int.reduceToNat, reduceCtorEq, hv, Bool.true_or, Bool.false_or, (eq_false c1 : (ka < kb) = False), (eq_false c2 : (ka = kb) = False)]
  · simp -implicitDefEqProofs (disch := omega) only [go_sem, Nat.reduceBEq, Nat.reduceAdd, Nat.reduceSub, Nat.reduceMul, Nat.reduceLeDiff, Nat.reduceEqDiff, Nat.reduceLT, Int.reduceNeg, Int.reduceAdd, Int.reduceSub, Int.reduceMul, Int.reduceLE, Int.reduceLT, Int.reduceEq, Int.reduceToNat, reduceCtorEq, hv, Bool.true_or, Bool.false_or, (eq_false h0 : (n = 0) = False)]
-- find39
theorem loop_lapS (d : Nat) (c : Bool) (l : List Mk) (m : Mk) (i : Nat) (hi0 : i < l.length) (hs : l.length < 1099511627776) : LoopS (runD tab noExt d) (drawI (runD tab noExt d)) [0, 3, 4, 5] [0, 2, 3] L39x1 1 1099511627775 [(0, .sl c 6 (l.map Mk.cells)), (3, .int .i64 (i : Nat)), (4, .ptr 0 0 0 0), (5, .int .i64 0)] [.box m.cells] =
    if (l.take i).all (fun o => !lapS m o) then (some (.exit 2, [(0, .sl c 6 (l.map Mk.cells)), (2, .undef), (3, .int .i64 (i : Nat))], [.box m.cells]) : Out) else some (.ret, [(0, .sl c 6 (l.map Mk.cells)), (2, .bool false), (3, .int .i64 (i : Nat))], [.box m.cells]) := by
  have hlen : (l.take i).length = i := by rw [List.length_take]; omega
  have key := LoopS_all (run := runD tab noExt d) (draw := drawI (runD tab noExt d)) (live := [0, 3, 4, 5]) (out := [0, 2, 3]) (c := L39x1) (n0 := 1) (l.take i) (fun o => !lapS m o) (fun (j : Nat) => [(0, .sl c 6 (l.map Mk.cells)), (3, .int .i64 (i : Nat)), (4, .ptr 0 0 0 0), (5, .int .i64 (j : Int))]) [.box m.cells] (some (.exit 2, [(0, .sl c 6 (l.map Mk.cells)), (2, .undef), (3, .int .i64 (i : Nat))], [.box m.cells])) (some (.ret, [(0, .sl c 6 (l.map Mk.cells)), (2, .bool false), (3, .int .i64 (i : Nat))], [.box m.cells])) (fun K => ?_) (fun (j : Nat) x K hj hx0 => ?_) 1099511627775 (by omega)
  · simp only [Int.natCast_zero] at key
    exact key
  · rw [LoopS_eq, hlen]
    simp -implicitDefEqProofs only [go_sem, Nat.reduceBEq, Nat.reduceAdd, Nat.reduceSub, Nat.reduceMul, Nat.reduceLeDiff, Nat.reduceEqDiff, Nat.reduceLT, Int.reduceNeg, Int.reduceAdd, Int.reduceSub, Int.reduceMul, Int.reduceLE, Int.reduceLT, Int.reduceEq, Int.reduceToNat, reduceCtorEq, evL39x1, B39x1, Int.lt_irrefl]
  · rw [hlen] at hj
    have hx : l[j]? = some x := by rw [List.getElem?_take] at hx0; split at hx0; exact hx0; cases hx0
    have hjl : (j : Int) < l.length := by omega
    obtain ⟨⟨mk, mn, mq⟩, km, bm, dm⟩ := m
    obtain ⟨⟨xk, xn, xq⟩, kx, bx, dx⟩ := x
    rw [LoopS_eq]
    unfold lapS
    simp only
    by_cases c1 : kx = km
    rotate_left
    · simp -implicitDefEqProofs (disch := omega) only [go_sem, Nat.reduceBEq, Nat.reduceAdd, Nat.reduceSub, Nat.reduceMul, Nat.reduceLeDiff, Nat.reduceEqDiff, Nat.reduceLT, Int.reduceNeg, Int.reduceAdd, Int.reduceSub, Int.reduceMul, Int.reduceLE, Int.reduceLT, Int.reduceEq, Int.reduceToNat, reduceCtorEq, evL39x1, B39x1, hj, hjl, hx, Mk.cells, Bool.true_or, Bool.false_or, Bool.not_true, Bool.not_false, (eq_false c1 : (kx = km) = False), IntWalk.i64_in]
    have c2 : (dx = 0) ∨ (¬ dx = 0 ∧ bm < dx) ∨ (¬ dx = 0 ∧ ¬ bm < dx) := by omega
    have c3 : (dm = 0) ∨ (¬ dm = 0 ∧ bx < dm) ∨ (¬ dm = 0 ∧ ¬ bx < dm) := by omega
    rcases c2 with c2 | ⟨c2, c4⟩ | ⟨c2, c4⟩
    · rcases c3 with c3 | ⟨c3, c5⟩ | ⟨c3, c5⟩
      · simp -implicitDefEqProofs (disch := omega) only [go_sem, Nat.reduceBEq, Nat.reduceAdd, Nat.reduceSub, Nat.reduceMul, Nat.reduceLeDiff, Nat.reduceEqDiff, Nat.reduceLT, Int.reduceNeg, Int.reduceAdd, Int.reduceSub, Int.reduceMul, Int.reduceLE, Int.reduceLT, Int.reduceEq, Int.reduceToNat, reduceCtorEq, evL39x1, B39x1, hj, hjl, hx, Mk.cells, Bool.true_or, Bool.false_or, Bool.not_true, Bool.not_false, (eq_true c1 : (kx = km) = True), (eq_true c2 : (dx = 0) = True), (eq_true c3 : (dm = 0) = True), IntWalk.i64_in]
      · simp -implicitDefEqProofs (disch := omega) only [go_sem, Nat.reduceBEq, Nat.reduceAdd, Nat.reduceSub, Nat.reduceMul, Nat.reduceLeDiff, Nat.reduceEqDiff, Nat.reduceLT, Int.reduceNeg, Int.reduceAdd, Int.reduceSub, Int.reduceMul, Int.reduceLE, Int.reduceLT, Int.reduceEq, Int.reduceToNat, reduceCtorEq, evL39x1, B39x1, hj, hjl, hx, Mk.cells, Bool.true_or, Bool.false_or, Bool.not_true, Bool.not_false, (eq_true c1 : (kx = km) = True), (eq_true c2 : (dx = 0) = True), (eq_false c3 : (dm = 0) = False), (eq_true c5 : (bx < dm) = True), IntWalk.i64_in]
      · simp -implicitDefEqProofs (disch := omega) only [go_sem, Nat.reduceBEq, Nat.reduceAdd, Nat.reduceSub, Nat.reduceMul, Nat.reduceLeDiff, Nat.reduceEqDiff, Nat.reduceLT, Int.reduceNeg, Int.reduceAdd, Int.reduceSub, Int.reduceMul, Int.reduceLE, Int.reduceLT, Int.reduceEq, Int.reduceToNat, reduceCtorEq, evL39x1, B39x1, hj, hjl, hx, Mk.cells, Bool.true_or, Bool.false_or, Bool.not_true, Bool.not_false, (eq_true c1 : (kx = km) = True), (eq_true c2 : (dx = 0) = True), (eq_false c3 : (dm = 0) = False), (eq_false c5 : (bx < dm) = False), IntWalk.i64_in]
    · rcases c3 with c3 | ⟨c3, c5⟩ | ⟨c3, c5⟩
      · simp -implicitDefEqProofs (disch := omega) only [go_sem, Nat.reduceBEq, Nat.reduceAdd, Nat.reduceSub, Nat.reduceMul, Nat.reduceLeDiff, Nat.reduceEqDiff, Nat.reduceLT, Int.reduceNeg, Int.reduceAdd, Int.reduceSub, Int.reduceMul, Int.reduceLE, Int.reduceLT, Int.reduceEq, Int.reduceToNat, reduceCtorEq, evL39x1, B39x1, hj, hjl, hx, Mk.cells, Bool.true_or, Bool.false_or, Bool.not_true, Bool.not_false, (eq_true c1 : (kx = km) = True), (eq_false c2 : (dx = 0) = False), (eq_true c4 : (bm < dx) = True), (eq_true c3 : (dm = 0) = True), IntWalk.i64_in]
      · simp -implicitDefEqProofs (disch := omega) only [go_sem, Nat.reduceBEq, Nat.reduceAdd, Nat.reduceSub, Nat.reduceMul, Nat.reduceLeDiff, Nat.reduceEqDiff, Nat.reduceLT, Int.reduceNeg, Int.reduceAdd, Int.reduceSub, Int.reduceMul, Int.reduceLE, Int.reduceLT, Int.reduceEq, Int.reduceToNat, reduceCtorEq, evL39x1, B39x1, hj, hjl, hx, Mk.cells, Bool.true_or, Bool.false_or, Bool.not_true, Bool.not_false, (eq_true c1 : (kx = km) = True), (eq_false c2 : (dx = 0) = False), (eq_true c4 : (bm < dx) = True), (eq_false c3 : (dm = 0) = False), (eq_true c5 : (bx < dm) = True), IntWalk.i64_in]
      · simp -implicitDefEqProofs (disch := omega) only [go_sem, Nat.reduceBEq, Nat.reduceAdd, Nat.reduceSub, Nat.reduceMul, Nat.reduceLeDiff, Nat.reduceEqDiff, Nat.reduceLT, Int.reduceNeg, Int.reduceAdd, Int.reduceSub, Int.reduceMul, Int.reduceLE, Int.reduceLT, Int.reduceEq, Int.reduceToNat, reduceCtorEq, evL39x1, B39x1, hj, hjl, hx, Mk.cells, Bool.true_or, Bool.false_or, Bool.not_true, Bool.not_false, (eq_true c1 : (kx = km) = True), (eq_false c2 : (dx = 0) = False), (eq_true c4 : (bm < dx) = True), (eq_false c3 : (dm = 0) = False), (eq_false c5 : (bx < dm) = False), IntWalk.i64_in]
    · simp -implicitDefEqProofs (disch := omega) only [go_sem, Nat.reduceBEq, Nat.reduceAdd, Nat.reduceSub, Nat.reduceMul, Nat.reduceLeDiff, Nat.reduceEqDiff, Nat.reduceLT, Int.reduceNeg, Int.reduceAdd, Int.reduceSub, Int.reduceMul, Int.reduceLE, Int.reduceLT, Int.reduceEq, Int.reduceToNat, reduceCtorEq, evL39x1, B39x1, hj, hjl, hx, Mk.cells, Bool.true_or, Bool.false_or, Bool.not_true, Bool.not_false, (eq_true c1 : (kx = km) = True), (eq_false c2 : (dx = 0) = False), (eq_false c4 : (bm < dx) = False), IntWalk.i64_in]
theorem range_at {n i x : Nat} (h : (List.range n)[i]? = some x) : x = i ∧ i < n := by
  obtain ⟨h1, h2⟩ := List.getElem?_eq_some_iff.1 h
  simp at h1 h2
  exact ⟨h2.symm, h1⟩
theorem loop_idxS (d : Nat) (c : Bool) (l : List Mk) (hs : l.length < 1099511627776) (hsh : ShortM l) : LoopS (runD tab noExt (d + 5)) (drawI (runD tab noExt (d + 5))) [0, 3] [0, 2] L39x0 0 1099511627775 [(0, .sl c 6 (l.map Mk.cells)), (3, .int .i64 0)] [] =
    if (List.range l.length).all (markOk lessM lapS l) then (some (.exit 0, [(0, .sl c 6 (l.map Mk.cells)), (2, .undef)], []) : Out) else some (.ret, [(0, .sl c 6 (l.map Mk.cells)), (2, .bool false)], []) := by
  have hlr : (List.range l.length).length = l.length := List.length_range
  have key := LoopS_allP (run := runD tab noExt (d + 5)) (draw := drawI (runD tab noExt (d + 5))) (live := [0, 3]) (out := [0, 2]) (c := L39x0) (n0 := 0) (List.range l.length) (markOk lessM lapS l) (fun (i : Nat) => [(0, .sl c 6 (l.map Mk.cells)), (3, .int .i64 (i : Int))]) [] (some (.exit 0, [(0, .sl c 6 (l.map Mk.cells)), (2, .undef)], [])) (some (.ret, [(0, .sl c 6 (l.map Mk.cells)), (2, .bool false)], [])) (fun K => ?_) (fun (i : Nat) x K hi hx0 hbef => ?_) 1099511627775 (by omega)
  · simp only [Int.natCast_zero] at key
    exact key
  · rw [LoopS_eq, hlr]
    simp -implicitDefEqProofs only [go_sem, Nat.reduceBEq, Nat.reduceAdd, Nat.reduceSub, Nat.reduceMul, Nat.reduceLeDiff, Nat.reduceEqDiff, Nat.reduceLT, Int.reduceNeg, Int.reduceAdd, Int.reduceSub, Int.reduceMul, Int.reduceLE, Int.reduceLT, Int.reduceEq, Int.reduceToNat, reduceCtorEq, evL39x0, B39x0, Int.lt_irrefl]
  · obtain ⟨rfl, hlt⟩ := range_at hx0
    have hi' : (x : Int) < l.length := by omega
    have hx := List.getElem?_eq_getElem hlt
    generalize l[x] = m at hx
    have hsm := hsh m (List.mem_of_getElem? hx)
    have hl1 := loop_lapS (d + 5) c l m x hlt hs
    have hv := run_specValueOk (d + 3) m.v.kind m.v.n m.v.s hsm
    have h13 := run_l13 (d + 1) m.ver (by simp [Mk.ver]) (fun _ h => by simp [Mk.ver] at h)
    have hone : markOk lessM lapS l x = (m.one && (aheadOk lessM l x m && (l.take x).all fun o => !lapS m o)) := by unfold markOk; rw [hx]
    rw [hone]
    rw [LoopS_eq]
    have ev : (⟨m.v.kind, m.v.n, m.v.s⟩ : Val) = m.v := rfl
    rw [ev] at hv
    simp only [Mk.ver, List.map_nil] at h13
    have eone : m.one = (m.v.ok && Ver.one ⟨m.key, m.born, m.died, ⟨true, []⟩⟩) := rfl
    rw [eone]
    generalize Ver.one ⟨m.key, m.born, m.died, ⟨true, []⟩⟩ = b2 at h13 ⊢
    simp only [Mk.cells] at hl1
    cases k1 : m.v.ok
    · rw [k1] at hv
      simp -implicitDefEqProofs (disch := omega) only [go_sem, Nat.reduceBEq, Nat.reduceAdd, Nat.reduceSub, Nat.reduceMul, Nat.reduceLeDiff, Nat.reduceEqDiff, Nat.reduceLT, Int.reduceNeg, Int.reduceAdd, Int.reduceSub, Int.reduceMul, Int.reduceLE, Int.reduceLT, Int.reduceEq, Int.reduceToNat, reduceCtorEq, evL39x0, B39x0, evC_draw, evD39x0, E39x0, hi', hx, Mk.cells, hv, Bool.true_or, Bool.false_or, IntWalk.i64_in]
    rw [k1] at hv
    cases b2
    · simp -implicitDefEqProofs (disch := omega) only [go_sem, Nat.reduceBEq, Nat.reduceAdd, Nat.reduceSub, Nat.reduceMul, Nat.reduceLeDiff, Nat.reduceEqDiff, Nat.reduceLT, Int.reduceNeg, Int.reduceAdd, Int.reduceSub, Int.reduceMul, Int.reduceLE, Int.reduceLT, Int.reduceEq, Int.reduceToNat, reduceCtorEq, evL39x0, B39x0, evC_draw, evD39x0, E39x0, hi', hx, Mk.cells, hv, h13, Bool.true_or, Bool.false_or, IntWalk.i64_in]
    cases x with
    | zero =>
      have hi0 : (0 : Int) < l.length := by omega
      simp only [List.take_zero, List.all_nil, if_true, Int.natCast_zero] at hl1
      simp -implicitDefEqProofs (disch := omega) only [go_sem, Nat.reduceBEq, Nat.reduceAdd, Nat.reduceSub, Nat.reduceMul, Nat.reduceLeDiff, Nat.reduceEqDiff, Nat.reduceLT, Int.reduceNeg, Int.reduceAdd, Int.reduceSub, Int.reduceMul, Int.reduceLE, Int.reduceLT, Int.reduceEq, Int.reduceToNat, reduceCtorEq, evL39x0, B39x0, evC_draw, evD39x0, E39x0, hi0, hx, Mk.cells, hv, h13, hl1, aheadOk, List.take_zero, Bool.true_or, Bool.false_or, Int.natCast_zero, Int.lt_irrefl, IntWalk.i64_in]
    | succ j =>
      have hj : j < l.length := by omega
      have hw := List.getElem?_eq_getElem hj
      generalize l[j] = w at hw
      have ho := hbef j j (by omega) (by rw [List.getElem?_range hj])
      unfold markOk at ho
      rw [hw] at ho
      simp only [Bool.and_eq_true] at ho
      have wok : w.v.ok = true := by
        have := ho.1
        unfold Mk.one at this
        simp only [Bool.and_eq_true] at this
        exact this.1
      have hless := run_lessM (d + 1) w m wok k1 (hsh w (List.mem_of_getElem? hw)) hsm
      have ea : aheadOk lessM l (j + 1) m = lessM w m := by simp only [aheadOk, hw]
      rw [ea]
      simp only [Mk.cells] at hless
      have hp : (0 : Int) < (j : Int) + 1 := by omega
      have hj' : (j : Int) < l.length := by omega
      have hp0 : (0 : Int) ≤ (j : Int) + 1 := by omega
      have htn : ((j : Int) + 1).toNat = j + 1 := by omega
      have hi2 : (j : Int) + 1 < l.length := by omega
      simp only [Int.natCast_add, Int.natCast_one] at hl1
      cases k5 : lessM w m
      · rw [k5] at hless
        simp -implicitDefEqProofs (disch := omega) only [go_sem, Nat.reduceBEq, Nat.reduceAdd, Nat.reduceSub, Nat.reduceMul, Nat.reduceLeDiff, Nat.reduceEqDiff, Nat.reduceLT, Int.reduceNeg, Int.reduceAdd, Int.reduceSub, Int.reduceMul, Int.reduceLE, Int.reduceLT, Int.reduceEq, Int.reduceToNat, reduceCtorEq, evL39x0, B39x0, evC_draw, evD39x0, E39x0, hi2, hj', hp0, htn, hp, hx, hw, Mk.cells, hv, h13, hless, Bool.true_or, Bool.false_or, Int.add_sub_cancel, Int.add_assoc, IntWalk.i64_in]
      · rw [k5] at hless
        cases hall : (l.take (j + 1)).all fun o => !lapS m o
        · rw [hall] at hl1
          simp only [Bool.false_eq_true, if_false] at hl1
          simp -implicitDefEqProofs (disch := omega) only [go_sem, Nat.reduceBEq, Nat.reduceAdd, Nat.reduceSub, Nat.reduceMul, Nat.reduceLeDiff, Nat.reduceEqDiff, Nat.reduceLT, Int.reduceNeg, Int.reduceAdd, Int.reduceSub, Int.reduceMul, Int.reduceLE, Int.reduceLT, Int.reduceEq, Int.reduceToNat, reduceCtorEq, evL39x0, B39x0, evC_draw, evD39x0, E39x0, hi2, hj', hp0, htn, hp, hx, hw, Mk.cells, hv, h13, hless, hl1, Bool.true_or, Bool.false_or, Int.add_sub_cancel, Int.add_assoc, IntWalk.i64_in]
        · rw [hall] at hl1
          simp only [if_true] at hl1
          simp -implicitDefEqProofs (disch := omega) only [go_sem, Nat.reduceBEq, Nat.reduceAdd, Nat.reduceSub, Nat.reduceMul, Nat.reduceLeDiff, Nat.reduceEqDiff, Nat.reduceLT, Int.reduceNeg, Int.reduceAdd, Int.reduceSub, Int.reduceMul, Int.reduceLE, Int.reduceLT, Int.reduceEq, Int.reduceToNat, reduceCtorEq, evL39x0, B39x0, evC_draw, evD39x0, E39x0, hi2, hj', hp0, htn, hp, hx, hw, Mk.cells, hv, h13, hless, hl1, Bool.true_or, Bool.false_or, Int.add_sub_cancel, Int.add_assoc, IntWalk.i64_in]
theorem run_idxS (d : Nat) (c : Bool) (l : List Mk) (hs : l.length < 1099511627776) (hsh : ShortM l) : retP (runD tab noExt (d + 6)) 39 [.sl c 6 (l.map Mk.cells)] = some [.bool (idxOk l)] := by
  have hl := loop_idxS d c l hs hsh
  rw [retP, runD_eq find39 _ _ _ (by simp)]
  simp -implicitDefEqProofs (disch := omega) only [go_sem, Nat.reduceBEq, Nat.reduceAdd, Nat.reduceSub, Nat.reduceMul, Nat.reduceLeDiff, Nat.reduceEqDiff, Nat.reduceLT, Int.reduceNeg, Int.reduceAdd, Int.reduceSub, Int.reduceMul, Int.reduceLE, Int.reduceLT, Int.reduceEq, Int.reduceToNat, reduceCtorEq]
  try simp -implicitDefEqProofs only [go_sem, Nat.reduceBEq, Nat.reduceAdd, Nat.reduceSub, Nat.reduceMul, Nat.reduceLeDiff, Nat.reduceEqDiff, Nat.reduceLT, Int.reduceNeg, Int.reduceAdd, Int.reduceSub, Int.reduceMul, Int.reduceLE, Int.reduceLT, Int.reduceEq, Int.reduceToNat, reduceCtorEq] at hl
  rw [hl]
  unfold idxOk
  cases h : (List.range l.length).all (markOk lessM lapS l)
  · simp -implicitDefEqProofs (disch := omega) only [go_sem, Nat.reduceBEq, Nat.reduceAdd, Nat.reduceSub, Nat.reduceMul, Nat.reduceLeDiff, Nat.reduceEqDiff, Nat.reduceLT, Int.reduceNeg, Int.reduceAdd, Int.reduceSub, Int.reduceMul, Int.reduceLE, Int.reduceLT, Int.reduceEq, Int.reduceToNat, reduceCtorEq]
  · by_cases h60 : (l.length : Int) ≤ 60 <;> simp -implicitDefEqProofs (disch := omega) only [go_sem, Nat.reduceBEq, Nat.reduceAdd, Nat.reduceSub, Nat.reduceMul, Nat.reduceLeDiff, Nat.reduceEqDiff, Nat.reduceLT, Int.reduceNeg, Int.reduceAdd, Int.reduceSub, Int.reduceMul, Int.reduceLE, Int.reduceLT, Int.reduceEq, Int.reduceToNat, reduceCtorEq, h60]
end Go.Proofs.Ytfbjbkkcilhgjaa.PE
/- Indexes: when the program takes them. -/
set_option linter.unusedSimpArgs false
set_option linter.unusedVariables false
set_option maxHeartbeats 4000000
set_option maxRecDepth 20000
namespace Go.Proofs.Ytfbjbkkcilhgjaa.PE
open Go.RowKit

theorem loop_idxMk (d : Nat) (h : Heap) (c : Bool) (g : Nat) (caps : List V) (xs : List (Mk)) (P : Mk → Bool) (hs : xs.length < 1099511627776) (hhi : h.all (hiB h.length) = true) (hcap : caps.all (hi0 h.length) = true)
    (hg : ∀ x ∈ xs, callS (runD tab noExt d) h g (V.agg (Mk.cells x) :: caps) false = some (.bool (P x), h)) (K : Nat) (hK : xs.length ≤ K) :
    LoopS (runD tab noExt d) (drawI (runD tab noExt d)) [0, 1, 7, 8] [4] L151x0 h.length K [(0, .sl c 6 (xs.map Mk.cells)), (1, .clo g caps), (7, .int .i64 xs.length), (8, .int .i64 0)] h =
      (match xs.findIdx? P with
        | some k => (some (.ret, [(4, .int .i64 (k : Int))], h) : Out)
        | none => some (.exit 0, [(4, .undef)], h)) := by
  have key := LoopS_rec (run := runD tab noExt d) (draw := drawI (runD tab noExt d)) (live := [0, 1, 7, 8]) (out := [4]) (c := L151x0) (n0 := h.length) xs (fun (i : Nat) (_ : Unit) => [(0, .sl c 6 (xs.map Mk.cells)), (1, .clo g caps), (7, .int .i64 xs.length), (8, .int .i64 i)]) (fun _ _ => h)
    (fun r _ => match r.findIdx? P with
        | some k => (some (.ret, [(4, .int .i64 (xs.length - r.length + k : Int))], h) : Out)
        | none => some (.exit 0, [(4, .undef)], h)) (fun _ K => ?_) (fun (i : Nat) x r _ K hi hx hr ih => ?_) K hK ()
  · simp only [Int.natCast_zero, Int.sub_self, Int.zero_add] at key
    exact key
  · rw [LoopS_eq]
    simp -implicitDefEqProofs only [go_sem, Nat.reduceBEq, Nat.reduceAdd, Nat.reduceSub, Nat.reduceMul, Nat.reduceLeDiff, Nat.reduceEqDiff, Nat.reduceLT, Int.reduceNeg, Int.reduceAdd, Int.reduceSub, Int.reduceMul, Int.reduceLE, Int.reduceLT, Int.reduceEq, Int.reduceToNat, reduceCtorEq, evL151x0, B151x0, hhi, hcap, Int.lt_irrefl, List.findIdx?_nil]
  · have hgx := hg x (List.mem_of_getElem? hx)
    try simp only [Mk.cells] at hgx
    have hlen : (xs.length : Int) - (r.length + 1) = i := by omega
    rw [LoopS_eq]
    simp -implicitDefEqProofs (disch := omega) only [go_sem, Nat.reduceBEq, Nat.reduceAdd, Nat.reduceSub, Nat.reduceMul, Nat.reduceLeDiff, Nat.reduceEqDiff, Nat.reduceLT, Int.reduceNeg, Int.reduceAdd, Int.reduceSub, Int.reduceMul, Int.reduceLE, Int.reduceLT, Int.reduceEq, Int.reduceToNat, reduceCtorEq, evL151x0, B151x0, hhi, hcap, hi, hx, hgx, Mk.cells, Mk.cells, IntWalk.i64_in]
    rw [List.findIdx?_cons]
    cases hp : P x
    · simp -implicitDefEqProofs (disch := omega) only [go_sem, Nat.reduceBEq, Nat.reduceAdd, Nat.reduceSub, Nat.reduceMul, Nat.reduceLeDiff, Nat.reduceEqDiff, Nat.reduceLT, Int.reduceNeg, Int.reduceAdd, Int.reduceSub, Int.reduceMul, Int.reduceLE, Int.reduceLT, Int.reduceEq, Int.reduceToNat, reduceCtorEq, hhi, hcap, IntWalk.i64_in, hp]
      have ih' := ih ()
      simp only [Int.natCast_add, Int.natCast_one] at ih'
      rw [ih']
      cases hf : r.findIdx? P with
      | none => rfl
      | some k => simp; omega
    · simp -implicitDefEqProofs only [go_sem, Nat.reduceBEq, Nat.reduceAdd, Nat.reduceSub, Nat.reduceMul, Nat.reduceLeDiff, Nat.reduceEqDiff, Nat.reduceLT, Int.reduceNeg, Int.reduceAdd, Int.reduceSub, Int.reduceMul, Int.reduceLE, Int.reduceLT, Int.reduceEq, Int.reduceToNat, reduceCtorEq, hp, List.length_cons, Int.natCast_add, Int.natCast_one, hlen]
      simp
theorem idxMk (d : Nat) (h : Heap) (c : Bool) (g : Nat) (caps : List V) (xs : List (Mk)) (P : Mk → Bool) (hs : xs.length < 1099511627776) (hhi : h.all (hiB h.length) = true) (hcap : caps.all (hi0 h.length) = true)
    (hg : ∀ x ∈ xs, callS (runD tab noExt d) h g (V.agg (Mk.cells x) :: caps) false = some (.bool (P x), h)) :
    callS (runD tab noExt (d + 1)) h 151 [.sl c 6 (xs.map Mk.cells), .clo g caps] false = some (.int .i64 (match xs.findIdx? P with | some k => (k : Int) | none => -1), h) := by
  rw [callS_eq, runD_eq find151 _ _ _ (by simp)]
  have hl := loop_idxMk d h c g caps xs P hs hhi hcap hg 1099511627775 (by omega)
  simp -implicitDefEqProofs (disch := omega) only [go_sem, Nat.reduceBEq, Nat.reduceAdd, Nat.reduceSub, Nat.reduceMul, Nat.reduceLeDiff, Nat.reduceEqDiff, Nat.reduceLT, Int.reduceNeg, Int.reduceAdd, Int.reduceSub, Int.reduceMul, Int.reduceLE, Int.reduceLT, Int.reduceEq, Int.reduceToNat, reduceCtorEq, hhi, hcap]
  rw [hl]
  cases hf : xs.findIdx? P <;> simp -implicitDefEqProofs only [go_sem, Nat.reduceBEq, Nat.reduceAdd, Nat.reduceSub, Nat.reduceMul, Nat.reduceLeDiff, Nat.reduceEqDiff, Nat.reduceLT, Int.reduceNeg, Int.reduceAdd, Int.reduceSub, Int.reduceMul, Int.reduceLE, Int.reduceLT, Int.reduceEq, Int.reduceToNat, reduceCtorEq, hhi, hcap]
theorem conMk (d : Nat) (h : Heap) (c : Bool) (g : Nat) (caps : List V) (xs : List (Mk)) (P : Mk → Bool) (hs : xs.length < 1099511627776) (hhi : h.all (hiB h.length) = true) (hcap : caps.all (hi0 h.length) = true)
    (hg : ∀ x ∈ xs, callS (runD tab noExt d) h g (V.agg (Mk.cells x) :: caps) false = some (.bool (P x), h)) :
    callS (runD tab noExt (d + 2)) h 98 [.sl c 6 (xs.map Mk.cells), .clo g caps] false = some (.bool (xs.any P), h) := by
  rw [callS_eq, runD_eq find98 _ _ _ (by simp)]
  have hl := idxMk d h c g caps xs P hs hhi hcap hg
  simp -implicitDefEqProofs (disch := omega) only [go_sem, Nat.reduceBEq, Nat.reduceAdd, Nat.reduceSub, Nat.reduceMul, Nat.reduceLeDiff, Nat.reduceEqDiff, Nat.reduceLT, Int.reduceNeg, Int.reduceAdd, Int.reduceSub, Int.reduceMul, Int.reduceLE, Int.reduceLT, Int.reduceEq, Int.reduceToNat, reduceCtorEq, hl, hhi, hcap]
  have e : xs.any P = (xs.findIdx? P).isSome := by simp [List.findIdx?_isSome]
  rw [e]
  cases hf : xs.findIdx? P <;> simp -implicitDefEqProofs only [go_sem, Nat.reduceBEq, Nat.reduceAdd, Nat.reduceSub, Nat.reduceMul, Nat.reduceLeDiff, Nat.reduceEqDiff, Nat.reduceLT, Int.reduceNeg, Int.reduceAdd, Int.reduceSub, Int.reduceMul, Int.reduceLE, Int.reduceLT, Int.reduceEq, Int.reduceToNat, reduceCtorEq, Option.isSome_some, Option.isSome_none]

def endM (m : Mk) : Int := if m.died = 0 then 41 else m.died
def ordM (a b : Mk) : Int := if a.v.cmp b.v ≠ 0 then a.v.cmp b.v else if cmpI a.key b.key ≠ 0 then cmpI a.key b.key else cmpI a.born b.born
def lapI (m n : Mk) : Bool := decide (n.key = m.key) && (decide (n.born < endM m) && decide (m.born < endM n))
def notAfter (a b : Mk) : Bool := decide (ordM a b ≤ 0)
-- find100
theorem run_endM (d : Nat) (m : Mk) : retP (runD tab noExt (d + 1)) 100 [.agg m.cells] = some [.int .i64 (endM m)] := by
  obtain ⟨⟨mk, mn, mq⟩, km, bm, dm⟩ := m
  rw [retP, runD_eq find100 _ _ _ (by simp)]
  unfold endM
  by_cases h : dm = 0
  · simp -implicitDefEqProofs (disch := omega) only [go_sem, Nat.reduceBEq, Nat.reduceAdd, Nat.reduceSub, Nat.reduceMul, Nat.reduceLeDiff, Nat.reduceEqDiff, Nat.reduceLT, Int.reduceNeg, Int.reduceAdd, Int.reduceSub, Int.reduceMul, Int.reduceLE, Int.reduceLT, Int.reduceEq, Int.reduceToNat, reduceCtorEq, Mk.cells, (eq_true h : (dm = 0) = True), if_true]
  · simp -implicitDefEqProofs (disch := omega) only [go_sem, Nat.reduceBEq, Nat.reduceAdd, Nat.reduceSub, Nat.reduceMul, Nat.reduceLeDiff, Nat.reduceEqDiff, Nat.reduceLT, Int.reduceNeg, Int.reduceAdd, Int.reduceSub, Int.reduceMul, Int.reduceLE, Int.reduceLT, Int.reduceEq, Int.reduceToNat, reduceCtorEq, Mk.cells, (eq_false h : (dm = 0) = False), if_false]
-- find97
theorem run_ordM (d : Nat) (a b : Mk) : retP (runD tab noExt (d + 4)) 97 [.agg a.cells, .agg b.cells] = some [.int .i64 (ordM a b)] := by
  obtain ⟨⟨ak, an, aq⟩, ka, ba, da⟩ := a
  obtain ⟨⟨bk, bn, bq⟩, kb, bb, db⟩ := b
  have ho := run_order d ak an aq bk bn bq
  unfold ordM
  simp only [Mk.cells]
  generalize Val.cmp ⟨ak, an, aq⟩ ⟨bk, bn, bq⟩ = n at ho ⊢
  rw [retP, runD_eq find97 _ _ _ (by simp)]
  simp -implicitDefEqProofs (disch := omega) only [go_sem, Nat.reduceBEq, Nat.reduceAdd, Nat.reduceSub, Nat.reduceMul, Nat.reduceLeDiff, Nat.reduceEqDiff, Nat.reduceLT, Int.reduceNeg, Int.reduceAdd, Int.reduceSub, Int.reduceMul, Int.reduceLE, Int.reduceLT, Int.reduceEq, Int.reduceToNat, reduceCtorEq, ho, run_cmpI, run_Or3, evC_draw, evD97x0, E97x0, elemsOf, elemOf, refsV, refs, refC, List.flatMap_cons, List.flatMap_nil, frzs, List.append_nil]
-- find99
theorem clo_lap (d : Nat) (m n : Mk) : callS (runD tab noExt (d + 2)) [.box m.cells] 99 [.agg n.cells, .ptr 0 0 0 0] false = some (.bool (lapI m n), [.box m.cells]) := by
  have e1 := run_endM d m
  have e2 := run_endM d n
  unfold lapI
  generalize endM m = em at e1 ⊢
  generalize endM n = en at e2 ⊢
  obtain ⟨⟨mk, mn, mq⟩, km, bm, dm⟩ := m
  obtain ⟨⟨nk, nn, nq⟩, kn, bn, dn⟩ := n
  simp only [Mk.cells] at e1 e2 ⊢
  rw [callS_eq, runD_eq find99 _ _ _ (by simp)]
  by_cases c1 : kn = km
  · by_cases c2 : bn < em
    · simp -implicitDefEqProofs (disch := omega) only [go_sem, Nat.reduceBEq, Nat.reduceAdd, Nat.reduceSub, Nat.reduceMul, Nat.reduceLeDiff, Nat.reduceEqDiff, Nat.reduceLT, Int.reduceNeg, Int.reduceAdd, Int.reduceSub, Int.reduceMul, Int.reduceLE, Int.reduceLT, Int.reduceEq, Int.reduceToNat, reduceCtorEq, evC_draw, evD99x0, E99x0, e1, e2, (eq_true c1 : (kn = km) = True), (eq_true c2 : (bn < em) = True)]
    · simp -implicitDefEqProofs (disch := omega) only [go_sem, Nat.reduceBEq, Nat.reduceAdd, Nat.reduceSub, Nat.reduceMul, Nat.reduceLeDiff, Nat.reduceEqDiff, Nat.reduceLT, Int.reduceNeg, Int.reduceAdd, Int.reduceSub, Int.reduceMul, Int.reduceLE, Int.reduceLT, Int.reduceEq, Int.reduceToNat, reduceCtorEq, evC_draw, evD99x0, E99x0, e1, e2, (eq_true c1 : (kn = km) = True), (eq_false c2 : (bn < em) = False)]
  · simp -implicitDefEqProofs (disch := omega) only [go_sem, Nat.reduceBEq, Nat.reduceAdd, Nat.reduceSub, Nat.reduceMul, Nat.reduceLeDiff, Nat.reduceEqDiff, Nat.reduceLT, Int.reduceNeg, Int.reduceAdd, Int.reduceSub, Int.reduceMul, Int.reduceLE, Int.reduceLT, Int.reduceEq, Int.reduceToNat, reduceCtorEq, evC_draw, evD99x0, E99x0, e1, e2, (eq_false c1 : (kn = km) = False)]
theorem one_eq (m : Mk) : m.one = (m.v.ok && (decide (0 ≤ m.key ∧ m.key ≤ 4) && (decide (1 ≤ m.born ∧ m.born ≤ 40) && (decide (m.died = 0) || decide (m.born + 1 ≤ m.died ∧ m.died ≤ 40))))) := by
  have e : rowOk [] = true := by decide
  unfold Mk.one Ver.one Mk.ver
  simp only [e, Bool.and_true]
-- find38
theorem loop_idxI (d : Nat) (c : Bool) (l : List Mk) (hs : l.length < 1099511627776) : LoopS (runD tab noExt (d + 6)) (drawI (runD tab noExt (d + 6))) [0, 5, 6, 7] [0, 2] L38x0 0 1099511627775 [(0, .sl c 6 (l.map Mk.cells)), (5, .sl c 6 (l.map Mk.cells)), (6, .int .i64 l.length), (7, .int .i64 0)] [] =
    if (List.range l.length).all (markOk notAfter lapI l) then (some (.exit 0, [(0, .sl c 6 (l.map Mk.cells)), (2, .undef)], []) : Out) else some (.ret, [(0, .sl c 6 (l.map Mk.cells)), (2, .bool false)], []) := by
  have hlr : (List.range l.length).length = l.length := List.length_range
  have key := LoopS_allP (run := runD tab noExt (d + 6)) (draw := drawI (runD tab noExt (d + 6))) (live := [0, 5, 6, 7]) (out := [0, 2]) (c := L38x0) (n0 := 0) (List.range l.length) (markOk notAfter lapI l) (fun (i : Nat) => [(0, .sl c 6 (l.map Mk.cells)), (5, .sl c 6 (l.map Mk.cells)), (6, .int .i64 l.length), (7, .int .i64 (i : Int))]) [] (some (.exit 0, [(0, .sl c 6 (l.map Mk.cells)), (2, .undef)], [])) (some (.ret, [(0, .sl c 6 (l.map Mk.cells)), (2, .bool false)], [])) (fun K => ?_) (fun (i : Nat) x K hi hx0 hbef => ?_) 1099511627775 (by omega)
  · simp only [Int.natCast_zero] at key
    exact key
  · rw [LoopS_eq, hlr]
    simp -implicitDefEqProofs only [go_sem, Nat.reduceBEq, Nat.reduceAdd, Nat.reduceSub, Nat.reduceMul, Nat.reduceLeDiff, Nat.reduceEqDiff, Nat.reduceLT, Int.reduceNeg, Int.reduceAdd, Int.reduceSub, Int.reduceMul, Int.reduceLE, Int.reduceLT, Int.reduceEq, Int.reduceToNat, reduceCtorEq, evL38x0, B38x0, Int.lt_irrefl]
  · obtain ⟨rfl, hlt⟩ := range_at hx0
    have hi' : (x : Int) < l.length := by omega
    have hx := List.getElem?_eq_getElem hlt
    generalize l[x] = m at hx
    have hcon := fun cc : Bool => conMk (d + 4) [.box m.cells] cc 99 [.ptr 0 0 0 0] (l.take x) (lapI m) (by rw [List.length_take]; omega) (by rfl) (by rfl) (fun n _ => clo_lap (d + 2) m n)
    simp only [List.map_take] at hcon
    have eAny : (l.take x).any (lapI m) = !((l.take x).all fun o => !lapI m o) := by rw [List.any_eq_not_all_not]
    simp only [eAny] at hcon
    have hv := run_ok (d + 3) m.v.kind m.v.n m.v.s
    have hone : markOk notAfter lapI l x = (m.one && (aheadOk notAfter l x m && (l.take x).all fun o => !lapI m o)) := by unfold markOk; rw [hx]
    rw [hone, one_eq]
    rw [LoopS_eq]
    have ev : (⟨m.v.kind, m.v.n, m.v.s⟩ : Val) = m.v := rfl
    rw [ev] at hv
    simp only [Mk.cells] at hcon
    generalize (l.take x).all (fun o => !lapI m o) = ball at hcon ⊢
    cases k1 : m.v.ok
    · rw [k1] at hv
      simp -implicitDefEqProofs (disch := omega) only [go_sem, Nat.reduceBEq, Nat.reduceAdd, Nat.reduceSub, Nat.reduceMul, Nat.reduceLeDiff, Nat.reduceEqDiff, Nat.reduceLT, Int.reduceNeg, Int.reduceAdd, Int.reduceSub, Int.reduceMul, Int.reduceLE, Int.reduceLT, Int.reduceEq, Int.reduceToNat, reduceCtorEq, evL38x0, B38x0, evC_draw, evD38x0, E38x0, hi', hx, Mk.cells, hv, Bool.true_or, Bool.false_or, IntWalk.i64_in]
    rw [k1] at hv
    by_cases k2 : 0 ≤ m.key ∧ m.key ≤ 4
    rotate_left
    · simp -implicitDefEqProofs (disch := omega) only [go_sem, Nat.reduceBEq, Nat.reduceAdd, Nat.reduceSub, Nat.reduceMul, Nat.reduceLeDiff, Nat.reduceEqDiff, Nat.reduceLT, Int.reduceNeg, Int.reduceAdd, Int.reduceSub, Int.reduceMul, Int.reduceLE, Int.reduceLT, Int.reduceEq, Int.reduceToNat, reduceCtorEq, evL38x0, B38x0, evC_draw, evD38x0, E38x0, hi', hx, Mk.cells, hv, run_keyOk, (eq_false k2 : (0 ≤ m.key ∧ m.key ≤ 4) = False), Bool.true_or, Bool.false_or, IntWalk.i64_in]
    by_cases k3 : 1 ≤ m.born ∧ m.born ≤ 40
    rotate_left
    · simp -implicitDefEqProofs (disch := omega) only [go_sem, Nat.reduceBEq, Nat.reduceAdd, Nat.reduceSub, Nat.reduceMul, Nat.reduceLeDiff, Nat.reduceEqDiff, Nat.reduceLT, Int.reduceNeg, Int.reduceAdd, Int.reduceSub, Int.reduceMul, Int.reduceLE, Int.reduceLT, Int.reduceEq, Int.reduceToNat, reduceCtorEq, evL38x0, B38x0, evC_draw, evD38x0, E38x0, hi', hx, Mk.cells, hv, run_keyOk, run_between, (eq_true k2 : (0 ≤ m.key ∧ m.key ≤ 4) = True), (eq_false k3 : (1 ≤ m.born ∧ m.born ≤ 40) = False), Bool.true_or, Bool.false_or, IntWalk.i64_in]
    have k3a := k3.1
    have k3b := k3.2
    have k4 : (m.died = 0) ∨ (¬ m.died = 0 ∧ (m.born + 1 ≤ m.died ∧ m.died ≤ 40)) ∨ (¬ m.died = 0 ∧ ¬ (m.born + 1 ≤ m.died ∧ m.died ≤ 40)) := by omega
    have fin : ∀ (Q : Prop), ((m.died = 0) → Q) → ((¬ m.died = 0 ∧ (m.born + 1 ≤ m.died ∧ m.died ≤ 40)) → Q) → ((¬ m.died = 0 ∧ ¬ (m.born + 1 ≤ m.died ∧ m.died ≤ 40)) → Q) → Q := fun Q a b c => by
      rcases k4 with h | h | h
      · exact a h
      · exact b h
      · exact c h
    cases x with
    | zero =>
      have hi0 : (0 : Int) < l.length := by omega
      simp only [List.take_zero] at hcon
      rcases k4 with k4 | ⟨k4, k5⟩ | ⟨k4, k5⟩
      · cases ball <;> simp -implicitDefEqProofs (disch := omega) only [go_sem, Nat.reduceBEq, Nat.reduceAdd, Nat.reduceSub, Nat.reduceMul, Nat.reduceLeDiff, Nat.reduceEqDiff, Nat.reduceLT, Int.reduceNeg, Int.reduceAdd, Int.reduceSub, Int.reduceMul, Int.reduceLE, Int.reduceLT, Int.reduceEq, Int.reduceToNat, reduceCtorEq, evL38x0, B38x0, evC_draw, evD38x0, E38x0, hi0, hx, Mk.cells, hv, hcon, run_keyOk, run_between, (eq_true k2 : (0 ≤ m.key ∧ m.key ≤ 4) = True), (eq_true k3 : (1 ≤ m.born ∧ m.born ≤ 40) = True), (eq_true k4 : (m.died = 0) = True), aheadOk, Bool.true_or, Bool.false_or, Int.natCast_zero, Int.toNat_zero, List.take_zero, Int.lt_irrefl, IntWalk.i64_in]
      · cases ball <;> simp -implicitDefEqProofs (disch := omega) only [go_sem, Nat.reduceBEq, Nat.reduceAdd, Nat.reduceSub, Nat.reduceMul, Nat.reduceLeDiff, Nat.reduceEqDiff, Nat.reduceLT, Int.reduceNeg, Int.reduceAdd, Int.reduceSub, Int.reduceMul, Int.reduceLE, Int.reduceLT, Int.reduceEq, Int.reduceToNat, reduceCtorEq, evL38x0, B38x0, evC_draw, evD38x0, E38x0, hi0, hx, Mk.cells, hv, hcon, run_keyOk, run_between, (eq_true k2 : (0 ≤ m.key ∧ m.key ≤ 4) = True), (eq_true k3 : (1 ≤ m.born ∧ m.born ≤ 40) = True), (eq_false k4 : (m.died = 0) = False), (eq_true k5 : (m.born + 1 ≤ m.died ∧ m.died ≤ 40) = True), aheadOk, Bool.true_or, Bool.false_or, Int.natCast_zero, Int.toNat_zero, List.take_zero, Int.lt_irrefl, IntWalk.i64_in]
      · simp -implicitDefEqProofs (disch := omega) only [go_sem, Nat.reduceBEq, Nat.reduceAdd, Nat.reduceSub, Nat.reduceMul, Nat.reduceLeDiff, Nat.reduceEqDiff, Nat.reduceLT, Int.reduceNeg, Int.reduceAdd, Int.reduceSub, Int.reduceMul, Int.reduceLE, Int.reduceLT, Int.reduceEq, Int.reduceToNat, reduceCtorEq, evL38x0, B38x0, evC_draw, evD38x0, E38x0, hi0, hx, Mk.cells, hv, run_keyOk, run_between, (eq_true k2 : (0 ≤ m.key ∧ m.key ≤ 4) = True), (eq_true k3 : (1 ≤ m.born ∧ m.born ≤ 40) = True), (eq_false k4 : (m.died = 0) = False), (eq_false k5 : (m.born + 1 ≤ m.died ∧ m.died ≤ 40) = False), aheadOk, Bool.true_or, Bool.false_or, Int.natCast_zero, Int.lt_irrefl, IntWalk.i64_in]
    | succ j =>
      have hj : j < l.length := by omega
      have hw := List.getElem?_eq_getElem hj
      generalize l[j] = w at hw
      have hord := run_ordM (d + 2) w m
      have ea : aheadOk notAfter l (j + 1) m = decide (ordM w m ≤ 0) := by simp only [aheadOk, hw, notAfter]
      rw [ea]
      generalize ordM w m = n at hord ⊢
      simp only [Mk.cells] at hord
      have hp : (0 : Int) < (j : Int) + 1 := by omega
      have hj' : (j : Int) < l.length := by omega
      have hp0 : (0 : Int) ≤ (j : Int) + 1 := by omega
      have htn : ((j : Int) + 1).toNat = j + 1 := by omega
      have hi2 : (j : Int) + 1 < l.length := by omega
      have hi3 : (j : Int) + 1 ≤ l.length := by omega
      rcases k4 with k4 | ⟨k4, k5⟩ | ⟨k4, k5⟩
      · by_cases k6 : 0 < n
        · have k7 : ¬ n ≤ 0 := by omega
          simp -implicitDefEqProofs (disch := omega) only [go_sem, Nat.reduceBEq, Nat.reduceAdd, Nat.reduceSub, Nat.reduceMul, Nat.reduceLeDiff, Nat.reduceEqDiff, Nat.reduceLT, Int.reduceNeg, Int.reduceAdd, Int.reduceSub, Int.reduceMul, Int.reduceLE, Int.reduceLT, Int.reduceEq, Int.reduceToNat, reduceCtorEq, evL38x0, B38x0, evC_draw, evD38x0, E38x0, hi2, hi3, hj', hp0, htn, hp, hx, hw, Mk.cells, hv, hord, run_keyOk, run_between, (eq_true k2 : (0 ≤ m.key ∧ m.key ≤ 4) = True), (eq_true k3 : (1 ≤ m.born ∧ m.born ≤ 40) = True), (eq_true k4 : (m.died = 0) = True), (eq_true k6 : (0 < n) = True), (eq_false k7 : (n ≤ 0) = False), Bool.true_or, Bool.false_or, Int.add_sub_cancel, Int.add_assoc, IntWalk.i64_in]
        · have k7 : n ≤ 0 := by omega
          cases ball <;> simp -implicitDefEqProofs (disch := omega) only [go_sem, Nat.reduceBEq, Nat.reduceAdd, Nat.reduceSub, Nat.reduceMul, Nat.reduceLeDiff, Nat.reduceEqDiff, Nat.reduceLT, Int.reduceNeg, Int.reduceAdd, Int.reduceSub, Int.reduceMul, Int.reduceLE, Int.reduceLT, Int.reduceEq, Int.reduceToNat, reduceCtorEq, evL38x0, B38x0, evC_draw, evD38x0, E38x0, hi2, hi3, hj', hp0, htn, hp, hx, hw, Mk.cells, hv, hcon, hord, run_keyOk, run_between, (eq_true k2 : (0 ≤ m.key ∧ m.key ≤ 4) = True), (eq_true k3 : (1 ≤ m.born ∧ m.born ≤ 40) = True), (eq_true k4 : (m.died = 0) = True), (eq_false k6 : (0 < n) = False), (eq_true k7 : (n ≤ 0) = True), Bool.true_or, Bool.false_or, Int.add_sub_cancel, Int.add_assoc, IntWalk.i64_in]
      · by_cases k6 : 0 < n
        · have k7 : ¬ n ≤ 0 := by omega
          simp -implicitDefEqProofs (disch := omega) only [go_sem, Nat.reduceBEq, Nat.reduceAdd, Nat.reduceSub, Nat.reduceMul, Nat.reduceLeDiff, Nat.reduceEqDiff, Nat.reduceLT, Int.reduceNeg, Int.reduceAdd, Int.reduceSub, Int.reduceMul, Int.reduceLE, Int.reduceLT, Int.reduceEq, Int.reduceToNat, reduceCtorEq, evL38x0, B38x0, evC_draw, evD38x0, E38x0, hi2, hi3, hj', hp0, htn, hp, hx, hw, Mk.cells, hv, hord, run_keyOk, run_between, (eq_true k2 : (0 ≤ m.key ∧ m.key ≤ 4) = True), (eq_true k3 : (1 ≤ m.born ∧ m.born ≤ 40) = True), (eq_false k4 : (m.died = 0) = False), (eq_true k5 : (m.born + 1 ≤ m.died ∧ m.died ≤ 40) = True), (eq_true k6 : (0 < n) = True), (eq_false k7 : (n ≤ 0) = False), Bool.true_or, Bool.false_or, Int.add_sub_cancel, Int.add_assoc, IntWalk.i64_in]
        · have k7 : n ≤ 0 := by omega
          cases ball <;> simp -implicitDefEqProofs (disch := omega) only [go_sem, Nat.reduceBEq, Nat.reduceAdd, Nat.reduceSub, Nat.reduceMul, Nat.reduceLeDiff, Nat.reduceEqDiff, Nat.reduceLT, Int.reduceNeg, Int.reduceAdd, Int.reduceSub, Int.reduceMul, Int.reduceLE, Int.reduceLT, Int.reduceEq, Int.reduceToNat, reduceCtorEq, evL38x0, B38x0, evC_draw, evD38x0, E38x0, hi2, hi3, hj', hp0, htn, hp, hx, hw, Mk.cells, hv, hcon, hord, run_keyOk, run_between, (eq_true k2 : (0 ≤ m.key ∧ m.key ≤ 4) = True), (eq_true k3 : (1 ≤ m.born ∧ m.born ≤ 40) = True), (eq_false k4 : (m.died = 0) = False), (eq_true k5 : (m.born + 1 ≤ m.died ∧ m.died ≤ 40) = True), (eq_false k6 : (0 < n) = False), (eq_true k7 : (n ≤ 0) = True), Bool.true_or, Bool.false_or, Int.add_sub_cancel, Int.add_assoc, IntWalk.i64_in]
      · simp -implicitDefEqProofs (disch := omega) only [go_sem, Nat.reduceBEq, Nat.reduceAdd, Nat.reduceSub, Nat.reduceMul, Nat.reduceLeDiff, Nat.reduceEqDiff, Nat.reduceLT, Int.reduceNeg, Int.reduceAdd, Int.reduceSub, Int.reduceMul, Int.reduceLE, Int.reduceLT, Int.reduceEq, Int.reduceToNat, reduceCtorEq, evL38x0, B38x0, evC_draw, evD38x0, E38x0, hi2, hi3, hj', hp0, htn, hp, hx, hw, Mk.cells, hv, run_keyOk, run_between, (eq_true k2 : (0 ≤ m.key ∧ m.key ≤ 4) = True), (eq_true k3 : (1 ≤ m.born ∧ m.born ≤ 40) = True), (eq_false k4 : (m.died = 0) = False), (eq_false k5 : (m.born + 1 ≤ m.died ∧ m.died ≤ 40) = False), Bool.true_or, Bool.false_or, Int.add_sub_cancel, Int.add_assoc, IntWalk.i64_in]
end Go.Proofs.Ytfbjbkkcilhgjaa.PE
/- Indexes: both functions take the same ones. -/
set_option linter.unusedSimpArgs false
set_option linter.unusedVariables false
set_option maxHeartbeats 4000000
namespace Go.Proofs.Ytfbjbkkcilhgjaa.PE
open Go.RowKit

theorem one_times {m : Mk} (h : m.one = true) : m.v.ok = true ∧ (1 ≤ m.born ∧ m.born ≤ 40) ∧ (m.died = 0 ∨ m.born + 1 ≤ m.died ∧ m.died ≤ 40) := by
  rw [one_eq] at h
  simp only [Bool.and_eq_true, Bool.or_eq_true, decide_eq_true_eq] at h
  exact ⟨h.1, h.2.2.1, h.2.2.2⟩
theorem lap_same {m o : Mk} (hm : m.one = true) (ho : o.one = true) : lapI m o = lapS m o := by
  obtain ⟨_, m1, m2⟩ := one_times hm
  obtain ⟨_, o1, o2⟩ := one_times ho
  unfold lapI lapS endM
  rw [Bool.eq_iff_iff]
  simp only [Bool.and_eq_true, Bool.or_eq_true, decide_eq_true_eq]
  split <;> split <;> constructor <;> rintro ⟨a, b, c⟩ <;> refine ⟨a, ?_, ?_⟩ <;> omega
theorem ahead_same {w m : Mk} (hw : w.one = true) (hm : m.one = true) (hl : lapS m w = false) : notAfter w m = lessM w m := by
  obtain ⟨_, m1, m2⟩ := one_times hm
  obtain ⟨_, o1, o2⟩ := one_times hw
  have hl' : ¬ (lapS m w = true) := by rw [hl]; decide
  unfold lapS at hl'
  simp only [Bool.and_eq_true, Bool.or_eq_true, decide_eq_true_eq] at hl'
  unfold notAfter lessM ordM cmpI
  rw [Bool.eq_iff_iff]
  generalize w.v.cmp m.v = n
  by_cases h0 : n = 0
  · subst h0
    simp only [ne_eq, not_true_eq_false, if_false, if_true, Bool.or_eq_true, Bool.and_eq_true, decide_eq_true_eq]
    repeat' split
    all_goals (constructor <;> intro h <;> omega)
  · simp only [ne_eq, h0, not_false_eq_true, if_true, if_false, decide_eq_true_eq]
    omega
theorem markOk_same (l : List Mk) (h1 : ∀ m ∈ l, m.one = true) (i : Nat) : markOk notAfter lapI l i = markOk lessM lapS l i := by
  unfold markOk
  cases hx : l[i]? with
  | none => rfl
  | some m =>
    have hm := h1 m (List.mem_of_getElem? hx)
    have eall : ((l.take i).all fun o => !lapI m o) = ((l.take i).all fun o => !lapS m o) := by
      rw [Bool.eq_iff_iff, List.all_eq_true, List.all_eq_true]
      constructor
      · intro h o ho
        rw [← lap_same hm (h1 o (List.mem_of_mem_take ho))]
        exact h o ho
      · intro h o ho
        rw [lap_same hm (h1 o (List.mem_of_mem_take ho))]
        exact h o ho
    simp only [eall]
    cases hall : (l.take i).all fun o => !lapS m o
    · simp only [Bool.and_false]
    · cases i with
      | zero => rfl
      | succ j =>
        cases hw : l[j]? with
        | none => simp only [aheadOk, hw]
        | some w =>
          have hmem : w ∈ l.take (j + 1) := List.mem_of_getElem? (i := j) (by rw [List.getElem?_take, if_pos (by omega)]; exact hw)
          have hq := List.all_eq_true.1 hall w hmem
          have hlap : lapS m w = false := by simpa using hq
          simp only [aheadOk, hw, ahead_same (h1 w (List.mem_of_getElem? hw)) hm hlap]
theorem marks_one {f lap : Mk → Mk → Bool} {l : List Mk} (h : ∀ i ∈ List.range l.length, markOk f lap l i = true) : ∀ m ∈ l, m.one = true := by
  intro m hm
  obtain ⟨i, hi⟩ := List.getElem?_of_mem hm
  have := h i (List.mem_range.2 (List.getElem?_eq_some_iff.1 hi).1)
  unfold markOk at this
  rw [hi] at this
  simp only [Bool.and_eq_true] at this
  exact this.1
theorem idx_same (l : List Mk) : (List.range l.length).all (markOk notAfter lapI l) = (List.range l.length).all (markOk lessM lapS l) := by
  rw [Bool.eq_iff_iff, List.all_eq_true, List.all_eq_true]
  constructor
  · intro h i hi
    rw [← markOk_same l (marks_one h)]
    exact h i hi
  · intro h i hi
    rw [markOk_same l (marks_one h)]
    exact h i hi
-- find38
theorem run_idxI (d : Nat) (c : Bool) (l : List Mk) (hs : l.length < 1099511627776) : retP (runD tab noExt (d + 7)) 38 [.sl c 6 (l.map Mk.cells)] = some [.bool (idxOk l)] := by
  have hl := loop_idxI d c l hs
  rw [idx_same] at hl
  rw [retP, runD_eq find38 _ _ _ (by simp)]
  simp -implicitDefEqProofs (disch := omega) only [go_sem, Nat.reduceBEq, Nat.reduceAdd, Nat.reduceSub, Nat.reduceMul, Nat.reduceLeDiff, Nat.reduceEqDiff, Nat.reduceLT, Int.reduceNeg, Int.reduceAdd, Int.reduceSub, Int.reduceMul, Int.reduceLE, Int.reduceLT, Int.reduceEq, Int.reduceToNat, reduceCtorEq]
  try simp -implicitDefEqProofs only [go_sem, Nat.reduceBEq, Nat.reduceAdd, Nat.reduceSub, Nat.reduceMul, Nat.reduceLeDiff, Nat.reduceEqDiff, Nat.reduceLT, Int.reduceNeg, Int.reduceAdd, Int.reduceSub, Int.reduceMul, Int.reduceLE, Int.reduceLT, Int.reduceEq, Int.reduceToNat, reduceCtorEq] at hl
  rw [hl]
  unfold idxOk
  cases h : (List.range l.length).all (markOk lessM lapS l)
  · simp -implicitDefEqProofs (disch := omega) only [go_sem, Nat.reduceBEq, Nat.reduceAdd, Nat.reduceSub, Nat.reduceMul, Nat.reduceLeDiff, Nat.reduceEqDiff, Nat.reduceLT, Int.reduceNeg, Int.reduceAdd, Int.reduceSub, Int.reduceMul, Int.reduceLE, Int.reduceLT, Int.reduceEq, Int.reduceToNat, reduceCtorEq]
  · by_cases h60 : (l.length : Int) ≤ 60 <;> simp -implicitDefEqProofs (disch := omega) only [go_sem, Nat.reduceBEq, Nat.reduceAdd, Nat.reduceSub, Nat.reduceMul, Nat.reduceLeDiff, Nat.reduceEqDiff, Nat.reduceLT, Int.reduceNeg, Int.reduceAdd, Int.reduceSub, Int.reduceMul, Int.reduceLE, Int.reduceLT, Int.reduceEq, Int.reduceToNat, reduceCtorEq, h60]
end Go.Proofs.Ytfbjbkkcilhgjaa.PE
/- Writes that are drawn. -/
set_option linter.unusedSimpArgs false
set_option linter.unusedVariables false
set_option maxHeartbeats 4000000
namespace Go.Proofs.Ytfbjbkkcilhgjaa.PE
open Go.RowKit

/-- A short row. -/
def GS (vs : List Val) : Prop := vs.length ≤ 20 ∧ ∀ v ∈ vs, v.s.size ≤ 20
theorem GS.nil : GS [] := ⟨by simp, fun _ h => by cases h⟩
theorem GS.short {vs : List Val} (h : GS vs) : vs.length < 1099511627776 ∧ short vs := ⟨by have := h.1; omega, fun v hv => by have := h.2 v hv; omega⟩
-- find170
theorem ex_small {d : Nat} {hp t : Heap} {c : Bool} {bs : List UInt8} {p : Int} {X : Option (V × Heap)} (hx : callS (runD tab noExt (d + 2)) (hp ++ .box [.sl c 1 (cellsOfBytes bs), .int .i64 (p)] :: t) 170 [.ptr hp.length 0 0 0] false = X)
    (hp0 : 0 ≤ p) (hq : p ≤ 1099511000000) (hb : bs.length ≤ 2000) (hhp : plainH hp = true) (ht : plainH t = true) :
    ∃ m p', X = some (.sl true 3 [[.int .i64 1, .int .i64 m, .str ⟨#[]⟩]], hp ++ .box [.sl c 1 (cellsOfBytes bs), .int .i64 (p')] :: t) ∧ p ≤ p' ∧ p' ≤ p + 1 := by
  subst hx
  have hh : ∀ n, t.all (hiB n) = true := fun n => plainH_hi ht n
  have hhq : ∀ n, hp.all (hiB n) = true := fun n => plainH_hi hhp n
  rw [callS_eq, runD_eq find170 _ _ _ (by simp)]
  simp -implicitDefEqProofs only [go_sem, Nat.reduceBEq, Nat.reduceAdd, Nat.reduceSub, Nat.reduceMul, Nat.reduceLeDiff, Nat.reduceEqDiff, Nat.reduceLT, Int.reduceNeg, Int.reduceAdd, Int.reduceSub, Int.reduceMul, Int.reduceLE, Int.reduceLT, Int.reduceEq, Int.reduceToNat, reduceCtorEq]
  repeat' (first | ((conv in (callS _ _ 57 _ false) => skip); generalize hx : callS (runD tab noExt _) (_ ++ _ :: _) 57 _ false = X; obtain ⟨m, rfl, hm1, hm2⟩ := ex_pick hx (by omega) (by omega) hb hhp (by simp only [ht, plainH_nil, plainH_cons, plainH_append, plainB, List.all_cons, List.all_nil, Bool.and_self, Bool.and_true]) ; skip; clear hx; simp -implicitDefEqProofs (disch := omega) only [go_sem, Nat.reduceBEq, Nat.reduceAdd, Nat.reduceSub, Nat.reduceMul, Nat.reduceLeDiff, Nat.reduceEqDiff, Nat.reduceLT, Int.reduceNeg, Int.reduceAdd, Int.reduceSub, Int.reduceMul, Int.reduceLE, Int.reduceLT, Int.reduceEq, Int.reduceToNat, reduceCtorEq, IntWalk.i64_in, hh, hhq, List.all_append, elemsOf, elemOf, frzs, refs, refC, refsV, *]) | ((first | rw [GuardI_ndec] | rw [CondC_ndec] | rw [GuardQ_ndec] | rw [GuardV_ndec] | rw [GuardI_dec] | rw [CondC_dec] | rw [GuardQ_dec] | rw [GuardV_dec] | rw [GuardI_nby] | rw [CondC_nby] | rw [GuardQ_nby] | rw [GuardV_nby] | rw [GuardQ_by] | rw [GuardI_by] | rw [GuardV_by] | rw [CondC_by]) <;> split <;> simp -implicitDefEqProofs (disch := omega) only [go_sem, Nat.reduceBEq, Nat.reduceAdd, Nat.reduceSub, Nat.reduceMul, Nat.reduceLeDiff, Nat.reduceEqDiff, Nat.reduceLT, Int.reduceNeg, Int.reduceAdd, Int.reduceSub, Int.reduceMul, Int.reduceLE, Int.reduceLT, Int.reduceEq, Int.reduceToNat, reduceCtorEq, IntWalk.i64_in, hh, hhq, List.all_append, elemsOf, elemOf, frzs, refs, refC, refsV, *]))
  exact ⟨m, _, rfl, by omega, by omega⟩
def WrsPost (i : Nat) (ws : List Wr) : Prop := ws.length ≤ i ∧ ∀ w ∈ ws, GS w.row.vs
theorem WrsPost.snoc {i : Nat} {ws : List Wr} (h : WrsPost i ws) {w : Wr} (hw : GS w.row.vs) : WrsPost (i + 1) (ws ++ [w]) := ⟨by have := h.1; simp; omega, fun x hx => by
  rcases List.mem_append.1 hx with hx | hx
  · exact h.2 x hx
  · rw [List.mem_singleton.1 hx]; exact hw⟩
theorem WrsPost.skip {i : Nat} {ws : List Wr} (h : WrsPost i ws) : WrsPost (i + 1) ws := ⟨by have := h.1; omega, h.2⟩
-- find121
theorem loop_writes {d : Nat} {hp t : Heap} {c : Bool} {bs : List UInt8} {n : Int} (hb : bs.length ≤ 2000) (hhp : plainH hp = true) (ht : plainH t = true) : ∀ (j K i : Nat) {p : Int} {st len : Nat} {ws : List Wr} {Y : Out},
    LoopS (runD tab noExt (d + 2)) (drawI (runD tab noExt (d + 2))) [0, 1, 5, 6] [0, 1, 5] L121x0 (hp.length + (t.length + 3)) K [(0, .ptr hp.length 0 0 0), (1, .int .i64 n), (5, .ref (hp.length + (t.length + 2)) st 0 len false), (6, .int .i64 (i : Nat))]
      (hp ++ .box [.sl c 1 (cellsOfBytes bs), .int .i64 (p)] :: (t ++ [.rows 0 3 [], .rows st 3 (ws.map Wr.cells)])) = Y →
    i + j = 5 → j ≤ K → len = ws.length → WrsPost i ws → 0 ≤ p → p ≤ 1099500000000 + 3 * i → ∃ (ws' : List Wr) (st' : Nat) (p' : Int), Y = some (.exit 0, [(0, .ptr hp.length 0 0 0), (1, .int .i64 n), (5, .ref (hp.length + (t.length + 2)) st' 0 ws'.length false)],
      hp ++ .box [.sl c 1 (cellsOfBytes bs), .int .i64 (p')] :: (t ++ [.rows 0 3 [], .rows st' 3 (ws'.map Wr.cells)])) ∧ WrsPost 5 ws' ∧ p ≤ p' ∧ p' ≤ p + 3 * j := by
  have hh : ∀ n, t.all (hiB n) = true := fun n => plainH_hi ht n
  have hhq : ∀ n, hp.all (hiB n) = true := fun n => plainH_hi hhp n
  intro j
  induction j with
  | zero =>
    intro K i p st len ws Y hL hk hK hlen hs hp0 hq
    obtain rfl : i = 5 := by omega
    subst hL hlen
    rw [LoopS_eq]
    simp -implicitDefEqProofs only [go_sem, Nat.reduceBEq, Nat.reduceAdd, Nat.reduceSub, Nat.reduceMul, Nat.reduceLeDiff, Nat.reduceEqDiff, Nat.reduceLT, Int.reduceNeg, Int.reduceAdd, Int.reduceSub, Int.reduceMul, Int.reduceLE, Int.reduceLT, Int.reduceEq, Int.reduceToNat, reduceCtorEq, evL121x0, B121x0, hh, hhq, List.all_append, Int.lt_irrefl, Int.cast_ofNat_Int]
    exact ⟨ws, st, p, rfl, hs, by omega, by omega⟩
  | succ j ih =>
    intro K i p st len ws Y hL hk hK hlen hs hp0 hq
    obtain ⟨K, rfl⟩ : ∃ K', K = K' + 1 := ⟨K - 1, by omega⟩
    subst hL hlen
    have hk0 : (i : Int) < 5 := by omega
    have hws : ws.length ≤ 5 := by have := hs.1; omega
    have h1 : ws.length + 1 < 4294967296 := by omega
    rw [LoopS_eq]
    simp -implicitDefEqProofs (disch := omega) only [go_sem, Nat.reduceBEq, Nat.reduceAdd, Nat.reduceSub, Nat.reduceMul, Nat.reduceLeDiff, Nat.reduceEqDiff, Nat.reduceLT, Int.reduceNeg, Int.reduceAdd, Int.reduceSub, Int.reduceMul, Int.reduceLE, Int.reduceLT, Int.reduceEq, Int.reduceToNat, reduceCtorEq, evL121x0, B121x0, hh, hhq, hk0, List.all_append]
    repeat' (first | ((conv in (callS _ _ 170 _ false) => skip); generalize hx : callS (runD tab noExt _) (_ ++ _ :: _) 170 _ false = X; obtain ⟨m2, p', rfl, hv1, hv2⟩ := ex_small hx (by omega) (by omega) hb hhp (by simp only [ht, plainH_nil, plainH_cons, plainH_append, plainB, List.all_cons, List.all_nil, Bool.and_self, Bool.and_true]) ; skip; clear hx; simp -implicitDefEqProofs (disch := omega) only [go_sem, Nat.reduceBEq, Nat.reduceAdd, Nat.reduceSub, Nat.reduceMul, Nat.reduceLeDiff, Nat.reduceEqDiff, Nat.reduceLT, Int.reduceNeg, Int.reduceAdd, Int.reduceSub, Int.reduceMul, Int.reduceLE, Int.reduceLT, Int.reduceEq, Int.reduceToNat, reduceCtorEq, IntWalk.i64_in, hh, hhq, List.all_append, elemsOf, elemOf, frzs, refs, refC, refsV, List.contains_nil, *]) | ((conv in (callS _ _ 57 _ false) => skip); generalize hx : callS (runD tab noExt _) (_ ++ _ :: _) 57 _ false = X; obtain ⟨m, rfl, hm1, hm2⟩ := ex_pick hx (by omega) (by omega) hb hhp (by simp only [ht, plainH_nil, plainH_cons, plainH_append, plainB, List.all_cons, List.all_nil, Bool.and_self, Bool.and_true]) ; skip; clear hx; simp -implicitDefEqProofs (disch := omega) only [go_sem, Nat.reduceBEq, Nat.reduceAdd, Nat.reduceSub, Nat.reduceMul, Nat.reduceLeDiff, Nat.reduceEqDiff, Nat.reduceLT, Int.reduceNeg, Int.reduceAdd, Int.reduceSub, Int.reduceMul, Int.reduceLE, Int.reduceLT, Int.reduceEq, Int.reduceToNat, reduceCtorEq, IntWalk.i64_in, hh, hhq, List.all_append, elemsOf, elemOf, frzs, refs, refC, refsV, List.contains_nil, *]) | ((first | rw [GuardI_ndec] | rw [CondC_ndec] | rw [GuardQ_ndec] | rw [GuardV_ndec] | rw [GuardI_dec] | rw [CondC_dec] | rw [GuardQ_dec] | rw [GuardV_dec] | rw [GuardI_nby] | rw [CondC_nby] | rw [GuardQ_nby] | rw [GuardV_nby] | rw [GuardQ_by] | rw [GuardI_by] | rw [GuardV_by] | rw [CondC_by]) <;> split <;> simp -implicitDefEqProofs (disch := omega) only [go_sem, Nat.reduceBEq, Nat.reduceAdd, Nat.reduceSub, Nat.reduceMul, Nat.reduceLeDiff, Nat.reduceEqDiff, Nat.reduceLT, Int.reduceNeg, Int.reduceAdd, Int.reduceSub, Int.reduceMul, Int.reduceLE, Int.reduceLT, Int.reduceEq, Int.reduceToNat, reduceCtorEq, IntWalk.i64_in, hh, hhq, List.all_append, elemsOf, elemOf, frzs, refs, refC, refsV, List.contains_nil, *]))
    · have e : (ws ++ [(⟨i, ⟨true, []⟩, true⟩ : Wr)]).map Wr.cells = ws.map Wr.cells ++ [[.int .i64 i, .sl true 3 [], .bool true]] := by simp [Wr.cells, Row.v]
      rw [← e]
      generalize hL : LoopS _ _ _ _ _ _ _ _ _ = Y
      obtain ⟨ws', st', p', h2, h3, h4, h5⟩ := ih K (i + 1) (ws := ws ++ [(⟨i, ⟨true, []⟩, true⟩ : Wr)]) hL (by omega) (by omega) (by simp) (hs.snoc GS.nil) (by omega) (by omega)
      exact ⟨ws', st', p', h2, h3, by omega, by omega⟩
    · have e : (ws ++ [(⟨i, ⟨true, [⟨1, m2, ⟨#[]⟩⟩]⟩, false⟩ : Wr)]).map Wr.cells = ws.map Wr.cells ++ [[.int .i64 i, .sl true 3 [[.int .i64 1, .int .i64 m2, .str ⟨#[]⟩]], .bool false]] := by simp [Wr.cells, Row.v, Val.cells]
      rw [← e]
      generalize hL : LoopS _ _ _ _ _ _ _ _ _ = Y
      obtain ⟨ws', st', p', h2, h3, h4, h5⟩ := ih K (i + 1) (ws := ws ++ [(⟨i, ⟨true, [⟨1, m2, ⟨#[]⟩⟩]⟩, false⟩ : Wr)]) hL (by omega) (by omega) (by simp) (hs.snoc ⟨by simp, fun v hv => by rw [List.mem_singleton.1 hv]; exact Nat.zero_le _⟩) (by omega) (by omega)
      exact ⟨ws', st', p', h2, h3, by omega, by omega⟩
    · generalize hL : LoopS _ _ _ _ _ _ _ _ _ = Y
      obtain ⟨ws', st', p', h2, h3, h4, h5⟩ := ih K (i + 1) (ws := ws) hL (by omega) (by omega) rfl hs.skip (by omega) (by omega)
      exact ⟨ws', st', p', h2, h3, by omega, by omega⟩
theorem ex_writes0 {d : Nat} {hp t : Heap} {c : Bool} {bs : List UInt8} {p : Int} {X : Option (V × Heap)} (hx : callS (runD tab noExt (d + 3)) (hp ++ .box [.sl c 1 (cellsOfBytes bs), .int .i64 (p)] :: t) 121 [.ptr hp.length 0 0 0, .int .i64 0] false = X)
    (hp0 : 0 ≤ p) (hq : p ≤ 1099500000000) (hb : bs.length ≤ 2000) (hhp : plainH hp = true) (ht : plainH t = true) :
    ∃ (ws : List Wr) (p' : Int), X = some (.sl false 3 (ws.map Wr.cells), hp ++ .box [.sl c 1 (cellsOfBytes bs), .int .i64 (p')] :: t) ∧ p ≤ p' ∧ p' ≤ p + 20 ∧ WrsPost 5 ws := by
  subst hx
  have hh : ∀ n, t.all (hiB n) = true := fun n => plainH_hi ht n
  have hhq : ∀ n, hp.all (hiB n) = true := fun n => plainH_hi hhp n
  rw [callS_eq, runD_eq find121 _ _ _ (by simp)]
  simp -implicitDefEqProofs (disch := omega) only [go_sem, Nat.reduceBEq, Nat.reduceAdd, Nat.reduceSub, Nat.reduceMul, Nat.reduceLeDiff, Nat.reduceEqDiff, Nat.reduceLT, Int.reduceNeg, Int.reduceAdd, Int.reduceSub, Int.reduceMul, Int.reduceLE, Int.reduceLT, Int.reduceEq, Int.reduceToNat, reduceCtorEq, hh, hhq, List.all_append]
  generalize hx : LoopS _ _ _ _ _ _ _ _ _ = Y
  obtain ⟨ws, st, p1, rfl, h1, h2, h3⟩ := loop_writes hb hhp ht 5 _ 0 (ws := []) hx (by omega) (by omega) rfl ⟨by simp, fun _ h => by cases h⟩ (by omega) (by omega)
  clear hx
  simp -implicitDefEqProofs (disch := omega) only [go_sem, Nat.reduceBEq, Nat.reduceAdd, Nat.reduceSub, Nat.reduceMul, Nat.reduceLeDiff, Nat.reduceEqDiff, Nat.reduceLT, Int.reduceNeg, Int.reduceAdd, Int.reduceSub, Int.reduceMul, Int.reduceLE, Int.reduceLT, Int.reduceEq, Int.reduceToNat, reduceCtorEq, hh, hhq, List.all_append]
  repeat' (first | ((conv in (callS _ _ 119 _ false) => skip); generalize hx : callS (runD tab noExt _) (_ ++ _ :: _) 119 _ false = X; obtain ⟨b, p', rfl, hm1, hm2, hm3⟩ := ex_odd hx (by omega) (by omega) hb hhp (by simp only [ht, plainH_nil, plainH_cons, plainH_append, plainB, List.all_cons, List.all_nil, Bool.and_self, Bool.and_true]) ; skip; clear hx; have hb0 := hm3 (by omega); subst hb0; simp -implicitDefEqProofs (disch := omega) only [go_sem, Nat.reduceBEq, Nat.reduceAdd, Nat.reduceSub, Nat.reduceMul, Nat.reduceLeDiff, Nat.reduceEqDiff, Nat.reduceLT, Int.reduceNeg, Int.reduceAdd, Int.reduceSub, Int.reduceMul, Int.reduceLE, Int.reduceLT, Int.reduceEq, Int.reduceToNat, reduceCtorEq, IntWalk.i64_in, hh, hhq, List.all_append, take_map_len, *]) | ((first | rw [GuardI_ndec] | rw [CondC_ndec] | rw [GuardQ_ndec] | rw [GuardV_ndec] | rw [GuardI_dec] | rw [CondC_dec] | rw [GuardQ_dec] | rw [GuardV_dec] | rw [GuardI_nby] | rw [CondC_nby] | rw [GuardQ_nby] | rw [GuardV_nby] | rw [GuardQ_by] | rw [GuardI_by] | rw [GuardV_by] | rw [CondC_by]) <;> split <;> simp -implicitDefEqProofs (disch := omega) only [go_sem, Nat.reduceBEq, Nat.reduceAdd, Nat.reduceSub, Nat.reduceMul, Nat.reduceLeDiff, Nat.reduceEqDiff, Nat.reduceLT, Int.reduceNeg, Int.reduceAdd, Int.reduceSub, Int.reduceMul, Int.reduceLE, Int.reduceLT, Int.reduceEq, Int.reduceToNat, reduceCtorEq, IntWalk.i64_in, hh, hhq, List.all_append, take_map_len, *]))
  exact ⟨ws, _, rfl, by omega, by omega, h1⟩
end Go.Proofs.Ytfbjbkkcilhgjaa.PE
/- The version that a key has at a time: the program's. -/
set_option linter.unusedVariables false
set_option linter.unusedSimpArgs false
set_option maxHeartbeats 4000000
namespace Go.Proofs.Ytfbjbkkcilhgjaa.PE
open Go.RowKit

def Ver.at (key time : Int) (v : Ver) : Bool := decide (v.key = key) && (decide (v.born ≤ time) && (decide (v.died = 0) || decide (time < v.died)))
def Ver.zero : Ver := ⟨0, 0, 0, ⟨true, []⟩⟩
def seenO (o : Option Ver) : Out := match o with
  | some v => some (.ret, [(6, .ptr 0 0 0 0), (7, .bool true)], [.box v.cells])
  | none => some (.exit 0, [(6, .ptr 0 0 0 0), (7, .undef)], [.box Ver.zero.cells])
end Go.Proofs.Ytfbjbkkcilhgjaa.PE
/- The row that a key has at a time: the reference's. -/
set_option linter.unusedVariables false
set_option linter.unusedSimpArgs false
set_option maxHeartbeats 4000000
namespace Go.Proofs.Ytfbjbkkcilhgjaa.PE
open Go.RowKit

-- find77
theorem run_own3 (d : Nat) (c : Bool) (l : List (List V)) (hl : l.length < 4294967296) : retP (runD tab noExt (d + 1)) 77 [.sl c 3 l] = some [.sl false 3 l] := by
  rw [retP, runD_eq find77 _ _ _ (by simp)]
  have hl' : 0 + l.length < 4294967296 := by omega
  simp -implicitDefEqProofs (disch := omega) only [go_sem, Nat.reduceBEq, Nat.reduceAdd, Nat.reduceSub, Nat.reduceMul, Nat.reduceLeDiff, Nat.reduceEqDiff, Nat.reduceLT, Int.reduceNeg, Int.reduceAdd, Int.reduceSub, Int.reduceMul, Int.reduceLE, Int.reduceLT, Int.reduceEq, Int.reduceToNat, reduceCtorEq, List.take_length, hl, hl']
def seenS (o : Option Ver) : Out := match o with
  | some v => some (.ret, [(6, .sl false 3 (v.row.vs.map Val.cells)), (7, .bool true)], [])
  | none => some (.exit 0, [(6, .undef), (7, .undef)], [])
/-- What a key has at a time. -/
def rowAt (l : List Ver) (key time : Int) : Option Ver := if versOk l then l.find? (Ver.at key time) else none
end Go.Proofs.Ytfbjbkkcilhgjaa.PE
/- Trees of memory of one's own: what lies in them, that they stay ays they are, how they are told ays values, how a call hands them over. -/
set_option linter.unusedVariables false
set_option linter.unusedSimpArgs false
namespace Go.Proofs.Ytfbjbkkcilhgjaa.PE
open Go.RowKit

/-- The kind of a cell. -/
inductive Fd where
  | int (k : IntKind)
  | bool
  | str
  | sub (fs : List Fd)
/-- What lies in a cell. -/
inductive U where
  | int (n : Int)
  | bool (b : Bool)
  | str (s : ByteArray)
  | sub (xs : List (List U))
def Fd.deep : Fd → Bool
  | .sub _ => true
  | _ => false
def blkOf (fs : List Fd) (st : Nat) (cont : List (List V)) : Blk := if fs.any Fd.deep then .nest st fs.length cont else .rows st fs.length cont

def Zip3 {α β : Type} (R : α → β → List Nat → Prop) : List α → List β → List Nat → Prop
  | [], [], ids => ids = []
  | a :: ays, b :: bs, ids => ∃ i j, ids = i ++ j ∧ R a b i ∧ Zip3 R ays bs j
  | _, _, _ => False
def Zip2 {α β : Type} (R : α → β → Prop) : List α → List β → Prop
  | [], [] => True
  | a :: ays, b :: bs => R a b ∧ Zip2 R ays bs
  | _, _ => False

mutual
/-- A cell whose memory is one's own: the blocks that it lies in. -/
def OwnF (h : Heap) : Fd → V → U → List Nat → Prop
  | .int k, v, u, ids => ∃ n, v = .int k n ∧ u = .int n ∧ ids = []
  | .bool, v, u, ids => ∃ b, v = .bool b ∧ u = .bool b ∧ ids = []
  | .str, v, u, ids => ∃ s, v = .str s ∧ u = .str s ∧ ids = []
  | .sub fs, v, u, ids => ∃ xs, u = .sub xs ∧ ((∃ c, v = .sl c fs.length [] ∧ xs = [] ∧ ids = []) ∨
      ∃ id st clip cont r, v = .ref id st 0 cont.length clip ∧ h[id]? = some (blkOf fs st cont) ∧ ids = id :: r ∧ Zip3 (OwnR h fs) cont xs r)
def OwnR (h : Heap) : List Fd → List V → List U → List Nat → Prop
  | [], c, x, ids => c = [] ∧ x = [] ∧ ids = []
  | f :: fs, c, x, ids => ∃ v c' u x' i j, c = v :: c' ∧ x = u :: x' ∧ ids = i ++ j ∧ OwnF h f v u i ∧ OwnR h fs c' x' j
end
mutual
/-- A cell of a value. -/
def PurF : Fd → V → U → Prop
  | .int k, v, u => ∃ n, v = .int k n ∧ u = .int n
  | .bool, v, u => ∃ b, v = .bool b ∧ u = .bool b
  | .str, v, u => ∃ s, v = .str s ∧ u = .str s
  | .sub fs, v, u => ∃ c cont xs, v = .sl c fs.length cont ∧ u = .sub xs ∧ Zip2 (PurR fs) cont xs
def PurR : List Fd → List V → List U → Prop
  | [], c, x => c = [] ∧ x = []
  | f :: fs, c, x => ∃ v c' u x', c = v :: c' ∧ x = u :: x' ∧ PurF f v u ∧ PurR fs c' x'
end

theorem Zip3_len {α β : Type} {R : α → β → List Nat → Prop} : ∀ {ays : List α} {bs : List β} {ids : List Nat}, Zip3 R ays bs ids → ays.length = bs.length
  | [], [], _, _ => rfl
  | a :: ays, b :: bs, ids, ⟨i, j, _, _, h⟩ => by simp [Zip3_len h]
  | [], _ :: _, _, h => h.elim
  | _ :: _, [], _, h => h.elim
theorem Zip3_mono {α β : Type} {R S : α → β → List Nat → Prop} {P : Nat → Prop} (f : ∀ a b i, R a b i → (∀ id ∈ i, P id) → S a b i) : ∀ {ays : List α} {bs : List β} {ids : List Nat}, Zip3 R ays bs ids → (∀ id ∈ ids, P id) → Zip3 S ays bs ids
  | [], [], _, h, _ => h
  | a :: ays, b :: bs, _, ⟨i, j, e, h1, h2⟩, hp => ⟨i, j, e, f a b i h1 (fun id hid => hp id (e ▸ List.mem_append_left _ hid)), Zip3_mono f h2 (fun id hid => hp id (e ▸ List.mem_append_right _ hid))⟩
  | [], _ :: _, _, h, _ => h.elim
  | _ :: _, [], _, h, _ => h.elim
theorem Zip3_map {α β : Type} {R S : α → β → List Nat → Prop} {g : α → α} {m : Nat → Nat} (f : ∀ a b i, R a b i → S (g a) b (i.map m)) : ∀ {ays : List α} {bs : List β} {ids : List Nat}, Zip3 R ays bs ids → Zip3 S (ays.map g) bs (ids.map m)
  | [], [], _, h => by cases h; rfl
  | a :: ays, b :: bs, _, ⟨i, j, e, h1, h2⟩ => ⟨i.map m, j.map m, by rw [e, List.map_append], f a b i h1, Zip3_map f h2⟩
  | [], _ :: _, _, h => h.elim
  | _ :: _, [], _, h => h.elim
theorem Zip3_app {α β : Type} {R : α → β → List Nat → Prop} : ∀ {ays : List α} {bs : List β} {ids : List Nat} {a2 : List α} {b2 : List β} {i2 : List Nat}, Zip3 R ays bs ids → Zip3 R a2 b2 i2 → Zip3 R (ays ++ a2) (bs ++ b2) (ids ++ i2)
  | [], [], _, _, _, _, h, h2 => by cases h; exact h2
  | a :: ays, b :: bs, _, _, _, _, ⟨i, j, e, h1, h3⟩, h2 => ⟨i, j ++ _, by rw [e, List.append_assoc], h1, Zip3_app h3 h2⟩
  | [], _ :: _, _, _, _, _, h, _ => h.elim
  | _ :: _, [], _, _, _, _, h, _ => h.elim
theorem Zip3_one {α β : Type} {R : α → β → List Nat → Prop} {a : α} {b : β} {i : List Nat} (h : R a b i) : Zip3 R [a] [b] i := ⟨i, [], by simp, h, rfl⟩

/-! ### they stay where the blocks stay -/
mutual
theorem OwnF_frame {h h' : Heap} : ∀ (f : Fd) {v : V} {u : U} {ids : List Nat}, OwnF h f v u ids → (∀ id ∈ ids, h'[id]? = h[id]?) → OwnF h' f v u ids
  | .int k, _, _, _, ho, _ => by simpa only [OwnF] using ho
  | .bool, _, _, _, ho, _ => by simpa only [OwnF] using ho
  | .str, _, _, _, ho, _ => by simpa only [OwnF] using ho
  | .sub fs, v, u, ids, ho, hk => by
    simp only [OwnF] at ho ⊢
    obtain ⟨xs, e, ho | ⟨id, st, clip, cont, r, e1, e2, e3, ho⟩⟩ := ho
    · exact ⟨xs, e, .inl ho⟩
    · subst e3
      exact ⟨xs, e, .inr ⟨id, st, clip, cont, r, e1, (hk id List.mem_cons_self).trans e2, rfl, Zip3_mono (fun c x i hr hp => OwnR_frame fs hr hp) ho (fun i hi => hk i (List.mem_cons_of_mem _ hi))⟩⟩
theorem OwnR_frame {h h' : Heap} : ∀ (fs : List Fd) {c : List V} {x : List U} {ids : List Nat}, OwnR h fs c x ids → (∀ id ∈ ids, h'[id]? = h[id]?) → OwnR h' fs c x ids
  | [], _, _, _, ho, _ => by simpa only [OwnR] using ho
  | f :: fs, c, x, ids, ho, hk => by
    simp only [OwnR] at ho ⊢
    obtain ⟨v, c', u, x', i, j, e1, e2, e3, h1, h2⟩ := ho
    subst e3
    exact ⟨v, c', u, x', i, j, e1, e2, rfl, OwnF_frame f h1 (fun id hid => hk id (List.mem_append_left _ hid)), OwnR_frame fs h2 (fun id hid => hk id (List.mem_append_right _ hid))⟩
end
theorem Zip3_all {α β : Type} {R : α → β → List Nat → Prop} {P : Nat → Prop} (f : ∀ a b i, R a b i → ∀ id ∈ i, P id) : ∀ {ays : List α} {bs : List β} {ids : List Nat}, Zip3 R ays bs ids → ∀ id ∈ ids, P id
  | [], [], _, h => by cases h; intro _ hm; cases hm
  | a :: ays, b :: bs, _, ⟨i, j, e, h1, h2⟩ => by
    subst e
    intro id hm
    rcases List.mem_append.1 hm with hm | hm
    · exact f a b i h1 id hm
    · exact Zip3_all f h2 id hm
  | [], _ :: _, _, h => h.elim
  | _ :: _, [], _, h => h.elim
mutual
theorem OwnF_lt {h : Heap} : ∀ (f : Fd) {v : V} {u : U} {ids : List Nat}, OwnF h f v u ids → ∀ id ∈ ids, id < h.length
  | .int k, _, _, _, ho => by simp only [OwnF] at ho; obtain ⟨_, _, _, rfl⟩ := ho; intro _ hm; cases hm
  | .bool, _, _, _, ho => by simp only [OwnF] at ho; obtain ⟨_, _, _, rfl⟩ := ho; intro _ hm; cases hm
  | .str, _, _, _, ho => by simp only [OwnF] at ho; obtain ⟨_, _, _, rfl⟩ := ho; intro _ hm; cases hm
  | .sub fs, v, u, ids, ho => by
    simp only [OwnF] at ho
    obtain ⟨xs, e, ⟨_, _, _, rfl⟩ | ⟨id, st, clip, cont, r, e1, e2, rfl, ho⟩⟩ := ho
    · intro _ hm; cases hm
    · intro i hm
      rcases List.mem_cons.1 hm with rfl | hm
      · exact (List.getElem?_eq_some_iff.1 e2).1
      · exact Zip3_all (fun c x i hr => OwnR_lt fs hr) ho i hm
theorem OwnR_lt {h : Heap} : ∀ (fs : List Fd) {c : List V} {x : List U} {ids : List Nat}, OwnR h fs c x ids → ∀ id ∈ ids, id < h.length
  | [], _, _, _, ho => by simp only [OwnR] at ho; obtain ⟨_, _, rfl⟩ := ho; intro _ hm; cases hm
  | f :: fs, c, x, ids, ho => by
    simp only [OwnR] at ho
    obtain ⟨v, c', u, x', i, j, e1, e2, rfl, h1, h2⟩ := ho
    intro id hm
    rcases List.mem_append.1 hm with hm | hm
    · exact OwnF_lt f h1 id hm
    · exact OwnR_lt fs h2 id hm
end

/-! ### told ays values -/
def dep : Fd → Nat
  | .sub fs => depR fs + 1
  | _ => 0
where depR : List Fd → Nat
  | [] => 0
  | f :: fs => max (dep f) (depR fs)
theorem mapO_zip {α β γ' : Type} {R : α → β → List Nat → Prop} {S : γ' → β → Prop} {f : α → Option γ'} (hf : ∀ a b i, R a b i → ∃ c, f a = some c ∧ S c b) : ∀ {ays : List α} {bs : List β} {ids : List Nat}, Zip3 R ays bs ids → ∃ cs, mapO f ays = some cs ∧ Zip2 S cs bs
  | [], [], _, _ => ⟨[], rfl, trivial⟩
  | a :: ays, b :: bs, _, ⟨i, j, _, h1, h2⟩ => by
    obtain ⟨c, e1, s1⟩ := hf a b i h1
    obtain ⟨cs, e2, s2⟩ := mapO_zip hf h2
    exact ⟨c :: cs, by simp only [mapO, e1, e2], s1, s2⟩
  | [], _ :: _, _, h => h.elim
  | _ :: _, [], _, h => h.elim
theorem Zip3_to2 {α β : Type} {R : α → β → List Nat → Prop} {S : α → β → Prop} (f : ∀ a b i, R a b i → S a b) : ∀ {ays : List α} {bs : List β} {ids : List Nat}, Zip3 R ays bs ids → Zip2 S ays bs
  | [], [], _, _ => trivial
  | a :: ays, b :: bs, _, ⟨i, j, _, h1, h2⟩ => ⟨f a b i h1, Zip3_to2 f h2⟩
  | [], _ :: _, _, h => h.elim
  | _ :: _, [], _, h => h.elim
/-- Rows whose cells are no slices lie ays they are told. -/
theorem OwnR_flat {h : Heap} : ∀ (fs : List Fd) {c : List V} {x : List U} {ids : List Nat}, fs.any Fd.deep = false → OwnR h fs c x ids → PurR fs c x
  | [], _, _, _, _, ho => by simp only [OwnR] at ho; simp only [PurR]; exact ⟨ho.1, ho.2.1⟩
  | f :: fs, c, x, ids, hd, ho => by
    simp only [OwnR] at ho
    simp only [PurR]
    simp only [List.any_cons, Bool.or_eq_false_iff] at hd
    obtain ⟨v, c', u, x', i, j, e1, e2, e3, h1, h2⟩ := ho
    refine ⟨v, c', u, x', e1, e2, ?_, OwnR_flat fs hd.2 h2⟩
    cases f with
    | int k => simp only [OwnF] at h1; simp only [PurF]; obtain ⟨n, a, b, _⟩ := h1; exact ⟨n, a, b⟩
    | bool => simp only [OwnF] at h1; simp only [PurF]; obtain ⟨n, a, b, _⟩ := h1; exact ⟨n, a, b⟩
    | str => simp only [OwnF] at h1; simp only [PurF]; obtain ⟨n, a, b, _⟩ := h1; exact ⟨n, a, b⟩
    | sub gs => simp [Fd.deep] at hd
mutual
theorem OwnF_pure {h : Heap} : ∀ (f : Fd) (d : Nat) {v : V} {u : U} {ids : List Nat}, dep f ≤ d → OwnF h f v u ids → ∃ p, pureD h d v = some p ∧ PurF f p u
  | .int k, d, _, _, _, _, ho => by
    simp only [OwnF] at ho
    obtain ⟨n, rfl, rfl, _⟩ := ho
    exact ⟨.int k n, by cases d <;> rfl, by simp only [PurF]; exact ⟨n, rfl, rfl⟩⟩
  | .bool, d, _, _, _, _, ho => by
    simp only [OwnF] at ho
    obtain ⟨n, rfl, rfl, _⟩ := ho
    exact ⟨.bool n, by cases d <;> rfl, by simp only [PurF]; exact ⟨n, rfl, rfl⟩⟩
  | .str, d, _, _, _, _, ho => by
    simp only [OwnF] at ho
    obtain ⟨n, rfl, rfl, _⟩ := ho
    exact ⟨.str n, by cases d <;> rfl, by simp only [PurF]; exact ⟨n, rfl, rfl⟩⟩
  | .sub fs, d, v, u, ids, hd, ho => by
    simp only [OwnF] at ho
    obtain ⟨xs, rfl, ⟨c, rfl, rfl, _⟩ | ⟨id, st, clip, cont, r, rfl, e2, _, ho⟩⟩ := ho
    · exact ⟨.sl c fs.length [], by cases d <;> rfl, by simp only [PurF]; exact ⟨c, [], [], rfl, rfl, trivial⟩⟩
    · obtain ⟨d, rfl⟩ : ∃ m, d = m + 1 := ⟨d - 1, by simp only [dep] at hd; omega⟩
      have hd' : dep.depR fs ≤ d := by simp only [dep] at hd; omega
      cases hdeep : fs.any Fd.deep
      · refine ⟨.sl clip fs.length cont, ?_, ?_⟩
        · simp only [pureD, e2, blkOf, hdeep, Bool.false_eq_true, if_false, if_true, List.drop_zero, List.take_length]
        · simp only [PurF]
          exact ⟨clip, cont, xs, rfl, rfl, Zip3_to2 (fun c x i hr => OwnR_flat fs hdeep hr) ho⟩
      · obtain ⟨cs, m1, m2⟩ := mapO_zip (f := mapO (pureD h d)) (S := PurR fs) (fun c x i hr => OwnR_pure fs d hd' hr) ho
        refine ⟨.sl clip fs.length cs, ?_, ?_⟩
        · simp only [pureD, e2, blkOf, hdeep, if_true, List.drop_zero, List.take_length, m1, Option.map_some]
        · simp only [PurF]
          exact ⟨clip, cs, xs, rfl, rfl, m2⟩
theorem OwnR_pure {h : Heap} : ∀ (fs : List Fd) (d : Nat) {c : List V} {x : List U} {ids : List Nat}, dep.depR fs ≤ d → OwnR h fs c x ids → ∃ p, mapO (pureD h d) c = some p ∧ PurR fs p x
  | [], d, _, _, _, _, ho => by
    simp only [OwnR] at ho
    obtain ⟨rfl, rfl, _⟩ := ho
    exact ⟨[], rfl, by simp [PurR]⟩
  | f :: fs, d, c, x, ids, hd, ho => by
    simp only [OwnR] at ho
    simp only [dep.depR] at hd
    obtain ⟨v, c', u, x', i, j, rfl, rfl, _, h1, h2⟩ := ho
    obtain ⟨p, e1, p1⟩ := OwnF_pure f d (by omega) h1
    obtain ⟨q, e2, q1⟩ := OwnR_pure fs d (by omega) h2
    exact ⟨p :: q, by simp only [mapO, e1, e2], by simp only [PurR]; exact ⟨p, q, u, x', rfl, rfl, p1, q1⟩⟩
end

/-! ### handed over by a call -/
theorem Zip3_fresh {α β : Type} {R : α → β → List Nat → Prop} {P : α → Bool} (f : ∀ a b i, R a b i → P a = true) : ∀ {ays : List α} {bs : List β} {ids : List Nat}, Zip3 R ays bs ids → ays.all P = true
  | [], [], _, _ => rfl
  | a :: ays, b :: bs, _, ⟨i, j, _, h1, h2⟩ => by rw [List.all_cons, f a b i h1, Zip3_fresh f h2]; rfl
  | [], _ :: _, _, h => h.elim
  | _ :: _, [], _, h => h.elim
theorem OwnF_fresh {h : Heap} (f : Fd) {v : V} {u : U} {ids : List Nat} (ho : OwnF h f v u ids) : freshC v = true := by
  cases f with
  | int k => simp only [OwnF] at ho; obtain ⟨_, rfl, _⟩ := ho; rfl
  | bool => simp only [OwnF] at ho; obtain ⟨_, rfl, _⟩ := ho; rfl
  | str => simp only [OwnF] at ho; obtain ⟨_, rfl, _⟩ := ho; rfl
  | sub fs =>
    simp only [OwnF] at ho
    obtain ⟨xs, _, ⟨c, rfl, _⟩ | ⟨id, st, clip, cont, r, rfl, _⟩⟩ := ho <;> rfl
theorem OwnR_fresh {h : Heap} : ∀ (fs : List Fd) {c : List V} {x : List U} {ids : List Nat}, OwnR h fs c x ids → c.all freshC = true
  | [], _, _, _, ho => by simp only [OwnR] at ho; rw [ho.1]; rfl
  | f :: fs, c, x, ids, ho => by
    simp only [OwnR] at ho
    obtain ⟨v, c', u, x', i, j, rfl, _, _, h1, h2⟩ := ho
    rw [List.all_cons, OwnF_fresh f h1, OwnR_fresh fs h2]
    rfl
theorem moved_get {h hc : Heap} {id : Nat} {b : Blk} (hb : hc[id]? = some b) : (h ++ movedH h.length hc)[id + h.length]? = some (shB h.length (clean b)) := by
  rw [List.getElem?_append_right (by omega), Nat.add_sub_cancel]
  simp [movedH, hb]
mutual
theorem OwnF_moved {h hc : Heap} : ∀ (f : Fd) {v : V} {u : U} {ids : List Nat}, OwnF hc f v u ids → OwnF (h ++ movedH h.length hc) f (shC h.length v) u (ids.map (· + h.length))
  | .int k, _, _, _, ho => by simp only [OwnF] at ho ⊢; obtain ⟨n, rfl, rfl, rfl⟩ := ho; exact ⟨n, rfl, rfl, rfl⟩
  | .bool, _, _, _, ho => by simp only [OwnF] at ho ⊢; obtain ⟨n, rfl, rfl, rfl⟩ := ho; exact ⟨n, rfl, rfl, rfl⟩
  | .str, _, _, _, ho => by simp only [OwnF] at ho ⊢; obtain ⟨n, rfl, rfl, rfl⟩ := ho; exact ⟨n, rfl, rfl, rfl⟩
  | .sub fs, v, u, ids, ho => by
    simp only [OwnF] at ho ⊢
    obtain ⟨xs, e, ⟨c, rfl, e1, rfl⟩ | ⟨id, st, clip, cont, r, rfl, e2, rfl, ho⟩⟩ := ho
    · exact ⟨xs, e, .inl ⟨c, rfl, e1, rfl⟩⟩
    · have hz := Zip3_map (S := OwnR (h ++ movedH h.length hc) fs) (g := fun x => x.map (shC h.length)) (m := (· + h.length)) (fun c x i hr => OwnR_moved fs hr) ho
      have hf : cont.all (fun x => x.all freshC) = true := Zip3_fresh (fun c x i hr => OwnR_fresh fs hr) ho
      have hg := moved_get (h := h) e2
      refine ⟨xs, e, .inr ⟨id + h.length, st, clip, cont.map (fun x => x.map (shC h.length)), r.map (· + h.length), by rw [List.length_map]; rfl, ?_, rfl, hz⟩⟩
      rw [hg]
      unfold blkOf
      cases hdeep : fs.any Fd.deep
      · have hid : cont.map (fun x => x.map (shC h.length)) = cont := by
          have := Zip3_to2 (S := fun (c : List V) (_ : List U) => c.map (shC h.length) = c) (fun c x i hr => OwnR_shift fs h.length hdeep hr) ho
          clear hz hf hg e2 ho
          revert this
          generalize xs = ys
          intro hz
          induction cont generalizing ys with
          | nil => rfl
          | cons a ays ih =>
            cases ys with
            | nil => exact hz.elim
            | cons b bs => rw [List.map_cons, hz.1, ih bs hz.2]
        simp only [Bool.false_eq_true, if_false, clean, hf, if_true, shB, hid]
      · simp only [if_true, clean, hf, shB]
theorem OwnR_moved {h hc : Heap} : ∀ (fs : List Fd) {c : List V} {x : List U} {ids : List Nat}, OwnR hc fs c x ids → OwnR (h ++ movedH h.length hc) fs (c.map (shC h.length)) x (ids.map (· + h.length))
  | [], _, _, _, ho => by simp only [OwnR] at ho ⊢; obtain ⟨rfl, rfl, rfl⟩ := ho; exact ⟨rfl, rfl, rfl⟩
  | f :: fs, c, x, ids, ho => by
    simp only [OwnR] at ho ⊢
    obtain ⟨v, c', u, x', i, j, rfl, rfl, rfl, h1, h2⟩ := ho
    exact ⟨shC h.length v, c'.map (shC h.length), u, x', i.map (· + h.length), j.map (· + h.length), rfl, rfl, by rw [List.map_append], OwnF_moved f h1, OwnR_moved fs h2⟩
theorem OwnR_shift {h : Heap} : ∀ (fs : List Fd) (n : Nat) {c : List V} {x : List U} {ids : List Nat}, fs.any Fd.deep = false → OwnR h fs c x ids → c.map (shC n) = c
  | [], _, _, _, _, _, ho => by simp only [OwnR] at ho; rw [ho.1]; rfl
  | f :: fs, n, c, x, ids, hd, ho => by
    simp only [OwnR] at ho
    simp only [List.any_cons, Bool.or_eq_false_iff] at hd
    obtain ⟨v, c', u, x', i, j, rfl, rfl, rfl, h1, h2⟩ := ho
    rw [List.map_cons, OwnR_shift fs n hd.2 h2]
    cases f with
    | int k => simp only [OwnF] at h1; obtain ⟨_, rfl, _⟩ := h1; rfl
    | bool => simp only [OwnF] at h1; obtain ⟨_, rfl, _⟩ := h1; rfl
    | str => simp only [OwnF] at h1; obtain ⟨_, rfl, _⟩ := h1; rfl
    | sub gs => simp [Fd.deep] at hd
end
end Go.Proofs.Ytfbjbkkcilhgjaa.PE
/- What the functions of an exact statement do with such trees: sizes, copies, comparisons, marks; their loops. -/
set_option linter.unusedVariables false
set_option linter.unusedSimpArgs false
namespace Go.Proofs.Ytfbjbkkcilhgjaa.PE
open Go.RowKit

/-! ### loops by what holds at their head -/
section
variable {run : Run} {draw : Draw} {live out : List Nat} {c : C} {n0 : Nat}
theorem LoopK_inv {σ : Type} (n : Nat) (Inv : Nat → σ → Prop) (E : Nat → σ → Env) (H : σ → Heap) (fin : σ → Out)
    (h0 : ∀ b K, Inv n b → LoopK run draw live out c K (E n b) (H b) = fin b)
    (h1 : ∀ (i : Nat) b K, i < n → Inv i b → ∃ b', Inv (i + 1) b' ∧ LoopK run draw live out c (K + 1) (E i b) (H b) = LoopK run draw live out c K (E (i + 1) b') (H b'))
    (K : Nat) (hK : n ≤ K) (b : σ) (hb : Inv 0 b) : ∃ b', Inv n b' ∧ LoopK run draw live out c K (E 0 b) (H b) = fin b' := by
  have key : ∀ (m i K : Nat) b, i + m = n → m ≤ K → Inv i b → ∃ b', Inv n b' ∧ LoopK run draw live out c K (E i b) (H b) = fin b' := by
    intro m
    induction m with
    | zero => intro i K b hi _ hb; have : i = n := by omega
              subst this; exact ⟨b, hb, h0 b K hb⟩
    | succ m ih =>
      intro i K b hi hK hb
      obtain ⟨K, rfl⟩ : ∃ K', K = K' + 1 := ⟨K - 1, by omega⟩
      obtain ⟨b', hb', e⟩ := h1 i b K (by omega) hb
      obtain ⟨b2, hb2, e2⟩ := ih (i + 1) K b' (by omega) (by omega) hb'
      exact ⟨b2, hb2, e.trans e2⟩
  exact key n 0 K b (by omega) hK hb
theorem LoopS_inv {σ : Type} (n : Nat) (Inv : Nat → σ → Prop) (E : Nat → σ → Env) (H : σ → Heap) (fin : σ → Out)
    (h0 : ∀ b K, Inv n b → LoopS run draw live out c n0 K (E n b) (H b) = fin b)
    (h1 : ∀ (i : Nat) b K, i < n → Inv i b → ∃ b', Inv (i + 1) b' ∧ LoopS run draw live out c n0 (K + 1) (E i b) (H b) = LoopS run draw live out c n0 K (E (i + 1) b') (H b'))
    (K : Nat) (hK : n ≤ K) (b : σ) (hb : Inv 0 b) : ∃ b', Inv n b' ∧ LoopS run draw live out c n0 K (E 0 b) (H b) = fin b' := by
  have key : ∀ (m i K : Nat) b, i + m = n → m ≤ K → Inv i b → ∃ b', Inv n b' ∧ LoopS run draw live out c n0 K (E i b) (H b) = fin b' := by
    intro m
    induction m with
    | zero => intro i K b hi _ hb; have : i = n := by omega
              subst this; exact ⟨b, hb, h0 b K hb⟩
    | succ m ih =>
      intro i K b hi hK hb
      obtain ⟨K, rfl⟩ : ∃ K', K = K' + 1 := ⟨K - 1, by omega⟩
      obtain ⟨b', hb', e⟩ := h1 i b K (by omega) hb
      obtain ⟨b2, hb2, e2⟩ := ih (i + 1) K b' (by omega) (by omega) hb'
      exact ⟨b2, hb2, e.trans e2⟩
  exact key n 0 K b (by omega) hK hb
end

/-! ### sizes -/
def szZ (R : List U → Int → Int) : List (List U) → Int → Int
  | [], l => l
  | x :: xs, l => if R x l < 0 then -1 else szZ R xs (R x l)
mutual
def szF : Fd → U → Int → Int
  | .str, .str s, l => if l - s.size < 0 then -1 else l - s.size
  | .sub fs, .sub xs, l => if l - xs.length < 0 then -1 else szZ (szR fs) xs (l - xs.length)
  | _, _, l => l
def szR : List Fd → List U → Int → Int
  | f :: fs, u :: x, l => if szF f u l < 0 then -1 else szR fs x (szF f u l)
  | _, _, l => l
end
def AllU (P : List U → Prop) : List (List U) → Prop
  | [] => True
  | x :: xs => P x ∧ AllU P xs
mutual
def LenF (n m : Nat) : Fd → U → Prop
  | .str, .str s => s.size ≤ m
  | .sub fs, .sub xs => xs.length ≤ n ∧ AllU (LenR n m fs) xs
  | _, _ => True
def LenR (n m : Nat) : List Fd → List U → Prop
  | f :: fs, u :: x => LenF n m f u ∧ LenR n m fs x
  | _, _ => True
end
/-- How many numbers are in it. -/
def sumU (c : List U → Nat) : List (List U) → Nat
  | [] => 0
  | x :: xs => c x + sumU c xs
mutual
def cntF : Fd → U → Nat
  | .sub fs, .sub xs => sumU (cntR fs) xs
  | _, _ => 1
def cntR : List Fd → List U → Nat
  | f :: fs, u :: x => cntF f u + cntR fs x
  | _, _ => 0
end
theorem AllU_mono {P Q : List U → Prop} (f : ∀ x, P x → Q x) : ∀ {xs : List (List U)}, AllU P xs → AllU Q xs
  | [], _ => trivial
  | x :: xs, ⟨h1, h2⟩ => ⟨f x h1, AllU_mono f h2⟩
mutual
theorem LenF_mono {n m n' m' : Nat} (hn : n ≤ n') (hm : m ≤ m') : ∀ (f : Fd) {u : U}, LenF n m f u → LenF n' m' f u
  | .str, .str s, h => by simp only [LenF] at h ⊢; omega
  | .sub fs, .sub xs, h => by simp only [LenF] at h ⊢; exact ⟨by omega, AllU_mono (fun x hx => LenR_mono hn hm fs hx) h.2⟩
  | .int _, _, _ => by simp [LenF]
  | .bool, _, _ => by simp [LenF]
  | .str, .int _, _ => by simp [LenF]
  | .str, .bool _, _ => by simp [LenF]
  | .str, .sub _, _ => by simp [LenF]
  | .sub _, .int _, _ => by simp [LenF]
  | .sub _, .bool _, _ => by simp [LenF]
  | .sub _, .str _, _ => by simp [LenF]
theorem LenR_mono {n m n' m' : Nat} (hn : n ≤ n') (hm : m ≤ m') : ∀ (fs : List Fd) {x : List U}, LenR n m fs x → LenR n' m' fs x
  | f :: fs, u :: x, h => by simp only [LenR] at h ⊢; exact ⟨LenF_mono hn hm f h.1, LenR_mono hn hm fs h.2⟩
  | [], _, _ => by simp [LenR]
  | _ :: _, [], _ => by simp [LenR]
end
theorem szZ_spec {N : Nat} {R : List U → Int → Int} {P : List U → Prop} {c : List U → Nat} (hR : ∀ x (l : Int), l ≤ N → 0 ≤ R x l → 0 ≤ l → R x l ≤ l ∧ P x ∧ (c x : Int) ≤ 16 * (l - R x l) + 16) : ∀ (xs : List (List U)) (l : Int), l ≤ N → 0 ≤ szZ R xs l → 0 ≤ l →
    szZ R xs l ≤ l ∧ AllU P xs ∧ (sumU c xs : Int) ≤ 16 * (l - szZ R xs l) + 16 * xs.length
  | [], l, _, _, _ => by simp [szZ, AllU, sumU]
  | x :: xs, l, hl, h, h0 => by
    simp only [szZ] at h ⊢
    by_cases hx : R x l < 0
    · rw [if_pos hx] at h; omega
    · rw [if_neg hx] at h ⊢
      obtain ⟨a1, a2, a3⟩ := hR x l hl (by omega) h0
      obtain ⟨b1, b2, b3⟩ := szZ_spec hR xs (R x l) (by omega) h (by omega)
      refine ⟨by omega, ⟨a2, b2⟩, ?_⟩
      simp only [sumU, List.length_cons]
      push_cast
      omega
mutual
def okFd : Fd → Bool
  | .sub fs => decide (fs.length ≤ 16) && okFds fs
  | _ => true
def okFds : List Fd → Bool
  | [] => true
  | f :: fs => okFd f && okFds fs
end
mutual
theorem szF_spec {N : Nat} : ∀ (f : Fd) (u : U) (l : Int), okFd f = true → l ≤ N → 0 ≤ szF f u l → 0 ≤ l → szF f u l ≤ l ∧ LenF N N f u ∧ (cntF f u : Int) ≤ 16 * (l - szF f u l) + 1
  | .str, .str s, l, _, hl, h, h0 => by
    simp only [szF, LenF, cntF] at h ⊢
    split at h
    · omega
    · rename_i hc; rw [if_neg hc]; omega
  | .sub fs, .sub xs, l, hk, hl, h, h0 => by
    simp only [szF, LenF, cntF] at h ⊢
    simp only [okFd, Bool.and_eq_true, decide_eq_true_eq] at hk
    split at h
    · omega
    · rename_i hc
      rw [if_neg hc]
      obtain ⟨b1, b2, b3⟩ := szZ_spec (N := N) (R := szR fs) (P := LenR N N fs) (c := cntR fs) (fun x l hl h h0 => by
        obtain ⟨c1, c2, c3⟩ := szR_spec (N := N) fs x l hk.2 hl h h0
        exact ⟨c1, c2, by omega⟩) xs (l - xs.length) (by omega) h (by omega)
      exact ⟨by omega, ⟨by omega, b2⟩, by omega⟩
  | .int _, _, l, _, _, h, h0 => by simp [szF, LenF, cntF]
  | .bool, _, l, _, _, h, h0 => by simp [szF, LenF, cntF]
  | .str, .int _, l, _, _, h, h0 => by simp [szF, LenF, cntF]
  | .str, .bool _, l, _, _, h, h0 => by simp [szF, LenF, cntF]
  | .str, .sub _, l, _, _, h, h0 => by simp [szF, LenF, cntF]
  | .sub _, .int _, l, _, _, h, h0 => by simp [szF, LenF, cntF]
  | .sub _, .bool _, l, _, _, h, h0 => by simp [szF, LenF, cntF]
  | .sub _, .str _, l, _, _, h, h0 => by simp [szF, LenF, cntF]
theorem szR_spec {N : Nat} : ∀ (fs : List Fd) (x : List U) (l : Int), okFds fs = true → l ≤ N → 0 ≤ szR fs x l → 0 ≤ l → szR fs x l ≤ l ∧ LenR N N fs x ∧ (cntR fs x : Int) ≤ 16 * (l - szR fs x l) + fs.length
  | f :: fs, u :: x, l, hk, hl, h, h0 => by
    simp only [szR, LenR, cntR] at h ⊢
    simp only [okFds, Bool.and_eq_true] at hk
    split at h
    · omega
    · rename_i hc
      rw [if_neg hc]
      obtain ⟨a1, a2, a3⟩ := szF_spec (N := N) f u l hk.1 hl (by omega) h0
      obtain ⟨b1, b2, b3⟩ := szR_spec (N := N) fs x (szF f u l) hk.2 (by omega) h (by omega)
      refine ⟨by omega, ⟨a2, b2⟩, ?_⟩
      simp only [List.length_cons]
      push_cast
      omega
  | [], _, l, _, _, h, h0 => by simp [szR, LenR, cntR]
  | _ :: _, [], l, _, _, h, h0 => by simp [szR, LenR, cntR]; omega
end
/-! ### marks -/
/-- The digits of a number, ahead of others. -/
def digs : Nat → Nat → ByteArray → ByteArray
  | 0, _, s => s
  | f + 1, n, s => if n = 0 then s else digs f (n / 10) (⟨#[UInt8.ofNat (48 + n % 10)]⟩ ++ s)
def txt (k : Int) : ByteArray := if k ≤ 0 then ⟨#[109, 48]⟩ else ⟨#[109]⟩ ++ digs 20 k.toNat ⟨#[]⟩
def HeldZ (R : List U → Int → Int → Prop) : List (List U) → Int → Int → Prop
  | [], k, k' => k' = k
  | x :: xs, k, k' => ∃ m, R x k m ∧ HeldZ R xs m k'
mutual
def HeldF : Fd → U → Int → Int → Prop
  | .int kk, u, k, k' => u = .int (kk.wrap k) ∧ k' = k + 1
  | .bool, u, k, k' => u = .bool (decide (k.tmod 3 = 0)) ∧ k' = k + 1
  | .str, u, k, k' => u = .str (txt k) ∧ k' = k + 1
  | .sub fs, u, k, k' => ∃ xs, u = .sub xs ∧ HeldZ (HeldR fs) xs k k'
def HeldR : List Fd → List U → Int → Int → Prop
  | [], x, k, k' => x = [] ∧ k' = k
  | f :: fs, x, k, k' => ∃ u x' m, x = u :: x' ∧ HeldF f u k m ∧ HeldR fs x' m k'
end
theorem HeldZ_le {R : List U → Int → Int → Prop} (hR : ∀ x k k', R x k k' → k ≤ k') : ∀ {xs : List (List U)} {k k' : Int}, HeldZ R xs k k' → k ≤ k'
  | [], k, k', h => by simp only [HeldZ] at h; omega
  | x :: xs, k, k', ⟨m, h1, h2⟩ => by have := hR x k m h1; have := HeldZ_le hR h2; omega
mutual
theorem HeldF_le : ∀ (f : Fd) {u : U} {k k' : Int}, HeldF f u k k' → k ≤ k'
  | .int kk, _, _, _, h => by simp only [HeldF] at h; omega
  | .bool, _, _, _, h => by simp only [HeldF] at h; omega
  | .str, _, _, _, h => by simp only [HeldF] at h; omega
  | .sub fs, _, _, _, h => by
    simp only [HeldF] at h
    obtain ⟨xs, _, h⟩ := h
    exact HeldZ_le (fun x k k' => HeldR_le fs) h
theorem HeldR_le : ∀ (fs : List Fd) {x : List U} {k k' : Int}, HeldR fs x k k' → k ≤ k'
  | [], _, _, _, h => by simp only [HeldR] at h; omega
  | f :: fs, _, _, _, h => by
    simp only [HeldR] at h
    obtain ⟨u, x', m, _, h1, h2⟩ := h
    have := HeldF_le f h1
    have := HeldR_le fs h2
    omega
end
end Go.Proofs.Ytfbjbkkcilhgjaa.PE
/- The loops of copies, comparisons, sizes and marks, by what one round does. -/
set_option linter.unusedVariables false
set_option linter.unusedSimpArgs false
namespace Go.Proofs.Ytfbjbkkcilhgjaa.PE
open Go.RowKit

def big : Nat := 1099511627775
section
variable {run : Run} {draw : Draw} {c : C} {n0 : Nat}
theorem take_snoc {α : Type} {l : List α} {i : Nat} {x : α} (hx : l[i]? = some x) : l.take (i + 1) = l.take i ++ [x] := by
  rw [List.take_add_one, hx]; rfl
end
end Go.Proofs.Ytfbjbkkcilhgjaa.PE
/- Versions after writes: what the reference's functions come to, and how much at most. -/
set_option linter.unusedSimpArgs false
set_option linter.unusedVariables false
set_option maxHeartbeats 4000000
namespace Go.Proofs.Ytfbjbkkcilhgjaa.PE
open Go.RowKit

/-- Versions of short rows. -/
def GVs (n : Nat) (l : List Ver) : Prop := l.length ≤ n ∧ ∀ v ∈ l, GS v.row.vs
theorem GVs.short {n : Nat} {l : List Ver} (h : GVs n l) : ShortVs l ∧ ∀ v ∈ l, v.row.vs.length < 4294967296 := ⟨fun v hv => (h.2 v hv).short, fun v hv => by have := (h.2 v hv).1; omega⟩
-- find167
theorem run_lastTurn (d : Nat) (c : Bool) (l : List Ver) (key : Int) (hs : l.length < 1099511627776) (hsh : ShortVs l) : ∃ n, retP (runD tab noExt (d + 6)) 167 [.sl c 4 (l.map Ver.cells), .int .i64 key] = some [.int .i64 n] := by
  have hv := run_versS d c l hs hsh
  cases hok : versOk l
  · rw [hok] at hv
    refine ⟨0, ?_⟩
    rw [retP, runD_eq find167 _ _ _ (by simp)]
    simp -implicitDefEqProofs (disch := omega) only [go_sem, Nat.reduceBEq, Nat.reduceAdd, Nat.reduceSub, Nat.reduceMul, Nat.reduceLeDiff, Nat.reduceEqDiff, Nat.reduceLT, Int.reduceNeg, Int.reduceAdd, Int.reduceSub, Int.reduceMul, Int.reduceLE, Int.reduceLT, Int.reduceEq, Int.reduceToNat, reduceCtorEq]
    rw [LoopS_eq]
    by_cases h0 : (0 : Int) < l.length
    · simp -implicitDefEqProofs (disch := omega) only [go_sem, Nat.reduceBEq, Nat.reduceAdd, Nat.reduceSub, Nat.reduceMul, Nat.reduceLeDiff, Nat.reduceEqDiff, Nat.reduceLT, Int.reduceNeg, Int.reduceAdd, Int.reduceSub, Int.reduceMul, Int.reduceLE, Int.reduceLT, Int.reduceEq, Int.reduceToNat, reduceCtorEq, evL167x0, B167x0, h0, hv]
    · simp -implicitDefEqProofs (disch := omega) only [go_sem, Nat.reduceBEq, Nat.reduceAdd, Nat.reduceSub, Nat.reduceMul, Nat.reduceLeDiff, Nat.reduceEqDiff, Nat.reduceLT, Int.reduceNeg, Int.reduceAdd, Int.reduceSub, Int.reduceMul, Int.reduceLE, Int.reduceLT, Int.reduceEq, Int.reduceToNat, reduceCtorEq, evL167x0, B167x0, h0]
  · rw [hok] at hv
    obtain ⟨n, _, e⟩ := LoopS_inv (run := runD tab noExt (d + 5)) (draw := drawI (runD tab noExt (d + 5))) (live := [0, 1, 5, 6]) (out := [5]) (c := L167x0) (n0 := 0) l.length (fun _ (_ : Int) => True)
      (fun i b => [(0, .sl c 4 (l.map Ver.cells)), (1, .int .i64 key), (5, .int .i64 b), (6, .int .i64 (i : Nat))]) (fun _ => []) (fun b => some (.exit 0, [(5, .int .i64 b)], []))
      (fun b K _ => by
        rw [LoopS_eq]
        simp -implicitDefEqProofs only [go_sem, Nat.reduceBEq, Nat.reduceAdd, Nat.reduceSub, Nat.reduceMul, Nat.reduceLeDiff, Nat.reduceEqDiff, Nat.reduceLT, Int.reduceNeg, Int.reduceAdd, Int.reduceSub, Int.reduceMul, Int.reduceLE, Int.reduceLT, Int.reduceEq, Int.reduceToNat, reduceCtorEq, evL167x0, B167x0, Int.lt_irrefl]) (fun i b K hi _ => by
        have hi' : (i : Int) < l.length := by omega
        have hx := List.getElem?_eq_getElem hi
        generalize l[i] = v at hx
        rw [LoopS_eq]
        by_cases hk : v.key = key
        · refine ⟨if v.died > (if v.born > b then v.born else b) then v.died else (if v.born > b then v.born else b), trivial, ?_⟩
          simp -implicitDefEqProofs (disch := omega) only [go_sem, Nat.reduceBEq, Nat.reduceAdd, Nat.reduceSub, Nat.reduceMul, Nat.reduceLeDiff, Nat.reduceEqDiff, Nat.reduceLT, Int.reduceNeg, Int.reduceAdd, Int.reduceSub, Int.reduceMul, Int.reduceLE, Int.reduceLT, Int.reduceEq, Int.reduceToNat, reduceCtorEq, evL167x0, B167x0, evC_draw, evD167x0, E167x0, hi', hx, hv, Ver.cells, Row.v, IntWalk.i64_in, mmax, (eq_true hk : (v.key = key) = True)]
        · refine ⟨b, trivial, ?_⟩
          simp -implicitDefEqProofs (disch := omega) only [go_sem, Nat.reduceBEq, Nat.reduceAdd, Nat.reduceSub, Nat.reduceMul, Nat.reduceLeDiff, Nat.reduceEqDiff, Nat.reduceLT, Int.reduceNeg, Int.reduceAdd, Int.reduceSub, Int.reduceMul, Int.reduceLE, Int.reduceLT, Int.reduceEq, Int.reduceToNat, reduceCtorEq, evL167x0, B167x0, hi', hx, hv, Ver.cells, Row.v, IntWalk.i64_in, (eq_false hk : (v.key = key) = False)]) 1099511627775 (by omega) 0 trivial
    refine ⟨n, ?_⟩
    rw [retP, runD_eq find167 _ _ _ (by simp)]
    simp -implicitDefEqProofs (disch := omega) only [go_sem, Nat.reduceBEq, Nat.reduceAdd, Nat.reduceSub, Nat.reduceMul, Nat.reduceLeDiff, Nat.reduceEqDiff, Nat.reduceLT, Int.reduceNeg, Int.reduceAdd, Int.reduceSub, Int.reduceMul, Int.reduceLE, Int.reduceLT, Int.reduceEq, Int.reduceToNat, reduceCtorEq]
    try simp -implicitDefEqProofs only [go_sem, Nat.reduceBEq, Nat.reduceAdd, Nat.reduceSub, Nat.reduceMul, Nat.reduceLeDiff, Nat.reduceEqDiff, Nat.reduceLT, Int.reduceNeg, Int.reduceAdd, Int.reduceSub, Int.reduceMul, Int.reduceLE, Int.reduceLT, Int.reduceEq, Int.reduceToNat, reduceCtorEq, Int.natCast_zero] at e
    rw [e]
    simp -implicitDefEqProofs (disch := omega) only [go_sem, Nat.reduceBEq, Nat.reduceAdd, Nat.reduceSub, Nat.reduceMul, Nat.reduceLeDiff, Nat.reduceEqDiff, Nat.reduceLT, Int.reduceNeg, Int.reduceAdd, Int.reduceSub, Int.reduceMul, Int.reduceLE, Int.reduceLT, Int.reduceEq, Int.reduceToNat, reduceCtorEq]
theorem take_frame {h h1 : Heap} (hk : ∀ j, j < h.length → h1[j]? = h[j]?) : h1.take h.length = h := by
  apply List.ext_getElem?
  intro i
  by_cases hi : i < h.length
  · rw [List.getElem?_take_of_lt hi, hk i hi]
  · rw [List.getElem?_take_eq_none (by omega), List.getElem?_eq_none (by omega)]
-- find168
theorem ex_copy13 {d : Nat} {h : Heap} {id st n : Nat} (l : List Ver) (hid : h[id]? = some (.rows st 4 (l.map Ver.cells))) (hn : n = l.length) (hsz : l.length < 4294967295) (hfn : ∀ v ∈ l, v.row.vs.length < 4294967296) (hp : plainH h = true) :
    callS (runD tab noExt (d + 2)) h 168 [.ref id st 0 n false] true = some (.ref h.length 0 0 l.length false, h ++ [.rows 0 4 ((l.map Ver.plain).map Ver.cells)]) := by
  subst hn
  have hlt : id < h.length := (List.getElem?_eq_some_iff.1 hid).1
  obtain ⟨h', ⟨f1, f2⟩, e⟩ := LoopK_inv (run := runD tab noExt (d + 1)) (draw := drawI (runD tab noExt (d + 1))) (live := [0, 3, 4]) (out := [3]) (c := L168x0) l.length
    (fun i (h1 : Heap) => (∀ j, j < h.length → h1[j]? = h[j]?) ∧ h1[h.length + 1]? = some (.rows i 4 (((l.take i).map Ver.plain).map Ver.cells)))
    (fun i _ => [(0, .ref id st 0 l.length false), (3, .ref (h.length + 1) i 0 i false), (4, .int .i64 (i : Nat))]) (fun h1 => h1) (fun h1 => some (.exit 0, [(3, .ref (h.length + 1) l.length 0 l.length false)], h1))
    (fun h1 K hb => by
      rw [LoopK_eq]
      simp -implicitDefEqProofs only [go_sem, Nat.reduceBEq, Nat.reduceAdd, Nat.reduceSub, Nat.reduceMul, Nat.reduceLeDiff, Nat.reduceEqDiff, Nat.reduceLT, Int.reduceNeg, Int.reduceAdd, Int.reduceSub, Int.reduceMul, Int.reduceLE, Int.reduceLT, Int.reduceEq, Int.reduceToNat, reduceCtorEq, evL168x0, B168x0, Int.lt_irrefl]) (fun i h1 K hi hb => by
      obtain ⟨f1, f2⟩ := hb
      have hi' : (i : Int) < l.length := by omega
      have hx := List.getElem?_eq_getElem hi
      generalize l[i] = v at hx
      have hown := run_own3 d v.row.clip (v.row.vs.map Val.cells) (by have := hfn v (List.mem_of_getElem? hx); simpa using this)
      have q0 : h1[id]? = some (.rows st 4 (l.map Ver.cells)) := (f1 id hlt).trans hid
      have z1 : h.length + 1 < h1.length := (List.getElem?_eq_some_iff.1 f2).1
      have q2 : ∀ b : Blk, (h1 ++ [b])[h.length + 1]? = some (.rows i 4 (((l.take i).map Ver.plain).map Ver.cells)) := fun b => by rw [List.getElem?_append_left z1]; exact f2
      have hlen : (((l.take i).map Ver.plain).map Ver.cells).length = i := by simp; omega
      have hsm : i + 1 < 4294967296 := by omega
      refine ⟨(h1 ++ [Blk.box v.plain.cells]).set (h.length + 1) (.rows (i + 1) 4 (((l.take i).map Ver.plain).map Ver.cells ++ [v.plain.cells])), ⟨fun j hj => ?_, ?_⟩, ?_⟩
      · rw [List.getElem?_set_ne (by omega), List.getElem?_append_left (by omega)]
        exact f1 j hj
      · rw [List.getElem?_set_self (by simp; omega), take_snoc hx]
        simp
      · rw [LoopK_eq]
        simp -implicitDefEqProofs (disch := omega) only [go_sem, Nat.reduceBEq, Nat.reduceAdd, Nat.reduceSub, Nat.reduceMul, Nat.reduceLeDiff, Nat.reduceEqDiff, Nat.reduceLT, Int.reduceNeg, Int.reduceAdd, Int.reduceSub, Int.reduceMul, Int.reduceLE, Int.reduceLT, Int.reduceEq, Int.reduceToNat, reduceCtorEq, evL168x0, B168x0, hi', hi, q0, hx, q2, hlen, hsm, hown, Ver.cells, Ver.plain, Row.v, IntWalk.i64_in, at_end, at_end_add, set_end, set_end_add]) 1099511627775 (by omega) (h ++ [.rows 0 4 [], .rows 0 4 []]) ⟨fun j hj => List.getElem?_append_left hj, by rw [at_end_add]; rfl⟩
  have z1 : h.length + 1 < h'.length := (List.getElem?_eq_some_iff.1 f2).1
  have htk := take_frame f1
  have hh : ∀ n, h.all (hiB n) = true := fun n => plainH_hi hp n
  rw [List.take_of_length_le (Nat.le_refl _)] at f2
  have et : List.take l.length ((l.map Ver.plain).map Ver.cells) = (l.map Ver.plain).map Ver.cells := List.take_of_length_le (by simp)
  rw [callS_eq, runD_eq find168 _ _ _ (by simp)]
  simp -implicitDefEqProofs (disch := omega) only [go_sem, Nat.reduceBEq, Nat.reduceAdd, Nat.reduceSub, Nat.reduceMul, Nat.reduceLeDiff, Nat.reduceEqDiff, Nat.reduceLT, Int.reduceNeg, Int.reduceAdd, Int.reduceSub, Int.reduceMul, Int.reduceLE, Int.reduceLT, Int.reduceEq, Int.reduceToNat, reduceCtorEq]
  try simp -implicitDefEqProofs only [go_sem, Nat.reduceBEq, Nat.reduceAdd, Nat.reduceSub, Nat.reduceMul, Nat.reduceLeDiff, Nat.reduceEqDiff, Nat.reduceLT, Int.reduceNeg, Int.reduceAdd, Int.reduceSub, Int.reduceMul, Int.reduceLE, Int.reduceLT, Int.reduceEq, Int.reduceToNat, reduceCtorEq, Int.natCast_zero] at e
  rw [e]
  simp -implicitDefEqProofs (disch := omega) only [go_sem, Nat.reduceBEq, Nat.reduceAdd, Nat.reduceSub, Nat.reduceMul, Nat.reduceLeDiff, Nat.reduceEqDiff, Nat.reduceLT, Int.reduceNeg, Int.reduceAdd, Int.reduceSub, Int.reduceMul, Int.reduceLE, Int.reduceLT, Int.reduceEq, Int.reduceToNat, reduceCtorEq, f2, htk, hh, et]
def wrStep (w : Wr) (time : Int) (b : List Ver × Bool) (v : Ver) : List Ver × Bool :=
  ((if w.key < v.key ∧ b.2 = false then b.1 ++ [⟨w.key, time, 0, ⟨false, w.row.vs⟩⟩] else b.1) ++ [if v.key = w.key ∧ v.died = 0 then ⟨v.key, v.born, time, v.row⟩ else v], b.2 || decide (w.key < v.key))
def WrInv (w : Wr) (i : Nat) (b : List Ver × Bool) : Prop := b.1.length ≤ i + 1 ∧ (b.2 = false → b.1.length ≤ i) ∧ ∀ v ∈ b.1, GS v.row.vs
theorem wrStep_inv {w : Wr} {time : Int} {i : Nat} {b : List Ver × Bool} {v : Ver} (hb : WrInv w i b) (hw : GS w.row.vs) (hv : GS v.row.vs) : WrInv w (i + 1) (wrStep w time b v) := by
  obtain ⟨h1, h2, h3⟩ := hb
  obtain ⟨out, dn⟩ := b
  simp only at h1 h2 h3
  have g : ∀ x ∈ [if v.key = w.key ∧ v.died = 0 then (⟨v.key, v.born, time, v.row⟩ : Ver) else v], GS x.row.vs := by
    intro x hx
    rw [List.mem_singleton.1 hx]
    split <;> exact hv
  unfold wrStep WrInv
  simp only
  by_cases hc : w.key < v.key ∧ dn = false
  · rw [if_pos hc]
    have := h2 hc.2
    refine ⟨by simp only [List.length_append, List.length_cons, List.length_nil]; omega, fun h => ?_, fun x hx => ?_⟩
    · simp [hc.1] at h
    · rcases List.mem_append.1 hx with hx | hx
      · rcases List.mem_append.1 hx with hx | hx
        · exact h3 x hx
        · rw [List.mem_singleton.1 hx]; exact hw
      · exact g x hx
  · rw [if_neg hc]
    refine ⟨by simp only [List.length_append, List.length_cons, List.length_nil]; omega, fun h => ?_, fun x hx => ?_⟩
    · have hd : dn = false := by cases dn <;> simp_all
      have := h2 hd
      simp only [List.length_append, List.length_cons, List.length_nil]
      omega
    · rcases List.mem_append.1 hx with hx | hx
      · exact h3 x hx
      · exact g x hx
-- find169
theorem run_written13 (d : Nat) (c : Bool) (l : List Ver) (w : Wr) (time : Int) {n : Nat} (hl : GVs n l) (hw : GS w.row.vs) (hn : n ≤ 1000) : ∃ id st out hc, runD tab noExt (d + 2) 169 [.sl c 4 (l.map Ver.cells), .agg w.cells, .int .i64 time] [] = some ([.ref id st 0 out.length false], hc) ∧ hc[id]? = some (.rows st 4 (out.map Ver.cells)) ∧ GVs (n + 1) out := by
  have hln := hl.1
  have hown := run_own3 d w.row.clip (w.row.vs.map Val.cells) (by have := hw.1; simp; omega)
  obtain ⟨⟨out, dn⟩, ⟨g1, g2, g3⟩, e⟩ := LoopS_inv (run := runD tab noExt (d + 1)) (draw := drawI (runD tab noExt (d + 1))) (live := [0, 2, 4, 7, 8, 9]) (out := [2, 4, 7, 8]) (c := L169x0) (n0 := 3) l.length (fun i (b : List Ver × Bool) => WrInv w i b)
    (fun i b => [(0, .sl c 4 (l.map Ver.cells)), (2, .int .i64 time), (4, .ptr 0 0 0 0), (7, .ref 2 b.1.length 0 b.1.length false), (8, .bool b.2), (9, .int .i64 (i : Nat))]) (fun b => [.box w.cells, .rows 0 4 [], .rows b.1.length 4 (b.1.map Ver.cells)]) (fun b => some (.exit 0, [(2, .int .i64 time), (4, .ptr 0 0 0 0), (7, .ref 2 b.1.length 0 b.1.length false), (8, .bool b.2)], [.box w.cells, .rows 0 4 [], .rows b.1.length 4 (b.1.map Ver.cells)]))
    (fun b K _ => by
      rw [LoopS_eq]
      simp -implicitDefEqProofs only [go_sem, Nat.reduceBEq, Nat.reduceAdd, Nat.reduceSub, Nat.reduceMul, Nat.reduceLeDiff, Nat.reduceEqDiff, Nat.reduceLT, Int.reduceNeg, Int.reduceAdd, Int.reduceSub, Int.reduceMul, Int.reduceLE, Int.reduceLT, Int.reduceEq, Int.reduceToNat, reduceCtorEq, evL169x0, B169x0, Int.lt_irrefl, Wr.cells, Row.v]) (fun i b K hi hb => by
      have hi' : (i : Int) < l.length := by omega
      have hx := List.getElem?_eq_getElem hi
      generalize l[i] = v at hx
      have hgv := hl.2 v (List.mem_of_getElem? hx)
      refine ⟨wrStep w time b v, wrStep_inv hb hw hgv, ?_⟩
      obtain ⟨b1, b2, b3⟩ := hb
      obtain ⟨out, dn⟩ := b
      simp only at b1 b2 b3
      have hsm : out.length + 1 < 4294967296 := by omega
      have hsm2 : out.length + 1 + 1 < 4294967296 := by omega
      unfold wrStep
      simp only
      rw [LoopS_eq]
      by_cases k1 : w.key < v.key
      · have k2 : ¬ v.key = w.key := by omega
        cases dn
        · simp -implicitDefEqProofs (disch := omega) only [go_sem, Nat.reduceBEq, Nat.reduceAdd, Nat.reduceSub, Nat.reduceMul, Nat.reduceLeDiff, Nat.reduceEqDiff, Nat.reduceLT, Int.reduceNeg, Int.reduceAdd, Int.reduceSub, Int.reduceMul, Int.reduceLE, Int.reduceLT, Int.reduceEq, Int.reduceToNat, reduceCtorEq, evL169x0, B169x0, evC_draw, evD169x0, E169x0, hi', hx, hown, hsm, hsm2, Bool.true_or, Bool.false_or, Ver.cells, Wr.cells, Row.v, IntWalk.i64_in, (eq_true k1 : (w.key < v.key) = True), (eq_false k2 : (v.key = w.key) = False), List.map_append]
        · simp -implicitDefEqProofs (disch := omega) only [go_sem, Nat.reduceBEq, Nat.reduceAdd, Nat.reduceSub, Nat.reduceMul, Nat.reduceLeDiff, Nat.reduceEqDiff, Nat.reduceLT, Int.reduceNeg, Int.reduceAdd, Int.reduceSub, Int.reduceMul, Int.reduceLE, Int.reduceLT, Int.reduceEq, Int.reduceToNat, reduceCtorEq, evL169x0, B169x0, evC_draw, evD169x0, E169x0, hi', hx, hown, hsm, hsm2, Bool.true_or, Bool.false_or, Ver.cells, Wr.cells, Row.v, IntWalk.i64_in, (eq_true k1 : (w.key < v.key) = True), (eq_false k2 : (v.key = w.key) = False), List.map_append]
      · by_cases k2 : v.key = w.key
        · by_cases k3 : v.died = 0
          · simp -implicitDefEqProofs (disch := omega) only [go_sem, Nat.reduceBEq, Nat.reduceAdd, Nat.reduceSub, Nat.reduceMul, Nat.reduceLeDiff, Nat.reduceEqDiff, Nat.reduceLT, Int.reduceNeg, Int.reduceAdd, Int.reduceSub, Int.reduceMul, Int.reduceLE, Int.reduceLT, Int.reduceEq, Int.reduceToNat, reduceCtorEq, evL169x0, B169x0, evC_draw, evD169x0, E169x0, hi', hx, hown, hsm, hsm2, Bool.true_or, Bool.false_or, Ver.cells, Wr.cells, Row.v, IntWalk.i64_in, (eq_false k1 : (w.key < v.key) = False), (eq_true k2 : (v.key = w.key) = True), (eq_true k3 : (v.died = 0) = True), List.map_append]
          · simp -implicitDefEqProofs (disch := omega) only [go_sem, Nat.reduceBEq, Nat.reduceAdd, Nat.reduceSub, Nat.reduceMul, Nat.reduceLeDiff, Nat.reduceEqDiff, Nat.reduceLT, Int.reduceNeg, Int.reduceAdd, Int.reduceSub, Int.reduceMul, Int.reduceLE, Int.reduceLT, Int.reduceEq, Int.reduceToNat, reduceCtorEq, evL169x0, B169x0, evC_draw, evD169x0, E169x0, hi', hx, hown, hsm, hsm2, Bool.true_or, Bool.false_or, Ver.cells, Wr.cells, Row.v, IntWalk.i64_in, (eq_false k1 : (w.key < v.key) = False), (eq_true k2 : (v.key = w.key) = True), (eq_false k3 : (v.died = 0) = False), List.map_append]
        · simp -implicitDefEqProofs (disch := omega) only [go_sem, Nat.reduceBEq, Nat.reduceAdd, Nat.reduceSub, Nat.reduceMul, Nat.reduceLeDiff, Nat.reduceEqDiff, Nat.reduceLT, Int.reduceNeg, Int.reduceAdd, Int.reduceSub, Int.reduceMul, Int.reduceLE, Int.reduceLT, Int.reduceEq, Int.reduceToNat, reduceCtorEq, evL169x0, B169x0, evC_draw, evD169x0, E169x0, hi', hx, hown, hsm, hsm2, Bool.true_or, Bool.false_or, Ver.cells, Wr.cells, Row.v, IntWalk.i64_in, (eq_false k1 : (w.key < v.key) = False), (eq_false k2 : (v.key = w.key) = False), List.map_append]) 1099511627775 (by omega) ([], w.gone) ⟨by simp, fun _ => by simp, fun _ h => by cases h⟩
  simp only at g1 g2 g3 e
  have hsm : out.length + 1 < 4294967296 := by omega
  simp only [Wr.cells, Row.v, List.length_nil, List.map_nil, Int.natCast_zero] at e
  cases dn
  · have := g2 rfl
    refine ⟨2, out.length + 1, out ++ [⟨w.key, time, 0, ⟨false, w.row.vs⟩⟩], [.box w.cells, .rows 0 4 [], .rows (out.length + 1) 4 ((out ++ [(⟨w.key, time, 0, ⟨false, w.row.vs⟩⟩ : Ver)]).map Ver.cells)], ?_, rfl, by simp only [List.length_append, List.length_cons, List.length_nil]; omega, fun x hx => ?_⟩
    · rw [runD_eq find169 _ _ _ (by simp)]
      simp -implicitDefEqProofs (disch := omega) only [go_sem, Nat.reduceBEq, Nat.reduceAdd, Nat.reduceSub, Nat.reduceMul, Nat.reduceLeDiff, Nat.reduceEqDiff, Nat.reduceLT, Int.reduceNeg, Int.reduceAdd, Int.reduceSub, Int.reduceMul, Int.reduceLE, Int.reduceLT, Int.reduceEq, Int.reduceToNat, reduceCtorEq, Wr.cells, Row.v]
      try simp -implicitDefEqProofs only [go_sem, Nat.reduceBEq, Nat.reduceAdd, Nat.reduceSub, Nat.reduceMul, Nat.reduceLeDiff, Nat.reduceEqDiff, Nat.reduceLT, Int.reduceNeg, Int.reduceAdd, Int.reduceSub, Int.reduceMul, Int.reduceLE, Int.reduceLT, Int.reduceEq, Int.reduceToNat, reduceCtorEq] at e
      rw [e]
      simp -implicitDefEqProofs (disch := omega) only [go_sem, Nat.reduceBEq, Nat.reduceAdd, Nat.reduceSub, Nat.reduceMul, Nat.reduceLeDiff, Nat.reduceEqDiff, Nat.reduceLT, Int.reduceNeg, Int.reduceAdd, Int.reduceSub, Int.reduceMul, Int.reduceLE, Int.reduceLT, Int.reduceEq, Int.reduceToNat, reduceCtorEq, evC_draw, evD169x1, E169x1, hown, hsm, Ver.cells, Row.v, List.map_append]
    · rcases List.mem_append.1 hx with hx | hx
      · exact g3 x hx
      · rw [List.mem_singleton.1 hx]; exact hw
  · refine ⟨2, out.length, out, [.box w.cells, .rows 0 4 [], .rows out.length 4 (out.map Ver.cells)], ?_, rfl, by omega, g3⟩
    rw [runD_eq find169 _ _ _ (by simp)]
    simp -implicitDefEqProofs (disch := omega) only [go_sem, Nat.reduceBEq, Nat.reduceAdd, Nat.reduceSub, Nat.reduceMul, Nat.reduceLeDiff, Nat.reduceEqDiff, Nat.reduceLT, Int.reduceNeg, Int.reduceAdd, Int.reduceSub, Int.reduceMul, Int.reduceLE, Int.reduceLT, Int.reduceEq, Int.reduceToNat, reduceCtorEq, Wr.cells, Row.v]
    try simp -implicitDefEqProofs only [go_sem, Nat.reduceBEq, Nat.reduceAdd, Nat.reduceSub, Nat.reduceMul, Nat.reduceLeDiff, Nat.reduceEqDiff, Nat.reduceLT, Int.reduceNeg, Int.reduceAdd, Int.reduceSub, Int.reduceMul, Int.reduceLE, Int.reduceLT, Int.reduceEq, Int.reduceToNat, reduceCtorEq] at e
    rw [e]
    simp -implicitDefEqProofs (disch := omega) only [go_sem, Nat.reduceBEq, Nat.reduceAdd, Nat.reduceSub, Nat.reduceMul, Nat.reduceLeDiff, Nat.reduceEqDiff, Nat.reduceLT, Int.reduceNeg, Int.reduceAdd, Int.reduceSub, Int.reduceMul, Int.reduceLE, Int.reduceLT, Int.reduceEq, Int.reduceToNat, reduceCtorEq]
end Go.Proofs.Ytfbjbkkcilhgjaa.PE
/- Versions that are drawn. -/
set_option linter.unusedSimpArgs false
set_option linter.unusedVariables false
set_option maxHeartbeats 4000000
namespace Go.Proofs.Ytfbjbkkcilhgjaa.PE
open Go.RowKit

theorem WrsPost.shortWs {n : Nat} {ws : List Wr} (h : WrsPost n ws) : ShortWs ws := fun w hw => (h.2 w hw).short
-- find120
theorem loop_written0 {d : Nat} {h : Heap} {id st n : Nat} (cw : Bool) (l : List Ver) (ws : List Wr) (time : Int) (hid : h[id]? = some (.rows st 4 (l.map Ver.cells))) (hn : n = l.length) (hs : l.length < 1099511627776) (hsh : ShortVs l) : ∀ (j i K : Nat), i + j = 5 → j ≤ K →
    LoopK (runD tab noExt (d + 6)) (drawI (runD tab noExt (d + 6))) [0, 1, 2, 8] [0, 1, 2, 6, 7] L120x0 K [(0, .ref id st 0 n false), (1, .sl cw 3 (ws.map Wr.cells)), (2, .int .i64 time), (8, .int .i64 (i : Nat))] h = some (.exit 0, [(0, .ref id st 0 n false), (1, .sl cw 3 (ws.map Wr.cells)), (2, .int .i64 time), (6, .undef), (7, .undef)], h) ∨
    LoopK (runD tab noExt (d + 6)) (drawI (runD tab noExt (d + 6))) [0, 1, 2, 8] [0, 1, 2, 6, 7] L120x0 K [(0, .ref id st 0 n false), (1, .sl cw 3 (ws.map Wr.cells)), (2, .int .i64 time), (8, .int .i64 (i : Nat))] h = some (.ret, [(0, .ref id st 0 n false), (1, .sl cw 3 (ws.map Wr.cells)), (2, .int .i64 time), (6, .sl true 4 []), (7, .bool false)], h) := by
  subst hn
  intro j
  induction j with
  | zero =>
    intro i K hi hK
    obtain rfl : i = 5 := by omega
    left
    rw [LoopK_eq]
    simp -implicitDefEqProofs only [go_sem, Nat.reduceBEq, Nat.reduceAdd, Nat.reduceSub, Nat.reduceMul, Nat.reduceLeDiff, Nat.reduceEqDiff, Nat.reduceLT, Int.reduceNeg, Int.reduceAdd, Int.reduceSub, Int.reduceMul, Int.reduceLE, Int.reduceLT, Int.reduceEq, Int.reduceToNat, reduceCtorEq, evL120x0, B120x0, Int.lt_irrefl, Int.cast_ofNat_Int]
  | succ j ih =>
    intro i K hi hK
    obtain ⟨K, rfl⟩ : ∃ K', K = K' + 1 := ⟨K - 1, by omega⟩
    have hi5 : (i : Int) < 5 := by omega
    obtain ⟨n, hlt⟩ := run_lastTurn d false l i hs hsh
    have ih' := ih (i + 1) K (by omega) (by omega)
    simp only [Int.natCast_add, Int.natCast_one] at ih'
    rw [LoopK_eq]
    by_cases hc : time ≤ n
    · right
      simp -implicitDefEqProofs (disch := omega) only [go_sem, Nat.reduceBEq, Nat.reduceAdd, Nat.reduceSub, Nat.reduceMul, Nat.reduceLeDiff, Nat.reduceEqDiff, Nat.reduceLT, Int.reduceNeg, Int.reduceAdd, Int.reduceSub, Int.reduceMul, Int.reduceLE, Int.reduceLT, Int.reduceEq, Int.reduceToNat, reduceCtorEq, evL120x0, B120x0, hi5, hid, take_map_len, hlt, (eq_true hc : (time ≤ n) = True), elemsOf, frzs]
    · simp -implicitDefEqProofs (disch := omega) only [go_sem, Nat.reduceBEq, Nat.reduceAdd, Nat.reduceSub, Nat.reduceMul, Nat.reduceLeDiff, Nat.reduceEqDiff, Nat.reduceLT, Int.reduceNeg, Int.reduceAdd, Int.reduceSub, Int.reduceMul, Int.reduceLE, Int.reduceLT, Int.reduceEq, Int.reduceToNat, reduceCtorEq, evL120x0, B120x0, hi5, hid, take_map_len, hlt, (eq_false hc : (time ≤ n) = False), IntWalk.i64_in]
      exact ih'
theorem loop_written1 {d : Nat} {h : Heap} (cw : Bool) (ws : List Wr) (time : Int) (hw : WrsPost 5 ws) {n : Nat} (hn : n ≤ 900) : ∀ (j i K : Nat) {h1 : Heap} {id st : Nat} {out : List Ver}, i + j = ws.length → j ≤ K → GVs (n + i) out → (∀ k, k < h.length → h1[k]? = h[k]?) → h.length ≤ id → h1[id]? = some (.rows st 4 (out.map Ver.cells)) →
    ∃ h2 id' st' out', LoopK (runD tab noExt (d + 3)) (drawI (runD tab noExt (d + 3))) [1, 2, 9, 10] [9] L120x1 K [(1, .sl cw 3 (ws.map Wr.cells)), (2, .int .i64 time), (9, .ref id st 0 out.length false), (10, .int .i64 (i : Nat))] h1 = some (.exit 2, [(9, .ref id' st' 0 out'.length false)], h2) ∧
      GVs (n + ws.length) out' ∧ (∀ k, k < h.length → h2[k]? = h[k]?) ∧ h.length ≤ id' ∧ h2[id']? = some (.rows st' 4 (out'.map Ver.cells)) := by
  intro j
  induction j with
  | zero =>
    intro i K h1 id st out hi hK hg f hid hb
    obtain rfl : i = ws.length := by omega
    refine ⟨h1, id, st, out, ?_, hg, f, hid, hb⟩
    rw [LoopK_eq]
    simp -implicitDefEqProofs only [go_sem, Nat.reduceBEq, Nat.reduceAdd, Nat.reduceSub, Nat.reduceMul, Nat.reduceLeDiff, Nat.reduceEqDiff, Nat.reduceLT, Int.reduceNeg, Int.reduceAdd, Int.reduceSub, Int.reduceMul, Int.reduceLE, Int.reduceLT, Int.reduceEq, Int.reduceToNat, reduceCtorEq, evL120x1, B120x1, Int.lt_irrefl]
  | succ j ih =>
    intro i K h1 id st out hi hK hg f hid hb
    obtain ⟨K, rfl⟩ : ∃ K', K = K' + 1 := ⟨K - 1, by omega⟩
    have hi' : (i : Int) < ws.length := by omega
    have hx := List.getElem?_eq_getElem (show i < ws.length by omega)
    generalize ws[i] = w at hx
    have hws := hw.1
    obtain ⟨id2, st2, out2, hc, e1, e2, e3⟩ := run_written13 (d + 1) false out w time hg (hw.2 w (List.mem_of_getElem? hx)) (by omega)
    have hlt : id < h1.length := (List.getElem?_eq_some_iff.1 hb).1
    obtain ⟨h2, id', st', out', g1, g2, g3, g4, g5⟩ := ih (i + 1) K (h1 := h1.set id (.frz st 4 (out.map Ver.cells)) ++ [.rows 0 4 (out2.map Ver.cells)]) (id := h1.length) (st := 0) (out := out2) (by omega) (by omega) (by rw [show n + (i + 1) = n + i + 1 by omega]; exact e3) (fun k hk => by
      have hk1 : k < h1.length := by
        have := f k hk
        rw [List.getElem?_eq_getElem hk] at this
        exact (List.getElem?_eq_some_iff.1 this).1
      rw [List.getElem?_append_left (by simpa using hk1), List.getElem?_set_ne (by omega)]
      exact f k hk) (by
      rcases Nat.lt_or_ge h1.length h.length with h5 | h5
      · have := f h1.length h5
        rw [List.getElem?_eq_getElem h5, List.getElem?_eq_none (Nat.le_refl _)] at this
        cases this
      · exact h5) (by rw [List.getElem?_append_right (by simp), List.length_set, Nat.sub_self]; rfl)
    simp only [Int.natCast_add, Int.natCast_one] at g1
    have hln := hg.1
    refine ⟨h2, id', st', out', ?_, g2, g3, g4, g5⟩
    rw [LoopK_eq]
    simp only [Wr.cells, Row.v] at e1
    simp -implicitDefEqProofs (disch := omega) only [go_sem, Nat.reduceBEq, Nat.reduceAdd, Nat.reduceSub, Nat.reduceMul, Nat.reduceLeDiff, Nat.reduceEqDiff, Nat.reduceLT, Int.reduceNeg, Int.reduceAdd, Int.reduceSub, Int.reduceMul, Int.reduceLE, Int.reduceLT, Int.reduceEq, Int.reduceToNat, reduceCtorEq, evL120x1, B120x1, hi', hx, Wr.cells, Row.v, hb, take_map_len, e1, e2, refsAs, refsA, refC, frzs, frz1, IntWalk.i64_in, List.length_set]
    exact g1
theorem ex_written {d : Nat} {h : Heap} {id st n m : Nat} (cw : Bool) {l : List Ver} {ws : List Wr} {time : Int} {X : Option (V × Heap)} (hx : callS (runD tab noExt (d + 8)) h 120 [.ref id st 0 n false, .sl cw 3 (ws.map Wr.cells), .int .i64 time] true = X)
    (hid : h[id]? = some (.rows st 4 (l.map Ver.cells))) (hn : n = l.length) (hl : GVs m l) (hm : m ≤ 800) (hw : WrsPost 5 ws) (hp : plainH h = true) :
    ∃ (out : List Ver) (ok : Bool), X = some (.tup [.ref h.length 0 0 out.length false, .bool ok], h ++ [.rows 0 4 (out.map Ver.cells)]) ∧ GVs (m + 5) out := by
  subst hx hn
  have hlm := hl.1
  have hwl := hw.1
  have hh : ∀ n, h.all (hiB n) = true := fun n => plainH_hi hp n
  have hlt : id < h.length := (List.getElem?_eq_some_iff.1 hid).1
  obtain ⟨s1, s2⟩ := hl.short
  have hv := run_versS (d + 2) false l (by omega) s1
  have hwo := run_wrsS (d + 3) cw ws (by omega) hw.shortWs
  have hb := run_l1In (d + 6) time 1 40
  have fail : ∃ (out : List Ver) (ok : Bool), (some (.tup [.ref h.length 0 0 0 false, .bool false], h ++ [.rows 0 4 []]) : Option (V × Heap)) = some (.tup [.ref h.length 0 0 out.length false, .bool ok], h ++ [.rows 0 4 (out.map Ver.cells)]) ∧ GVs (m + 5) out := ⟨[], false, rfl, by simp, fun _ h => by cases h⟩
  rw [callS_eq, runD_eq find120 _ _ _ (by simp)]
  cases c1 : versOk l
  · rw [c1] at hv
    simp -implicitDefEqProofs (disch := omega) only [go_sem, Nat.reduceBEq, Nat.reduceAdd, Nat.reduceSub, Nat.reduceMul, Nat.reduceLeDiff, Nat.reduceEqDiff, Nat.reduceLT, Int.reduceNeg, Int.reduceAdd, Int.reduceSub, Int.reduceMul, Int.reduceLE, Int.reduceLT, Int.reduceEq, Int.reduceToNat, reduceCtorEq, hid, take_map_len, hv, elemsOf, frzs, hh, take_same, List.append_nil]
    exact fail
  rw [c1] at hv
  cases c2 : wrsOk ws
  · rw [c2] at hwo
    simp -implicitDefEqProofs (disch := omega) only [go_sem, Nat.reduceBEq, Nat.reduceAdd, Nat.reduceSub, Nat.reduceMul, Nat.reduceLeDiff, Nat.reduceEqDiff, Nat.reduceLT, Int.reduceNeg, Int.reduceAdd, Int.reduceSub, Int.reduceMul, Int.reduceLE, Int.reduceLT, Int.reduceEq, Int.reduceToNat, reduceCtorEq, hid, take_map_len, hv, hwo, elemsOf, frzs, hh, take_same, List.append_nil]
    exact fail
  rw [c2] at hwo
  by_cases c3 : 1 ≤ time ∧ time ≤ 40
  rotate_left
  · simp -implicitDefEqProofs (disch := omega) only [go_sem, Nat.reduceBEq, Nat.reduceAdd, Nat.reduceSub, Nat.reduceMul, Nat.reduceLeDiff, Nat.reduceEqDiff, Nat.reduceLT, Int.reduceNeg, Int.reduceAdd, Int.reduceSub, Int.reduceMul, Int.reduceLE, Int.reduceLT, Int.reduceEq, Int.reduceToNat, reduceCtorEq, hid, take_map_len, hv, hwo, hb, (eq_false c3 : (1 ≤ time ∧ time ≤ 40) = False), elemsOf, frzs, hh, take_same, List.append_nil]
    exact fail
  simp -implicitDefEqProofs (disch := omega) only [go_sem, Nat.reduceBEq, Nat.reduceAdd, Nat.reduceSub, Nat.reduceMul, Nat.reduceLeDiff, Nat.reduceEqDiff, Nat.reduceLT, Int.reduceNeg, Int.reduceAdd, Int.reduceSub, Int.reduceMul, Int.reduceLE, Int.reduceLT, Int.reduceEq, Int.reduceToNat, reduceCtorEq, hid, take_map_len, hv, hwo, hb, (eq_true c3 : (1 ≤ time ∧ time ≤ 40) = True)]
  have hl0 := loop_written0 (d := d + 1) cw l ws time hid rfl (by omega) s1 5 0 1099511627775 (by omega) (by omega)
  simp only [Int.natCast_zero] at hl0
  rcases hl0 with hl0 | hl0
  rotate_left
  · rw [hl0]
    simp -implicitDefEqProofs (disch := omega) only [go_sem, Nat.reduceBEq, Nat.reduceAdd, Nat.reduceSub, Nat.reduceMul, Nat.reduceLeDiff, Nat.reduceEqDiff, Nat.reduceLT, Int.reduceNeg, Int.reduceAdd, Int.reduceSub, Int.reduceMul, Int.reduceLE, Int.reduceLT, Int.reduceEq, Int.reduceToNat, reduceCtorEq, elemsOf, frzs, hh, take_same, List.append_nil]
    exact fail
  rw [hl0]
  have hcp := ex_copy13 (d := d + 5) l hid rfl (by omega) s2 hp
  simp -implicitDefEqProofs (disch := omega) only [go_sem, Nat.reduceBEq, Nat.reduceAdd, Nat.reduceSub, Nat.reduceMul, Nat.reduceLeDiff, Nat.reduceEqDiff, Nat.reduceLT, Int.reduceNeg, Int.reduceAdd, Int.reduceSub, Int.reduceMul, Int.reduceLE, Int.reduceLT, Int.reduceEq, Int.reduceToNat, reduceCtorEq, hcp]
  obtain ⟨h2, id', st', out', g1, g2, g3, g4, g5⟩ := loop_written1 (d := d + 4) (h := h) cw ws time hw (n := m) (by omega) ws.length 0 1099511627775 (h1 := h ++ [.rows 0 4 ((l.map Ver.plain).map Ver.cells)]) (id := h.length) (st := 0) (out := l.map Ver.plain) (by omega) (by omega) (by
    refine ⟨by simp; omega, fun v hv => ?_⟩
    obtain ⟨u, hu, rfl⟩ := List.mem_map.1 hv
    exact hl.2 u hu) (fun k hk => List.getElem?_append_left hk) (Nat.le_refl _) (by simp)
  simp only [Int.natCast_zero, List.length_map] at g1
  rw [g1]
  have htk := take_frame g3
  have hge : ¬ id' < h.length := by omega
  have hout := g2.1
  by_cases c4 : (60 : Int) < out'.length
  · simp -implicitDefEqProofs (disch := omega) only [go_sem, Nat.reduceBEq, Nat.reduceAdd, Nat.reduceSub, Nat.reduceMul, Nat.reduceLeDiff, Nat.reduceEqDiff, Nat.reduceLT, Int.reduceNeg, Int.reduceAdd, Int.reduceSub, Int.reduceMul, Int.reduceLE, Int.reduceLT, Int.reduceEq, Int.reduceToNat, reduceCtorEq, (eq_true c4 : ((60 : Int) < out'.length) = True), elemsOf, frzs, hh, htk, List.append_nil]
    exact fail
  · simp -implicitDefEqProofs (disch := omega) only [go_sem, Nat.reduceBEq, Nat.reduceAdd, Nat.reduceSub, Nat.reduceMul, Nat.reduceLeDiff, Nat.reduceEqDiff, Nat.reduceLT, Int.reduceNeg, Int.reduceAdd, Int.reduceSub, Int.reduceMul, Int.reduceLE, Int.reduceLT, Int.reduceEq, Int.reduceToNat, reduceCtorEq, (eq_false c4 : ((60 : Int) < out'.length) = False), hh, htk, hge, g5, take_map_len]
    exact ⟨out', true, rfl, by omega, g2.2⟩
end Go.Proofs.Ytfbjbkkcilhgjaa.PE
/- The reader is opened; a fixed answer. -/
set_option linter.unusedSimpArgs false
set_option linter.unusedVariables false
set_option maxHeartbeats 4000000
namespace Go.Proofs.Ytfbjbkkcilhgjaa.PE
open Go.RowKit

theorem ofBytes_take (l : List UInt8) (k : Nat) : (cellsOfBytes l).take k = cellsOfBytes (l.take k) := by simp [cellsOfBytes, List.map_take]
-- find55
theorem ex_open {d : Nat} {h : Heap} {c : Bool} {l : List UInt8} {X : Option (V × Heap)} (hx : callS (runD tab noExt (d + 1)) h 55 [.sl c 1 (cellsOfBytes l)] true = X) (hh : plainH h = true) :
    ∃ (c' : Bool) (bs : List UInt8), X = some (.ptr h.length 0 0 0, h ++ [.box [.sl c' 1 (cellsOfBytes bs), .int .i64 0]]) ∧ bs.length ≤ 2000 := by
  subst hx
  have hh : ∀ n, h.all (hiB n) = true := fun n => plainH_hi hh n
  rw [callS_eq, runD_eq find55 _ _ _ (by simp)]
  by_cases h1 : (2000 : Int) < l.length
  · have h2 : (2000 : Int) ≤ l.length := by omega
    have h3 : ((2000 : Int) = l.length) = False := eq_false (by omega)
    simp -implicitDefEqProofs (disch := omega) only [go_sem, Nat.reduceBEq, Nat.reduceAdd, Nat.reduceSub, Nat.reduceMul, Nat.reduceLeDiff, Nat.reduceEqDiff, Nat.reduceLT, Int.reduceNeg, Int.reduceAdd, Int.reduceSub, Int.reduceMul, Int.reduceLE, Int.reduceLT, Int.reduceEq, Int.reduceToNat, reduceCtorEq, hh, List.all_append, ofBytes_len, h1, h2, h3, Option.getD_some, Option.isSome_none, Option.isSome_some, Option.isNone_some, List.drop_zero, ofBytes_take, Nat.sub_zero, Int.toNat_zero, Nat.le_refl, Int.le_refl]
    exact ⟨_, _, rfl, by simp; omega⟩
  · simp -implicitDefEqProofs (disch := omega) only [go_sem, Nat.reduceBEq, Nat.reduceAdd, Nat.reduceSub, Nat.reduceMul, Nat.reduceLeDiff, Nat.reduceEqDiff, Nat.reduceLT, Int.reduceNeg, Int.reduceAdd, Int.reduceSub, Int.reduceMul, Int.reduceLE, Int.reduceLT, Int.reduceEq, Int.reduceToNat, reduceCtorEq, hh, List.all_append, ofBytes_len, h1, Nat.le_refl]
    exact ⟨_, _, rfl, by omega⟩

-- find18
theorem run_alive (d : Nat) : retP (runD tab noExt (d + 5)) 18 [] = some [.bool true] := by
  rw [retP, runD_eq find18 _ _ _ (by simp)]
  simp -implicitDefEqProofs (disch := omega) only [go_sem, Nat.reduceBEq, Nat.reduceAdd, Nat.reduceSub, Nat.reduceMul, Nat.reduceLeDiff, Nat.reduceEqDiff, Nat.reduceLT, Int.reduceNeg, Int.reduceAdd, Int.reduceSub, Int.reduceMul, Int.reduceLE, Int.reduceLT, Int.reduceEq, Int.reduceToNat, reduceCtorEq, run_ValueOk]
  have h1 : Val.ok ⟨1, 3, ⟨#[]⟩⟩ = true := rfl
  have h2 : Val.ok ⟨9, 0, ⟨#[]⟩⟩ = false := rfl
  simp -implicitDefEqProofs only [go_sem, Nat.reduceBEq, Nat.reduceAdd, Nat.reduceSub, Nat.reduceMul, Nat.reduceLeDiff, Nat.reduceEqDiff, Nat.reduceLT, Int.reduceNeg, Int.reduceAdd, Int.reduceSub, Int.reduceMul, Int.reduceLE, Int.reduceLT, Int.reduceEq, Int.reduceToNat, reduceCtorEq, h1, h2, run_ValueOk]

end Go.Proofs.Ytfbjbkkcilhgjaa.PE
/- Versions that are drawn, and a time. -/
set_option linter.unusedSimpArgs false
set_option linter.unusedVariables false
set_option maxHeartbeats 4000000
namespace Go.Proofs.Ytfbjbkkcilhgjaa.PE
open Go.RowKit

theorem map_set' {α β : Type} (f : α → β) (l : List α) (i : Nat) (x : α) : (l.map f).set i (f x) = (l.set i x).map f := (List.map_set).symm
-- find59
theorem loop_versions {d : Nat} {hp t : Heap} {c : Bool} {bs : List UInt8} {n : Int} (hb : bs.length ≤ 2000) (hhp : plainH hp = true) (ht : plainH t = true) : ∀ (j K : Nat) {p k time : Int} {s : Heap} {id st len : Nat} {l : List Ver} {Y : Out},
    LoopK (runD tab noExt (d + 8)) (drawI (runD tab noExt (d + 8))) [0, 1, 6, 7, 8] [0, 1, 6, 7] L59x0 K [(0, .ptr hp.length 0 0 0), (1, .int .i64 n), (6, .ref id st 0 len false), (7, .int .i64 time), (8, .int .i64 k)] (hp ++ .box [.sl c 1 (cellsOfBytes bs), .int .i64 (p)] :: (t ++ s)) = Y →
    k = j → j ≤ K → j ≤ 6 → len = l.length → GVs (5 * (6 - j)) l → plainH s = true → (∀ p, (hp ++ .box [.sl c 1 (cellsOfBytes bs), .int .i64 (p)] :: (t ++ s))[id]? = some (.rows st 4 (l.map Ver.cells))) → hp.length + (t.length + 1) ≤ id → 0 ≤ p → p + 25 * j ≤ 1099400000000 → 0 ≤ time → time + 3 * j ≤ 100 →
    ∃ (s' : Heap) (id' st' : Nat) (l' : List Ver) (p' time' : Int), Y = some (.exit 0, [(0, .ptr hp.length 0 0 0), (1, .int .i64 n), (6, .ref id' st' 0 l'.length false), (7, .int .i64 time')], hp ++ .box [.sl c 1 (cellsOfBytes bs), .int .i64 (p')] :: (t ++ s')) ∧ GVs 30 l' ∧ plainH s' = true ∧ (∀ p, (hp ++ .box [.sl c 1 (cellsOfBytes bs), .int .i64 (p)] :: (t ++ s'))[id']? = some (.rows st' 4 (l'.map Ver.cells))) ∧ hp.length + (t.length + 1) ≤ id' ∧ p ≤ p' ∧ p' ≤ p + 25 * j ∧ time ≤ time' ∧ time' ≤ time + 3 * j := by
  intro j
  induction j with
  | zero =>
    intro K p k time s id st len l Y hL hk hK hj hlen hl hs hget hid hp0 hq ht0 htq
    subst hL hk hlen
    rw [LoopK_eq]
    simp -implicitDefEqProofs only [go_sem, Nat.reduceBEq, Nat.reduceAdd, Nat.reduceSub, Nat.reduceMul, Nat.reduceLeDiff, Nat.reduceEqDiff, Nat.reduceLT, Int.reduceNeg, Int.reduceAdd, Int.reduceSub, Int.reduceMul, Int.reduceLE, Int.reduceLT, Int.reduceEq, Int.reduceToNat, reduceCtorEq, evL59x0, B59x0, Int.lt_irrefl, Int.natCast_zero]
    exact ⟨s, id, st, l, p, time, rfl, hl, hs, hget, hid, by omega, by omega, by omega, by omega⟩
  | succ j ih =>
    intro K p k time s id st len l Y hL hk hK hj hlen hl hs hget hid hp0 hq ht0 htq
    obtain ⟨K, rfl⟩ : ∃ K', K = K' + 1 := ⟨K - 1, by omega⟩
    subst hL hlen
    have hk0 : 0 < k := by omega
    have hts : plainH (t ++ s) = true := by rw [plainH_append, ht, hs]; rfl
    rw [LoopK_eq]
    simp -implicitDefEqProofs (disch := omega) only [go_sem, Nat.reduceBEq, Nat.reduceAdd, Nat.reduceSub, Nat.reduceMul, Nat.reduceLeDiff, Nat.reduceEqDiff, Nat.reduceLT, Int.reduceNeg, Int.reduceAdd, Int.reduceSub, Int.reduceMul, Int.reduceLE, Int.reduceLT, Int.reduceEq, Int.reduceToNat, reduceCtorEq, evL59x0, B59x0, hk0]
    generalize hx : callS (runD tab noExt _) _ 121 _ _ = X
    obtain ⟨ws, p1, rfl, w1, w2, w3⟩ := ex_writes0 hx (by omega) (by omega) hb hhp hts
    clear hx
    simp -implicitDefEqProofs (disch := omega) only [go_sem, Nat.reduceBEq, Nat.reduceAdd, Nat.reduceSub, Nat.reduceMul, Nat.reduceLeDiff, Nat.reduceEqDiff, Nat.reduceLT, Int.reduceNeg, Int.reduceAdd, Int.reduceSub, Int.reduceMul, Int.reduceLE, Int.reduceLT, Int.reduceEq, Int.reduceToNat, reduceCtorEq]
    generalize hx : callS (runD tab noExt _) _ 120 _ _ = X
    have hpl : plainH (hp ++ .box [.sl c 1 (cellsOfBytes bs), .int .i64 (p1)] :: (t ++ s)) = true := by simp only [plainH_append, plainH_cons, hhp, ht, hs, plainB, List.all_cons, List.all_nil, Bool.and_self, Bool.and_true]
    obtain ⟨out, ok, rfl, g1⟩ := ex_written (h := hp ++ .box [.sl c 1 (cellsOfBytes bs), .int .i64 (p1)] :: (t ++ s)) false hx (hget p1) rfl hl (by omega) w3 hpl
    clear hx
    have hs2 : plainH (s ++ [.rows 0 4 (out.map Ver.cells)]) = true := by simp only [plainH_append, plainH_cons, plainH_nil, hs, plainB, Bool.and_self, Bool.and_true]
    have hts2 : plainH (t ++ (s ++ [.rows 0 4 (out.map Ver.cells)])) = true := by rw [plainH_append, ht, hs2]; rfl
    have hgn : ∀ p, (hp ++ .box [.sl c 1 (cellsOfBytes bs), .int .i64 (p)] :: (t ++ (s ++ [.rows 0 4 (out.map Ver.cells)])))[hp.length + (t.length + (s.length + 1))]? = some (.rows 0 4 (out.map Ver.cells)) := by
      intro p
      have e : hp ++ .box [.sl c 1 (cellsOfBytes bs), .int .i64 (p)] :: (t ++ (s ++ [.rows 0 4 (out.map Ver.cells)])) = (hp ++ .box [.sl c 1 (cellsOfBytes bs), .int .i64 (p)] :: (t ++ s)) ++ [.rows 0 4 (out.map Ver.cells)] := by simp
      rw [e, List.getElem?_append_right (by simp <;> omega)]
      simp
      rw [show hp.length + (t.length + (s.length + 1)) - (hp.length + (t.length + s.length + 1)) = 0 by omega]
      rfl
    have hgo : ∀ p, (hp ++ .box [.sl c 1 (cellsOfBytes bs), .int .i64 (p)] :: (t ++ (s ++ [.rows 0 4 (out.map Ver.cells)])))[id]? = some (.rows st 4 (l.map Ver.cells)) := by
      intro p
      have e : hp ++ .box [.sl c 1 (cellsOfBytes bs), .int .i64 (p)] :: (t ++ (s ++ [.rows 0 4 (out.map Ver.cells)])) = (hp ++ .box [.sl c 1 (cellsOfBytes bs), .int .i64 (p)] :: (t ++ s)) ++ [.rows 0 4 (out.map Ver.cells)] := by simp
      have hlt := (List.getElem?_eq_some_iff.1 (hget p)).1
      rw [e, List.getElem?_append_left hlt]
      exact hget p
    cases ok <;> simp -implicitDefEqProofs (disch := omega) only [go_sem, Nat.reduceBEq, Nat.reduceAdd, Nat.reduceSub, Nat.reduceMul, Nat.reduceLeDiff, Nat.reduceEqDiff, Nat.reduceLT, Int.reduceNeg, Int.reduceAdd, Int.reduceSub, Int.reduceMul, Int.reduceLE, Int.reduceLT, Int.reduceEq, Int.reduceToNat, reduceCtorEq]
    all_goals
      generalize hx : callS (runD tab noExt _) _ 57 _ _ = X
      obtain ⟨m, rfl, hm1, hm2⟩ := ex_pick hx (by omega) (by omega) hb hhp hts2
      clear hx
      simp -implicitDefEqProofs (disch := omega) only [go_sem, Nat.reduceBEq, Nat.reduceAdd, Nat.reduceSub, Nat.reduceMul, Nat.reduceLeDiff, Nat.reduceEqDiff, Nat.reduceLT, Int.reduceNeg, Int.reduceAdd, Int.reduceSub, Int.reduceMul, Int.reduceLE, Int.reduceLT, Int.reduceEq, Int.reduceToNat, reduceCtorEq, IntWalk.i64_in]
      generalize hL : LoopK _ _ _ _ _ _ _ _ = Y
    · obtain ⟨s', id', st', l', p', time', h2, h3, h4, h5, h6, h7, h8, h9, h10⟩ := ih K hL (by omega) (by omega) (by omega) rfl ⟨by have := hl.1; omega, hl.2⟩ hs2 hgo hid (by omega) (by omega) (by omega) (by omega)
      exact ⟨s', id', st', l', p', time', h2, h3, h4, h5, h6, by omega, by omega, by omega, by omega⟩
    · obtain ⟨s', id', st', l', p', time', h2, h3, h4, h5, h6, h7, h8, h9, h10⟩ := ih K hL (by omega) (by omega) (by omega) rfl ⟨by have := g1.1; omega, g1.2⟩ hs2 hgn (by omega) (by omega) (by omega) (by omega) (by omega)
      exact ⟨s', id', st', l', p', time', h2, h3, h4, h5, h6, by omega, by omega, by omega, by omega⟩
theorem ex_versions {d : Nat} {hp t : Heap} {c : Bool} {bs : List UInt8} {p n : Int} {X : Option (V × Heap)} (hx : callS (runD tab noExt (d + 9)) (hp ++ .box [.sl c 1 (cellsOfBytes bs), .int .i64 (p)] :: t) 59 [.ptr hp.length 0 0 0, .int .i64 n] false = X)
    (hp0 : 0 ≤ p) (hq : p ≤ 1099300000000) (hb : bs.length ≤ 2000) (hhp : plainH hp = true) (ht : plainH t = true) :
    ∃ (l : List Ver) (time p' : Int), X = some (.tup [.sl false 4 (l.map Ver.cells), .int .i64 time], hp ++ .box [.sl c 1 (cellsOfBytes bs), .int .i64 (p')] :: t) ∧ p ≤ p' ∧ p' ≤ p + 200 ∧ GVs 31 l ∧ 1 ≤ time ∧ time ≤ 30 := by
  subst hx
  have hh : ∀ n, t.all (hiB n) = true := fun n => plainH_hi ht n
  have hhq : ∀ n, hp.all (hiB n) = true := fun n => plainH_hi hhp n
  rw [callS_eq, runD_eq find59 _ _ _ (by simp)]
  simp -implicitDefEqProofs (disch := omega) only [go_sem, Nat.reduceBEq, Nat.reduceAdd, Nat.reduceSub, Nat.reduceMul, Nat.reduceLeDiff, Nat.reduceEqDiff, Nat.reduceLT, Int.reduceNeg, Int.reduceAdd, Int.reduceSub, Int.reduceMul, Int.reduceLE, Int.reduceLT, Int.reduceEq, Int.reduceToNat, reduceCtorEq]
  generalize hx : callS (runD tab noExt _) _ 57 _ _ = X
  obtain ⟨m, rfl, hm1, hm2⟩ := ex_pick hx (by omega) (by omega) hb hhp (by simp only [ht, plainH_append, plainH_cons, plainH_nil, plainB, Bool.and_self, Bool.and_true])
  clear hx
  simp -implicitDefEqProofs (disch := omega) only [go_sem, Nat.reduceBEq, Nat.reduceAdd, Nat.reduceSub, Nat.reduceMul, Nat.reduceLeDiff, Nat.reduceEqDiff, Nat.reduceLT, Int.reduceNeg, Int.reduceAdd, Int.reduceSub, Int.reduceMul, Int.reduceLE, Int.reduceLT, Int.reduceEq, Int.reduceToNat, reduceCtorEq, IntWalk.i64_in]
  generalize hx : LoopK _ _ _ _ _ _ _ _ = Y
  obtain ⟨s, id, st, l, p1, time, rfl, hl, hs, hget, hid, h1, h2, h3, h4⟩ := loop_versions hb hhp ht m.toNat _ (l := []) hx (by omega) (by omega) (by omega) rfl ⟨by simp, fun _ h => by cases h⟩ (by rfl) (fun p => by
    have e : ∀ (x y : Blk), hp ++ .box [.sl c 1 (cellsOfBytes bs), .int .i64 (p)] :: (t ++ [x, y]) = (hp ++ .box [.sl c 1 (cellsOfBytes bs), .int .i64 (p)] :: t) ++ [x, y] := fun x y => by simp
    rw [e, List.getElem?_append_right (by simp <;> omega)]
    simp
    rw [show hp.length + (t.length + 2) - (hp.length + (t.length + 1)) = 1 by omega]
    rfl) (by omega) (by omega) (by omega) (by omega) (by omega)
  clear hx
  obtain ⟨T, hT⟩ : ∃ T, T = t ++ s := ⟨_, rfl⟩
  have hTt : T.take t.length = t := by rw [hT]; simp
  have hTp : plainH T = true := by rw [hT, plainH_append, ht, hs]; rfl
  rw [← hT] at hget ⊢
  have hln := hl.1
  have htkl : ∀ X p, ((hp ++ .box [.sl c 1 (cellsOfBytes bs), .int .i64 (p)] :: T).set id X).take (hp.length + (t.length + 1)) = hp ++ .box [.sl c 1 (cellsOfBytes bs), .int .i64 (p)] :: t := fun X p => by
    rw [List.take_set_of_le (by omega), take_end_add, List.take_succ_cons, hTt]
  have hgs : ∀ X p, ((hp ++ .box [.sl c 1 (cellsOfBytes bs), .int .i64 (p)] :: T).set id X)[id]? = some X := fun X p => List.getElem?_set_self (List.getElem?_eq_some_iff.1 (hget p)).1
  have hge : ¬ id < hp.length + (t.length + 1) := by omega
  have fin : ∀ (l2 : List Ver) (p' : Int), p ≤ p' → p' ≤ p + 200 → GVs 31 l2 → ∃ (l3 : List Ver) (time' p'' : Int), (some (.tup [.sl false 4 (l2.map Ver.cells), .int .i64 time], hp ++ .box [.sl c 1 (cellsOfBytes bs), .int .i64 (p')] :: t) : Option (V × Heap)) = some (.tup [.sl false 4 (l3.map Ver.cells), .int .i64 time'], hp ++ .box [.sl c 1 (cellsOfBytes bs), .int .i64 (p'')] :: t) ∧ p ≤ p'' ∧ p'' ≤ p + 200 ∧ GVs 31 l3 ∧ 1 ≤ time' ∧ time' ≤ 30 := fun l2 p' a b e => ⟨l2, time, p', rfl, a, b, e, by omega, by omega⟩
  have setG : ∀ (m : Int) (v : Ver), GS v.row.vs → GVs 31 (l.set m.toNat v) := fun m v hv => ⟨by simp; omega, fun x hx => by
    rcases List.mem_or_eq_of_mem_set hx with h | h
    · exact hl.2 x h
    · rw [h]; exact hv⟩
  have hcase : ∀ p', (hp ++ .box [.sl c 1 (cellsOfBytes bs), .int .i64 (p')] :: T).take (hp.length + (t.length + 1)) = hp ++ .box [.sl c 1 (cellsOfBytes bs), .int .i64 (p')] :: t := fun p' => by rw [take_end_add, List.take_succ_cons, hTt]
  have h1sm : l.length + 1 < 4294967296 := by omega
  by_cases h0 : (0 : Int) < l.length
  rotate_left
  · simp -implicitDefEqProofs (disch := omega) only [go_sem, Nat.reduceBEq, Nat.reduceAdd, Nat.reduceSub, Nat.reduceMul, Nat.reduceLeDiff, Nat.reduceEqDiff, Nat.reduceLT, Int.reduceNeg, Int.reduceAdd, Int.reduceSub, Int.reduceMul, Int.reduceLE, Int.reduceLT, Int.reduceEq, Int.reduceToNat, reduceCtorEq, (eq_false h0 : ((0 : Int) < l.length) = False), hh, hhq, List.all_append, hcase, hge, hget, take_map_len]
    exact fin l p1 (by omega) (by omega) ⟨by omega, hl.2⟩
  simp -implicitDefEqProofs (disch := omega) only [go_sem, Nat.reduceBEq, Nat.reduceAdd, Nat.reduceSub, Nat.reduceMul, Nat.reduceLeDiff, Nat.reduceEqDiff, Nat.reduceLT, Int.reduceNeg, Int.reduceAdd, Int.reduceSub, Int.reduceMul, Int.reduceLE, Int.reduceLT, Int.reduceEq, Int.reduceToNat, reduceCtorEq, (eq_true h0 : ((0 : Int) < l.length) = True)]
  generalize hx : callS (runD tab noExt _) _ 119 _ _ = X
  obtain ⟨b, p2, rfl, o1, o2, o3⟩ := ex_odd hx (by omega) (by omega) hb hhp hTp
  clear hx
  cases b
  · simp -implicitDefEqProofs (disch := omega) only [go_sem, Nat.reduceBEq, Nat.reduceAdd, Nat.reduceSub, Nat.reduceMul, Nat.reduceLeDiff, Nat.reduceEqDiff, Nat.reduceLT, Int.reduceNeg, Int.reduceAdd, Int.reduceSub, Int.reduceMul, Int.reduceLE, Int.reduceLT, Int.reduceEq, Int.reduceToNat, reduceCtorEq, hh, hhq, List.all_append, hcase, hge, hget, take_map_len]
    exact fin l p2 (by omega) (by omega) ⟨by omega, hl.2⟩
  simp -implicitDefEqProofs (disch := omega) only [go_sem, Nat.reduceBEq, Nat.reduceAdd, Nat.reduceSub, Nat.reduceMul, Nat.reduceLeDiff, Nat.reduceEqDiff, Nat.reduceLT, Int.reduceNeg, Int.reduceAdd, Int.reduceSub, Int.reduceMul, Int.reduceLE, Int.reduceLT, Int.reduceEq, Int.reduceToNat, reduceCtorEq]
  generalize hx : callS (runD tab noExt _) _ 57 _ _ = X
  obtain ⟨ix, rfl, i1, i2⟩ := ex_pick hx (by omega) (by omega) hb hhp hTp
  clear hx
  have hix : ix.toNat < l.length := by omega
  have hv := List.getElem?_eq_getElem hix
  have hvg := hl.2 _ (List.getElem_mem hix)
  generalize l[ix.toNat] = v at hv hvg
  have hixi : ix < l.length := by omega
  simp -implicitDefEqProofs (disch := omega) only [go_sem, Nat.reduceBEq, Nat.reduceAdd, Nat.reduceSub, Nat.reduceMul, Nat.reduceLeDiff, Nat.reduceEqDiff, Nat.reduceLT, Int.reduceNeg, Int.reduceAdd, Int.reduceSub, Int.reduceMul, Int.reduceLE, Int.reduceLT, Int.reduceEq, Int.reduceToNat, reduceCtorEq]
  generalize hx : callS (runD tab noExt _) _ 57 _ _ = X
  obtain ⟨w, rfl, j1, j2⟩ := ex_pick hx (by omega) (by omega) hb hhp hTp
  clear hx
  simp -implicitDefEqProofs (disch := omega) only [go_sem, Nat.reduceBEq, Nat.reduceAdd, Nat.reduceSub, Nat.reduceMul, Nat.reduceLeDiff, Nat.reduceEqDiff, Nat.reduceLT, Int.reduceNeg, Int.reduceAdd, Int.reduceSub, Int.reduceMul, Int.reduceLE, Int.reduceLT, Int.reduceEq, Int.reduceToNat, reduceCtorEq]
  by_cases c0 : w = 0
  · subst c0
    simp -implicitDefEqProofs (disch := omega) only [go_sem, Nat.reduceBEq, Nat.reduceAdd, Nat.reduceSub, Nat.reduceMul, Nat.reduceLeDiff, Nat.reduceEqDiff, Nat.reduceLT, Int.reduceNeg, Int.reduceAdd, Int.reduceSub, Int.reduceMul, Int.reduceLE, Int.reduceLT, Int.reduceEq, Int.reduceToNat, reduceCtorEq]
    generalize hx : callS (runD tab noExt _) _ 57 _ _ = X
    obtain ⟨q, rfl, q1, q2⟩ := ex_pick hx (by omega) (by omega) hb hhp hTp
    clear hx
    have e1 := map_set' Ver.cells l ix.toNat ⟨v.key, v.born, q - 1, v.row⟩
    simp only [Ver.cells, Row.v] at e1
    simp -implicitDefEqProofs (disch := omega) only [go_sem, Nat.reduceBEq, Nat.reduceAdd, Nat.reduceSub, Nat.reduceMul, Nat.reduceLeDiff, Nat.reduceEqDiff, Nat.reduceLT, Int.reduceNeg, Int.reduceAdd, Int.reduceSub, Int.reduceMul, Int.reduceLE, Int.reduceLT, Int.reduceEq, Int.reduceToNat, reduceCtorEq, hget, hv, Ver.cells, Row.v, IntWalk.i64_in, List.contains_nil, hgs, htkl, hh, hhq, List.all_append, hge, hixi, hix, i1, refs, refC, frzs, e1]
    have et : List.take l.length ((l.set ix.toNat ⟨v.key, v.born, q - 1, v.row⟩).map Ver.cells) = (l.set ix.toNat ⟨v.key, v.born, q - 1, v.row⟩).map Ver.cells := List.take_of_length_le (by simp)
    have := fin (l.set ix.toNat ⟨v.key, v.born, q - 1, v.row⟩) (p2 + 1 + 1 + 1) (by omega) (by omega) (setG ix _ hvg)
    try simp only [Ver.cells, Row.v] at et
    first | (rw [et]; exact this) | exact this | (simp only [Ver.cells, Row.v, Int.add_assoc, Int.reduceAdd] at this et ⊢; rw [et]; exact this)
  by_cases c1 : w = 1
  · subst c1
    simp -implicitDefEqProofs (disch := omega) only [go_sem, Nat.reduceBEq, Nat.reduceAdd, Nat.reduceSub, Nat.reduceMul, Nat.reduceLeDiff, Nat.reduceEqDiff, Nat.reduceLT, Int.reduceNeg, Int.reduceAdd, Int.reduceSub, Int.reduceMul, Int.reduceLE, Int.reduceLT, Int.reduceEq, Int.reduceToNat, reduceCtorEq]
    generalize hx : callS (runD tab noExt _) _ 57 _ _ = X
    obtain ⟨q, rfl, q1, q2⟩ := ex_pick hx (by omega) (by omega) hb hhp hTp
    clear hx
    have e1 := map_set' Ver.cells l ix.toNat ⟨q - 1, v.born, v.died, v.row⟩
    simp only [Ver.cells, Row.v] at e1
    simp -implicitDefEqProofs (disch := omega) only [go_sem, Nat.reduceBEq, Nat.reduceAdd, Nat.reduceSub, Nat.reduceMul, Nat.reduceLeDiff, Nat.reduceEqDiff, Nat.reduceLT, Int.reduceNeg, Int.reduceAdd, Int.reduceSub, Int.reduceMul, Int.reduceLE, Int.reduceLT, Int.reduceEq, Int.reduceToNat, reduceCtorEq, hget, hv, Ver.cells, Row.v, IntWalk.i64_in, List.contains_nil, hgs, htkl, hh, hhq, List.all_append, hge, hixi, hix, i1, refs, refC, frzs, e1]
    have et : List.take l.length ((l.set ix.toNat ⟨q - 1, v.born, v.died, v.row⟩).map Ver.cells) = (l.set ix.toNat ⟨q - 1, v.born, v.died, v.row⟩).map Ver.cells := List.take_of_length_le (by simp)
    have := fin (l.set ix.toNat ⟨q - 1, v.born, v.died, v.row⟩) (p2 + 1 + 1 + 1) (by omega) (by omega) (setG ix _ hvg)
    try simp only [Ver.cells, Row.v] at et
    first | (rw [et]; exact this) | exact this | (simp only [Ver.cells, Row.v, Int.add_assoc, Int.reduceAdd] at this et ⊢; rw [et]; exact this)
  by_cases c2 : w = 2
  · subst c2
    simp -implicitDefEqProofs (disch := omega) only [go_sem, Nat.reduceBEq, Nat.reduceAdd, Nat.reduceSub, Nat.reduceMul, Nat.reduceLeDiff, Nat.reduceEqDiff, Nat.reduceLT, Int.reduceNeg, Int.reduceAdd, Int.reduceSub, Int.reduceMul, Int.reduceLE, Int.reduceLT, Int.reduceEq, Int.reduceToNat, reduceCtorEq]
    generalize hx : callS (runD tab noExt _) _ 57 _ _ = X
    obtain ⟨q, rfl, q1, q2⟩ := ex_pick hx (by omega) (by omega) hb hhp hTp
    clear hx
    have e1 := map_set' Ver.cells l ix.toNat ⟨v.key, q - 1, v.died, v.row⟩
    simp only [Ver.cells, Row.v] at e1
    simp -implicitDefEqProofs (disch := omega) only [go_sem, Nat.reduceBEq, Nat.reduceAdd, Nat.reduceSub, Nat.reduceMul, Nat.reduceLeDiff, Nat.reduceEqDiff, Nat.reduceLT, Int.reduceNeg, Int.reduceAdd, Int.reduceSub, Int.reduceMul, Int.reduceLE, Int.reduceLT, Int.reduceEq, Int.reduceToNat, reduceCtorEq, hget, hv, Ver.cells, Row.v, IntWalk.i64_in, List.contains_nil, hgs, htkl, hh, hhq, List.all_append, hge, hixi, hix, i1, refs, refC, frzs, e1]
    have et : List.take l.length ((l.set ix.toNat ⟨v.key, q - 1, v.died, v.row⟩).map Ver.cells) = (l.set ix.toNat ⟨v.key, q - 1, v.died, v.row⟩).map Ver.cells := List.take_of_length_le (by simp)
    have := fin (l.set ix.toNat ⟨v.key, q - 1, v.died, v.row⟩) (p2 + 1 + 1 + 1) (by omega) (by omega) (setG ix _ hvg)
    try simp only [Ver.cells, Row.v] at et
    first | (rw [et]; exact this) | exact this | (simp only [Ver.cells, Row.v, Int.add_assoc, Int.reduceAdd] at this et ⊢; rw [et]; exact this)
  have ea : List.map Ver.cells l ++ [v.cells] = (l ++ [v]).map Ver.cells := by simp
  simp only [Ver.cells, Row.v] at ea
  simp -implicitDefEqProofs (disch := omega) only [go_sem, Nat.reduceBEq, Nat.reduceAdd, Nat.reduceSub, Nat.reduceMul, Nat.reduceLeDiff, Nat.reduceEqDiff, Nat.reduceLT, Int.reduceNeg, Int.reduceAdd, Int.reduceSub, Int.reduceMul, Int.reduceLE, Int.reduceLT, Int.reduceEq, Int.reduceToNat, reduceCtorEq, hget, hv, Ver.cells, Row.v, (eq_false c0 : (w = 0) = False), (eq_false c1 : (w = 1) = False), (eq_false c2 : (w = 2) = False), h1sm, hgs, htkl, hh, hhq, List.all_append, hge, hixi, hix, i1, elemsOf, elemOf, refsV, refs, refC, frzs, listOf, ea]
  have et : List.take (l.length + 1) ((l ++ [v]).map Ver.cells) = (l ++ [v]).map Ver.cells := List.take_of_length_le (by simp)
  have := fin (l ++ [v]) (p2 + 1 + 1) (by omega) (by omega) ⟨by simp; omega, fun x hx => by
    rcases List.mem_append.1 hx with h | h
    · exact hl.2 x h
    · rw [List.mem_singleton.1 h]; exact hvg⟩
  try simp only [Ver.cells, Row.v] at et
  first | (rw [et]; exact this) | exact this | (simp only [Ver.cells, Row.v, Int.add_assoc, Int.reduceAdd] at this et ⊢; rw [et]; exact this)
end Go.Proofs.Ytfbjbkkcilhgjaa.PE
/- Indexes that are drawn: one more entry put in order. -/
set_option linter.unusedSimpArgs false
set_option linter.unusedVariables false
set_option maxHeartbeats 4000000
set_option maxRecDepth 20000
namespace Go.Proofs.Ytfbjbkkcilhgjaa.PE
open Go.RowKit

/-- Marks whose values are ok and short. -/
def GMs (n : Nat) (l : List Mk) : Prop := l.length ≤ n ∧ ∀ m ∈ l, m.v.ok = true ∧ m.v.s.size < 1099511627776
def v0 (vs : List Val) : Val := vs.headD .zero
-- find185
theorem run_l31Value (d : Nat) (c : Bool) (vs : List Val) (hs : vs.length < 1099511627776) : retP (runD tab noExt (d + 1)) 185 [.sl c 3 (vs.map Val.cells)] = some [.agg (v0 vs).cells] := by
  rw [retP, runD_eq find185 _ _ _ (by simp)]
  cases vs with
  | nil => simp -implicitDefEqProofs (disch := omega) only [go_sem, Nat.reduceBEq, Nat.reduceAdd, Nat.reduceSub, Nat.reduceMul, Nat.reduceLeDiff, Nat.reduceEqDiff, Nat.reduceLT, Int.reduceNeg, Int.reduceAdd, Int.reduceSub, Int.reduceMul, Int.reduceLE, Int.reduceLT, Int.reduceEq, Int.reduceToNat, reduceCtorEq, v0, List.headD_nil, Val.zero, Val.cells, List.map_nil, List.length_nil, Int.natCast_zero]
  | cons x r =>
    have h0 : ((r.length : Int) + 1 = 0) = False := eq_false (by omega)
    have hp : (0 : Int) < (r.length : Int) + 1 := by omega
    simp -implicitDefEqProofs (disch := omega) only [go_sem, Nat.reduceBEq, Nat.reduceAdd, Nat.reduceSub, Nat.reduceMul, Nat.reduceLeDiff, Nat.reduceEqDiff, Nat.reduceLT, Int.reduceNeg, Int.reduceAdd, Int.reduceSub, Int.reduceMul, Int.reduceLE, Int.reduceLT, Int.reduceEq, Int.reduceToNat, reduceCtorEq, v0, List.headD_cons, Val.cells, List.map_cons, List.length_cons, h0, hp, Int.toNat_zero, Int.natCast_add, Int.natCast_one]
-- find184
theorem loop_put (d : Nat) (c : Bool) (l : List Mk) (m : Mk) (hl : GMs 1000 l) (hm : m.v.ok = true ∧ m.v.s.size < 1099511627776) : ∀ (k K : Nat), k ≤ l.length → k ≤ K → ∃ j : Nat, j ≤ k ∧ LoopS (runD tab noExt (d + 5)) (drawI (runD tab noExt (d + 5))) [0, 3, 5] [0, 3, 5] L184x0 2 K [(0, .sl c 6 (l.map Mk.cells)), (3, .ptr 0 0 0 0), (5, .int .i64 (k : Nat))] [.box m.cells, .rows 0 6 []] = some (.exit 0, [(0, .sl c 6 (l.map Mk.cells)), (3, .ptr 0 0 0 0), (5, .int .i64 (j : Nat))], [.box m.cells, .rows 0 6 []]) := by
  have hln := hl.1
  intro k
  induction k with
  | zero =>
    intro K _ _
    refine ⟨0, Nat.le_refl _, ?_⟩
    rw [LoopS_eq]
    simp -implicitDefEqProofs (disch := omega) only [go_sem, Nat.reduceBEq, Nat.reduceAdd, Nat.reduceSub, Nat.reduceMul, Nat.reduceLeDiff, Nat.reduceEqDiff, Nat.reduceLT, Int.reduceNeg, Int.reduceAdd, Int.reduceSub, Int.reduceMul, Int.reduceLE, Int.reduceLT, Int.reduceEq, Int.reduceToNat, reduceCtorEq, evL184x0, B184x0, evC_draw, evD184x0, E184x0, Int.natCast_zero, Int.lt_irrefl, Mk.cells]
  | succ k ih =>
    intro K hk hK
    obtain ⟨K, rfl⟩ : ∃ K', K = K' + 1 := ⟨K - 1, by omega⟩
    have hlt : k < l.length := by omega
    have hx := List.getElem?_eq_getElem hlt
    generalize l[k] = w at hx
    have hw := hl.2 w (List.mem_of_getElem? hx)
    have hless := run_lessM (d + 1) m w hm.1 hw.1 hm.2 hw.2
    have hp : (0 : Int) < (k : Int) + 1 := by omega
    have hk' : (k : Int) < l.length := by omega
    have hp0 : (0 : Int) ≤ (k : Int) + 1 := by omega
    cases hb : lessM m w
    · rw [hb] at hless
      refine ⟨k + 1, Nat.le_refl _, ?_⟩
      simp only [Mk.cells] at hless
      rw [LoopS_eq]
      simp -implicitDefEqProofs (disch := omega) only [go_sem, Nat.reduceBEq, Nat.reduceAdd, Nat.reduceSub, Nat.reduceMul, Nat.reduceLeDiff, Nat.reduceEqDiff, Nat.reduceLT, Int.reduceNeg, Int.reduceAdd, Int.reduceSub, Int.reduceMul, Int.reduceLE, Int.reduceLT, Int.reduceEq, Int.reduceToNat, reduceCtorEq, evL184x0, B184x0, evC_draw, evD184x0, E184x0, hp, hk', hp0, hx, hless, Mk.cells, Int.add_sub_cancel, IntWalk.i64_in]
    · rw [hb] at hless
      obtain ⟨j, hj, ih'⟩ := ih K (by omega) (by omega)
      refine ⟨j, by omega, ?_⟩
      simp only [Mk.cells] at hless ih'
      rw [LoopS_eq]
      simp -implicitDefEqProofs (disch := omega) only [go_sem, Nat.reduceBEq, Nat.reduceAdd, Nat.reduceSub, Nat.reduceMul, Nat.reduceLeDiff, Nat.reduceEqDiff, Nat.reduceLT, Int.reduceNeg, Int.reduceAdd, Int.reduceSub, Int.reduceMul, Int.reduceLE, Int.reduceLT, Int.reduceEq, Int.reduceToNat, reduceCtorEq, evL184x0, B184x0, evC_draw, evD184x0, E184x0, hp, hk', hp0, hx, hless, Mk.cells, Int.add_sub_cancel, IntWalk.i64_in]
      exact ih'
theorem run_put (d : Nat) (c : Bool) (l : List Mk) (m : Mk) {n : Nat} (hl : GMs n l) (hn : n ≤ 900) (hm : m.v.ok = true ∧ m.v.s.size < 1099511627776) : ∃ (l2 : List Mk) (id st : Nat) (hc : Heap), runD tab noExt (d + 6) 184 [.sl c 6 (l.map Mk.cells), .agg m.cells] [] = some ([.ref id st 0 l2.length false], hc) ∧ hc[id]? = some (.rows st 6 (l2.map Mk.cells)) ∧ GMs (n + 1) l2 := by
  obtain ⟨h1, h2⟩ := hl
  obtain ⟨j, hj, hL⟩ := loop_put d c l m ⟨by omega, h2⟩ hm l.length 1099511627775 (Nat.le_refl _) (by omega)
  have g : GMs (n + 1) (l.take j ++ [m] ++ l.drop j) := by
    refine ⟨by simp; omega, fun x hx => ?_⟩
    simp only [List.mem_append, List.mem_singleton] at hx
    rcases hx with (hx | rfl) | hx
    · exact h2 x (List.mem_of_mem_take hx)
    · exact hm
    · exact h2 x (List.mem_of_mem_drop hx)
  have lt : (List.take j (List.map Mk.cells l)).length = j := by rw [List.length_take, List.length_map]; omega
  have td : List.take (l.length - j) (List.drop j (List.map Mk.cells l)) = List.drop j (List.map Mk.cells l) := List.take_of_length_le (by simp)
  have ldr : (List.drop j (List.map Mk.cells l)).length = l.length - j := by simp
  have l1 : (List.take j l).length = j := by rw [List.length_take]; omega
  have l2 : (List.drop j l).length = l.length - j := List.length_drop
  have s4 : j + (1 + (l.length - j)) < 4294967296 := by omega
  have e5 : 1 + (l.length - j) = l.length - j + 1 := by omega
  have s5 : j + (l.length - j + 1) < 4294967296 := by omega
  have s0 : (j : Int) ≤ l.length := by omega
  have s1 : j < 4294967296 := by omega
  have s2 : j + 1 < 4294967296 := by omega
  have s3 : j + 1 + (l.length - j) < 4294967296 := by omega
  simp only [Mk.cells] at hL
  rw [runD_eq find184 _ _ _ (by simp)]
  simp -implicitDefEqProofs (disch := omega) only [go_sem, Nat.reduceBEq, Nat.reduceAdd, Nat.reduceSub, Nat.reduceMul, Nat.reduceLeDiff, Nat.reduceEqDiff, Nat.reduceLT, Int.reduceNeg, Int.reduceAdd, Int.reduceSub, Int.reduceMul, Int.reduceLE, Int.reduceLT, Int.reduceEq, Int.reduceToNat, reduceCtorEq, Mk.cells, elemsOf, frzs, List.flatMap_nil]
  try simp -implicitDefEqProofs only [go_sem, Nat.reduceBEq, Nat.reduceAdd, Nat.reduceSub, Nat.reduceMul, Nat.reduceLeDiff, Nat.reduceEqDiff, Nat.reduceLT, Int.reduceNeg, Int.reduceAdd, Int.reduceSub, Int.reduceMul, Int.reduceLE, Int.reduceLT, Int.reduceEq, Int.reduceToNat, reduceCtorEq, Mk.cells] at hL
  rw [hL]
  refine ⟨l.take j ++ [m] ++ l.drop j, ?_⟩
  simp -implicitDefEqProofs (disch := omega) only [go_sem, Nat.reduceBEq, Nat.reduceAdd, Nat.reduceSub, Nat.reduceMul, Nat.reduceLeDiff, Nat.reduceEqDiff, Nat.reduceLT, Int.reduceNeg, Int.reduceAdd, Int.reduceSub, Int.reduceMul, Int.reduceLE, Int.reduceLT, Int.reduceEq, Int.reduceToNat, reduceCtorEq, evC_draw, evD184x1, E184x1, Mk.cells, elemsOf, elemOf, frzs, refs, refC, refsV, List.flatMap_cons, List.flatMap_nil, s0, s1, s2, s3, lt, td, ldr, l1, l2, s4, s5, e5]
  refine ⟨2, _, _, rfl, ?_, ?_⟩
  · simp [List.map_take, List.map_drop, Mk.cells]
  · simpa using g
end Go.Proofs.Ytfbjbkkcilhgjaa.PE
/- What the functions of exact statements promise; the text of a mark. -/
set_option linter.unusedVariables false
set_option linter.unusedSimpArgs false
set_option maxHeartbeats 4000000
namespace Go.Proofs.Ytfbjbkkcilhgjaa.PE
open Go.RowKit

/-! ### copies -/
def ToOK (d f : Nat) (fs : List Fd) : Prop := ∀ {p : V} {xs : List (List U)}, PurF (.sub fs) p (.sub xs) → xs.length ≤ 1048576 → AllU (LenR 1048576 1048576 fs) xs → ∃ v hc ids, runD tab noExt d f [p] [] = some ([v], hc) ∧ OwnF hc (.sub fs) v (.sub xs) ids ∧ ids.Nodup

def EqOK (d f : Nat) (fs : List Fd) : Prop := ∀ {p q : V} {xs : List (List U)}, PurF (.sub fs) p (.sub xs) → PurF (.sub fs) q (.sub xs) → LenF big big (.sub fs) (.sub xs) → retP (runD tab noExt d) f [p, q] = some [.bool true]

def HeldOK (d f : Nat) (fs : List Fd) : Prop := ∀ {p : V} {xs : List (List U)} {k k' : Int}, PurF (.sub fs) p (.sub xs) → HeldF (.sub fs) (.sub xs) k k' → 0 ≤ k → k' ≤ 4611686018427387904 → LenF big big (.sub fs) (.sub xs) → retP (runD tab noExt d) f [p, .int .i64 k] = some [.int .i64 k']

def MarkOK (d f : Nat) (fs : List Fd) : Prop := ∀ {h : Heap} {v : V} {xs : List (List U)} {ids : List Nat} {k : Int}, OwnF h (.sub fs) v (.sub xs) ids → ids.Nodup → LenF big big (.sub fs) (.sub xs) → 0 ≤ k → k + cntF (.sub fs) (.sub xs) ≤ 4611686018427387904 →
  ∃ h' ys, callX (runD tab noExt d) h 2 f [v, .int .i64 k] = some (.int .i64 (k + cntF (.sub fs) (.sub xs)), h') ∧ OwnF h' (.sub fs) v (.sub ys) ids ∧ HeldF (.sub fs) (.sub ys) k (k + cntF (.sub fs) (.sub xs)) ∧ LenF big big (.sub fs) (.sub ys) ∧ (∀ j, j ∉ ids → h'[j]? = h[j]?) ∧ h'.length = h.length

end Go.Proofs.Ytfbjbkkcilhgjaa.PE
/- What sizes, copies, comparisons and marks do, type by type. -/
set_option linter.unusedVariables false
set_option linter.unusedSimpArgs false
set_option maxHeartbeats 4000000
namespace Go.Proofs.Ytfbjbkkcilhgjaa.PE
open Go.RowKit

/-! ### Int -/
def fdInt : List Fd := [.int .i64]
/-! ### Column -/
def fdColumn : List Fd := [.int .i64, .bool]
/-! ### Value -/
def fdValue : List Fd := [.int .i64, .int .i64, .str]
/-! ### ValueS -/
def fdValueS : List Fd := [.sub fdValue]
/-! ### Version -/
def fdVersion : List Fd := [.int .i64, .int .i64, .int .i64, .sub fdValue]
/-! ### Table -/
def fdTable : List Fd := [.sub fdColumn, .sub fdValueS]
/-! ### Tally -/
def fdTally : List Fd := [.sub fdValue, .int .i64, .int .i64, .int .i64]
end Go.Proofs.Ytfbjbkkcilhgjaa.PE
/- Steps of an exact statement. -/
set_option linter.unusedVariables false
set_option linter.unusedSimpArgs false
namespace Go.Proofs.Ytfbjbkkcilhgjaa.PE
open Go.RowKit

end Go.Proofs.Ytfbjbkkcilhgjaa.PE
/- Contents of trees as columns, values, rows, numbers. -/
set_option linter.unusedVariables false
set_option linter.unusedSimpArgs false
namespace Go.Proofs.Ytfbjbkkcilhgjaa.PE
open Go.RowKit

def colU (c : Col) : List U := [.int c.kind, .bool c.empty]
def valU (v : Val) : List U := [.int v.kind, .int v.n, .str v.s]
def vsU (vs : List Val) : List U := [.sub (vs.map valU)]
end Go.Proofs.Ytfbjbkkcilhgjaa.PE
/- Rows and columns as trees: what their sizes say, that only their values matter. -/
set_option linter.unusedVariables false
set_option linter.unusedSimpArgs false
set_option maxHeartbeats 4000000
namespace Go.Proofs.Ytfbjbkkcilhgjaa.PE
open Go.RowKit

def rowU (r : Row) : List U := vsU r.vs
end Go.Proofs.Ytfbjbkkcilhgjaa.PE
/- The rows at a time: the reference's. -/
set_option linter.unusedVariables false
set_option linter.unusedSimpArgs false
set_option maxHeartbeats 4000000
namespace Go.Proofs.Ytfbjbkkcilhgjaa.PE
open Go.RowKit

def keys5 : List Int := [0, 1, 2, 3, 4]
def addRow (l : List Ver) (time : Int) (b : List Row) (k : Int) : List Row := if (rowAt l k time).isSome then b ++ [⟨false, ((rowAt l k time).getD Ver.zero).row.vs⟩] else b
def rowsAtV (l : List Ver) (time : Int) : List Row := keys5.foldl (addRow l time) []
/-- What a key has at a time, as values. -/
def rowV (l : List Ver) (k time : Int) : Option (List Val) := (rowAt l k time).map fun v => v.row.vs
end Go.Proofs.Ytfbjbkkcilhgjaa.PE
/- Versions as trees: what their sizes say, that only their values matter. -/
set_option linter.unusedVariables false
set_option linter.unusedSimpArgs false
set_option maxHeartbeats 4000000
namespace Go.Proofs.Ytfbjbkkcilhgjaa.PE
open Go.RowKit

def verU (v : Ver) : List U := [.int v.key, .int v.born, .int v.died, .sub (v.row.vs.map valU)]
end Go.Proofs.Ytfbjbkkcilhgjaa.PE
/- Copies of rows, and whether lists of rows are the same. -/
set_option linter.unusedSimpArgs false
set_option linter.unusedVariables false
set_option maxHeartbeats 4000000
namespace Go.Proofs.Ytfbjbkkcilhgjaa.PE
open Go.RowKit


/-- A row of one's own. -/
def Row.own (b : Bool) (r : Row) : Row := ⟨b, r.vs⟩
def own (b : Bool) (rs : List Row) : List Row := rs.map (Row.own b)
def sameVs (a b : List Val) : Bool := decide (a = b)
def vss (rs : List Row) : List (List Val) := rs.map Row.vs
end Go.Proofs.Ytfbjbkkcilhgjaa.PE
/- Rows of rows that grow, element by element, each of memory of its own. -/
set_option linter.unusedVariables false
set_option linter.unusedSimpArgs false
namespace Go.Proofs.Ytfbjbkkcilhgjaa.PE
open Go.RowKit

/-- What has been gathered up to now. -/
def Grown (fs : List Fd) (id : Nat) (h : Heap) (done : List (List V)) (xs : List (List U)) : Prop :=
  h[id]? = some (blkOf fs done.length done) ∧ ∃ ids, Zip3 (OwnR h fs) done xs ids ∧ (id :: ids).Nodup
theorem Grown.len {fs : List Fd} {id : Nat} {h : Heap} {done : List (List V)} {xs : List (List U)} (g : Grown fs id h done xs) : done.length = xs.length := by
  obtain ⟨_, ids, z, _⟩ := g
  exact Zip3_len z
theorem Grown.lt {fs : List Fd} {id : Nat} {h : Heap} {done : List (List V)} {xs : List (List U)} (g : Grown fs id h done xs) : id < h.length := (List.getElem?_eq_some_iff.1 g.1).1
theorem Grown.frame {fs : List Fd} {id : Nat} {h h1 : Heap} {done : List (List V)} {xs : List (List U)} (g : Grown fs id h done xs) (keep : ∀ j, j < h.length → h1[j]? = h[j]?) : Grown fs id h1 done xs := by
  obtain ⟨g1, ids, z, nd⟩ := g
  refine ⟨(keep id (List.getElem?_eq_some_iff.1 g1).1).trans g1, ids, ?_, nd⟩
  exact Zip3_mono (P := fun _ => True) (fun c x i hr _ => OwnR_frame _ hr (fun j hj => keep j (OwnR_lt _ hr j hj))) z (fun _ _ => trivial)
theorem Grown.add {fs : List Fd} {id : Nat} {h h1 h2 : Heap} {done : List (List V)} {xs : List (List U)} {cells : List V} {x : List U} {js : List Nat} (g : Grown fs id h done xs) (own : OwnR h1 fs cells x js) (nd : js.Nodup)
    (fresh : ∀ j ∈ js, h.length ≤ j) (keep : ∀ j, j < h.length → h1[j]? = h[j]?) (e2 : h2 = h1.set id (blkOf fs (done.length + 1) (done ++ [cells]))) : Grown fs id h2 (done ++ [cells]) (xs ++ [x]) := by
  subst e2
  have hlt := g.lt
  obtain ⟨g1, ids, z, nd1⟩ := g
  have hl1 : id < h1.length := by
    have := keep id hlt
    rw [List.getElem?_eq_getElem hlt] at this
    exact (List.getElem?_eq_some_iff.1 this).1
  obtain ⟨n1, n2⟩ := List.nodup_cons.1 nd1
  have hids : ∀ j ∈ ids, j < h.length := Zip3_all (fun c x i hr => OwnR_lt fs hr) z
  refine ⟨by rw [List.getElem?_set_self hl1, List.length_append]; rfl, ids ++ js, Zip3_app (Zip3_mono (P := fun j => j ∈ ids) (fun c x i hr hp => OwnR_frame fs hr (fun j hj => ?_)) z (fun _ hm => hm)) (Zip3_one (OwnR_frame fs own (fun j hj => ?_))), ?_⟩
  · have hne : id ≠ j := fun e => n1 (e ▸ hp j hj)
    rw [List.getElem?_set_ne hne]
    exact keep j (hids j (hp j hj))
  · have hne : id ≠ j := fun e => by have := fresh j hj; omega
    rw [List.getElem?_set_ne hne]
  · refine List.nodup_cons.2 ⟨fun hm => ?_, List.nodup_append.2 ⟨n2, nd, fun p hp q hq => ?_⟩⟩
    · rcases List.mem_append.1 hm with hm | hm
      · exact n1 hm
      · have := fresh id hm; omega
    · have := hids p hp
      have := fresh q hq
      omega
theorem Grown.set {fs : List Fd} {id : Nat} {h h1 : Heap} {done : List (List V)} {xs : List (List U)} {k : Nat} {b : Blk} (g : Grown fs id h done xs) (hk : h.length ≤ k) : Grown fs id (h.set k b) done xs := by
  rw [List.set_eq_of_length_le hk]
  exact g
theorem Grown.own {fs : List Fd} {id : Nat} {h : Heap} {done : List (List V)} {xs : List (List U)} {n : Nat} {clip : Bool} (g : Grown fs id h done xs) (hn : n = done.length) : ∃ ids, OwnF h (.sub fs) (.ref id n 0 n clip) (.sub xs) ids ∧ ids.Nodup := by
  subst hn
  obtain ⟨g1, ids, z, nd⟩ := g
  refine ⟨id :: ids, ?_, nd⟩
  simp only [OwnF]
  exact ⟨xs, rfl, .inr ⟨id, done.length, clip, done, ids, rfl, g1, rfl, z⟩⟩
end Go.Proofs.Ytfbjbkkcilhgjaa.PE
/- Copies of rows as memory of one's own. -/
set_option linter.unusedVariables false
set_option linter.unusedSimpArgs false
set_option maxHeartbeats 4000000
namespace Go.Proofs.Ytfbjbkkcilhgjaa.PE
open Go.RowKit

end Go.Proofs.Ytfbjbkkcilhgjaa.PE
/- Sizes of trees of values, rows, columns. -/
set_option linter.unusedVariables false
set_option linter.unusedSimpArgs false
namespace Go.Proofs.Ytfbjbkkcilhgjaa.PE
open Go.RowKit

end Go.Proofs.Ytfbjbkkcilhgjaa.PE
/- Whether two lists of values are the same. -/
set_option linter.unusedVariables false
set_option linter.unusedSimpArgs false
set_option maxHeartbeats 4000000
namespace Go.Proofs.Ytfbjbkkcilhgjaa.PE
open Go.RowKit

end Go.Proofs.Ytfbjbkkcilhgjaa.PE
/- Copies of versions, as memory of one's own. -/
set_option linter.unusedSimpArgs false
set_option linter.unusedVariables false
set_option maxHeartbeats 4000000
namespace Go.Proofs.Ytfbjbkkcilhgjaa.PE
open Go.RowKit

def FineVr (ws : List Ver) : Prop := ws.length < 1099511627776 ∧ ws.length < 4294967296 ∧ ∀ w ∈ ws, w.row.vs.length < 4294967296
end Go.Proofs.Ytfbjbkkcilhgjaa.PE
/- Calls whose results are memory of one's own, and a number beside it. -/
set_option linter.unusedVariables false
set_option linter.unusedSimpArgs false
namespace Go.Proofs.Ytfbjbkkcilhgjaa.PE
open Go.RowKit

end Go.Proofs.Ytfbjbkkcilhgjaa.PE
/- Steps of exact statements of structs. -/
set_option linter.unusedVariables false
set_option linter.unusedSimpArgs false
namespace Go.Proofs.Ytfbjbkkcilhgjaa.PE
open Go.RowKit

end Go.Proofs.Ytfbjbkkcilhgjaa.PE
/- Results that are memory of one's own, told as values. -/
set_option linter.unusedSimpArgs false
set_option linter.unusedVariables false
namespace Go.Proofs.Ytfbjbkkcilhgjaa.PE
open Go.RowKit

end Go.Proofs.Ytfbjbkkcilhgjaa.PE
/- Values that are drawn. -/
set_option linter.unusedSimpArgs false
set_option linter.unusedVariables false
set_option maxHeartbeats 4000000
namespace Go.Proofs.Ytfbjbkkcilhgjaa.PE
open Go.RowKit

theorem empty_size : (⟨#[]⟩ : ByteArray).size = 0 := rfl
/-- A drawn value's text is short. -/
def GV (v : Val) : Prop := v.s.size ≤ 20

-- find197
theorem size_append' (a b : ByteArray) : (a ++ b).size = a.size + b.size := ByteArray.size_append
theorem size_one (b : UInt8) : (⟨#[b]⟩ : ByteArray).size = 1 := rfl

def ValPost (p q : Int) (s s' : ByteArray) (p' : Int) : Prop := p ≤ p' ∧ p' ≤ p + q ∧ s'.size ≤ s.size + q
-- find149
theorem loop_value {d : Nat} {hp t : Heap} {c : Bool} {bs : List UInt8} {n : Int} (hb : bs.length ≤ 2000) (hhp : plainH hp = true) (ht : plainH t = true) : ∀ (j K : Nat) {p k : Int} {s : ByteArray} {Y : Out},
    LoopS (runD tab noExt (d + 1)) (drawI (runD tab noExt (d + 1))) [0, 1, 4, 5, 6] [0, 1, 4, 5] L149x0 (hp.length + (t.length + 3)) K [(0, .ptr hp.length 0 0 0), (1, .int .i64 n), (4, .ptr (hp.length + (t.length + 1)) 0 0 0), (5, .ptr (hp.length + (t.length + 2)) 0 0 0), (6, .int .i64 k)]
      (hp ++ .box [.sl c 1 (cellsOfBytes bs), .int .i64 (p)] :: (t ++ [.box [.int .i64 0, .int .i64 0, .str ⟨#[]⟩], .box [.int .i64 2, .int .i64 0, .str s]])) = Y →
    k = j → j ≤ K → s.size + j ≤ 1000 → 0 ≤ p → p + j ≤ 1099511000000 → ∃ s' p', Y = some (.exit 1, [(0, .ptr hp.length 0 0 0), (1, .int .i64 n), (4, .ptr (hp.length + (t.length + 1)) 0 0 0), (5, .ptr (hp.length + (t.length + 2)) 0 0 0)],
      hp ++ .box [.sl c 1 (cellsOfBytes bs), .int .i64 (p')] :: (t ++ [.box [.int .i64 0, .int .i64 0, .str ⟨#[]⟩], .box [.int .i64 2, .int .i64 0, .str s']])) ∧ ValPost p j s s' p' := by
  have hh : ∀ n, t.all (hiB n) = true := fun n => plainH_hi ht n
  have hhq : ∀ n, hp.all (hiB n) = true := fun n => plainH_hi hhp n
  intro j
  induction j with
  | zero =>
    intro K p k s Y hL hk hK hs hp0 hq
    subst hL hk
    rw [LoopS_eq]
    simp -implicitDefEqProofs only [go_sem, Nat.reduceBEq, Nat.reduceAdd, Nat.reduceSub, Nat.reduceMul, Nat.reduceLeDiff, Nat.reduceEqDiff, Nat.reduceLT, Int.reduceNeg, Int.reduceAdd, Int.reduceSub, Int.reduceMul, Int.reduceLE, Int.reduceLT, Int.reduceEq, Int.reduceToNat, reduceCtorEq, evL149x0, B149x0, hh, hhq, List.all_append, Int.lt_irrefl, Int.natCast_zero]
    exact ⟨s, p, rfl, by omega, by omega, by omega⟩
  | succ j ih =>
    intro K p k s Y hL hk hK hs hp0 hq
    obtain ⟨K, rfl⟩ : ∃ K', K = K' + 1 := ⟨K - 1, by omega⟩
    subst hL
    have hk0 : 0 < k := by omega
    have h1 : s.size + 1 < 4294967296 := by omega
    rw [LoopS_eq]
    simp -implicitDefEqProofs (disch := omega) only [go_sem, Nat.reduceBEq, Nat.reduceAdd, Nat.reduceSub, Nat.reduceMul, Nat.reduceLeDiff, Nat.reduceEqDiff, Nat.reduceLT, Int.reduceNeg, Int.reduceAdd, Int.reduceSub, Int.reduceMul, Int.reduceLE, Int.reduceLT, Int.reduceEq, Int.reduceToNat, reduceCtorEq, evL149x0, B149x0, evC_draw, evD149x0, E149x0, hh, hhq, hk0, List.all_append]
    repeat' (first | ((conv in (callS _ _ 57 _ false) => skip); generalize hx : callS (runD tab noExt _) (_ ++ _ :: _) 57 _ false = X; obtain ⟨m, rfl, hm1, hm2⟩ := ex_pick hx (by omega) (by omega) hb hhp (by simp only [ht, plainH_nil, plainH_cons, plainH_append, plainB, List.all_cons, List.all_nil, Bool.and_self, Bool.and_true]) ; skip;  simp -implicitDefEqProofs (disch := omega) only [go_sem, Nat.reduceBEq, Nat.reduceAdd, Nat.reduceSub, Nat.reduceMul, Nat.reduceLeDiff, Nat.reduceEqDiff, Nat.reduceLT, Int.reduceNeg, Int.reduceAdd, Int.reduceSub, Int.reduceMul, Int.reduceLE, Int.reduceLT, Int.reduceEq, Int.reduceToNat, reduceCtorEq, IntWalk.i64_in, hh, hhq, List.all_append, elemsOf, elemOf, frzs, List.flatMap_cons, List.flatMap_nil, refsV, refC, refs, listOf, bytesOf, small, size_one, *]) | ((first | rw [GuardI_ndec] | rw [CondC_ndec] | rw [GuardQ_ndec] | rw [GuardV_ndec] | rw [GuardI_dec] | rw [CondC_dec] | rw [GuardQ_dec] | rw [GuardV_dec] | rw [GuardI_nby] | rw [CondC_nby] | rw [GuardQ_nby] | rw [GuardV_nby] | rw [GuardQ_by] | rw [GuardI_by] | rw [GuardV_by] | rw [CondC_by]) <;> split <;> simp -implicitDefEqProofs (disch := omega) only [go_sem, Nat.reduceBEq, Nat.reduceAdd, Nat.reduceSub, Nat.reduceMul, Nat.reduceLeDiff, Nat.reduceEqDiff, Nat.reduceLT, Int.reduceNeg, Int.reduceAdd, Int.reduceSub, Int.reduceMul, Int.reduceLE, Int.reduceLT, Int.reduceEq, Int.reduceToNat, reduceCtorEq, IntWalk.i64_in, hh, hhq, List.all_append, elemsOf, elemOf, frzs, List.flatMap_cons, List.flatMap_nil, refsV, refC, refs, listOf, bytesOf, small, size_one, *]))
    generalize hL : LoopS _ _ _ _ _ _ _ _ _ = Y
    obtain ⟨s', p', rfl, h2, h3, h4⟩ := ih K hL (by omega) (by omega) (by rw [size_append', size_one]; omega) (by omega) (by omega)
    rw [size_append', size_one] at h4
    exact ⟨s', p', rfl, by omega, by omega, by omega⟩
end Go.Proofs.Ytfbjbkkcilhgjaa.PE
/- Values, columns and rows that are drawn. -/
set_option linter.unusedSimpArgs false
set_option linter.unusedVariables false
set_option maxHeartbeats 4000000
namespace Go.Proofs.Ytfbjbkkcilhgjaa.PE
open Go.RowKit

theorem loop_value' {d : Nat} {hp t : Heap} {c : Bool} {bs : List UInt8} {n : Int} (hb : bs.length ≤ 2000) (hhp : plainH hp = true) (ht : plainH t = true) {K : Nat} {p k : Int} {s : ByteArray} {Y : Out}
    (hL : LoopS (runD tab noExt (d + 1)) (drawI (runD tab noExt (d + 1))) [0, 1, 4, 5, 6] [0, 1, 4, 5] L149x0 (hp.length + (t.length + 3)) K [(0, .ptr hp.length 0 0 0), (1, .int .i64 n), (4, .ptr (hp.length + (t.length + 1)) 0 0 0), (5, .ptr (hp.length + (t.length + 2)) 0 0 0), (6, .int .i64 k)]
      (hp ++ .box [.sl c 1 (cellsOfBytes bs), .int .i64 (p)] :: (t ++ [.box [.int .i64 0, .int .i64 0, .str ⟨#[]⟩], .box [.int .i64 2, .int .i64 0, .str s]])) = Y)
    (hk : 0 ≤ k) (hk3 : k ≤ 3) (hK : 3 ≤ K) (hs : s.size ≤ 900) (hp0 : 0 ≤ p) (hq : p ≤ 1099510900000) : ∃ s' p', Y = some (.exit 1, [(0, .ptr hp.length 0 0 0), (1, .int .i64 n), (4, .ptr (hp.length + (t.length + 1)) 0 0 0), (5, .ptr (hp.length + (t.length + 2)) 0 0 0)],
      hp ++ .box [.sl c 1 (cellsOfBytes bs), .int .i64 (p')] :: (t ++ [.box [.int .i64 0, .int .i64 0, .str ⟨#[]⟩], .box [.int .i64 2, .int .i64 0, .str s']])) ∧ p ≤ p' ∧ p' ≤ p + 3 ∧ s'.size ≤ s.size + 3 := by
  obtain ⟨s', p', rfl, h1, h2, h3⟩ := loop_value hb hhp ht k.toNat K hL (by omega) (by omega) (by omega) (by omega) (by omega)
  exact ⟨s', p', rfl, h1, by omega, by omega⟩

theorem size_lit7 : (⟨#[97, 98, 99, 100, 101, 102, 103]⟩ : ByteArray).size = 7 := rfl
theorem size_lit1 : (⟨#[65]⟩ : ByteArray).size = 1 := rfl
-- find149
theorem ex_value {d : Nat} {hp t : Heap} {c : Bool} {bs : List UInt8} {p n : Int} {X : Option (V × Heap)} (hx : callS (runD tab noExt (d + 3)) (hp ++ .box [.sl c 1 (cellsOfBytes bs), .int .i64 (p)] :: t) 149 [.ptr hp.length 0 0 0, .int .i64 n] false = X)
    (hp0 : 0 ≤ p) (hq : p ≤ 1099510000000) (hb : bs.length ≤ 2000) (hhp : plainH hp = true) (ht : plainH t = true) :
    ∃ v p', X = some (Val.enc v, hp ++ .box [.sl c 1 (cellsOfBytes bs), .int .i64 (p')] :: t) ∧ p ≤ p' ∧ p' ≤ p + 20 ∧ GV v := by
  subst hx
  have hh : ∀ n, t.all (hiB n) = true := fun n => plainH_hi ht n
  have hhq : ∀ n, hp.all (hiB n) = true := fun n => plainH_hi hhp n
  rw [callS_eq, runD_eq find149 _ _ _ (by simp)]
  simp -implicitDefEqProofs only [go_sem, Nat.reduceBEq, Nat.reduceAdd, Nat.reduceSub, Nat.reduceMul, Nat.reduceLeDiff, Nat.reduceEqDiff, Nat.reduceLT, Int.reduceNeg, Int.reduceAdd, Int.reduceSub, Int.reduceMul, Int.reduceLE, Int.reduceLT, Int.reduceEq, Int.reduceToNat, reduceCtorEq]
  have hidx : ∀ m : Int, 0 ≤ m → m < 5 → ∃ x : Int, ([[.int .i64 9999], [.int .i64 (-9999)], [.int .i64 255], [.int .i64 256], [.int .i64 (-256)]] : List (List V))[m.toNat]? = some [.int .i64 x] := by
    intro m h0 h1
    rcases (by omega : m = 0 ∨ m = 1 ∨ m = 2 ∨ m = 3 ∨ m = 4) with rfl | rfl | rfl | rfl | rfl <;> exact ⟨_, rfl⟩
  repeat' (first | ((conv in (callS _ _ 57 _ false) => skip); generalize hx : callS (runD tab noExt _) (_ ++ _ :: _) 57 [_, .int .i64 5] false = X; obtain ⟨m, rfl, hm1, hm2⟩ := ex_pick hx (by omega) (by omega) hb hhp (by simp only [ht, plainH_nil, plainH_cons, plainH_append, plainB, List.all_cons, List.all_nil, Bool.and_self, Bool.and_true]) ; skip; clear hx; obtain ⟨x, hx1⟩ := hidx m hm1 (by omega); simp -implicitDefEqProofs (disch := omega) only [go_sem, Nat.reduceBEq, Nat.reduceAdd, Nat.reduceSub, Nat.reduceMul, Nat.reduceLeDiff, Nat.reduceEqDiff, Nat.reduceLT, Int.reduceNeg, Int.reduceAdd, Int.reduceSub, Int.reduceMul, Int.reduceLE, Int.reduceLT, Int.reduceEq, Int.reduceToNat, reduceCtorEq, IntWalk.i64_in, hh, hhq, List.all_append, size_lit7, size_lit1, empty_size, *]) | ((conv in (callS _ _ 57 _ false) => skip); generalize hx : callS (runD tab noExt _) (_ ++ _ :: _) 57 _ false = X; obtain ⟨m, rfl, hm1, hm2⟩ := ex_pick hx (by omega) (by omega) hb hhp (by simp only [ht, plainH_nil, plainH_cons, plainH_append, plainB, List.all_cons, List.all_nil, Bool.and_self, Bool.and_true]) ; skip; clear hx; simp -implicitDefEqProofs (disch := omega) only [go_sem, Nat.reduceBEq, Nat.reduceAdd, Nat.reduceSub, Nat.reduceMul, Nat.reduceLeDiff, Nat.reduceEqDiff, Nat.reduceLT, Int.reduceNeg, Int.reduceAdd, Int.reduceSub, Int.reduceMul, Int.reduceLE, Int.reduceLT, Int.reduceEq, Int.reduceToNat, reduceCtorEq, IntWalk.i64_in, hh, hhq, List.all_append, size_lit7, size_lit1, empty_size, *]) | ((conv in (callS _ _ 119 _ false) => skip); generalize hx : callS (runD tab noExt _) (_ ++ _ :: _) 119 _ false = X; obtain ⟨b, p', rfl, hm1, hm2, hm3⟩ := ex_odd hx (by omega) (by omega) hb hhp (by simp only [ht, plainH_nil, plainH_cons, plainH_append, plainB, List.all_cons, List.all_nil, Bool.and_self, Bool.and_true]) ; skip; clear hx; simp -implicitDefEqProofs (disch := omega) only [go_sem, Nat.reduceBEq, Nat.reduceAdd, Nat.reduceSub, Nat.reduceMul, Nat.reduceLeDiff, Nat.reduceEqDiff, Nat.reduceLT, Int.reduceNeg, Int.reduceAdd, Int.reduceSub, Int.reduceMul, Int.reduceLE, Int.reduceLT, Int.reduceEq, Int.reduceToNat, reduceCtorEq, IntWalk.i64_in, hh, hhq, List.all_append, size_lit7, size_lit1, empty_size, *]) | ((conv in (LoopS _ _ _ _ _ _ _ _ _) => skip); generalize hx : LoopS _ _ _ _ _ _ _ _ _ = Y; obtain ⟨s', p', rfl, h2, h3, h4⟩ := loop_value' hb hhp ht hx (by omega) (by omega) (by omega) (by have := empty_size; omega) (by omega) (by omega); clear hx; have h5 := empty_size; have hs1 : s'.size + 7 < 4294967296 := (by omega); have hs2 : s'.size + 1 < 4294967296 := (by omega); simp -implicitDefEqProofs (disch := omega) only [go_sem, Nat.reduceBEq, Nat.reduceAdd, Nat.reduceSub, Nat.reduceMul, Nat.reduceLeDiff, Nat.reduceEqDiff, Nat.reduceLT, Int.reduceNeg, Int.reduceAdd, Int.reduceSub, Int.reduceMul, Int.reduceLE, Int.reduceLT, Int.reduceEq, Int.reduceToNat, reduceCtorEq, IntWalk.i64_in, hh, hhq, List.all_append, size_lit7, size_lit1, empty_size, *]) | ((first | rw [GuardI_ndec] | rw [CondC_ndec] | rw [GuardQ_ndec] | rw [GuardV_ndec] | rw [GuardI_dec] | rw [CondC_dec] | rw [GuardQ_dec] | rw [GuardV_dec] | rw [GuardI_nby] | rw [CondC_nby] | rw [GuardQ_nby] | rw [GuardV_nby] | rw [GuardQ_by] | rw [GuardI_by] | rw [GuardV_by] | rw [CondC_by]) <;> split <;> simp -implicitDefEqProofs (disch := omega) only [go_sem, Nat.reduceBEq, Nat.reduceAdd, Nat.reduceSub, Nat.reduceMul, Nat.reduceLeDiff, Nat.reduceEqDiff, Nat.reduceLT, Int.reduceNeg, Int.reduceAdd, Int.reduceSub, Int.reduceMul, Int.reduceLE, Int.reduceLT, Int.reduceEq, Int.reduceToNat, reduceCtorEq, IntWalk.i64_in, hh, hhq, List.all_append, size_lit7, size_lit1, empty_size, *]))
  all_goals first | (exfalso; omega) | (refine ⟨⟨_, _, _⟩, _, rfl, ?_, ?_, ?_⟩ <;> first | omega | exact Nat.le_of_ble_eq_true rfl | exact Nat.le_trans (by assumption) (by decide) | (show ByteArray.size (_ ++ _) ≤ 20; rw [size_append']; (first | rw [size_lit7] | rw [size_lit1]); omega))
end Go.Proofs.Ytfbjbkkcilhgjaa.PE
/- Columns and rows that are drawn. -/
set_option linter.unusedSimpArgs false
set_option linter.unusedVariables false
set_option maxHeartbeats 4000000
namespace Go.Proofs.Ytfbjbkkcilhgjaa.PE
open Go.RowKit

def IsCol (x : List V) : Prop := ∃ k e, x = [.int .i64 k, .bool e]
def AllP (P : List V → Prop) (l : List (List V)) : Prop := ∀ x ∈ l, P x
theorem AllP.nil {P : List V → Prop} : AllP P [] := fun _ h => by cases h
theorem AllP.append {P : List V → Prop} {l l' : List (List V)} (h : AllP P l) (h' : AllP P l') : AllP P (l ++ l') := fun y hy => by
  rcases List.mem_append.1 hy with h1 | h1
  · exact h y h1
  · exact h' y h1
def ColsPost (j : Nat) (cont : List (List V)) (p : Int) (cont' : List (List V)) (p' : Int) : Prop := AllP IsCol cont' ∧ cont'.length = cont.length + j ∧ p ≤ p' ∧ p' ≤ p + 2 * j
-- find58
end Go.Proofs.Ytfbjbkkcilhgjaa.PE
/- Rows and bags that are drawn. -/
set_option linter.unusedSimpArgs false
set_option linter.unusedVariables false
set_option maxHeartbeats 4000000
namespace Go.Proofs.Ytfbjbkkcilhgjaa.PE
open Go.RowKit

def IsVal (x : List V) : Prop := ∃ (k n : Int) (s : ByteArray), s.size ≤ 20 ∧ x = [.int .i64 k, .int .i64 n, .str s]
def ValsPost (j q : Nat) (cont : List (List V)) (p : Int) (cont' : List (List V)) (p' : Int) : Prop := AllP IsVal cont' ∧ cont'.length = cont.length + j ∧ p ≤ p' ∧ p' ≤ p + q * j
theorem AllP.set {P : List V → Prop} {l : List (List V)} {x : List V} (h : AllP P l) (hx : P x) (i : Nat) : AllP P (l.set i x) := fun y hy => by
  rcases List.mem_or_eq_of_mem_set hy with h1 | h1
  · exact h y h1
  · rw [h1]; exact hx
/-- A drawn row. -/
def GR (vs : List Val) : Prop := vs.length ≤ 20 ∧ ∀ v ∈ vs, GV v
-- find194
def IsRow1 (x : List V) : Prop := ∃ (c : Bool) (vs : List Val), GR vs ∧ x = [.sl c 3 (vs.map Val.cells)]
def RowsPost (j : Nat) (cont : List (List V)) (p : Int) (cont' : List (List V)) (p' : Int) : Prop := AllP IsRow1 cont' ∧ cont'.length = cont.length + j ∧ p ≤ p' ∧ p' ≤ p + 110 * j
def BagPost (rs : List Row) : Prop := rs.length ≤ 6 ∧ ∀ r ∈ rs, GR r.vs
end Go.Proofs.Ytfbjbkkcilhgjaa.PE
/- Versions that are swept: both functions. -/
set_option linter.unusedSimpArgs false
set_option linter.unusedVariables false
set_option maxHeartbeats 4000000
set_option maxRecDepth 20000
namespace Go.Proofs.Ytfbjbkkcilhgjaa.PE
open Go.RowKit


def gone (t : Int) (x : Ver) : Bool := !decide (x.died = 0) && decide (x.died ≤ t)
def swept (t : Int) (l : List Ver) : List Ver := l.filter fun x => !gone t x
def sweptStep (t : Int) (b : List Ver) (x : Ver) : List Ver := if x.died = 0 ∨ t < x.died then b ++ [x.plain] else b
end Go.Proofs.Ytfbjbkkcilhgjaa.PE
/- What is swept away could not be seen: in plain words. -/
set_option linter.unusedSimpArgs false
set_option linter.unusedVariables false
namespace Go.Proofs.Ytfbjbkkcilhgjaa.PE
open Go.RowKit

theorem ordS_iff (w v : Ver) : ordS w v = true ↔ ¬ (v.key ≤ w.key ∧ (v.key < w.key ∨ w.died = 0 ∨ v.born < w.died)) := by
  simp only [ordS, Bool.not_eq_true', Bool.and_eq_false_iff, Bool.or_eq_false_iff, decide_eq_false_iff_not]
  omega
theorem ord_trans {a b c : Ver} (hb : b.one = true) (h1 : ordS a b = true) (h2 : ordS b c = true) : ordS a c = true := by
  have hb' : b.died = 0 ∨ b.born + 1 ≤ b.died := by
    simp only [Ver.one, Bool.and_eq_true, Bool.or_eq_true, decide_eq_true_eq] at hb
    omega
  rw [ordS_iff] at h1 h2 ⊢
  omega
theorem prevs_pwV : ∀ (l : List Ver) (o : Option Ver), (prevs o l).all (okBy ordS) = true ↔ (∀ e ∈ l, e.one = true) ∧ (∀ q, o = some q → ∀ e ∈ l, ordS q e = true) ∧ l.Pairwise (fun a b => ordS a b = true)
  | [], o => by simp [prevs]
  | v :: r, o => by
    have ih := prevs_pwV r (some v)
    simp only [prevs, List.all_cons, Bool.and_eq_true, okBy, ih, List.pairwise_cons, List.mem_cons, forall_eq_or_imp, Option.some.injEq, forall_eq']
    constructor
    · rintro ⟨⟨h1, h2⟩, h3, h4, h5⟩
      refine ⟨⟨h1, h3⟩, fun q hq => ?_, h4, h5⟩
      subst hq
      exact ⟨h2, fun e he => ord_trans h1 h2 (h4 e he)⟩
    · rintro ⟨⟨h1, h3⟩, h2, h4, h5⟩
      refine ⟨⟨h1, ?_⟩, h3, h4, h5⟩
      cases o with
      | none => rfl
      | some q => exact (h2 q rfl).1
theorem versOk_iff (l : List Ver) : versOk l = true ↔ (∀ e ∈ l, e.one = true) ∧ l.Pairwise (fun a b => ordS a b = true) ∧ l.length ≤ 60 := by
  unfold versOk
  rw [Bool.and_eq_true, prevs_pwV, decide_eq_true_eq]
  constructor
  · rintro ⟨⟨h1, _, h3⟩, h4⟩
    exact ⟨h1, h3, by omega⟩
  · rintro ⟨h1, h3, h4⟩
    exact ⟨⟨h1, (fun q hq => by cases hq), h3⟩, by omega⟩
end Go.Proofs.Ytfbjbkkcilhgjaa.PE
/- Indexes that are drawn: the index of versions. -/
set_option linter.unusedSimpArgs false
set_option linter.unusedVariables false
set_option maxHeartbeats 4000000
set_option maxRecDepth 20000
namespace Go.Proofs.Ytfbjbkkcilhgjaa.PE
open Go.RowKit

def Held6 (h : Heap) (v : V) (l : List Mk) : Prop := (v = .sl true 6 [] ∧ l = []) ∨ ∃ id st, v = .ref id st 0 l.length false ∧ h[id]? = some (.rows st 6 (l.map Mk.cells))
theorem v0_ok {v : Ver} (h : v.one = true) (hs : short v.row.vs) : (v0 v.row.vs).ok = true ∧ (v0 v.row.vs).s.size < 1099511627776 := by
  unfold Ver.one rowOk at h
  simp only [Bool.and_eq_true] at h
  have ha := h.2.2.2.1
  obtain ⟨key, born, died, ⟨rc, vs⟩⟩ := v
  simp only at ha hs ⊢
  cases vs with
  | nil => exact ⟨by decide, by decide⟩
  | cons x r => exact ⟨List.all_eq_true.1 ha x (by simp), hs x (by simp)⟩
-- find148
theorem loop_idxOf (d : Nat) (c : Bool) (l : List Ver) (hs : l.length ≤ 100) (hsh : ShortVs l) (h1 : ∀ v ∈ l, v.one = true) (hv : retP (runD tab noExt (d + 7)) 62 [.sl c 4 (l.map Ver.cells)] = some [.bool true]) : ∃ (h : Heap) (v : V) (ms : List Mk), LoopK (runD tab noExt (d + 7)) (drawI (runD tab noExt (d + 7))) [0, 3, 4] [3] L148x0 1099511627775 [(0, .sl c 4 (l.map Ver.cells)), (3, .sl true 6 []), (4, .int .i64 0)] [] = some (.exit 0, [(3, v)], h) ∧ Held6 h v ms ∧ GMs l.length ms := by
  obtain ⟨⟨h, v, ms⟩, ⟨g0, g1⟩, e⟩ := LoopK_inv (run := runD tab noExt (d + 7)) (draw := drawI (runD tab noExt (d + 7))) (live := [0, 3, 4]) (out := [3]) (c := L148x0) l.length
    (fun i (b : Heap × V × List Mk) => Held6 b.1 b.2.1 b.2.2 ∧ GMs i b.2.2)
    (fun i b => [(0, .sl c 4 (l.map Ver.cells)), (3, b.2.1), (4, .int .i64 (i : Nat))]) (fun b => b.1) (fun b => some (.exit 0, [(3, b.2.1)], b.1))
    (fun b K hb => by
      rw [LoopK_eq]
      simp -implicitDefEqProofs only [go_sem, Nat.reduceBEq, Nat.reduceAdd, Nat.reduceSub, Nat.reduceMul, Nat.reduceLeDiff, Nat.reduceEqDiff, Nat.reduceLT, Int.reduceNeg, Int.reduceAdd, Int.reduceSub, Int.reduceMul, Int.reduceLE, Int.reduceLT, Int.reduceEq, Int.reduceToNat, reduceCtorEq, evL148x0, B148x0, Int.lt_irrefl]) (fun i b K hi hb => by
      obtain ⟨h, v, ms⟩ := b
      obtain ⟨g0, g⟩ := hb
      simp only at g0 g ⊢
      have hx := List.getElem?_eq_getElem hi
      generalize l[i] = x at hx
      have hm := List.mem_of_getElem? hx
      have hok := v0_ok (h1 x hm) (hsh x hm).2
      have hval := run_l31Value (d + 6) x.row.clip x.row.vs (hsh x hm).1
      have hi' : (i : Int) < l.length := by omega
      obtain ⟨key, born, died, ⟨rc, vs⟩⟩ := x
      simp only at hok hval
      generalize v0 vs = y at hok hval
      rcases g0 with ⟨rfl, rfl⟩ | ⟨id, st, rfl, hid⟩
      · obtain ⟨l2, id2, st2, hc, eP, e2, g2⟩ := run_put (d + 1) true [] ⟨y, key, born, died⟩ g (by omega) hok
        refine ⟨((h ++ [Blk.box (Ver.cells ⟨key, born, died, ⟨rc, vs⟩⟩)]) ++ [Blk.rows 0 6 (l2.map Mk.cells)], V.ref (h.length + 1) 0 0 l2.length false, l2), ⟨.inr ⟨h.length + 1, 0, rfl, by simp⟩, g2⟩, ?_⟩
        simp only [Mk.cells, List.map_nil] at eP
        rw [LoopK_eq]
        simp -implicitDefEqProofs (disch := omega) only [go_sem, Nat.reduceBEq, Nat.reduceAdd, Nat.reduceSub, Nat.reduceMul, Nat.reduceLeDiff, Nat.reduceEqDiff, Nat.reduceLT, Int.reduceNeg, Int.reduceAdd, Int.reduceSub, Int.reduceMul, Int.reduceLE, Int.reduceLT, Int.reduceEq, Int.reduceToNat, reduceCtorEq, evL148x0, B148x0, evC_draw, evD148x0, E148x0, hi', hx, hv, hval, Ver.cells, Row.v, Val.cells, eP, e2, take_map_len, at_end, at_end_add, set_end, set_end_add, List.append_assoc, List.cons_append, List.nil_append, refsAs, refsA, refC, refsV, refs, frzs, frz1, List.flatMap_cons, List.flatMap_nil, IntWalk.i64_in]
      · obtain ⟨l2, id2, st2, hc, eP, e2, g2⟩ := run_put (d + 1) false ms ⟨y, key, born, died⟩ g (by omega) hok
        have hlt : id < h.length := (List.getElem?_eq_some_iff.1 hid).1
        have hidA : ∀ r : Heap, (h ++ r)[id]? = some (.rows st 6 (ms.map Mk.cells)) := fun r => by rw [List.getElem?_append_left hlt]; exact hid
        refine ⟨((h ++ [Blk.box (Ver.cells ⟨key, born, died, ⟨rc, vs⟩⟩)]).set id (Blk.frz st 6 (ms.map Mk.cells)) ++ [Blk.rows 0 6 (l2.map Mk.cells)], V.ref (h.length + 1) 0 0 l2.length false, l2), ⟨.inr ⟨h.length + 1, 0, rfl, by simp⟩, g2⟩, ?_⟩
        simp only [Mk.cells] at eP
        rw [LoopK_eq]
        simp -implicitDefEqProofs (disch := omega) only [go_sem, Nat.reduceBEq, Nat.reduceAdd, Nat.reduceSub, Nat.reduceMul, Nat.reduceLeDiff, Nat.reduceEqDiff, Nat.reduceLT, Int.reduceNeg, Int.reduceAdd, Int.reduceSub, Int.reduceMul, Int.reduceLE, Int.reduceLT, Int.reduceEq, Int.reduceToNat, reduceCtorEq, evL148x0, B148x0, evC_draw, evD148x0, E148x0, hi', hx, hv, hval, hid, hidA, Ver.cells, Row.v, Val.cells, eP, e2, take_map_len, at_end, at_end_add, set_end, set_end_add, List.append_assoc, List.cons_append, List.nil_append, List.length_set, refsAs, refsA, refC, refsV, refs, frzs, frz1, List.flatMap_cons, List.flatMap_nil, IntWalk.i64_in]) 1099511627775 (by omega) ([], .sl true 6 [], []) ⟨.inl ⟨rfl, rfl⟩, by simp, fun _ h => by (cases h)⟩
  exact ⟨h, v, ms, e, g0, g1⟩
theorem run_IndexOf (d : Nat) (c : Bool) (l : List Ver) (hs : l.length ≤ 100) (hsh : ShortVs l) : ∃ (h : Heap) (v : V) (ms : List Mk), runD tab noExt (d + 8) 148 [.sl c 4 (l.map Ver.cells)] [] = some ([v], h) ∧ Held6 h v ms ∧ GMs l.length ms := by
  have hv := run_versS (d + 2) c l (by omega) hsh
  cases hok : versOk l
  · rw [hok] at hv
    have hl : LoopK (runD tab noExt (d + 7)) (drawI (runD tab noExt (d + 7))) [0, 3, 4] [3] L148x0 1099511627775 [(0, .sl c 4 (l.map Ver.cells)), (3, .sl true 6 []), (4, .int .i64 0)] [] = some (.exit 0, [(3, .sl true 6 [])], []) := by
      rw [LoopK_eq]
      by_cases h0 : (0 : Int) < l.length
      · simp -implicitDefEqProofs (disch := omega) only [go_sem, Nat.reduceBEq, Nat.reduceAdd, Nat.reduceSub, Nat.reduceMul, Nat.reduceLeDiff, Nat.reduceEqDiff, Nat.reduceLT, Int.reduceNeg, Int.reduceAdd, Int.reduceSub, Int.reduceMul, Int.reduceLE, Int.reduceLT, Int.reduceEq, Int.reduceToNat, reduceCtorEq, evL148x0, B148x0, hv, h0]
      · simp -implicitDefEqProofs (disch := omega) only [go_sem, Nat.reduceBEq, Nat.reduceAdd, Nat.reduceSub, Nat.reduceMul, Nat.reduceLeDiff, Nat.reduceEqDiff, Nat.reduceLT, Int.reduceNeg, Int.reduceAdd, Int.reduceSub, Int.reduceMul, Int.reduceLE, Int.reduceLT, Int.reduceEq, Int.reduceToNat, reduceCtorEq, evL148x0, B148x0, hv, h0]
    refine ⟨[], .sl true 6 [], [], ?_, .inl ⟨rfl, rfl⟩, by simp, fun _ h => by (cases h)⟩
    rw [runD_eq find148 _ _ _ (by simp)]
    simp -implicitDefEqProofs (disch := omega) only [go_sem, Nat.reduceBEq, Nat.reduceAdd, Nat.reduceSub, Nat.reduceMul, Nat.reduceLeDiff, Nat.reduceEqDiff, Nat.reduceLT, Int.reduceNeg, Int.reduceAdd, Int.reduceSub, Int.reduceMul, Int.reduceLE, Int.reduceLT, Int.reduceEq, Int.reduceToNat, reduceCtorEq, elemsOf, frzs, List.flatMap_nil]
    try simp -implicitDefEqProofs only [go_sem, Nat.reduceBEq, Nat.reduceAdd, Nat.reduceSub, Nat.reduceMul, Nat.reduceLeDiff, Nat.reduceEqDiff, Nat.reduceLT, Int.reduceNeg, Int.reduceAdd, Int.reduceSub, Int.reduceMul, Int.reduceLE, Int.reduceLT, Int.reduceEq, Int.reduceToNat, reduceCtorEq] at hl
    rw [hl]
    simp -implicitDefEqProofs (disch := omega) only [go_sem, Nat.reduceBEq, Nat.reduceAdd, Nat.reduceSub, Nat.reduceMul, Nat.reduceLeDiff, Nat.reduceEqDiff, Nat.reduceLT, Int.reduceNeg, Int.reduceAdd, Int.reduceSub, Int.reduceMul, Int.reduceLE, Int.reduceLT, Int.reduceEq, Int.reduceToNat, reduceCtorEq]
  · rw [hok] at hv
    obtain ⟨h, v, ms, e, g0, g1⟩ := loop_idxOf d c l hs hsh ((versOk_iff l).1 hok).1 hv
    refine ⟨h, v, ms, ?_, g0, g1⟩
    rw [runD_eq find148 _ _ _ (by simp)]
    simp -implicitDefEqProofs (disch := omega) only [go_sem, Nat.reduceBEq, Nat.reduceAdd, Nat.reduceSub, Nat.reduceMul, Nat.reduceLeDiff, Nat.reduceEqDiff, Nat.reduceLT, Int.reduceNeg, Int.reduceAdd, Int.reduceSub, Int.reduceMul, Int.reduceLE, Int.reduceLT, Int.reduceEq, Int.reduceToNat, reduceCtorEq, elemsOf, frzs, List.flatMap_nil]
    try simp -implicitDefEqProofs only [go_sem, Nat.reduceBEq, Nat.reduceAdd, Nat.reduceSub, Nat.reduceMul, Nat.reduceLeDiff, Nat.reduceEqDiff, Nat.reduceLT, Int.reduceNeg, Int.reduceAdd, Int.reduceSub, Int.reduceMul, Int.reduceLE, Int.reduceLT, Int.reduceEq, Int.reduceToNat, reduceCtorEq] at e
    rw [e]
    simp -implicitDefEqProofs (disch := omega) only [go_sem, Nat.reduceBEq, Nat.reduceAdd, Nat.reduceSub, Nat.reduceMul, Nat.reduceLeDiff, Nat.reduceEqDiff, Nat.reduceLT, Int.reduceNeg, Int.reduceAdd, Int.reduceSub, Int.reduceMul, Int.reduceLE, Int.reduceLT, Int.reduceEq, Int.reduceToNat, reduceCtorEq]
end Go.Proofs.Ytfbjbkkcilhgjaa.PE
/- Indexes that are drawn. -/
set_option linter.unusedSimpArgs false
set_option linter.unusedVariables false
set_option maxHeartbeats 4000000
set_option maxRecDepth 20000
namespace Go.Proofs.Ytfbjbkkcilhgjaa.PE
open Go.RowKit

theorem ShortM.put {l : List Mk} {i : Nat} {y : Mk} (h : ShortM l) (hy : y.v.s.size < 1099511627776) : ShortM (l.set i y) := by
  intro t ht
  rcases List.mem_or_eq_of_mem_set ht with ht | rfl
  · exact h t ht
  · exact hy
theorem mcells_set (l : List Mk) (i : Nat) (k n : Int) (s : ByteArray) (a b c : Int) : (l.map Mk.cells).set i [.int .i64 k, .int .i64 n, .str s, .int .i64 a, .int .i64 b, .int .i64 c] = (l.set i ⟨⟨k, n, s⟩, a, b, c⟩).map Mk.cells := by rw [List.map_set]; rfl
theorem mtake_set (l : List Mk) (i : Nat) (y : Mk) : List.take l.length ((l.set i y).map Mk.cells) = (l.set i y).map Mk.cells := List.take_of_length_le (by simp)
-- find95
theorem ex_index {d : Nat} {hp t : Heap} {c : Bool} {bs : List UInt8} {p n : Int} {X : Option (V × Heap)} (hx : callS (runD tab noExt (d + 10)) (hp ++ .box [.sl c 1 (cellsOfBytes bs), .int .i64 (p)] :: t) 95 [.ptr hp.length 0 0 0, .int .i64 n] false = X)
    (hp0 : 0 ≤ p) (hq : p ≤ 1099200000000) (hb : bs.length ≤ 2000) (hhp : plainH hp = true) (ht : plainH t = true) :
    ∃ (cl : Bool) (l : List Mk) (time p' : Int), X = some (.tup [.sl cl 6 (l.map Mk.cells), .int .i64 time], hp ++ .box [.sl c 1 (cellsOfBytes bs), .int .i64 (p')] :: t) ∧ ShortM l ∧ l.length ≤ 32 ∧ 1 ≤ time ∧ time ≤ 30 ∧ p ≤ p' ∧ p' ≤ p + 1000 := by
  subst hx
  have hh : ∀ n, t.all (hiB n) = true := fun n => plainH_hi ht n
  have hhq : ∀ n, hp.all (hiB n) = true := fun n => plainH_hi hhp n
  rw [callS_eq, runD_eq find95 _ _ _ (by simp)]
  simp -implicitDefEqProofs (disch := omega) only [go_sem, Nat.reduceBEq, Nat.reduceAdd, Nat.reduceSub, Nat.reduceMul, Nat.reduceLeDiff, Nat.reduceEqDiff, Nat.reduceLT, Int.reduceNeg, Int.reduceAdd, Int.reduceSub, Int.reduceMul, Int.reduceLE, Int.reduceLT, Int.reduceEq, Int.reduceToNat, reduceCtorEq, hh, hhq, List.all_append]
  generalize hx : callS (runD tab noExt _) _ 59 _ false = X
  obtain ⟨vs, time, p1, rfl, a1, a2, a3, a4, a5⟩ := ex_versions hx (by omega) (by omega) hb hhp (by simp only [ht, plainH_nil, plainH_cons, plainH_append, plainB, List.all_cons, List.all_nil, Bool.and_self, Bool.and_true])
  clear hx
  obtain ⟨hc, v, l, eT, hv, g⟩ := run_IndexOf (d + 1) false vs (by have := a3.1; omega) a3.short.1
  have gl : l.length ≤ 31 := Nat.le_trans g.1 a3.1
  have gs : ShortM l := fun m hm => (g.2 m hm).2
  have eR : ∀ H : Heap, RetPk (runD tab noExt (d + 9) 148 [.sl false 4 (vs.map Ver.cells)] []) H [.sl false 4 (vs.map Ver.cells)] = some (.ref H.length 0 0 l.length false, H ++ [.rows 0 6 (l.map Mk.cells)]) := by
    intro H
    rw [eT]
    rcases hv with ⟨rfl, rfl⟩ | ⟨id, st, rfl, hid⟩
    · simp -implicitDefEqProofs (disch := omega) only [go_sem, Nat.reduceBEq, Nat.reduceAdd, Nat.reduceSub, Nat.reduceMul, Nat.reduceLeDiff, Nat.reduceEqDiff, Nat.reduceLT, Int.reduceNeg, Int.reduceAdd, Int.reduceSub, Int.reduceMul, Int.reduceLE, Int.reduceLT, Int.reduceEq, Int.reduceToNat, reduceCtorEq, List.map_nil]
    · simp -implicitDefEqProofs (disch := omega) only [go_sem, Nat.reduceBEq, Nat.reduceAdd, Nat.reduceSub, Nat.reduceMul, Nat.reduceLeDiff, Nat.reduceEqDiff, Nat.reduceLT, Int.reduceNeg, Int.reduceAdd, Int.reduceSub, Int.reduceMul, Int.reduceLE, Int.reduceLT, Int.reduceEq, Int.reduceToNat, reduceCtorEq, hid, refsAs, refsA, refC, frzs, frz1, List.flatMap_cons, List.flatMap_nil, take_map_len]
  clear eT hv g
  simp -implicitDefEqProofs (disch := omega) only [go_sem, Nat.reduceBEq, Nat.reduceAdd, Nat.reduceSub, Nat.reduceMul, Nat.reduceLeDiff, Nat.reduceEqDiff, Nat.reduceLT, Int.reduceNeg, Int.reduceAdd, Int.reduceSub, Int.reduceMul, Int.reduceLE, Int.reduceLT, Int.reduceEq, Int.reduceToNat, reduceCtorEq, hh, hhq, List.all_append, eR]
  cases hl0 : l with
  | nil =>
    simp -implicitDefEqProofs (disch := omega) only [go_sem, Nat.reduceBEq, Nat.reduceAdd, Nat.reduceSub, Nat.reduceMul, Nat.reduceLeDiff, Nat.reduceEqDiff, Nat.reduceLT, Int.reduceNeg, Int.reduceAdd, Int.reduceSub, Int.reduceMul, Int.reduceLE, Int.reduceLT, Int.reduceEq, Int.reduceToNat, reduceCtorEq, hh, hhq, List.all_append, List.map_nil, Int.natCast_zero, Int.lt_irrefl]
    exact ⟨false, [], time, p1, rfl, fun _ h => (by cases h), by simp, a4, a5, by omega, by omega⟩
  | cons x0 l0 =>
  rw [← hl0]
  have hpos : 0 < l.length := by rw [hl0]; simp
  clear hl0 eR
  have hpi : (0 : Int) < (l.length : Int) := by omega
  have s1 : l.length + 1 < 4294967296 := by omega
  have tk : List.take l.length (l.map Mk.cells) = l.map Mk.cells := List.take_of_length_le (by simp)
  simp -implicitDefEqProofs (disch := omega) only [go_sem, Nat.reduceBEq, Nat.reduceAdd, Nat.reduceSub, Nat.reduceMul, Nat.reduceLeDiff, Nat.reduceEqDiff, Nat.reduceLT, Int.reduceNeg, Int.reduceAdd, Int.reduceSub, Int.reduceMul, Int.reduceLE, Int.reduceLT, Int.reduceEq, Int.reduceToNat, reduceCtorEq, hh, hhq, List.all_append, hpi]
  generalize hx : callS (runD tab noExt _) _ 119 _ false = X
  obtain ⟨b, p2, rfl, b1, b2, b3⟩ := ex_odd hx (by omega) (by omega) hb hhp (by simp only [ht, plainH_nil, plainH_cons, plainH_append, plainB, List.all_cons, List.all_nil, Bool.and_self, Bool.and_true])
  clear hx
  cases b
  · simp -implicitDefEqProofs (disch := omega) only [go_sem, Nat.reduceBEq, Nat.reduceAdd, Nat.reduceSub, Nat.reduceMul, Nat.reduceLeDiff, Nat.reduceEqDiff, Nat.reduceLT, Int.reduceNeg, Int.reduceAdd, Int.reduceSub, Int.reduceMul, Int.reduceLE, Int.reduceLT, Int.reduceEq, Int.reduceToNat, reduceCtorEq, hh, hhq, List.all_append, tk]
    exact ⟨false, l, time, p2, rfl, gs, by omega, a4, a5, by omega, by omega⟩
  simp -implicitDefEqProofs (disch := omega) only [go_sem, Nat.reduceBEq, Nat.reduceAdd, Nat.reduceSub, Nat.reduceMul, Nat.reduceLeDiff, Nat.reduceEqDiff, Nat.reduceLT, Int.reduceNeg, Int.reduceAdd, Int.reduceSub, Int.reduceMul, Int.reduceLE, Int.reduceLT, Int.reduceEq, Int.reduceToNat, reduceCtorEq, hh, hhq, List.all_append]
  generalize hx : callS (runD tab noExt _) _ 57 _ false = X
  obtain ⟨m, rfl, m1, m2⟩ := ex_pick hx (by omega) (by omega) hb hhp (by simp only [ht, plainH_nil, plainH_cons, plainH_append, plainB, List.all_cons, List.all_nil, Bool.and_self, Bool.and_true])
  clear hx
  have hlt : m.toNat < l.length := by omega
  have hm' : m < (l.length : Int) := by omega
  have hx1 := List.getElem?_eq_getElem hlt
  generalize l[m.toNat] = x at hx1
  have hxs := gs x (List.mem_of_getElem? hx1)
  obtain ⟨⟨xk, xn, xq⟩, xa, xb, xd⟩ := x
  simp only at hxs
  simp -implicitDefEqProofs (disch := omega) only [go_sem, Nat.reduceBEq, Nat.reduceAdd, Nat.reduceSub, Nat.reduceMul, Nat.reduceLeDiff, Nat.reduceEqDiff, Nat.reduceLT, Int.reduceNeg, Int.reduceAdd, Int.reduceSub, Int.reduceMul, Int.reduceLE, Int.reduceLT, Int.reduceEq, Int.reduceToNat, reduceCtorEq, hh, hhq, List.all_append]
  generalize hx : callS (runD tab noExt _) _ 57 _ false = X
  obtain ⟨q, rfl, q1, q2⟩ := ex_pick hx (by omega) (by omega) hb hhp (by simp only [ht, plainH_nil, plainH_cons, plainH_append, plainB, List.all_cons, List.all_nil, Bool.and_self, Bool.and_true])
  clear hx
  by_cases c0 : q = 0
  · subst c0
    simp -implicitDefEqProofs (disch := omega) only [go_sem, Nat.reduceBEq, Nat.reduceAdd, Nat.reduceSub, Nat.reduceMul, Nat.reduceLeDiff, Nat.reduceEqDiff, Nat.reduceLT, Int.reduceNeg, Int.reduceAdd, Int.reduceSub, Int.reduceMul, Int.reduceLE, Int.reduceLT, Int.reduceEq, Int.reduceToNat, reduceCtorEq, hh, hhq, List.all_append]
    generalize hx : callS (runD tab noExt _) _ 57 _ false = X
    obtain ⟨u, rfl, u1, u2⟩ := ex_pick hx (by omega) (by omega) hb hhp (by simp only [ht, plainH_nil, plainH_cons, plainH_append, plainB, List.all_cons, List.all_nil, Bool.and_self, Bool.and_true])
    clear hx
    simp -implicitDefEqProofs (disch := omega) only [go_sem, Nat.reduceBEq, Nat.reduceAdd, Nat.reduceSub, Nat.reduceMul, Nat.reduceLeDiff, Nat.reduceEqDiff, Nat.reduceLT, Int.reduceNeg, Int.reduceAdd, Int.reduceSub, Int.reduceMul, Int.reduceLE, Int.reduceLT, Int.reduceEq, Int.reduceToNat, reduceCtorEq, hh, hhq, List.all_append, hx1, hlt, m1, hm', Mk.cells, IntWalk.i64_in]
    rw [mcells_set, mtake_set]
    exact ⟨false, _, time, _, rfl, gs.put hxs, by simp; omega, a4, a5, by omega, by omega⟩
  by_cases c1 : q = 1
  · subst c1
    simp -implicitDefEqProofs (disch := omega) only [go_sem, Nat.reduceBEq, Nat.reduceAdd, Nat.reduceSub, Nat.reduceMul, Nat.reduceLeDiff, Nat.reduceEqDiff, Nat.reduceLT, Int.reduceNeg, Int.reduceAdd, Int.reduceSub, Int.reduceMul, Int.reduceLE, Int.reduceLT, Int.reduceEq, Int.reduceToNat, reduceCtorEq, hh, hhq, List.all_append]
    generalize hx : callS (runD tab noExt _) _ 149 _ false = X
    obtain ⟨w, p3, rfl, w1, w2, w3⟩ := ex_value hx (by omega) (by omega) hb hhp (by simp only [ht, plainH_nil, plainH_cons, plainH_append, plainB, List.all_cons, List.all_nil, Bool.and_self, Bool.and_true])
    clear hx
    have hws : w.s.size < 1099511627776 := by unfold GV at w3; omega
    obtain ⟨wk, wn, wq⟩ := w
    simp -implicitDefEqProofs (disch := omega) only [go_sem, Nat.reduceBEq, Nat.reduceAdd, Nat.reduceSub, Nat.reduceMul, Nat.reduceLeDiff, Nat.reduceEqDiff, Nat.reduceLT, Int.reduceNeg, Int.reduceAdd, Int.reduceSub, Int.reduceMul, Int.reduceLE, Int.reduceLT, Int.reduceEq, Int.reduceToNat, reduceCtorEq, hh, hhq, List.all_append, hx1, hlt, m1, hm', Mk.cells, Val.cells, Val.enc, IntWalk.i64_in]
    rw [mcells_set, mtake_set]
    exact ⟨false, _, time, _, rfl, gs.put hws, by simp; omega, a4, a5, by omega, by omega⟩
  · have e0 := (eq_false c0 : (q = 0) = False)
    have e1 := (eq_false c1 : (q = 1) = False)
    simp -implicitDefEqProofs (disch := omega) only [go_sem, Nat.reduceBEq, Nat.reduceAdd, Nat.reduceSub, Nat.reduceMul, Nat.reduceLeDiff, Nat.reduceEqDiff, Nat.reduceLT, Int.reduceNeg, Int.reduceAdd, Int.reduceSub, Int.reduceMul, Int.reduceLE, Int.reduceLT, Int.reduceEq, Int.reduceToNat, reduceCtorEq, hh, hhq, List.all_append, hx1, hlt, m1, hm', Mk.cells, IntWalk.i64_in, e0, e1, s1, elemsOf, elemOf, refs, refC, refsV, frzs, List.flatMap_cons, List.flatMap_nil]
    have ea : List.take (l.length + 1) (l.map Mk.cells ++ [[V.int .i64 xk, .int .i64 xn, .str xq, .int .i64 xa, .int .i64 xb, .int .i64 xd]]) = (l ++ [Mk.mk ⟨xk, xn, xq⟩ xa xb xd]).map Mk.cells := by
      rw [List.take_of_length_le (by simp), List.map_append]; rfl
    rw [ea]
    refine ⟨false, _, time, _, rfl, fun y hy => ?_, by simp; omega, a4, a5, by omega, by omega⟩
    rcases List.mem_append.1 hy with hy | hy
    · exact gs y hy
    · rw [List.mem_singleton.1 hy]; exact hxs
end Go.Proofs.Ytfbjbkkcilhgjaa.PE
