/- Texts of this claim, one behind the other: Pv1, Pv2, Pv3, Pv5, Pw1, Pl0, Pi1, Pu1, Pu2, Pu3, Pu4, Pu5, Pu6, Pn1, Pnr, Pq0, Png, Pnc, Pi6, Pv4, Pv7, Pv8, Pv9, Pr3, Pr1, Pi7, Pu7, Pu8, Pru, Psz, Pi2, Pvs, Pvt, Pvw, Pvx, Pvy, Pvr, Pi3, Pi8. -/
import Derived.Test.YtfbjbkkcilhgjaaPeT
import Derived.Test.YtfbjbkkcilhgjaaPeX
import Derived.IntWalk
import Derived.Test.YtfbjbkkcilhgjaaPeZ
/- Values of the tables: what the small functions come to. -/
set_option linter.unusedSimpArgs false
namespace Go.Proofs.Ytfbjbkkcilhgjaa.PE
open Go.RowKit

/-- A value. -/
structure Val where
  kind : Int
  n : Int
  s : ByteArray
  deriving DecidableEq

def Val.cells (v : Val) : List V := [.int .i64 v.kind, .int .i64 v.n, .str v.s]
def Val.enc (v : Val) : V := .agg [.int .i64 v.kind, .int .i64 v.n, .str v.s]

def letterB (b : UInt8) : Bool := decide (97 ≤ (b.toNat : Int) ∧ (b.toNat : Int) ≤ 122)
def lettersB (s : ByteArray) : Bool := s.data.toList.all letterB

/-- Is a value one? -/
def Val.ok (v : Val) : Bool :=
  if v.kind = 0 then decide (v.n = 0) && decide (v.s = ⟨#[]⟩)
  else if v.kind = 1 then decide (v.s = ⟨#[]⟩) && (decide (-9999 ≤ v.n) && decide (v.n ≤ 9999))
  else if v.kind = 2 then decide (v.n = 0) && decide ((v.s.size : Int) ≤ 6) && lettersB v.s
  else if v.kind = 3 then decide (v.s = ⟨#[]⟩) && (decide (0 ≤ v.n) && decide (v.n ≤ 1))
  else false

theorem run_between (d : Nat) (n lo hi : Int) : retP (runD tab noExt (d + 1)) 79 [.int .i64 n, .int .i64 lo, .int .i64 hi] = some [.bool (decide (lo ≤ n ∧ n ≤ hi))] := by
  rw [retP, runD_eq find79 _ _ _ (by simp)]
  simp -implicitDefEqProofs (disch := omega) only [go_sem, Nat.reduceBEq, Nat.reduceAdd, Nat.reduceSub, Nat.reduceMul, Nat.reduceLeDiff, Nat.reduceEqDiff, Nat.reduceLT, Int.reduceNeg, Int.reduceAdd, Int.reduceSub, Int.reduceMul, Int.reduceLE, Int.reduceLT, Int.reduceEq, Int.reduceToNat, reduceCtorEq]
  repeat' ((first | rw [GuardI_ndec] | rw [CondC_ndec] | rw [GuardQ_ndec] | rw [GuardI_dec] | rw [CondC_dec] | rw [GuardQ_dec] | rw [GuardI_nby] | rw [CondC_nby] | rw [GuardQ_nby] | rw [GuardQ_by] | rw [GuardI_by] | rw [CondC_by]) <;> split <;> simp -implicitDefEqProofs (disch := omega) only [go_sem, Nat.reduceBEq, Nat.reduceAdd, Nat.reduceSub, Nat.reduceMul, Nat.reduceLeDiff, Nat.reduceEqDiff, Nat.reduceLT, Int.reduceNeg, Int.reduceAdd, Int.reduceSub, Int.reduceMul, Int.reduceLE, Int.reduceLT, Int.reduceEq, Int.reduceToNat, reduceCtorEq, *])
  all_goals simp_all
theorem run_l1In (d : Nat) (n lo hi : Int) : retP (runD tab noExt (d + 1)) 84 [.int .i64 n, .int .i64 lo, .int .i64 hi] = some [.bool (decide (lo ≤ n ∧ n ≤ hi))] := by
  rw [retP, runD_eq find84 _ _ _ (by simp)]
  simp -implicitDefEqProofs (disch := omega) only [go_sem, Nat.reduceBEq, Nat.reduceAdd, Nat.reduceSub, Nat.reduceMul, Nat.reduceLeDiff, Nat.reduceEqDiff, Nat.reduceLT, Int.reduceNeg, Int.reduceAdd, Int.reduceSub, Int.reduceMul, Int.reduceLE, Int.reduceLT, Int.reduceEq, Int.reduceToNat, reduceCtorEq]
  repeat' ((first | rw [GuardI_ndec] | rw [CondC_ndec] | rw [GuardQ_ndec] | rw [GuardI_dec] | rw [CondC_dec] | rw [GuardQ_dec] | rw [GuardI_nby] | rw [CondC_nby] | rw [GuardQ_nby] | rw [GuardQ_by] | rw [GuardI_by] | rw [CondC_by]) <;> split <;> simp -implicitDefEqProofs (disch := omega) only [go_sem, Nat.reduceBEq, Nat.reduceAdd, Nat.reduceSub, Nat.reduceMul, Nat.reduceLeDiff, Nat.reduceEqDiff, Nat.reduceLT, Int.reduceNeg, Int.reduceAdd, Int.reduceSub, Int.reduceMul, Int.reduceLE, Int.reduceLT, Int.reduceEq, Int.reduceToNat, reduceCtorEq, *])
  all_goals simp_all

theorem str_len (s : ByteArray) : s.data.toList.length = s.size := by rw [Array.length_toList]; rfl
/-- From an index on to the end. -/
theorem drop_ind {α : Type} (l : List α) (M : Nat → List α → Prop) (h0 : M l.length []) (h1 : ∀ i x r, i < l.length → l[i]? = some x → M (i + 1) r → M i (x :: r)) : ∀ rest i, l.drop i = rest → i ≤ l.length → M i rest
  | [], i, hd, hi => by
    have := List.drop_eq_nil_iff.1 hd
    have e : i = l.length := by omega
    subst e
    exact h0
  | x :: r, i, hd, hi => by
    have hlt : i < l.length := by
      rcases Nat.lt_or_ge i l.length with h2 | h2
      · exact h2
      · rw [List.drop_eq_nil_of_le h2] at hd; cases hd
    have hx : l[i]? = some x := by rw [← List.head?_drop, hd]; rfl
    have hr : l.drop (i + 1) = r := by rw [← List.drop_drop, hd]; rfl
    exact h1 i x r hlt hx (drop_ind l M h0 h1 r (i + 1) hr (by omega))

theorem ofBytes_at {l : List UInt8} {i : Nat} {b : UInt8} (h : l[i]? = some b) : (cellsOfBytes l)[i]? = some [.int .u8 b.toNat] := by simp [cellsOfBytes, h]

theorem loop_letters (d : Nat) (draw : Draw) (l : List UInt8) (hl : l.length < 1099511627776) : ∀ (rest : List UInt8) (i : Nat), l.drop i = rest → i ≤ l.length → ∀ k, rest.length ≤ k →
    LoopS (runD tab noExt (d + 1)) draw [6, 7, 8] [2] L150x0 0 k [(6, .sl false 1 (cellsOfBytes l)), (7, .int .i64 l.length), (8, .int .i64 i)] [] =
    if rest.all letterB then some (.exit 0, [(2, .undef)], []) else some (.ret, [(2, .bool false)], []) := by
  refine drop_ind l (fun i rest => _) ?_ ?_
  · intro k hk
    rw [LoopS_eq]
    simp [go_sem, Nat.reduceBEq, Nat.reduceAdd, Nat.reduceSub, Nat.reduceMul, Nat.reduceLeDiff, Nat.reduceEqDiff, Nat.reduceLT, Int.reduceNeg, Int.reduceAdd, Int.reduceSub, Int.reduceMul, Int.reduceLE, Int.reduceLT, Int.reduceEq, Int.reduceToNat, reduceCtorEq, evL150x0, B150x0, Int.lt_irrefl]
  · intro i b r hlt hb ih k hk
    have hi : (i : Int) < l.length := by omega
    have hb8 := b.toNat_lt
    obtain ⟨k, rfl⟩ : ∃ k', k = k' + 1 := ⟨k - 1, by simp at hk; omega⟩
    have ih' := ih k (by simp at hk; omega)
    simp only [Int.natCast_add, Int.natCast_one] at ih'
    rw [LoopS_eq]
    simp -implicitDefEqProofs (disch := omega) only [go_sem, Nat.reduceBEq, Nat.reduceAdd, Nat.reduceSub, Nat.reduceMul, Nat.reduceLeDiff, Nat.reduceEqDiff, Nat.reduceLT, Int.reduceNeg, Int.reduceAdd, Int.reduceSub, Int.reduceMul, Int.reduceLE, Int.reduceLT, Int.reduceEq, Int.reduceToNat, reduceCtorEq, evL150x0, B150x0, hi, ofBytes_at hb, run_between, IntWalk.i64_in]
    have e1 : letterB b = decide (97 ≤ (b.toNat : Int) ∧ (b.toNat : Int) ≤ 122) := rfl
    rw [← e1]
    rcases Bool.eq_false_or_eq_true (letterB b) with hlb | hlb
    · simp -implicitDefEqProofs (disch := omega) only [go_sem, Nat.reduceBEq, Nat.reduceAdd, Nat.reduceSub, Nat.reduceMul, Nat.reduceLeDiff, Nat.reduceEqDiff, Nat.reduceLT, Int.reduceNeg, Int.reduceAdd, Int.reduceSub, Int.reduceMul, Int.reduceLE, Int.reduceLT, Int.reduceEq, Int.reduceToNat, reduceCtorEq, hlb, IntWalk.i64_in, ih']
    · simp -implicitDefEqProofs only [go_sem, Nat.reduceBEq, Nat.reduceAdd, Nat.reduceSub, Nat.reduceMul, Nat.reduceLeDiff, Nat.reduceEqDiff, Nat.reduceLT, Int.reduceNeg, Int.reduceAdd, Int.reduceSub, Int.reduceMul, Int.reduceLE, Int.reduceLT, Int.reduceEq, Int.reduceToNat, reduceCtorEq, hlb]

theorem loop_l1Text (d : Nat) (draw : Draw) (s : ByteArray) (hl : s.size < 1099511627776) : ∀ (rest : List UInt8) (i : Nat), s.data.toList.drop i = rest → i ≤ s.data.toList.length → ∀ k, rest.length ≤ k →
    LoopS (runD tab noExt d) draw [0, 3] [0, 2] L152x0 0 k [(0, .str s), (3, .int .i64 i)] [] =
    if rest.all letterB then some (.exit 0, [(0, .str s), (2, .undef)], []) else some (.ret, [(0, .str s), (2, .bool false)], []) := by
  have hsz := str_len s
  refine drop_ind s.data.toList (fun i rest => _) ?_ ?_
  · intro k hk
    rw [LoopS_eq, hsz]
    simp [go_sem, Nat.reduceBEq, Nat.reduceAdd, Nat.reduceSub, Nat.reduceMul, Nat.reduceLeDiff, Nat.reduceEqDiff, Nat.reduceLT, Int.reduceNeg, Int.reduceAdd, Int.reduceSub, Int.reduceMul, Int.reduceLE, Int.reduceLT, Int.reduceEq, Int.reduceToNat, reduceCtorEq, evL152x0, B152x0, Int.lt_irrefl]
  · intro i b r hlt hb ih k hk
    have hi : (i : Int) < s.size := by omega
    have hb8 := b.toNat_lt
    obtain ⟨k, rfl⟩ : ∃ k', k = k' + 1 := ⟨k - 1, by simp at hk; omega⟩
    have ih' := ih k (by simp at hk; omega)
    simp only [Int.natCast_add, Int.natCast_one] at ih'
    rw [LoopS_eq]
    simp -implicitDefEqProofs (disch := omega) only [go_sem, Nat.reduceBEq, Nat.reduceAdd, Nat.reduceSub, Nat.reduceMul, Nat.reduceLeDiff, Nat.reduceEqDiff, Nat.reduceLT, Int.reduceNeg, Int.reduceAdd, Int.reduceSub, Int.reduceMul, Int.reduceLE, Int.reduceLT, Int.reduceEq, Int.reduceToNat, reduceCtorEq, evL152x0, B152x0, hi, hb, IntWalk.i64_in]
    have e1 : letterB b = decide (97 ≤ (b.toNat : Int) ∧ (b.toNat : Int) ≤ 122) := rfl
    by_cases h1 : (b.toNat : Int) < 97
    · have hlb : letterB b = false := by rw [e1]; simp; omega
      simp -implicitDefEqProofs (disch := omega) only [go_sem, Nat.reduceBEq, Nat.reduceAdd, Nat.reduceSub, Nat.reduceMul, Nat.reduceLeDiff, Nat.reduceEqDiff, Nat.reduceLT, Int.reduceNeg, Int.reduceAdd, Int.reduceSub, Int.reduceMul, Int.reduceLE, Int.reduceLT, Int.reduceEq, Int.reduceToNat, reduceCtorEq, h1, hlb]
    · by_cases h2 : 122 < (b.toNat : Int)
      · have hlb : letterB b = false := by rw [e1]; simp; omega
        simp -implicitDefEqProofs (disch := omega) only [go_sem, Nat.reduceBEq, Nat.reduceAdd, Nat.reduceSub, Nat.reduceMul, Nat.reduceLeDiff, Nat.reduceEqDiff, Nat.reduceLT, Int.reduceNeg, Int.reduceAdd, Int.reduceSub, Int.reduceMul, Int.reduceLE, Int.reduceLT, Int.reduceEq, Int.reduceToNat, reduceCtorEq, hb, h1, h2, hlb]
      · have hlb : letterB b = true := by rw [e1]; simp; omega
        simp -implicitDefEqProofs (disch := omega) only [go_sem, Nat.reduceBEq, Nat.reduceAdd, Nat.reduceSub, Nat.reduceMul, Nat.reduceLeDiff, Nat.reduceEqDiff, Nat.reduceLT, Int.reduceNeg, Int.reduceAdd, Int.reduceSub, Int.reduceMul, Int.reduceLE, Int.reduceLT, Int.reduceEq, Int.reduceToNat, reduceCtorEq, hb, h1, h2, hlb, IntWalk.i64_in, ih']

-- find150
theorem run_letters (d : Nat) (s : ByteArray) (hs : s.size < 1099511627776) : retP (runD tab noExt (d + 2)) 150 [.str s] = some [.bool (lettersB s)] := by
  rw [retP, runD_eq find150 _ _ _ (by simp)]
  have hl := loop_letters d (drawI (runD tab noExt (d + 1))) s.data.toList (by rw [str_len]; exact hs) s.data.toList 0 rfl (Nat.zero_le _) 1099511627775 (by rw [str_len]; omega)
  simp -implicitDefEqProofs only [go_sem, Nat.reduceBEq, Nat.reduceAdd, Nat.reduceSub, Nat.reduceMul, Nat.reduceLeDiff, Nat.reduceEqDiff, Nat.reduceLT, Int.reduceNeg, Int.reduceAdd, Int.reduceSub, Int.reduceMul, Int.reduceLE, Int.reduceLT, Int.reduceEq, Int.reduceToNat, reduceCtorEq, cellsOfBytes, List.length_map]
  simp only [cellsOfBytes, Int.natCast_zero] at hl
  rw [hl]
  split <;> simp -implicitDefEqProofs only [go_sem, Nat.reduceBEq, Nat.reduceAdd, Nat.reduceSub, Nat.reduceMul, Nat.reduceLeDiff, Nat.reduceEqDiff, Nat.reduceLT, Int.reduceNeg, Int.reduceAdd, Int.reduceSub, Int.reduceMul, Int.reduceLE, Int.reduceLT, Int.reduceEq, Int.reduceToNat, reduceCtorEq, lettersB, *]

theorem Val.eta (v : Val) : (⟨v.kind, v.n, v.s⟩ : Val) = v := rfl

theorem run_ok (d : Nat) (k n : Int) (s : ByteArray) : retP (runD tab noExt (d + 3)) 96 [.agg [.int .i64 k, .int .i64 n, .str s]] = some [.bool (Val.ok ⟨k, n, s⟩)] := by
  rw [retP, runD_eq find96 _ _ _ (by simp)]
  simp -implicitDefEqProofs (disch := omega) only [go_sem, Nat.reduceBEq, Nat.reduceAdd, Nat.reduceSub, Nat.reduceMul, Nat.reduceLeDiff, Nat.reduceEqDiff, Nat.reduceLT, Int.reduceNeg, Int.reduceAdd, Int.reduceSub, Int.reduceMul, Int.reduceLE, Int.reduceLT, Int.reduceEq, Int.reduceToNat, reduceCtorEq, run_between, run_letters]
  repeat' ((first | rw [GuardI_ndec] | rw [CondC_ndec] | rw [GuardQ_ndec] | rw [GuardI_dec] | rw [CondC_dec] | rw [GuardQ_dec] | rw [GuardI_nby] | rw [CondC_nby] | rw [GuardQ_nby] | rw [GuardQ_by] | rw [GuardI_by] | rw [CondC_by]) <;> split <;> simp -implicitDefEqProofs (disch := omega) only [go_sem, Nat.reduceBEq, Nat.reduceAdd, Nat.reduceSub, Nat.reduceMul, Nat.reduceLeDiff, Nat.reduceEqDiff, Nat.reduceLT, Int.reduceNeg, Int.reduceAdd, Int.reduceSub, Int.reduceMul, Int.reduceLE, Int.reduceLT, Int.reduceEq, Int.reduceToNat, reduceCtorEq, run_between, run_letters, *])
  all_goals (simp_all [Val.ok]; try omega)
theorem run_ValueOk (d : Nat) (k n : Int) (s : ByteArray) : retP (runD tab noExt (d + 4)) 72 [.agg [.int .i64 k, .int .i64 n, .str s]] = some [.bool (Val.ok ⟨k, n, s⟩)] := by
  rw [retP, runD_eq find72 _ _ _ (by simp)]
  simp -implicitDefEqProofs (disch := omega) only [go_sem, Nat.reduceBEq, Nat.reduceAdd, Nat.reduceSub, Nat.reduceMul, Nat.reduceLeDiff, Nat.reduceEqDiff, Nat.reduceLT, Int.reduceNeg, Int.reduceAdd, Int.reduceSub, Int.reduceMul, Int.reduceLE, Int.reduceLT, Int.reduceEq, Int.reduceToNat, reduceCtorEq, run_ok]
  repeat' ((first | rw [GuardI_ndec] | rw [CondC_ndec] | rw [GuardQ_ndec] | rw [GuardI_dec] | rw [CondC_dec] | rw [GuardQ_dec] | rw [GuardI_nby] | rw [CondC_nby] | rw [GuardQ_nby] | rw [GuardQ_by] | rw [GuardI_by] | rw [CondC_by]) <;> split <;> simp -implicitDefEqProofs (disch := omega) only [go_sem, Nat.reduceBEq, Nat.reduceAdd, Nat.reduceSub, Nat.reduceMul, Nat.reduceLeDiff, Nat.reduceEqDiff, Nat.reduceLT, Int.reduceNeg, Int.reduceAdd, Int.reduceSub, Int.reduceMul, Int.reduceLE, Int.reduceLT, Int.reduceEq, Int.reduceToNat, reduceCtorEq, run_ok, *])
  all_goals simp_all
theorem run_isNaNI (d : Nat) (a : Int) : retP (runD tab noExt (d + 1)) 183 [.int .i64 a] = some [.bool false] := by
  rw [retP, runD_eq find183 _ _ _ (by simp)]
  simp -implicitDefEqProofs (disch := omega) only [go_sem, Nat.reduceBEq, Nat.reduceAdd, Nat.reduceSub, Nat.reduceMul, Nat.reduceLeDiff, Nat.reduceEqDiff, Nat.reduceLT, Int.reduceNeg, Int.reduceAdd, Int.reduceSub, Int.reduceMul, Int.reduceLE, Int.reduceLT, Int.reduceEq, Int.reduceToNat, reduceCtorEq]
  repeat' ((first | rw [GuardI_ndec] | rw [CondC_ndec] | rw [GuardQ_ndec] | rw [GuardI_dec] | rw [CondC_dec] | rw [GuardQ_dec] | rw [GuardI_nby] | rw [CondC_nby] | rw [GuardQ_nby] | rw [GuardQ_by] | rw [GuardI_by] | rw [CondC_by]) <;> split <;> simp -implicitDefEqProofs (disch := omega) only [go_sem, Nat.reduceBEq, Nat.reduceAdd, Nat.reduceSub, Nat.reduceMul, Nat.reduceLeDiff, Nat.reduceEqDiff, Nat.reduceLT, Int.reduceNeg, Int.reduceAdd, Int.reduceSub, Int.reduceMul, Int.reduceLE, Int.reduceLT, Int.reduceEq, Int.reduceToNat, reduceCtorEq, *])
  all_goals simp_all
theorem run_isNaNS (d : Nat) (a : ByteArray) : retP (runD tab noExt (d + 1)) 187 [.str a] = some [.bool false] := by
  rw [retP, runD_eq find187 _ _ _ (by simp)]
  simp -implicitDefEqProofs (disch := omega) only [go_sem, Nat.reduceBEq, Nat.reduceAdd, Nat.reduceSub, Nat.reduceMul, Nat.reduceLeDiff, Nat.reduceEqDiff, Nat.reduceLT, Int.reduceNeg, Int.reduceAdd, Int.reduceSub, Int.reduceMul, Int.reduceLE, Int.reduceLT, Int.reduceEq, Int.reduceToNat, reduceCtorEq]
  repeat' ((first | rw [GuardI_ndec] | rw [CondC_ndec] | rw [GuardQ_ndec] | rw [GuardI_dec] | rw [CondC_dec] | rw [GuardQ_dec] | rw [GuardI_nby] | rw [CondC_nby] | rw [GuardQ_nby] | rw [GuardQ_by] | rw [GuardI_by] | rw [CondC_by]) <;> split <;> simp -implicitDefEqProofs (disch := omega) only [go_sem, Nat.reduceBEq, Nat.reduceAdd, Nat.reduceSub, Nat.reduceMul, Nat.reduceLeDiff, Nat.reduceEqDiff, Nat.reduceLT, Int.reduceNeg, Int.reduceAdd, Int.reduceSub, Int.reduceMul, Int.reduceLE, Int.reduceLT, Int.reduceEq, Int.reduceToNat, reduceCtorEq, *])
  all_goals simp_all

def cmpI (a b : Int) : Int := if a < b then -1 else if b < a then 1 else 0
def ltS (a b : ByteArray) : Bool := decide (a.data.toList < b.data.toList)
def cmpS (a b : ByteArray) : Int := if ltS a b then -1 else if ltS b a then 1 else 0
theorem str_lt (a b : ByteArray) : Op.bytesLess a.toList b.toList = ltS a b := by rw [bytes_less, ByteArray.toList_eq, ByteArray.toList_eq]; rfl
theorem str_gt (a b : ByteArray) : (!(ltS a b || decide (a = b))) = ltS b a := by
  unfold ltS
  by_cases h : a = b
  · subst h
    simp [List.lt_irrefl]
  · simp only [h, decide_false, Bool.or_false]
    have hne : a.data.toList ≠ b.data.toList := fun e => h (by
      cases a; cases b
      congr 1
      exact Array.toList_inj.1 e)
    by_cases h1 : a.data.toList < b.data.toList
    · have := List.lt_asymm h1
      simp [h1, this]
    · have h2 : b.data.toList ≤ a.data.toList := List.not_lt.1 h1
      have h3 : b.data.toList < a.data.toList := by
        rcases Classical.em (b.data.toList < a.data.toList) with h3 | h3
        · exact h3
        · exact absurd (List.le_antisymm (List.not_lt.1 h3) h2) hne
      simp [h1, h3]

theorem run_cmpI (d : Nat) (a b : Int) : retP (runD tab noExt (d + 2)) 147 [.int .i64 a, .int .i64 b] = some [.int .i64 (cmpI a b)] := by
  rw [retP, runD_eq find147 _ _ _ (by simp)]
  simp -implicitDefEqProofs (disch := omega) only [go_sem, Nat.reduceBEq, Nat.reduceAdd, Nat.reduceSub, Nat.reduceMul, Nat.reduceLeDiff, Nat.reduceEqDiff, Nat.reduceLT, Int.reduceNeg, Int.reduceAdd, Int.reduceSub, Int.reduceMul, Int.reduceLE, Int.reduceLT, Int.reduceEq, Int.reduceToNat, reduceCtorEq, run_isNaNI]
  repeat' ((first | rw [GuardI_ndec] | rw [CondC_ndec] | rw [GuardQ_ndec] | rw [GuardI_dec] | rw [CondC_dec] | rw [GuardQ_dec] | rw [GuardI_nby] | rw [CondC_nby] | rw [GuardQ_nby] | rw [GuardQ_by] | rw [GuardI_by] | rw [CondC_by]) <;> split <;> simp -implicitDefEqProofs (disch := omega) only [go_sem, Nat.reduceBEq, Nat.reduceAdd, Nat.reduceSub, Nat.reduceMul, Nat.reduceLeDiff, Nat.reduceEqDiff, Nat.reduceLT, Int.reduceNeg, Int.reduceAdd, Int.reduceSub, Int.reduceMul, Int.reduceLE, Int.reduceLT, Int.reduceEq, Int.reduceToNat, reduceCtorEq, run_isNaNI, *])
  all_goals (first | (simp_all [cmpI]; done) | (unfold cmpI; split <;> (try split) <;> simp_all <;> omega))
theorem run_cmpS (d : Nat) (a b : ByteArray) : retP (runD tab noExt (d + 2)) 154 [.str a, .str b] = some [.int .i64 (cmpS a b)] := by
  rw [retP, runD_eq find154 _ _ _ (by simp)]
  simp -implicitDefEqProofs (disch := omega) only [go_sem, Nat.reduceBEq, Nat.reduceAdd, Nat.reduceSub, Nat.reduceMul, Nat.reduceLeDiff, Nat.reduceEqDiff, Nat.reduceLT, Int.reduceNeg, Int.reduceAdd, Int.reduceSub, Int.reduceMul, Int.reduceLE, Int.reduceLT, Int.reduceEq, Int.reduceToNat, reduceCtorEq, run_isNaNS, str_lt, str_gt]
  repeat' ((first | rw [GuardI_ndec] | rw [CondC_ndec] | rw [GuardQ_ndec] | rw [GuardI_dec] | rw [CondC_dec] | rw [GuardQ_dec] | rw [GuardI_nby] | rw [CondC_nby] | rw [GuardQ_nby] | rw [GuardQ_by] | rw [GuardI_by] | rw [CondC_by]) <;> split <;> simp -implicitDefEqProofs (disch := omega) only [go_sem, Nat.reduceBEq, Nat.reduceAdd, Nat.reduceSub, Nat.reduceMul, Nat.reduceLeDiff, Nat.reduceEqDiff, Nat.reduceLT, Int.reduceNeg, Int.reduceAdd, Int.reduceSub, Int.reduceMul, Int.reduceLE, Int.reduceLT, Int.reduceEq, Int.reduceToNat, reduceCtorEq, run_isNaNS, str_lt, str_gt, *])
  all_goals (simp_all [cmpS]; try (have := str_gt a b; simp_all))

/-- The order of values. -/
def Val.cmp (v w : Val) : Int := if cmpI v.kind w.kind ≠ 0 then cmpI v.kind w.kind else if cmpI v.n w.n ≠ 0 then cmpI v.n w.n else cmpS v.s w.s

theorem run_Or3 (d : Nat) (a b c : Int) : retP (runD tab noExt (d + 1)) 145 [.sl true 1 [[.int .i64 a], [.int .i64 b], [.int .i64 c]]] = some [.int .i64 (if a ≠ 0 then a else if b ≠ 0 then b else c)] := by
  rw [retP, runD_eq find145 _ _ _ (by simp)]
  simp -implicitDefEqProofs (disch := omega) only [go_sem, Nat.reduceBEq, Nat.reduceAdd, Nat.reduceSub, Nat.reduceMul, Nat.reduceLeDiff, Nat.reduceEqDiff, Nat.reduceLT, Int.reduceNeg, Int.reduceAdd, Int.reduceSub, Int.reduceMul, Int.reduceLE, Int.reduceLT, Int.reduceEq, Int.reduceToNat, reduceCtorEq, LoopS_eq, evL145x0, B145x0, IntWalk.i64_in, Int.cast_ofNat_Int]
  repeat' ((first | rw [GuardI_ndec] | rw [CondC_ndec] | rw [GuardQ_ndec] | rw [GuardI_dec] | rw [CondC_dec] | rw [GuardQ_dec] | rw [GuardI_nby] | rw [CondC_nby] | rw [GuardQ_nby] | rw [GuardQ_by] | rw [GuardI_by] | rw [CondC_by]) <;> split <;> simp -implicitDefEqProofs (disch := omega) only [go_sem, Nat.reduceBEq, Nat.reduceAdd, Nat.reduceSub, Nat.reduceMul, Nat.reduceLeDiff, Nat.reduceEqDiff, Nat.reduceLT, Int.reduceNeg, Int.reduceAdd, Int.reduceSub, Int.reduceMul, Int.reduceLE, Int.reduceLT, Int.reduceEq, Int.reduceToNat, reduceCtorEq, LoopS_eq, evL145x0, B145x0, IntWalk.i64_in, Int.cast_ofNat_Int, *])
  all_goals simp_all
theorem run_l1Text (d : Nat) (s : ByteArray) (hs : s.size < 1099511627776) : retP (runD tab noExt (d + 1)) 152 [.str s] = some [.bool (lettersB s && decide ((s.size : Int) ≤ 6))] := by
  rw [retP, runD_eq find152 _ _ _ (by simp)]
  have hl := loop_l1Text d (drawI (runD tab noExt d)) s hs s.data.toList 0 rfl (Nat.zero_le _) 1099511627775 (by rw [str_len]; omega)
  simp only [Int.natCast_zero] at hl
  simp -implicitDefEqProofs only [go_sem, Nat.reduceBEq, Nat.reduceAdd, Nat.reduceSub, Nat.reduceMul, Nat.reduceLeDiff, Nat.reduceEqDiff, Nat.reduceLT, Int.reduceNeg, Int.reduceAdd, Int.reduceSub, Int.reduceMul, Int.reduceLE, Int.reduceLT, Int.reduceEq, Int.reduceToNat, reduceCtorEq]
  rw [hl]
  split <;> simp -implicitDefEqProofs only [go_sem, Nat.reduceBEq, Nat.reduceAdd, Nat.reduceSub, Nat.reduceMul, Nat.reduceLeDiff, Nat.reduceEqDiff, Nat.reduceLT, Int.reduceNeg, Int.reduceAdd, Int.reduceSub, Int.reduceMul, Int.reduceLE, Int.reduceLT, Int.reduceEq, Int.reduceToNat, reduceCtorEq, lettersB, *]

theorem run_specValueOk (d : Nat) (k n : Int) (s : ByteArray) (hs : s.size < 1099511627776) : retP (runD tab noExt (d + 2)) 101 [.agg [.int .i64 k, .int .i64 n, .str s]] = some [.bool (Val.ok ⟨k, n, s⟩)] := by
  rw [retP, runD_eq find101 _ _ _ (by simp)]
  simp -implicitDefEqProofs (disch := omega) only [go_sem, Nat.reduceBEq, Nat.reduceAdd, Nat.reduceSub, Nat.reduceMul, Nat.reduceLeDiff, Nat.reduceEqDiff, Nat.reduceLT, Int.reduceNeg, Int.reduceAdd, Int.reduceSub, Int.reduceMul, Int.reduceLE, Int.reduceLT, Int.reduceEq, Int.reduceToNat, reduceCtorEq, run_l1In, run_l1Text]
  repeat' ((first | rw [GuardI_ndec] | rw [CondC_ndec] | rw [GuardQ_ndec] | rw [GuardI_dec] | rw [CondC_dec] | rw [GuardQ_dec] | rw [GuardI_nby] | rw [CondC_nby] | rw [GuardQ_nby] | rw [GuardQ_by] | rw [GuardI_by] | rw [CondC_by]) <;> split <;> simp -implicitDefEqProofs (disch := omega) only [go_sem, Nat.reduceBEq, Nat.reduceAdd, Nat.reduceSub, Nat.reduceMul, Nat.reduceLeDiff, Nat.reduceEqDiff, Nat.reduceLT, Int.reduceNeg, Int.reduceAdd, Int.reduceSub, Int.reduceMul, Int.reduceLE, Int.reduceLT, Int.reduceEq, Int.reduceToNat, reduceCtorEq, run_l1In, run_l1Text, *])
  all_goals (simp_all [Val.ok, Bool.and_comm]; try omega)
theorem run_l1Less (d : Nat) (a b : Int) : retP (runD tab noExt (d + 1)) 155 [.int .i64 a, .int .i64 b] = some [.int .i64 (if a < b then 1 else 0)] := by
  rw [retP, runD_eq find155 _ _ _ (by simp)]
  simp -implicitDefEqProofs (disch := omega) only [go_sem, Nat.reduceBEq, Nat.reduceAdd, Nat.reduceSub, Nat.reduceMul, Nat.reduceLeDiff, Nat.reduceEqDiff, Nat.reduceLT, Int.reduceNeg, Int.reduceAdd, Int.reduceSub, Int.reduceMul, Int.reduceLE, Int.reduceLT, Int.reduceEq, Int.reduceToNat, reduceCtorEq]
  repeat' ((first | rw [GuardI_ndec] | rw [CondC_ndec] | rw [GuardQ_ndec] | rw [GuardI_dec] | rw [CondC_dec] | rw [GuardQ_dec] | rw [GuardI_nby] | rw [CondC_nby] | rw [GuardQ_nby] | rw [GuardQ_by] | rw [GuardI_by] | rw [CondC_by]) <;> split <;> simp -implicitDefEqProofs (disch := omega) only [go_sem, Nat.reduceBEq, Nat.reduceAdd, Nat.reduceSub, Nat.reduceMul, Nat.reduceLeDiff, Nat.reduceEqDiff, Nat.reduceLT, Int.reduceNeg, Int.reduceAdd, Int.reduceSub, Int.reduceMul, Int.reduceLE, Int.reduceLT, Int.reduceEq, Int.reduceToNat, reduceCtorEq, *])
  all_goals simp_all
theorem run_l1Cmp (d : Nat) (a b : ByteArray) : retP (runD tab noExt (d + 1)) 156 [.str a, .str b] = some [.int .i64 (cmpS a b)] := by
  rw [retP, runD_eq find156 _ _ _ (by simp)]
  simp -implicitDefEqProofs (disch := omega) only [go_sem, Nat.reduceBEq, Nat.reduceAdd, Nat.reduceSub, Nat.reduceMul, Nat.reduceLeDiff, Nat.reduceEqDiff, Nat.reduceLT, Int.reduceNeg, Int.reduceAdd, Int.reduceSub, Int.reduceMul, Int.reduceLE, Int.reduceLT, Int.reduceEq, Int.reduceToNat, reduceCtorEq, str_lt, str_gt]
  repeat' ((first | rw [GuardI_ndec] | rw [CondC_ndec] | rw [GuardQ_ndec] | rw [GuardI_dec] | rw [CondC_dec] | rw [GuardQ_dec] | rw [GuardI_nby] | rw [CondC_nby] | rw [GuardQ_nby] | rw [GuardQ_by] | rw [GuardI_by] | rw [CondC_by]) <;> split <;> simp -implicitDefEqProofs (disch := omega) only [go_sem, Nat.reduceBEq, Nat.reduceAdd, Nat.reduceSub, Nat.reduceMul, Nat.reduceLeDiff, Nat.reduceEqDiff, Nat.reduceLT, Int.reduceNeg, Int.reduceAdd, Int.reduceSub, Int.reduceMul, Int.reduceLE, Int.reduceLT, Int.reduceEq, Int.reduceToNat, reduceCtorEq, str_lt, str_gt, *])
  all_goals (simp_all [cmpS]; try (have := str_gt a b; simp_all))
end Go.Proofs.Ytfbjbkkcilhgjaa.PE
/- What is known of values: what the functions come to. -/
set_option linter.unusedSimpArgs false
namespace Go.Proofs.Ytfbjbkkcilhgjaa.PE
open Go.RowKit

/-- What is known of values. -/
structure Kn where
  many : Int
  sum : Int
  least : Val
  most : Val
  deriving DecidableEq

def Val.ord (v w : Val) : Int := if v.ok && w.ok then v.cmp w else 0
def Val.zero : Val := ⟨0, 0, ⟨#[]⟩⟩
def Kn.zero : Kn := ⟨0, 0, .zero, .zero⟩
def Kn.ok (k : Kn) : Bool :=
  if k.many = 0 then decide (k = .zero)
  else decide (1 ≤ k.many) && decide (k.many ≤ 100) && (decide (-9999 * k.many ≤ k.sum) && decide (k.sum ≤ 9999 * k.many)) && k.least.ok && k.most.ok &&
    decide (k.least.kind = k.most.kind) && !decide (k.least.kind = 0) && decide (k.least.cmp k.most ≤ 0) && (decide (k.least.kind = 1) || decide (k.sum = 0))

theorem run_ValueOrder (d : Nat) (ak an : Int) (aq : ByteArray) (bk bn : Int) (bq : ByteArray) (ha : aq.size < 1099511627776) (hb : bq.size < 1099511627776) : retP (runD tab noExt (d + 3)) 109 [.agg [.int .i64 ak, .int .i64 an, .str aq], .agg [.int .i64 bk, .int .i64 bn, .str bq]] = some [.int .i64 (Val.ord (⟨ak, an, aq⟩ : Val) (⟨bk, bn, bq⟩ : Val))] := by
  rw [retP, runD_eq find109 _ _ _ (by simp)]
  simp -implicitDefEqProofs (disch := omega) only [go_sem, Nat.reduceBEq, Nat.reduceAdd, Nat.reduceSub, Nat.reduceMul, Nat.reduceLeDiff, Nat.reduceEqDiff, Nat.reduceLT, Int.reduceNeg, Int.reduceAdd, Int.reduceSub, Int.reduceMul, Int.reduceLE, Int.reduceLT, Int.reduceEq, Int.reduceToNat, reduceCtorEq, run_specValueOk, run_l1Less, run_l1Cmp, IntWalk.i64_in]
  repeat' ((first | rw [GuardI_ndec] | rw [CondC_ndec] | rw [GuardQ_ndec] | rw [GuardI_dec] | rw [CondC_dec] | rw [GuardQ_dec] | rw [GuardI_nby] | rw [CondC_nby] | rw [GuardQ_nby] | rw [GuardQ_by] | rw [GuardI_by] | rw [CondC_by]) <;> split <;> simp -implicitDefEqProofs (disch := omega) only [go_sem, Nat.reduceBEq, Nat.reduceAdd, Nat.reduceSub, Nat.reduceMul, Nat.reduceLeDiff, Nat.reduceEqDiff, Nat.reduceLT, Int.reduceNeg, Int.reduceAdd, Int.reduceSub, Int.reduceMul, Int.reduceLE, Int.reduceLT, Int.reduceEq, Int.reduceToNat, reduceCtorEq, run_specValueOk, run_l1Less, run_l1Cmp, IntWalk.i64_in, *])
  all_goals (simp_all [Val.ord]; try (unfold Val.cmp cmpI; repeat' split <;> simp_all <;> omega))
end Go.Proofs.Ytfbjbkkcilhgjaa.PE
/- The reader of the drawn bytes. -/
set_option linter.unusedSimpArgs false
set_option linter.unusedVariables false
namespace Go.Proofs.Ytfbjbkkcilhgjaa.PE
open Go.RowKit

theorem ofBytes_lt {l : List UInt8} {i : Nat} (h : i < l.length) : (cellsOfBytes l)[i]? = some [.int .u8 ((l.getD i 0).toNat : Int)] := by
  simp [cellsOfBytes, List.getElem?_eq_getElem h, List.getD_eq_getElem?_getD]
theorem ofBytes_len (l : List UInt8) : (cellsOfBytes l).length = l.length := by simp [cellsOfBytes]
theorem tmod_idx {a : Int} {n : Nat} (h : 0 ≤ a) (hn : 0 < n) : (a.tmod (n : Int)).toNat < n := by
  rw [Int.tmod_eq_emod_of_nonneg h]
  have := Int.emod_lt_of_pos a (show (0 : Int) < n by omega)
  omega
theorem tmod_nn {a n : Int} (h : 0 ≤ a) (hn : 0 < n) : 0 ≤ a.tmod n := by
  rw [Int.tmod_eq_emod_of_nonneg h]
  exact Int.emod_nonneg a (by omega)
theorem tmod_lt {a n : Int} (h : 0 ≤ a) (hn : 0 < n) : a.tmod n < n := by
  rw [Int.tmod_eq_emod_of_nonneg h]
  exact Int.emod_lt_of_pos a (by omega)
theorem tmod_nn' {a : Int} {n : Nat} (h : 0 ≤ a) (hn : 0 < n) : (0 ≤ a.tmod (n : Int)) = True := by simp [tmod_nn h (show (0 : Int) < n by omega)]
theorem tdiv_in {a n : Int} (h : 0 ≤ a) (hn : 0 < n) : 0 ≤ a.tdiv n ∧ a.tdiv n ≤ a := by
  rw [Int.tdiv_eq_ediv_of_nonneg h]
  exact ⟨Int.ediv_nonneg h (by omega), Int.ediv_le_self n h⟩
theorem tdiv64 {a : Int} (h : 0 ≤ a) : a.tdiv 64 = a / 64 := Int.tdiv_eq_ediv_of_nonneg h
theorem xor_nn {a b : Int} (ha : 0 ≤ a) (ha' : a < 9223372036854775808) (hb : 0 ≤ b) (hb' : b < 9223372036854775808) :
    0 ≤ IntKind.i64.wrap ((BitVec.ofInt IntKind.i64.bits a ^^^ BitVec.ofInt IntKind.i64.bits b).toNat : Int) := by
  have h1 : (BitVec.ofInt IntKind.i64.bits a ^^^ BitVec.ofInt IntKind.i64.bits b).toNat < 2 ^ 63 := by
    rw [BitVec.toNat_xor]
    have e : ∀ x : Int, 0 ≤ x → x < 9223372036854775808 → (BitVec.ofInt IntKind.i64.bits x).toNat < 2 ^ 63 := by
      intro x h0 h1
      rw [BitVec.toNat_ofInt]
      have : ((2 ^ IntKind.i64.bits : Nat) : Int) = 18446744073709551616 := rfl
      rw [this, Int.emod_eq_of_lt h0 (by omega)]
      have : (2 : Nat) ^ 63 = 9223372036854775808 := rfl
      omega
    exact Nat.xor_lt_two_pow (e a ha ha') (e b hb hb')
  have h2 : (2 : Nat) ^ 63 = 9223372036854775808 := rfl
  rw [IntWalk.i64_in _ (by omega)]
  omega
theorem u8_lt (l : List UInt8) (i : Nat) : ((l.getD i 0).toNat : Int) < 256 := by
  have := (l.getD i 0).toNat_lt
  omega
theorem u8_nn (l : List UInt8) (i : Nat) : (0 : Int) ≤ ((l.getD i 0).toNat : Int) := by omega
theorem i64_u8 (l : List UInt8) (i : Nat) : IntKind.i64.wrap ((l.getD i 0).toNat : Int) = ((l.getD i 0).toNat : Int) := by
  have := u8_lt l i
  exact IntWalk.i64_in _ (by omega)

/-- A number below n, or 0. -/
def Pk (n m : Int) : Prop := 0 ≤ m ∧ (m < n ∨ m = 0 ∧ n < 1)

-- find57
theorem ex_pick {d : Nat} {hp t : Heap} {c : Bool} {bs : List UInt8} {p n : Int} {X : Option (V × Heap)} (hx : callS (runD tab noExt (d + 1)) (hp ++ .box [.sl c 1 (cellsOfBytes bs), .int .i64 (p)] :: t) 57 [.ptr hp.length 0 0 0, .int .i64 n] false = X)
    (hp0 : 0 ≤ p) (hq : p ≤ 1099511627776) (hb : bs.length ≤ 2000) (hhp : plainH hp = true) (ht : plainH t = true) :
    ∃ m, X = some (.int .i64 m, hp ++ .box [.sl c 1 (cellsOfBytes bs), .int .i64 (p+1)] :: t) ∧ Pk n m := by
  subst hx
  have hh : ∀ n, t.all (hiB n) = true := fun n => plainH_hi ht n
  have hhq : ∀ n, hp.all (hiB n) = true := fun n => plainH_hi hhp n
  rw [callS_eq, runD_eq find57 _ _ _ (by simp)]
  by_cases h1 : n < 1
  · simp -implicitDefEqProofs (disch := omega) only [go_sem, Nat.reduceBEq, Nat.reduceAdd, Nat.reduceSub, Nat.reduceMul, Nat.reduceLeDiff, Nat.reduceEqDiff, Nat.reduceLT, Int.reduceNeg, Int.reduceAdd, Int.reduceSub, Int.reduceMul, Int.reduceLE, Int.reduceLT, Int.reduceEq, Int.reduceToNat, reduceCtorEq, IntWalk.i64_in, hh, hhq, List.all_append, h1]
    exact ⟨0, rfl, by omega, .inr ⟨rfl, h1⟩⟩
  · by_cases h2 : bs.length = 0
    · have h2' : (bs.length : Int) = 0 := by omega
      simp -implicitDefEqProofs (disch := omega) only [go_sem, Nat.reduceBEq, Nat.reduceAdd, Nat.reduceSub, Nat.reduceMul, Nat.reduceLeDiff, Nat.reduceEqDiff, Nat.reduceLT, Int.reduceNeg, Int.reduceAdd, Int.reduceSub, Int.reduceMul, Int.reduceLE, Int.reduceLT, Int.reduceEq, Int.reduceToNat, reduceCtorEq, IntWalk.i64_in, hh, hhq, List.all_append, h1, h2', ofBytes_len]
      exact ⟨0, rfl, by omega, .inl (by omega)⟩
    · have h2' : ((bs.length : Int) = 0) = False := eq_false (by omega)
      by_cases h3 : p < bs.length
      · have h4 : p.toNat < bs.length := by omega
        simp -implicitDefEqProofs (disch := omega) only [go_sem, Nat.reduceBEq, Nat.reduceAdd, Nat.reduceSub, Nat.reduceMul, Nat.reduceLeDiff, Nat.reduceEqDiff, Nat.reduceLT, Int.reduceNeg, Int.reduceAdd, Int.reduceSub, Int.reduceMul, Int.reduceLE, Int.reduceLT, Int.reduceEq, Int.reduceToNat, reduceCtorEq, IntWalk.i64_in, hh, hhq, List.all_append, h1, h2', h3, ofBytes_len, ofBytes_lt h4, Int.add_sub_cancel, hp0, i64_u8, (eq_false (by omega) : (n = 0) = False)]
        exact ⟨_, rfl, tmod_nn (u8_nn _ _) (by omega), .inl (tmod_lt (u8_nn _ _) (by omega))⟩
      · have k1 := tmod_idx hp0 (show 0 < bs.length by omega)
        have k2 := tmod_idx (show 0 ≤ p * 7 + 3 by omega) (show 0 < bs.length by omega)
        have k3 := tmod_nn' hp0 (show 0 < bs.length by omega)
        have k4 := tmod_nn' (show 0 ≤ p * 7 + 3 by omega) (show 0 < bs.length by omega)
        have k5 := u8_lt bs (p.tmod bs.length).toNat
        have k6 := u8_lt bs ((p * 7 + 3).tmod bs.length).toNat
        have k7 := tdiv_in hp0 (show (0 : Int) < bs.length by omega)
        simp -implicitDefEqProofs (disch := omega) only [go_sem, Nat.reduceBEq, Nat.reduceAdd, Nat.reduceSub, Nat.reduceMul, Nat.reduceLeDiff, Nat.reduceEqDiff, Nat.reduceLT, Int.reduceNeg, Int.reduceAdd, Int.reduceSub, Int.reduceMul, Int.reduceLE, Int.reduceLT, Int.reduceEq, Int.reduceToNat, reduceCtorEq, evC_draw, evD57x0, E57x0, IntWalk.i64_in, hh, hhq, List.all_append, h1, h2', h3, ofBytes_len, Int.add_sub_cancel, hp0, i64_u8, (eq_false (by omega) : (n = 0) = False), k3, k4, ofBytes_lt k1, ofBytes_lt k2, tdiv64]
        refine ⟨_, rfl, tmod_nn (xor_nn ?_ ?_ ?_ ?_) (by omega), .inl (tmod_lt (xor_nn ?_ ?_ ?_ ?_) (by omega))⟩ <;> omega

-- find119
theorem ex_odd {d : Nat} {hp t : Heap} {c : Bool} {bs : List UInt8} {p n : Int} {X : Option (V × Heap)} (hx : callS (runD tab noExt (d + 2)) (hp ++ .box [.sl c 1 (cellsOfBytes bs), .int .i64 (p)] :: t) 119 [.ptr hp.length 0 0 0, .int .i64 n] false = X)
    (hp0 : 0 ≤ p) (hq : p ≤ 1099511627776) (hb : bs.length ≤ 2000) (hhp : plainH hp = true) (ht : plainH t = true) :
    ∃ b p', X = some (.bool b, hp ++ .box [.sl c 1 (cellsOfBytes bs), .int .i64 (p')] :: t) ∧ p ≤ p' ∧ p' ≤ p + 1 ∧ (n ≤ 0 → b = false) := by
  subst hx
  have hh : ∀ n, t.all (hiB n) = true := fun n => plainH_hi ht n
  have hhq : ∀ n, hp.all (hiB n) = true := fun n => plainH_hi hhp n
  rw [callS_eq, runD_eq find119 _ _ _ (by simp)]
  by_cases h1 : 0 < n
  · generalize hP : (fun (p' : Int) (b : Bool) => p ≤ p' ∧ p' ≤ p + 1 ∧ (n ≤ 0 → b = false)) = P
    simp -implicitDefEqProofs only [go_sem, Nat.reduceBEq, Nat.reduceAdd, Nat.reduceSub, Nat.reduceMul, Nat.reduceLeDiff, Nat.reduceEqDiff, Nat.reduceLT, Int.reduceNeg, Int.reduceAdd, Int.reduceSub, Int.reduceMul, Int.reduceLE, Int.reduceLT, Int.reduceEq, Int.reduceToNat, reduceCtorEq, h1]
    generalize hx : callS (runD tab noExt _) _ 57 _ _ = X
    obtain ⟨m, rfl, hm⟩ := ex_pick hx hp0 hq hb hhp ht
    simp -implicitDefEqProofs only [go_sem, Nat.reduceBEq, Nat.reduceAdd, Nat.reduceSub, Nat.reduceMul, Nat.reduceLeDiff, Nat.reduceEqDiff, Nat.reduceLT, Int.reduceNeg, Int.reduceAdd, Int.reduceSub, Int.reduceMul, Int.reduceLE, Int.reduceLT, Int.reduceEq, Int.reduceToNat, reduceCtorEq, hh, hhq, List.all_append]
    exact ⟨_, _, rfl, by omega, by omega, fun h => by omega⟩
  · simp -implicitDefEqProofs only [go_sem, Nat.reduceBEq, Nat.reduceAdd, Nat.reduceSub, Nat.reduceMul, Nat.reduceLeDiff, Nat.reduceEqDiff, Nat.reduceLT, Int.reduceNeg, Int.reduceAdd, Int.reduceSub, Int.reduceMul, Int.reduceLE, Int.reduceLT, Int.reduceEq, Int.reduceToNat, reduceCtorEq, hh, hhq, List.all_append, h1]
    exact ⟨_, _, rfl, by omega, by omega, fun _ => rfl⟩
end Go.Proofs.Ytfbjbkkcilhgjaa.PE
/- Columns and rows: what the reference's small functions come to. -/
set_option linter.unusedSimpArgs false
set_option linter.unusedVariables false
set_option maxHeartbeats 4000000
namespace Go.Proofs.Ytfbjbkkcilhgjaa.PE
open Go.RowKit

theorem at_getD {α : Type} {l : List α} {i : Nat} (d : α) (h : i < l.length) : l[i]? = some (l.getD i d) := by
  rw [List.getD_eq_getElem?_getD, List.getElem?_eq_getElem h]; rfl
structure Col where
  kind : Int
  empty : Bool
  deriving DecidableEq
def Col.cells (c : Col) : List V := [.int .i64 c.kind, .bool c.empty]
def Col.ok (c : Col) : Bool := decide (1 ≤ c.kind ∧ c.kind ≤ 3)
def colsOk (cs : List Col) : Bool := cs.all Col.ok && decide (cs.length ≤ 4)
/-- A row as it lies in a list of rows: whether it is clipped, and its values. -/
structure Row where
  clip : Bool
  vs : List Val
def Row.v (r : Row) : V := .sl r.clip 3 (r.vs.map Val.cells)
def Row.cells (r : Row) : List V := [r.v]
def short (vs : List Val) : Prop := ∀ v ∈ vs, v.s.size < 1099511627776
def rowOk (vs : List Val) : Bool := vs.all Val.ok && decide (vs.length ≤ 4)
theorem short_at {vs : List Val} (h : short vs) {i : Nat} {x : Val} (hx : vs[i]? = some x) : x.s.size < 1099511627776 := h x (List.mem_of_getElem? hx)

theorem loop_rowOk (d : Nat) (c : Bool) (vs : List Val) (hs : vs.length < 1099511627776) (hsh : short vs) (K : Nat) (hK : (vs).length ≤ K) : LoopS (runD tab noExt (d + 2)) (drawI (runD tab noExt (d + 2))) [0, 3] [0, 2] L138x0 ([] : Heap).length K [(0, .sl c 3 (vs.map Val.cells)), (3, .int .i64 0)] [] = if (vs).all (Val.ok) then (some (.exit 0, [(0, .sl c 3 (vs.map Val.cells)), (2, .undef)], []) : Out) else (some (.ret, [(0, .sl c 3 (vs.map Val.cells)), (2, .bool false)], []) : Out) := by
  have key := LoopS_all (run := (runD tab noExt (d + 2))) (draw := drawI (runD tab noExt (d + 2))) (live := [0, 3]) (out := [0, 2]) (c := L138x0) (n0 := ([] : Heap).length) (vs) (Val.ok) (fun (i : Nat) => [(0, .sl c 3 (vs.map Val.cells)), (3, .int .i64 i)]) [] (some (.exit 0, [(0, .sl c 3 (vs.map Val.cells)), (2, .undef)], []) : Out) (some (.ret, [(0, .sl c 3 (vs.map Val.cells)), (2, .bool false)], []) : Out) (fun K => ?_) (fun (i : Nat) (x : Val) K hi hx => ?_) K hK
  · simp only [Int.natCast_zero] at key
    exact key
  · rw [LoopS_eq]
    simp -implicitDefEqProofs only [go_sem, Nat.reduceBEq, Nat.reduceAdd, Nat.reduceSub, Nat.reduceMul, Nat.reduceLeDiff, Nat.reduceEqDiff, Nat.reduceLT, Int.reduceNeg, Int.reduceAdd, Int.reduceSub, Int.reduceMul, Int.reduceLE, Int.reduceLT, Int.reduceEq, Int.reduceToNat, reduceCtorEq, evL138x0, B138x0, Int.lt_irrefl, run_specValueOk, Val.cells, Val.eta]
  · have hxs := short_at hsh hx
    rw [LoopS_eq]
    simp -implicitDefEqProofs (disch := omega) only [go_sem, Nat.reduceBEq, Nat.reduceAdd, Nat.reduceSub, Nat.reduceMul, Nat.reduceLeDiff, Nat.reduceEqDiff, Nat.reduceLT, Int.reduceNeg, Int.reduceAdd, Int.reduceSub, Int.reduceMul, Int.reduceLE, Int.reduceLT, Int.reduceEq, Int.reduceToNat, reduceCtorEq, evL138x0, B138x0, hi, hx, IntWalk.i64_in, run_specValueOk, Val.cells, Val.eta, *]
    repeat' ((first | rw [GuardI_ndec] | rw [CondC_ndec] | rw [GuardQ_ndec] | rw [GuardI_dec] | rw [CondC_dec] | rw [GuardQ_dec] | rw [GuardI_nby] | rw [CondC_nby] | rw [GuardQ_nby] | rw [GuardQ_by] | rw [GuardI_by] | rw [CondC_by]) <;> split <;> simp -implicitDefEqProofs (disch := omega) only [go_sem, Nat.reduceBEq, Nat.reduceAdd, Nat.reduceSub, Nat.reduceMul, Nat.reduceLeDiff, Nat.reduceEqDiff, Nat.reduceLT, Int.reduceNeg, Int.reduceAdd, Int.reduceSub, Int.reduceMul, Int.reduceLE, Int.reduceLT, Int.reduceEq, Int.reduceToNat, reduceCtorEq, hi, hx, IntWalk.i64_in, run_specValueOk, Val.cells, Val.eta, *, *])
    all_goals first | rfl | (simp_all []; done) | (simp_all []; omega)
-- find138
theorem run_rowOk (d : Nat) (c : Bool) (vs : List Val) (hs : vs.length < 1099511627776) (hsh : short vs) : retP (runD tab noExt (d + 3)) 138 [.sl c 3 (vs.map Val.cells)] = some [.bool (rowOk vs)] := by
  rw [retP, runD_eq find138 _ _ _ (by simp)]
  have hl := loop_rowOk d c vs hs hsh 1099511627775 (by omega)
  simp -implicitDefEqProofs only [go_sem, Nat.reduceBEq, Nat.reduceAdd, Nat.reduceSub, Nat.reduceMul, Nat.reduceLeDiff, Nat.reduceEqDiff, Nat.reduceLT, Int.reduceNeg, Int.reduceAdd, Int.reduceSub, Int.reduceMul, Int.reduceLE, Int.reduceLT, Int.reduceEq, Int.reduceToNat, reduceCtorEq] at hl ⊢
  rw [hl]
  split <;> simp -implicitDefEqProofs only [go_sem, Nat.reduceBEq, Nat.reduceAdd, Nat.reduceSub, Nat.reduceMul, Nat.reduceLeDiff, Nat.reduceEqDiff, Nat.reduceLT, Int.reduceNeg, Int.reduceAdd, Int.reduceSub, Int.reduceMul, Int.reduceLE, Int.reduceLT, Int.reduceEq, Int.reduceToNat, reduceCtorEq, rowOk, *]
  norm_cast

def fits1 (p : Col × Val) : Bool := decide (p.2.kind = p.1.kind) || (decide (p.2.kind = 0) && p.1.empty)
def fitsRow (cs : List Col) (vs : List Val) : Bool := colsOk cs && rowOk vs && decide (vs.length = cs.length) && (cs.zip vs).all fits1
def rowsFit (cs : List Col) (rs : List Row) : Bool := rs.all fun r => fitsRow cs r.vs
def rowsOk (cs : List Col) (rs : List Row) : Bool := rowsFit cs rs && colsOk cs
def Short (rs : List Row) : Prop := ∀ r ∈ rs, r.vs.length < 1099511627776 ∧ short r.vs
/-- Rows that are not too long for memory. -/
def Fine (rs : List Row) : Prop := rs.length < 4294967296 ∧ ∀ r ∈ rs, r.vs.length < 4294967296
end Go.Proofs.Ytfbjbkkcilhgjaa.PE
/- Lists that are looked through by a closure; columns and rows: the program's. -/
set_option linter.unusedSimpArgs false
set_option linter.unusedVariables false
set_option maxHeartbeats 4000000
namespace Go.Proofs.Ytfbjbkkcilhgjaa.PE
open Go.RowKit

def intC (n : Int) : List V := [.int .i64 n]
theorem loop_idxVal (d : Nat) (h : Heap) (c : Bool) (g : Nat) (caps : List V) (xs : List (Val)) (P : Val → Bool) (hs : xs.length < 1099511627776) (hhi : h.all (hiB h.length) = true) (hcap : caps.all (hi0 h.length) = true)
    (hg : ∀ x ∈ xs, callS (runD tab noExt d) h g (V.agg (Val.cells x) :: caps) false = some (.bool (P x), h)) (K : Nat) (hK : xs.length ≤ K) :
    LoopS (runD tab noExt d) (drawI (runD tab noExt d)) [0, 1, 7, 8] [4] L177x0 h.length K [(0, .sl c 3 (xs.map Val.cells)), (1, .clo g caps), (7, .int .i64 xs.length), (8, .int .i64 0)] h =
      (match xs.findIdx? P with
        | some k => (some (.ret, [(4, .int .i64 (k : Int))], h) : Out)
        | none => some (.exit 0, [(4, .undef)], h)) := by
  have key := LoopS_rec (run := runD tab noExt d) (draw := drawI (runD tab noExt d)) (live := [0, 1, 7, 8]) (out := [4]) (c := L177x0) (n0 := h.length) xs (fun (i : Nat) (_ : Unit) => [(0, .sl c 3 (xs.map Val.cells)), (1, .clo g caps), (7, .int .i64 xs.length), (8, .int .i64 i)]) (fun _ _ => h)
    (fun r _ => match r.findIdx? P with
        | some k => (some (.ret, [(4, .int .i64 (xs.length - r.length + k : Int))], h) : Out)
        | none => some (.exit 0, [(4, .undef)], h)) (fun _ K => ?_) (fun (i : Nat) x r _ K hi hx hr ih => ?_) K hK ()
  · simp only [Int.natCast_zero, Int.sub_self, Int.zero_add] at key
    exact key
  · rw [LoopS_eq]
    simp -implicitDefEqProofs only [go_sem, Nat.reduceBEq, Nat.reduceAdd, Nat.reduceSub, Nat.reduceMul, Nat.reduceLeDiff, Nat.reduceEqDiff, Nat.reduceLT, Int.reduceNeg, Int.reduceAdd, Int.reduceSub, Int.reduceMul, Int.reduceLE, Int.reduceLT, Int.reduceEq, Int.reduceToNat, reduceCtorEq, evL177x0, B177x0, hhi, hcap, Int.lt_irrefl, List.findIdx?_nil]
  · have hgx := hg x (List.mem_of_getElem? hx)
    try simp only [Val.cells] at hgx
    have hlen : (xs.length : Int) - (r.length + 1) = i := by omega
    rw [LoopS_eq]
    simp -implicitDefEqProofs (disch := omega) only [go_sem, Nat.reduceBEq, Nat.reduceAdd, Nat.reduceSub, Nat.reduceMul, Nat.reduceLeDiff, Nat.reduceEqDiff, Nat.reduceLT, Int.reduceNeg, Int.reduceAdd, Int.reduceSub, Int.reduceMul, Int.reduceLE, Int.reduceLT, Int.reduceEq, Int.reduceToNat, reduceCtorEq, evL177x0, B177x0, hhi, hcap, hi, hx, hgx, Val.cells, Val.cells, IntWalk.i64_in]
    rw [List.findIdx?_cons]
    cases hp : P x
    · simp -implicitDefEqProofs (disch := omega) only [go_sem, Nat.reduceBEq, Nat.reduceAdd, Nat.reduceSub, Nat.reduceMul, Nat.reduceLeDiff, Nat.reduceEqDiff, Nat.reduceLT, Int.reduceNeg, Int.reduceAdd, Int.reduceSub, Int.reduceMul, Int.reduceLE, Int.reduceLT, Int.reduceEq, Int.reduceToNat, reduceCtorEq, hhi, hcap, IntWalk.i64_in, hp]
      have ih' := ih ()
      simp only [Int.natCast_add, Int.natCast_one] at ih'
      rw [ih']
      cases hf : r.findIdx? P with
      | none => rfl
      | some k => simp; omega
    · simp -implicitDefEqProofs only [go_sem, Nat.reduceBEq, Nat.reduceAdd, Nat.reduceSub, Nat.reduceMul, Nat.reduceLeDiff, Nat.reduceEqDiff, Nat.reduceLT, Int.reduceNeg, Int.reduceAdd, Int.reduceSub, Int.reduceMul, Int.reduceLE, Int.reduceLT, Int.reduceEq, Int.reduceToNat, reduceCtorEq, hp, List.length_cons, Int.natCast_add, Int.natCast_one, hlen]
      simp
theorem idxVal (d : Nat) (h : Heap) (c : Bool) (g : Nat) (caps : List V) (xs : List (Val)) (P : Val → Bool) (hs : xs.length < 1099511627776) (hhi : h.all (hiB h.length) = true) (hcap : caps.all (hi0 h.length) = true)
    (hg : ∀ x ∈ xs, callS (runD tab noExt d) h g (V.agg (Val.cells x) :: caps) false = some (.bool (P x), h)) :
    callS (runD tab noExt (d + 1)) h 177 [.sl c 3 (xs.map Val.cells), .clo g caps] false = some (.int .i64 (match xs.findIdx? P with | some k => (k : Int) | none => -1), h) := by
  rw [callS_eq, runD_eq find177 _ _ _ (by simp)]
  have hl := loop_idxVal d h c g caps xs P hs hhi hcap hg 1099511627775 (by omega)
  simp -implicitDefEqProofs (disch := omega) only [go_sem, Nat.reduceBEq, Nat.reduceAdd, Nat.reduceSub, Nat.reduceMul, Nat.reduceLeDiff, Nat.reduceEqDiff, Nat.reduceLT, Int.reduceNeg, Int.reduceAdd, Int.reduceSub, Int.reduceMul, Int.reduceLE, Int.reduceLT, Int.reduceEq, Int.reduceToNat, reduceCtorEq, hhi, hcap]
  rw [hl]
  cases hf : xs.findIdx? P <;> simp -implicitDefEqProofs only [go_sem, Nat.reduceBEq, Nat.reduceAdd, Nat.reduceSub, Nat.reduceMul, Nat.reduceLeDiff, Nat.reduceEqDiff, Nat.reduceLT, Int.reduceNeg, Int.reduceAdd, Int.reduceSub, Int.reduceMul, Int.reduceLE, Int.reduceLT, Int.reduceEq, Int.reduceToNat, reduceCtorEq, hhi, hcap]
theorem conVal (d : Nat) (h : Heap) (c : Bool) (g : Nat) (caps : List V) (xs : List (Val)) (P : Val → Bool) (hs : xs.length < 1099511627776) (hhi : h.all (hiB h.length) = true) (hcap : caps.all (hi0 h.length) = true)
    (hg : ∀ x ∈ xs, callS (runD tab noExt d) h g (V.agg (Val.cells x) :: caps) false = some (.bool (P x), h)) :
    callS (runD tab noExt (d + 2)) h 135 [.sl c 3 (xs.map Val.cells), .clo g caps] false = some (.bool (xs.any P), h) := by
  rw [callS_eq, runD_eq find135 _ _ _ (by simp)]
  have hl := idxVal d h c g caps xs P hs hhi hcap hg
  simp -implicitDefEqProofs (disch := omega) only [go_sem, Nat.reduceBEq, Nat.reduceAdd, Nat.reduceSub, Nat.reduceMul, Nat.reduceLeDiff, Nat.reduceEqDiff, Nat.reduceLT, Int.reduceNeg, Int.reduceAdd, Int.reduceSub, Int.reduceMul, Int.reduceLE, Int.reduceLT, Int.reduceEq, Int.reduceToNat, reduceCtorEq, hl, hhi, hcap]
  have e : xs.any P = (xs.findIdx? P).isSome := by simp [List.findIdx?_isSome]
  rw [e]
  cases hf : xs.findIdx? P <;> simp -implicitDefEqProofs only [go_sem, Nat.reduceBEq, Nat.reduceAdd, Nat.reduceSub, Nat.reduceMul, Nat.reduceLeDiff, Nat.reduceEqDiff, Nat.reduceLT, Int.reduceNeg, Int.reduceAdd, Int.reduceSub, Int.reduceMul, Int.reduceLE, Int.reduceLT, Int.reduceEq, Int.reduceToNat, reduceCtorEq, Option.isSome_some, Option.isSome_none]

theorem clo_row (d : Nat) (h : Heap) (hh : h.all (hiB h.length) = true) (x : Val) : callS (runD tab noExt (d + 4)) h 136 [.agg (Val.cells x)] false = some (.bool (!x.ok), h) := by
  rw [callS_eq, runD_eq find136 _ _ _ (by simp)]
  simp -implicitDefEqProofs (disch := omega) only [go_sem, Nat.reduceBEq, Nat.reduceAdd, Nat.reduceSub, Nat.reduceMul, Nat.reduceLeDiff, Nat.reduceEqDiff, Nat.reduceLT, Int.reduceNeg, Int.reduceAdd, Int.reduceSub, Int.reduceMul, Int.reduceLE, Int.reduceLT, Int.reduceEq, Int.reduceToNat, reduceCtorEq, run_ok, Val.cells, hh, List.all_append, Val.eta]
-- find80
theorem run_rowOkI (d : Nat) (c : Bool) (vs : List Val) (hs : vs.length < 1099511627776) : retP (runD tab noExt (d + 7)) 80 [.sl c 3 (vs.map Val.cells)] = some [.bool (rowOk vs)] := by
  rw [retP, runD_eq find80 _ _ _ (by simp)]
  have hcon := conVal (d + 4) [] c 136 [] vs (fun x => !x.ok) hs rfl rfl (fun x _ => clo_row d [] rfl x)
  simp -implicitDefEqProofs (disch := omega) only [go_sem, Nat.reduceBEq, Nat.reduceAdd, Nat.reduceSub, Nat.reduceMul, Nat.reduceLeDiff, Nat.reduceEqDiff, Nat.reduceLT, Int.reduceNeg, Int.reduceAdd, Int.reduceSub, Int.reduceMul, Int.reduceLE, Int.reduceLT, Int.reduceEq, Int.reduceToNat, reduceCtorEq, hcon]
  repeat' ((first | rw [GuardI_ndec] | rw [CondC_ndec] | rw [GuardQ_ndec] | rw [GuardI_dec] | rw [CondC_dec] | rw [GuardQ_dec] | rw [GuardI_nby] | rw [CondC_nby] | rw [GuardQ_nby] | rw [GuardQ_by] | rw [GuardI_by] | rw [CondC_by]) <;> split <;> simp -implicitDefEqProofs (disch := omega) only [go_sem, Nat.reduceBEq, Nat.reduceAdd, Nat.reduceSub, Nat.reduceMul, Nat.reduceLeDiff, Nat.reduceEqDiff, Nat.reduceLT, Int.reduceNeg, Int.reduceAdd, Int.reduceSub, Int.reduceMul, Int.reduceLE, Int.reduceLT, Int.reduceEq, Int.reduceToNat, reduceCtorEq, hcon, *])
  all_goals (simp_all [rowOk, List.any_eq_not_all_not]; try omega)
end Go.Proofs.Ytfbjbkkcilhgjaa.PE
/- Writes: what is ok, in plain words; both functions tell it. -/
set_option linter.unusedSimpArgs false
set_option linter.unusedVariables false
set_option maxHeartbeats 4000000
namespace Go.Proofs.Ytfbjbkkcilhgjaa.PE
open Go.RowKit

structure Wr where
  key : Int
  row : Row
  gone : Bool
def Wr.cells (w : Wr) : List V := [.int .i64 w.key, w.row.v, .bool w.gone]
/-- Each element with the one ahead of it. -/
def prevsG {α : Type} : Option α → List α → List (Option α × α)
  | _, [] => []
  | o, v :: r => (o, v) :: prevsG (some v) r
theorem prevsG_len {α : Type} : ∀ (l : List α) (o : Option α), (prevsG o l).length = l.length
  | [], _ => rfl
  | v :: r, o => by simp [prevsG, prevsG_len r]
theorem prevsG_at {α : Type} : ∀ {l : List α} {o : Option α} {i : Nat} {p : Option α} {v : α}, (prevsG o l)[i]? = some (p, v) → l[i]? = some v ∧ (i = 0 → p = o) ∧ ∀ j, i = j + 1 → p = l[j]?
  | [], _, i, _, _, h => by simp [prevsG] at h
  | w :: r, o, 0, p, v, h => by
    simp only [prevsG, List.getElem?_cons_zero, Option.some.injEq, Prod.mk.injEq] at h
    obtain ⟨rfl, rfl⟩ := h
    exact ⟨rfl, fun _ => rfl, fun j hj => by omega⟩
  | w :: r, o, i + 1, p, v, h => by
    simp only [prevsG, List.getElem?_cons_succ] at h
    obtain ⟨h1, h2, h3⟩ := prevsG_at h
    refine ⟨by simpa using h1, fun e => by omega, fun j hj => ?_⟩
    have : j = i := by omega
    subst this
    cases j with
    | zero => rw [h2 rfl]; rfl
    | succ j => rw [h3 j rfl]; simp
def Wr.one (w : Wr) : Bool := decide (0 ≤ w.key ∧ w.key ≤ 4) && (rowOk w.row.vs && !(w.gone && decide ((0 : Int) < w.row.vs.length)))
def wrAhead (p : Option Wr) (v : Wr) : Bool := match p with
  | none => true
  | some q => decide (q.key < v.key)
def wrOk (p : Option Wr × Wr) : Bool := p.2.one && wrAhead p.1 p.2
def wrsOk (ws : List Wr) : Bool := (prevsG none ws).all wrOk
def ShortWs (ws : List Wr) : Prop := ∀ w ∈ ws, w.row.vs.length < 1099511627776 ∧ short w.row.vs
end Go.Proofs.Ytfbjbkkcilhgjaa.PE
/- Tallies: when they are ok, both functions. -/
set_option linter.unusedSimpArgs false
set_option linter.unusedVariables false
set_option maxHeartbeats 4000000
set_option maxRecDepth 20000
namespace Go.Proofs.Ytfbjbkkcilhgjaa.PE
open Go.RowKit

structure Tal where
  rc : Bool
  key : List Val
  rows : Int
  many : Int
  sum : Int
def Tal.cells (t : Tal) : List V := [.sl t.rc 3 (t.key.map Val.cells), .int .i64 t.rows, .int .i64 t.many, .int .i64 t.sum]
def Tal.one (t : Tal) : Bool := decide ((t.key.length : Int) = 1) && (rowOk t.key && (decide (1 ≤ t.rows ∧ t.rows ≤ 100) && (decide (0 ≤ t.many ∧ t.many ≤ t.rows) && decide (-9999 * t.many ≤ t.sum ∧ t.sum ≤ 9999 * t.many))))
def k0 (t : Tal) : Val := t.key.headD .zero
def talAhead (p : Option Tal) (t : Tal) : Bool := match p with
  | none => true
  | some w => decide ((k0 w).cmp (k0 t) < 0)
def talOk (p : Option Tal × Tal) : Bool := p.2.one && talAhead p.1 p.2
def talsOk (l : List Tal) : Bool := (prevsG none l).all talOk
def ShortT1 (l : List Tal) : Prop := ∀ t ∈ l, t.key.length < 1099511627776 ∧ short t.key
theorem Tal.one_key {t : Tal} (h : t.one = true) : ∃ v, t.key = [v] ∧ rowOk [v] = true ∧ v.ok = true := by
  unfold Tal.one at h
  simp only [Bool.and_eq_true, decide_eq_true_eq] at h
  obtain ⟨h1, h2, _⟩ := h
  obtain ⟨v, hv⟩ : ∃ v, t.key = [v] := List.length_eq_one_iff.1 (by omega)
  rw [hv] at h2
  refine ⟨v, hv, h2, ?_⟩
  unfold rowOk at h2
  simp at h2
  exact h2
-- find93
theorem run_tallyOk (d : Nat) (c : Bool) (vs : List Val) (hs : vs.length < 1099511627776) (a m s : Int) : retP (runD tab noExt (d + 8)) 93 [.agg [.sl c 3 (vs.map Val.cells), .int .i64 a, .int .i64 m, .int .i64 s]] = some [.bool (Tal.one ⟨c, vs, a, m, s⟩)] := by
  have hr := run_rowOkI d c vs hs
  unfold Tal.one
  simp only
  rw [retP, runD_eq find93 _ _ _ (by simp)]
  by_cases h1 : (vs.length : Int) = 1
  rotate_left
  · simp -implicitDefEqProofs (disch := omega) only [go_sem, Nat.reduceBEq, Nat.reduceAdd, Nat.reduceSub, Nat.reduceMul, Nat.reduceLeDiff, Nat.reduceEqDiff, Nat.reduceLT, Int.reduceNeg, Int.reduceAdd, Int.reduceSub, Int.reduceMul, Int.reduceLE, Int.reduceLT, Int.reduceEq, Int.reduceToNat, reduceCtorEq, hr, run_between, (eq_false h1 : ((vs.length : Int) = 1) = False)]
  cases h2 : rowOk vs
  · rw [h2] at hr
    simp -implicitDefEqProofs (disch := omega) only [go_sem, Nat.reduceBEq, Nat.reduceAdd, Nat.reduceSub, Nat.reduceMul, Nat.reduceLeDiff, Nat.reduceEqDiff, Nat.reduceLT, Int.reduceNeg, Int.reduceAdd, Int.reduceSub, Int.reduceMul, Int.reduceLE, Int.reduceLT, Int.reduceEq, Int.reduceToNat, reduceCtorEq, hr, run_between, (eq_true h1 : ((vs.length : Int) = 1) = True)]
  rw [h2] at hr
  by_cases h3 : 1 ≤ a ∧ a ≤ 100
  rotate_left
  · simp -implicitDefEqProofs (disch := omega) only [go_sem, Nat.reduceBEq, Nat.reduceAdd, Nat.reduceSub, Nat.reduceMul, Nat.reduceLeDiff, Nat.reduceEqDiff, Nat.reduceLT, Int.reduceNeg, Int.reduceAdd, Int.reduceSub, Int.reduceMul, Int.reduceLE, Int.reduceLT, Int.reduceEq, Int.reduceToNat, reduceCtorEq, hr, run_between, (eq_true h1 : ((vs.length : Int) = 1) = True), (eq_false h3 : (1 ≤ a ∧ a ≤ 100) = False)]
  by_cases h4 : 0 ≤ m ∧ m ≤ a
  rotate_left
  · simp -implicitDefEqProofs (disch := omega) only [go_sem, Nat.reduceBEq, Nat.reduceAdd, Nat.reduceSub, Nat.reduceMul, Nat.reduceLeDiff, Nat.reduceEqDiff, Nat.reduceLT, Int.reduceNeg, Int.reduceAdd, Int.reduceSub, Int.reduceMul, Int.reduceLE, Int.reduceLT, Int.reduceEq, Int.reduceToNat, reduceCtorEq, hr, run_between, (eq_true h1 : ((vs.length : Int) = 1) = True), (eq_true h3 : (1 ≤ a ∧ a ≤ 100) = True), (eq_false h4 : (0 ≤ m ∧ m ≤ a) = False)]
  by_cases h5 : -9999 * m ≤ s ∧ s ≤ 9999 * m <;> simp -implicitDefEqProofs (disch := omega) only [go_sem, Nat.reduceBEq, Nat.reduceAdd, Nat.reduceSub, Nat.reduceMul, Nat.reduceLeDiff, Nat.reduceEqDiff, Nat.reduceLT, Int.reduceNeg, Int.reduceAdd, Int.reduceSub, Int.reduceMul, Int.reduceLE, Int.reduceLT, Int.reduceEq, Int.reduceToNat, reduceCtorEq, hr, run_between, IntWalk.i64_in, (eq_true h1 : ((vs.length : Int) = 1) = True), (eq_true h3 : (1 ≤ a ∧ a ≤ 100) = True), (eq_true h4 : (0 ≤ m ∧ m ≤ a) = True), h5]
-- find108
theorem clo_orderT (d : Nat) (h : Heap) (hp : plainH h = true) (ak an : Int) (aq : ByteArray) (bk bn : Int) (bq : ByteArray) : callS (runD tab noExt (d + 3)) h 108 [.agg [.int .i64 ak, .int .i64 an, .str aq], .agg [.int .i64 bk, .int .i64 bn, .str bq]] false = some (.int .i64 (Val.cmp (⟨ak, an, aq⟩ : Val) (⟨bk, bn, bq⟩ : Val)), h) := by
  have hh : ∀ n, h.all (hiB n) = true := fun n => plainH_hi hp n
  rw [callS_eq, runD_eq find108 _ _ _ (by simp)]
  simp -implicitDefEqProofs (disch := omega) only [go_sem, Nat.reduceBEq, Nat.reduceAdd, Nat.reduceSub, Nat.reduceMul, Nat.reduceLeDiff, Nat.reduceEqDiff, Nat.reduceLT, Int.reduceNeg, Int.reduceAdd, Int.reduceSub, Int.reduceMul, Int.reduceLE, Int.reduceLT, Int.reduceEq, Int.reduceToNat, reduceCtorEq, hh, List.all_append, run_cmpI, run_cmpS, run_Or3, evC_draw, evD108x0, E108x0, elemsOf, elemOf, refsV, refs, refC, List.flatMap_cons, List.flatMap_nil, frzs, List.append_nil, Val.cmp]
-- find146
theorem run_cmpFn (d : Nat) (c c' : Bool) (ak an : Int) (aq : ByteArray) (bk bn : Int) (bq : ByteArray) : callS (runD tab noExt (d + 4)) [] 146 [.sl c 3 [[.int .i64 ak, .int .i64 an, .str aq]], .sl c' 3 [[.int .i64 bk, .int .i64 bn, .str bq]], .clo 108 []] false = some (.int .i64 (Val.cmp (⟨ak, an, aq⟩ : Val) (⟨bk, bn, bq⟩ : Val)), []) := by
  have hc := clo_orderT d [.box [.int .i64 ak, .int .i64 an, .str aq], .box [.int .i64 bk, .int .i64 bn, .str bq]] (by simp [plainH_cons, plainH_nil, plainB, hi0]) ak an aq bk bn bq
  rw [callS_eq, runD_eq find146 _ _ _ (by simp)]
  by_cases h0 : Val.cmp (⟨ak, an, aq⟩ : Val) (⟨bk, bn, bq⟩ : Val) = 0
  · simp -implicitDefEqProofs (disch := omega) only [go_sem, Nat.reduceBEq, Nat.reduceAdd, Nat.reduceSub, Nat.reduceMul, Nat.reduceLeDiff, Nat.reduceEqDiff, Nat.reduceLT, Int.reduceNeg, Int.reduceAdd, Int.reduceSub, Int.reduceMul, Int.reduceLE, Int.reduceLT, Int.reduceEq, Int.reduceToNat, reduceCtorEq, LoopS_eq, evL146x0, B146x0, hc, h0, Int.toNat_zero, Int.toNat_one, IntWalk.i64_in]
  · simp -implicitDefEqProofs (disch := omega) only [go_sem, Nat.reduceBEq, Nat.reduceAdd, Nat.reduceSub, Nat.reduceMul, Nat.reduceLeDiff, Nat.reduceEqDiff, Nat.reduceLT, Int.reduceNeg, Int.reduceAdd, Int.reduceSub, Int.reduceMul, Int.reduceLE, Int.reduceLT, Int.reduceEq, Int.reduceToNat, reduceCtorEq, LoopS_eq, evL146x0, B146x0, hc, h0, Int.toNat_zero, Int.toNat_one, IntWalk.i64_in]
theorem run_Or2 (d : Nat) (a b : Int) : retP (runD tab noExt (d + 1)) 145 [.sl true 1 [[.int .i64 a], [.int .i64 b]]] = some [.int .i64 (if a ≠ 0 then a else b)] := by
  rw [retP, runD_eq find145 _ _ _ (by simp)]
  simp -implicitDefEqProofs (disch := omega) only [go_sem, Nat.reduceBEq, Nat.reduceAdd, Nat.reduceSub, Nat.reduceMul, Nat.reduceLeDiff, Nat.reduceEqDiff, Nat.reduceLT, Int.reduceNeg, Int.reduceAdd, Int.reduceSub, Int.reduceMul, Int.reduceLE, Int.reduceLT, Int.reduceEq, Int.reduceToNat, reduceCtorEq, LoopS_eq, evL145x0, B145x0, IntWalk.i64_in, Int.cast_ofNat_Int]
  repeat' ((first | rw [GuardI_ndec] | rw [CondC_ndec] | rw [GuardQ_ndec] | rw [GuardI_dec] | rw [CondC_dec] | rw [GuardQ_dec] | rw [GuardI_nby] | rw [CondC_nby] | rw [GuardQ_nby] | rw [GuardQ_by] | rw [GuardI_by] | rw [CondC_by]) <;> split <;> simp -implicitDefEqProofs (disch := omega) only [go_sem, Nat.reduceBEq, Nat.reduceAdd, Nat.reduceSub, Nat.reduceMul, Nat.reduceLeDiff, Nat.reduceEqDiff, Nat.reduceLT, Int.reduceNeg, Int.reduceAdd, Int.reduceSub, Int.reduceMul, Int.reduceLE, Int.reduceLT, Int.reduceEq, Int.reduceToNat, reduceCtorEq, LoopS_eq, evL145x0, B145x0, IntWalk.i64_in, Int.cast_ofNat_Int, *])
  all_goals simp_all
-- find94
theorem run_rowOrder (d : Nat) (c c' : Bool) (a b : Val) : retP (runD tab noExt (d + 5)) 94 [.sl c 3 [a.cells], .sl c' 3 [b.cells]] = some [.int .i64 (Val.cmp a b)] := by
  obtain ⟨ak, an, aq⟩ := a
  obtain ⟨bk, bn, bq⟩ := b
  have hc := run_cmpFn d c c' ak an aq bk bn bq
  have hi := run_cmpI (d + 2) 1 1
  have e11 : cmpI 1 1 = 0 := by decide
  rw [e11] at hi
  simp only [Val.cells]
  rw [retP, runD_eq find94 _ _ _ (by simp)]
  generalize Val.cmp ⟨ak, an, aq⟩ ⟨bk, bn, bq⟩ = x at hc ⊢
  by_cases h0 : x = 0
  · subst h0
    simp -implicitDefEqProofs (disch := omega) only [go_sem, Nat.reduceBEq, Nat.reduceAdd, Nat.reduceSub, Nat.reduceMul, Nat.reduceLeDiff, Nat.reduceEqDiff, Nat.reduceLT, Int.reduceNeg, Int.reduceAdd, Int.reduceSub, Int.reduceMul, Int.reduceLE, Int.reduceLT, Int.reduceEq, Int.reduceToNat, reduceCtorEq, hc, hi, run_Or2]
  · simp -implicitDefEqProofs (disch := omega) only [go_sem, Nat.reduceBEq, Nat.reduceAdd, Nat.reduceSub, Nat.reduceMul, Nat.reduceLeDiff, Nat.reduceEqDiff, Nat.reduceLT, Int.reduceNeg, Int.reduceAdd, Int.reduceSub, Int.reduceMul, Int.reduceLE, Int.reduceLT, Int.reduceEq, Int.reduceToNat, reduceCtorEq, hc, hi, run_Or2, h0, ne_eq, not_false_eq_true, if_true]
theorem ord_okT {a b : Val} (h : a.ok = true) (h' : b.ok = true) : a.ord b = a.cmp b := by simp [Val.ord, h, h']
-- find139
theorem run_RowOrder1 (d : Nat) (c c' : Bool) (a b : Val) (ha : rowOk [a] = true) (hb : rowOk [b] = true) (oa : a.ok = true) (ob : b.ok = true) (sa : a.s.size < 1099511627776) (sb : b.s.size < 1099511627776) : retP (runD tab noExt (d + 5)) 139 [.sl c 3 [a.cells], .sl c' 3 [b.cells]] = some [.int .i64 (Val.cmp a b)] := by
  have r1 := run_rowOk (d + 1) c [a] (by simp) (by intro v hv; rw [List.mem_singleton.1 hv]; exact sa)
  have r2 := run_rowOk (d + 1) c' [b] (by simp) (by intro v hv; rw [List.mem_singleton.1 hv]; exact sb)
  rw [ha] at r1
  rw [hb] at r2
  have e := ord_okT oa ob
  obtain ⟨ak, an, aq⟩ := a
  obtain ⟨bk, bn, bq⟩ := b
  have hv := run_ValueOrder (d + 1) ak an aq bk bn bq sa sb
  rw [e] at hv
  simp only [List.map_cons, List.map_nil, Val.cells] at r1 r2 ⊢
  rw [retP, runD_eq find139 _ _ _ (by simp)]
  generalize Val.cmp ⟨ak, an, aq⟩ ⟨bk, bn, bq⟩ = x at hv ⊢
  by_cases h0 : x = 0
  · subst h0
    simp -implicitDefEqProofs (disch := omega) only [go_sem, Nat.reduceBEq, Nat.reduceAdd, Nat.reduceSub, Nat.reduceMul, Nat.reduceLeDiff, Nat.reduceEqDiff, Nat.reduceLT, Int.reduceNeg, Int.reduceAdd, Int.reduceSub, Int.reduceMul, Int.reduceLE, Int.reduceLT, Int.reduceEq, Int.reduceToNat, reduceCtorEq, r1, r2, LoopS_eq, evL139x0, B139x0, evC_draw, evD139x0, E139x0, hv, run_l1Less, Int.toNat_zero, Int.toNat_one, IntWalk.i64_in]
  · simp -implicitDefEqProofs (disch := omega) only [go_sem, Nat.reduceBEq, Nat.reduceAdd, Nat.reduceSub, Nat.reduceMul, Nat.reduceLeDiff, Nat.reduceEqDiff, Nat.reduceLT, Int.reduceNeg, Int.reduceAdd, Int.reduceSub, Int.reduceMul, Int.reduceLE, Int.reduceLT, Int.reduceEq, Int.reduceToNat, reduceCtorEq, r1, r2, LoopS_eq, evL139x0, B139x0, evC_draw, evD139x0, E139x0, hv, h0, run_l1Less, Int.toNat_zero, Int.toNat_one, IntWalk.i64_in]
-- find36
theorem loop_talI (d : Nat) (c : Bool) (l : List Tal) (hs : l.length < 1099511627776) (hsh : ShortT1 l) (K : Nat) (hK : (prevsG none l).length ≤ K) :
    LoopS (runD tab noExt (d + 8)) (drawI (runD tab noExt (d + 8))) [0, 5, 6, 7] [2] L36x0 0 K [(0, .sl c 4 (l.map Tal.cells)), (5, .sl c 4 (l.map Tal.cells)), (6, .int .i64 l.length), (7, .int .i64 0)] [] = if (prevsG none l).all talOk then (some (.exit 0, [(2, .undef)], []) : Out) else some (.ret, [(2, .bool false)], []) := by
  have key := LoopS_allP (run := (runD tab noExt (d + 8))) (draw := drawI (runD tab noExt (d + 8))) (live := [0, 5, 6, 7]) (out := [2]) (c := L36x0) (n0 := 0) (prevsG none l) talOk (fun (i : Nat) => [(0, .sl c 4 (l.map Tal.cells)), (5, .sl c 4 (l.map Tal.cells)), (6, .int .i64 l.length), (7, .int .i64 (i : Int))]) [] (some (.exit 0, [(2, .undef)], [])) (some (.ret, [(2, .bool false)], [])) (fun K => ?_) (fun (i : Nat) x K hi hx0 hbef => ?_) K hK
  · simp only [Int.natCast_zero] at key
    exact key
  · rw [LoopS_eq, prevsG_len]
    simp -implicitDefEqProofs only [go_sem, Nat.reduceBEq, Nat.reduceAdd, Nat.reduceSub, Nat.reduceMul, Nat.reduceLeDiff, Nat.reduceEqDiff, Nat.reduceLT, Int.reduceNeg, Int.reduceAdd, Int.reduceSub, Int.reduceMul, Int.reduceLE, Int.reduceLT, Int.reduceEq, Int.reduceToNat, reduceCtorEq, evL36x0, B36x0, Int.lt_irrefl]
  · obtain ⟨p, v⟩ := x
    rw [prevsG_len] at hi
    obtain ⟨hx, g2, g3⟩ := prevsG_at hx0
    obtain ⟨h1, h2⟩ := hsh v (List.mem_of_getElem? hx)
    have hr := run_tallyOk d v.rc v.key h1 v.rows v.many v.sum
    rw [LoopS_eq]
    have e0 : Tal.one ⟨v.rc, v.key, v.rows, v.many, v.sum⟩ = v.one := rfl
    rw [e0] at hr
    cases k1 : v.one
    · rw [k1] at hr
      have e : talOk (p, v) = false := by unfold talOk; simp only [k1, Bool.false_and]
      rw [e]
      simp -implicitDefEqProofs (disch := omega) only [go_sem, Nat.reduceBEq, Nat.reduceAdd, Nat.reduceSub, Nat.reduceMul, Nat.reduceLeDiff, Nat.reduceEqDiff, Nat.reduceLT, Int.reduceNeg, Int.reduceAdd, Int.reduceSub, Int.reduceMul, Int.reduceLE, Int.reduceLT, Int.reduceEq, Int.reduceToNat, reduceCtorEq, evL36x0, B36x0, evC_draw, evD36x0, E36x0, IntWalk.i64_in, Tal.cells, hr, hx, beq_ft, beq_tf, Bool.true_or, Bool.false_or, hi]
    rw [k1] at hr
    cases i with
    | zero =>
      obtain rfl := g2 rfl
      have hi0 : (0 : Int) < l.length := by omega
      have e : talOk (none, v) = true := by unfold talOk; simp only [k1, talAhead, Bool.true_and]
      rw [e]
      simp -implicitDefEqProofs (disch := omega) only [go_sem, Nat.reduceBEq, Nat.reduceAdd, Nat.reduceSub, Nat.reduceMul, Nat.reduceLeDiff, Nat.reduceEqDiff, Nat.reduceLT, Int.reduceNeg, Int.reduceAdd, Int.reduceSub, Int.reduceMul, Int.reduceLE, Int.reduceLT, Int.reduceEq, Int.reduceToNat, reduceCtorEq, evL36x0, B36x0, evC_draw, evD36x0, E36x0, IntWalk.i64_in, Tal.cells, hr, hx, beq_ft, beq_tf, Bool.true_or, Bool.false_or, hi0, Int.natCast_zero, Int.lt_irrefl]
    | succ j =>
      have hj : j < l.length := by omega
      have hw := List.getElem?_eq_getElem hj
      obtain rfl := (g3 j rfl).trans hw
      generalize l[j] = w at hw hx0
      have hpj : j < (prevsG none l).length := by rw [prevsG_len]; exact hj
      have ho := hbef j ((prevsG none l)[j]) (by omega) (List.getElem?_eq_getElem hpj)
      have hpq := List.getElem?_eq_getElem hpj
      generalize (prevsG none l)[j] = pq at ho hpq
      obtain ⟨q, w'⟩ := pq
      obtain ⟨hw', _, _⟩ := prevsG_at hpq
      obtain rfl : w' = w := by rw [hw] at hw'; injection hw' with h; exact h.symm
      have k2 : w'.one = true := by unfold talOk at ho; simp only [Bool.and_eq_true] at ho; exact ho.1
      obtain ⟨kv, hkv, _, _⟩ := Tal.one_key k1
      obtain ⟨kw, hkw, _, _⟩ := Tal.one_key k2
      have e : talOk (some w', v) = decide (kw.cmp kv < 0) := by unfold talOk; simp only [k1, talAhead, Bool.true_and, k0, hkv, hkw, List.headD_cons]
      have hord := run_rowOrder (d + 3) w'.rc v.rc kw kv
      rw [e]
      obtain ⟨vc, vkey, va, vm, vsum⟩ := v
      obtain ⟨wc, wkey, wa, wm, wsum⟩ := w'
      simp only at hkv hkw
      subst hkv hkw
      simp only [List.map_cons, List.map_nil] at hr hord
      have hp : (0 : Int) < (j : Int) + 1 := by omega
      have hj' : (j : Int) < l.length := by omega
      have hp0 : (0 : Int) ≤ (j : Int) + 1 := by omega
      have htn : ((j : Int) + 1).toNat = j + 1 := by omega
      have hi' : (j : Int) + 1 < l.length := by omega
      generalize Val.cmp kw kv = x at hord ⊢
      by_cases k5 : x < 0
      · have k6 : ¬ 0 ≤ x := by omega
        simp -implicitDefEqProofs (disch := omega) only [go_sem, Nat.reduceBEq, Nat.reduceAdd, Nat.reduceSub, Nat.reduceMul, Nat.reduceLeDiff, Nat.reduceEqDiff, Nat.reduceLT, Int.reduceNeg, Int.reduceAdd, Int.reduceSub, Int.reduceMul, Int.reduceLE, Int.reduceLT, Int.reduceEq, Int.reduceToNat, reduceCtorEq, evL36x0, B36x0, evC_draw, evD36x0, E36x0, IntWalk.i64_in, Tal.cells, hr, hx, beq_ft, beq_tf, Bool.true_or, Bool.false_or, hi', hj', hp0, htn, hp, hw, hord, List.map_cons, List.map_nil, Int.add_sub_cancel, Int.add_assoc, (eq_true k5 : (x < 0) = True), (eq_false k6 : (0 ≤ x) = False)]
      · have k6 : 0 ≤ x := by omega
        simp -implicitDefEqProofs (disch := omega) only [go_sem, Nat.reduceBEq, Nat.reduceAdd, Nat.reduceSub, Nat.reduceMul, Nat.reduceLeDiff, Nat.reduceEqDiff, Nat.reduceLT, Int.reduceNeg, Int.reduceAdd, Int.reduceSub, Int.reduceMul, Int.reduceLE, Int.reduceLT, Int.reduceEq, Int.reduceToNat, reduceCtorEq, evL36x0, B36x0, evC_draw, evD36x0, E36x0, IntWalk.i64_in, Tal.cells, hr, hx, beq_ft, beq_tf, Bool.true_or, Bool.false_or, hi', hj', hp0, htn, hp, hw, hord, List.map_cons, List.map_nil, Int.add_sub_cancel, Int.add_assoc, (eq_false k5 : (x < 0) = False), (eq_true k6 : (0 ≤ x) = True)]
theorem run_talsI (d : Nat) (c : Bool) (l : List Tal) (hs : l.length < 1099511627776) (hsh : ShortT1 l) : retP (runD tab noExt (d + 9)) 36 [.sl c 4 (l.map Tal.cells)] = some [.bool (talsOk l)] := by
  rw [retP, runD_eq find36 _ _ _ (by simp)]
  have hl := loop_talI d c l hs hsh 1099511627775 (by rw [prevsG_len]; omega)
  simp -implicitDefEqProofs (disch := omega) only [go_sem, Nat.reduceBEq, Nat.reduceAdd, Nat.reduceSub, Nat.reduceMul, Nat.reduceLeDiff, Nat.reduceEqDiff, Nat.reduceLT, Int.reduceNeg, Int.reduceAdd, Int.reduceSub, Int.reduceMul, Int.reduceLE, Int.reduceLT, Int.reduceEq, Int.reduceToNat, reduceCtorEq]
  rw [hl]
  unfold talsOk
  cases h : (prevsG none l).all talOk <;> simp -implicitDefEqProofs (disch := omega) only [go_sem, Nat.reduceBEq, Nat.reduceAdd, Nat.reduceSub, Nat.reduceMul, Nat.reduceLeDiff, Nat.reduceEqDiff, Nat.reduceLT, Int.reduceNeg, Int.reduceAdd, Int.reduceSub, Int.reduceMul, Int.reduceLE, Int.reduceLT, Int.reduceEq, Int.reduceToNat, reduceCtorEq]
-- find83
theorem loop_talS (d : Nat) (c : Bool) (l : List Tal) (hs : l.length < 1099511627776) (hsh : ShortT1 l) (K : Nat) (hK : (prevsG none l).length ≤ K) :
    LoopS (runD tab noExt (d + 5)) (drawI (runD tab noExt (d + 5))) [0, 3] [2] L83x0 0 K [(0, .sl c 4 (l.map Tal.cells)), (3, .int .i64 0)] [] = if (prevsG none l).all talOk then (some (.exit 0, [(2, .undef)], []) : Out) else some (.ret, [(2, .bool false)], []) := by
  have key := LoopS_allP (run := (runD tab noExt (d + 5))) (draw := drawI (runD tab noExt (d + 5))) (live := [0, 3]) (out := [2]) (c := L83x0) (n0 := 0) (prevsG none l) talOk (fun (i : Nat) => [(0, .sl c 4 (l.map Tal.cells)), (3, .int .i64 (i : Int))]) [] (some (.exit 0, [(2, .undef)], [])) (some (.ret, [(2, .bool false)], [])) (fun K => ?_) (fun (i : Nat) x K hi hx0 hbef => ?_) K hK
  · simp only [Int.natCast_zero] at key
    exact key
  · rw [LoopS_eq, prevsG_len]
    simp -implicitDefEqProofs only [go_sem, Nat.reduceBEq, Nat.reduceAdd, Nat.reduceSub, Nat.reduceMul, Nat.reduceLeDiff, Nat.reduceEqDiff, Nat.reduceLT, Int.reduceNeg, Int.reduceAdd, Int.reduceSub, Int.reduceMul, Int.reduceLE, Int.reduceLT, Int.reduceEq, Int.reduceToNat, reduceCtorEq, evL83x0, B83x0, Int.lt_irrefl]
  · obtain ⟨p, v⟩ := x
    rw [prevsG_len] at hi
    obtain ⟨hx, g2, g3⟩ := prevsG_at hx0
    obtain ⟨h1, h2⟩ := hsh v (List.mem_of_getElem? hx)
    have hr := run_rowOk (d + 2) v.rc v.key h1 h2
    rw [LoopS_eq]
    obtain ⟨vc, vs, a, m, s⟩ := v
    simp only at hr h1 h2
    have bad : Tal.one ⟨vc, vs, a, m, s⟩ = false → ∀ (A B : Out), (if talOk (p, ⟨vc, vs, a, m, s⟩) = true then A else B) = B := fun h A B => by simp only [talOk, h, Bool.false_and, Bool.false_eq_true, if_false]
    cases c2 : rowOk vs
    · rw [bad (by simp [Tal.one, c2])]
      rw [c2] at hr
      simp -implicitDefEqProofs (disch := omega) only [go_sem, Nat.reduceBEq, Nat.reduceAdd, Nat.reduceSub, Nat.reduceMul, Nat.reduceLeDiff, Nat.reduceEqDiff, Nat.reduceLT, Int.reduceNeg, Int.reduceAdd, Int.reduceSub, Int.reduceMul, Int.reduceLE, Int.reduceLT, Int.reduceEq, Int.reduceToNat, reduceCtorEq, evL83x0, B83x0, evC_draw, evD83x0, E83x0, IntWalk.i64_in, Tal.cells, hr, hx, beq_ft, beq_tf, Bool.true_or, Bool.false_or, hi]
    rw [c2] at hr
    by_cases c1 : (vs.length : Int) = 1
    rotate_left
    · rw [bad (by simp only [Tal.one, decide_eq_false c1, Bool.false_and])]
      simp -implicitDefEqProofs (disch := omega) only [go_sem, Nat.reduceBEq, Nat.reduceAdd, Nat.reduceSub, Nat.reduceMul, Nat.reduceLeDiff, Nat.reduceEqDiff, Nat.reduceLT, Int.reduceNeg, Int.reduceAdd, Int.reduceSub, Int.reduceMul, Int.reduceLE, Int.reduceLT, Int.reduceEq, Int.reduceToNat, reduceCtorEq, evL83x0, B83x0, evC_draw, evD83x0, E83x0, IntWalk.i64_in, Tal.cells, hr, hx, beq_ft, beq_tf, Bool.true_or, Bool.false_or, hi, (eq_false c1 : ((vs.length : Int) = 1) = False)]
    by_cases c3 : 1 ≤ a ∧ a ≤ 100
    rotate_left
    · rw [bad (by simp only [Tal.one, decide_eq_false c3, Bool.false_and, Bool.and_false])]
      simp -implicitDefEqProofs (disch := omega) only [go_sem, Nat.reduceBEq, Nat.reduceAdd, Nat.reduceSub, Nat.reduceMul, Nat.reduceLeDiff, Nat.reduceEqDiff, Nat.reduceLT, Int.reduceNeg, Int.reduceAdd, Int.reduceSub, Int.reduceMul, Int.reduceLE, Int.reduceLT, Int.reduceEq, Int.reduceToNat, reduceCtorEq, evL83x0, B83x0, evC_draw, evD83x0, E83x0, IntWalk.i64_in, Tal.cells, hr, hx, beq_ft, beq_tf, Bool.true_or, Bool.false_or, hi, run_l1In, (eq_true c1 : ((vs.length : Int) = 1) = True), (eq_false c3 : (1 ≤ a ∧ a ≤ 100) = False)]
    by_cases c4 : 0 ≤ m ∧ m ≤ a
    rotate_left
    · rw [bad (by simp only [Tal.one, decide_eq_false c4, Bool.false_and, Bool.and_false])]
      simp -implicitDefEqProofs (disch := omega) only [go_sem, Nat.reduceBEq, Nat.reduceAdd, Nat.reduceSub, Nat.reduceMul, Nat.reduceLeDiff, Nat.reduceEqDiff, Nat.reduceLT, Int.reduceNeg, Int.reduceAdd, Int.reduceSub, Int.reduceMul, Int.reduceLE, Int.reduceLT, Int.reduceEq, Int.reduceToNat, reduceCtorEq, evL83x0, B83x0, evC_draw, evD83x0, E83x0, IntWalk.i64_in, Tal.cells, hr, hx, beq_ft, beq_tf, Bool.true_or, Bool.false_or, hi, run_l1In, (eq_true c1 : ((vs.length : Int) = 1) = True), (eq_true c3 : (1 ≤ a ∧ a ≤ 100) = True), (eq_false c4 : (0 ≤ m ∧ m ≤ a) = False)]
    by_cases c5 : -9999 * m ≤ s ∧ s ≤ 9999 * m
    rotate_left
    · rw [bad (by simp only [Tal.one, decide_eq_false c5, Bool.false_and, Bool.and_false])]
      simp -implicitDefEqProofs (disch := omega) only [go_sem, Nat.reduceBEq, Nat.reduceAdd, Nat.reduceSub, Nat.reduceMul, Nat.reduceLeDiff, Nat.reduceEqDiff, Nat.reduceLT, Int.reduceNeg, Int.reduceAdd, Int.reduceSub, Int.reduceMul, Int.reduceLE, Int.reduceLT, Int.reduceEq, Int.reduceToNat, reduceCtorEq, evL83x0, B83x0, evC_draw, evD83x0, E83x0, IntWalk.i64_in, Tal.cells, hr, hx, beq_ft, beq_tf, Bool.true_or, Bool.false_or, hi, run_l1In, (eq_true c1 : ((vs.length : Int) = 1) = True), (eq_true c3 : (1 ≤ a ∧ a ≤ 100) = True), (eq_true c4 : (0 ≤ m ∧ m ≤ a) = True), (eq_false c5 : (-9999 * m ≤ s ∧ s ≤ 9999 * m) = False)]
    have k1 : Tal.one ⟨vc, vs, a, m, s⟩ = true := by simp only [Tal.one, decide_eq_true c1, c2, decide_eq_true c3, decide_eq_true c4, decide_eq_true c5, Bool.and_self]
    cases i with
    | zero =>
      obtain rfl := g2 rfl
      have hi0 : (0 : Int) < l.length := by omega
      have e : talOk (none, ⟨vc, vs, a, m, s⟩) = true := by unfold talOk; simp only [k1, talAhead, Bool.true_and]
      rw [e]
      simp -implicitDefEqProofs (disch := omega) only [go_sem, Nat.reduceBEq, Nat.reduceAdd, Nat.reduceSub, Nat.reduceMul, Nat.reduceLeDiff, Nat.reduceEqDiff, Nat.reduceLT, Int.reduceNeg, Int.reduceAdd, Int.reduceSub, Int.reduceMul, Int.reduceLE, Int.reduceLT, Int.reduceEq, Int.reduceToNat, reduceCtorEq, evL83x0, B83x0, evC_draw, evD83x0, E83x0, IntWalk.i64_in, Tal.cells, hr, hx, beq_ft, beq_tf, Bool.true_or, Bool.false_or, hi0, run_l1In, (eq_true c1 : ((vs.length : Int) = 1) = True), (eq_true c3 : (1 ≤ a ∧ a ≤ 100) = True), (eq_true c4 : (0 ≤ m ∧ m ≤ a) = True), (eq_true c5 : (-9999 * m ≤ s ∧ s ≤ 9999 * m) = True), Int.natCast_zero, Int.lt_irrefl]
    | succ j =>
      have hj : j < l.length := by omega
      have hw := List.getElem?_eq_getElem hj
      obtain rfl := (g3 j rfl).trans hw
      generalize l[j] = w at hw hx0
      have hpj : j < (prevsG none l).length := by rw [prevsG_len]; exact hj
      have ho := hbef j ((prevsG none l)[j]) (by omega) (List.getElem?_eq_getElem hpj)
      have hpq := List.getElem?_eq_getElem hpj
      generalize (prevsG none l)[j] = pq at ho hpq
      obtain ⟨q, w'⟩ := pq
      obtain ⟨hw', _, _⟩ := prevsG_at hpq
      obtain rfl : w' = w := by rw [hw] at hw'; injection hw' with h; exact h.symm
      have k2 : w'.one = true := by unfold talOk at ho; simp only [Bool.and_eq_true] at ho; exact ho.1
      obtain ⟨kv, hkv, okv, ov⟩ := Tal.one_key k1
      obtain ⟨kw, hkw, okw, ow⟩ := Tal.one_key k2
      have e : talOk (some w', ⟨vc, vs, a, m, s⟩) = decide (kw.cmp kv < 0) := by unfold talOk; simp only [k1, talAhead, Bool.true_and, k0, hkw]; simp only at hkv; rw [hkv]; rfl
      have sw : kw.s.size < 1099511627776 := (hsh w' (List.mem_of_getElem? hw)).2 kw (by rw [hkw]; simp)
      have sv : kv.s.size < 1099511627776 := h2 kv (by simp only at hkv; rw [hkv]; simp)
      have hord := run_RowOrder1 d w'.rc vc kw kv okw okv ow ov sw sv
      rw [e]
      obtain ⟨wc, wkey, wa, wm, wsum⟩ := w'
      simp only at hkv hkw
      subst hkv hkw
      simp only [List.map_cons, List.map_nil] at hr hord
      have hp : (0 : Int) < (j : Int) + 1 := by omega
      have hj' : (j : Int) < l.length := by omega
      have hp0 : (0 : Int) ≤ (j : Int) + 1 := by omega
      have htn : ((j : Int) + 1).toNat = j + 1 := by omega
      have hi' : (j : Int) + 1 < l.length := by omega
      generalize Val.cmp kw kv = x at hord ⊢
      by_cases k5 : x < 0
      · have k6 : ¬ 0 ≤ x := by omega
        simp -implicitDefEqProofs (disch := omega) only [go_sem, Nat.reduceBEq, Nat.reduceAdd, Nat.reduceSub, Nat.reduceMul, Nat.reduceLeDiff, Nat.reduceEqDiff, Nat.reduceLT, Int.reduceNeg, Int.reduceAdd, Int.reduceSub, Int.reduceMul, Int.reduceLE, Int.reduceLT, Int.reduceEq, Int.reduceToNat, reduceCtorEq, evL83x0, B83x0, evC_draw, evD83x0, E83x0, IntWalk.i64_in, Tal.cells, hr, hx, beq_ft, beq_tf, Bool.true_or, Bool.false_or, hi', hj', hp0, htn, hp, hw, hord, run_l1In, List.map_cons, List.map_nil, Int.add_sub_cancel, Int.add_assoc, List.length_cons, List.length_nil, (eq_true c3 : (1 ≤ a ∧ a ≤ 100) = True), (eq_true c4 : (0 ≤ m ∧ m ≤ a) = True), (eq_true c5 : (-9999 * m ≤ s ∧ s ≤ 9999 * m) = True), (eq_true k5 : (x < 0) = True), (eq_false k6 : (0 ≤ x) = False)]
      · have k6 : 0 ≤ x := by omega
        simp -implicitDefEqProofs (disch := omega) only [go_sem, Nat.reduceBEq, Nat.reduceAdd, Nat.reduceSub, Nat.reduceMul, Nat.reduceLeDiff, Nat.reduceEqDiff, Nat.reduceLT, Int.reduceNeg, Int.reduceAdd, Int.reduceSub, Int.reduceMul, Int.reduceLE, Int.reduceLT, Int.reduceEq, Int.reduceToNat, reduceCtorEq, evL83x0, B83x0, evC_draw, evD83x0, E83x0, IntWalk.i64_in, Tal.cells, hr, hx, beq_ft, beq_tf, Bool.true_or, Bool.false_or, hi', hj', hp0, htn, hp, hw, hord, run_l1In, List.map_cons, List.map_nil, Int.add_sub_cancel, Int.add_assoc, List.length_cons, List.length_nil, (eq_true c3 : (1 ≤ a ∧ a ≤ 100) = True), (eq_true c4 : (0 ≤ m ∧ m ≤ a) = True), (eq_true c5 : (-9999 * m ≤ s ∧ s ≤ 9999 * m) = True), (eq_false k5 : (x < 0) = False), (eq_true k6 : (0 ≤ x) = True)]
theorem run_talsS (d : Nat) (c : Bool) (l : List Tal) (hs : l.length < 1099511627776) (hsh : ShortT1 l) : retP (runD tab noExt (d + 6)) 83 [.sl c 4 (l.map Tal.cells)] = some [.bool (talsOk l)] := by
  rw [retP, runD_eq find83 _ _ _ (by simp)]
  have hl := loop_talS d c l hs hsh 1099511627775 (by rw [prevsG_len]; omega)
  simp -implicitDefEqProofs (disch := omega) only [go_sem, Nat.reduceBEq, Nat.reduceAdd, Nat.reduceSub, Nat.reduceMul, Nat.reduceLeDiff, Nat.reduceEqDiff, Nat.reduceLT, Int.reduceNeg, Int.reduceAdd, Int.reduceSub, Int.reduceMul, Int.reduceLE, Int.reduceLT, Int.reduceEq, Int.reduceToNat, reduceCtorEq]
  rw [hl]
  unfold talsOk
  cases h : (prevsG none l).all talOk <;> simp -implicitDefEqProofs (disch := omega) only [go_sem, Nat.reduceBEq, Nat.reduceAdd, Nat.reduceSub, Nat.reduceMul, Nat.reduceLeDiff, Nat.reduceEqDiff, Nat.reduceLT, Int.reduceNeg, Int.reduceAdd, Int.reduceSub, Int.reduceMul, Int.reduceLE, Int.reduceLT, Int.reduceEq, Int.reduceToNat, reduceCtorEq]
end Go.Proofs.Ytfbjbkkcilhgjaa.PE
/- Trees of memory of one's own: what lies in them, that they stay ays they are, how they are told ays values, how a call hands them over. -/
set_option linter.unusedVariables false
set_option linter.unusedSimpArgs false
namespace Go.Proofs.Ytfbjbkkcilhgjaa.PE
open Go.RowKit

/-- The kind of a cell. -/
inductive Fd where
  | int (k : IntKind)
  | bool
  | str
  | sub (fs : List Fd)
/-- What lies in a cell. -/
inductive U where
  | int (n : Int)
  | bool (b : Bool)
  | str (s : ByteArray)
  | sub (xs : List (List U))
def Fd.deep : Fd → Bool
  | .sub _ => true
  | _ => false
def blkOf (fs : List Fd) (st : Nat) (cont : List (List V)) : Blk := if fs.any Fd.deep then .nest st fs.length cont else .rows st fs.length cont

def Zip3 {α β : Type} (R : α → β → List Nat → Prop) : List α → List β → List Nat → Prop
  | [], [], ids => ids = []
  | a :: ays, b :: bs, ids => ∃ i j, ids = i ++ j ∧ R a b i ∧ Zip3 R ays bs j
  | _, _, _ => False
def Zip2 {α β : Type} (R : α → β → Prop) : List α → List β → Prop
  | [], [] => True
  | a :: ays, b :: bs => R a b ∧ Zip2 R ays bs
  | _, _ => False

mutual
/-- A cell whose memory is one's own: the blocks that it lies in. -/
def OwnF (h : Heap) : Fd → V → U → List Nat → Prop
  | .int k, v, u, ids => ∃ n, v = .int k n ∧ u = .int n ∧ ids = []
  | .bool, v, u, ids => ∃ b, v = .bool b ∧ u = .bool b ∧ ids = []
  | .str, v, u, ids => ∃ s, v = .str s ∧ u = .str s ∧ ids = []
  | .sub fs, v, u, ids => ∃ xs, u = .sub xs ∧ ((∃ c, v = .sl c fs.length [] ∧ xs = [] ∧ ids = []) ∨
      ∃ id st clip cont r, v = .ref id st 0 cont.length clip ∧ h[id]? = some (blkOf fs st cont) ∧ ids = id :: r ∧ Zip3 (OwnR h fs) cont xs r)
def OwnR (h : Heap) : List Fd → List V → List U → List Nat → Prop
  | [], c, x, ids => c = [] ∧ x = [] ∧ ids = []
  | f :: fs, c, x, ids => ∃ v c' u x' i j, c = v :: c' ∧ x = u :: x' ∧ ids = i ++ j ∧ OwnF h f v u i ∧ OwnR h fs c' x' j
end
mutual
/-- A cell of a value. -/
def PurF : Fd → V → U → Prop
  | .int k, v, u => ∃ n, v = .int k n ∧ u = .int n
  | .bool, v, u => ∃ b, v = .bool b ∧ u = .bool b
  | .str, v, u => ∃ s, v = .str s ∧ u = .str s
  | .sub fs, v, u => ∃ c cont xs, v = .sl c fs.length cont ∧ u = .sub xs ∧ Zip2 (PurR fs) cont xs
def PurR : List Fd → List V → List U → Prop
  | [], c, x => c = [] ∧ x = []
  | f :: fs, c, x => ∃ v c' u x', c = v :: c' ∧ x = u :: x' ∧ PurF f v u ∧ PurR fs c' x'
end

theorem Zip3_len {α β : Type} {R : α → β → List Nat → Prop} : ∀ {ays : List α} {bs : List β} {ids : List Nat}, Zip3 R ays bs ids → ays.length = bs.length
  | [], [], _, _ => rfl
  | a :: ays, b :: bs, ids, ⟨i, j, _, _, h⟩ => by simp [Zip3_len h]
  | [], _ :: _, _, h => h.elim
  | _ :: _, [], _, h => h.elim
theorem Zip3_mono {α β : Type} {R S : α → β → List Nat → Prop} {P : Nat → Prop} (f : ∀ a b i, R a b i → (∀ id ∈ i, P id) → S a b i) : ∀ {ays : List α} {bs : List β} {ids : List Nat}, Zip3 R ays bs ids → (∀ id ∈ ids, P id) → Zip3 S ays bs ids
  | [], [], _, h, _ => h
  | a :: ays, b :: bs, _, ⟨i, j, e, h1, h2⟩, hp => ⟨i, j, e, f a b i h1 (fun id hid => hp id (e ▸ List.mem_append_left _ hid)), Zip3_mono f h2 (fun id hid => hp id (e ▸ List.mem_append_right _ hid))⟩
  | [], _ :: _, _, h, _ => h.elim
  | _ :: _, [], _, h, _ => h.elim
theorem Zip3_map {α β : Type} {R S : α → β → List Nat → Prop} {g : α → α} {m : Nat → Nat} (f : ∀ a b i, R a b i → S (g a) b (i.map m)) : ∀ {ays : List α} {bs : List β} {ids : List Nat}, Zip3 R ays bs ids → Zip3 S (ays.map g) bs (ids.map m)
  | [], [], _, h => by cases h; rfl
  | a :: ays, b :: bs, _, ⟨i, j, e, h1, h2⟩ => ⟨i.map m, j.map m, by rw [e, List.map_append], f a b i h1, Zip3_map f h2⟩
  | [], _ :: _, _, h => h.elim
  | _ :: _, [], _, h => h.elim
theorem Zip3_app {α β : Type} {R : α → β → List Nat → Prop} : ∀ {ays : List α} {bs : List β} {ids : List Nat} {a2 : List α} {b2 : List β} {i2 : List Nat}, Zip3 R ays bs ids → Zip3 R a2 b2 i2 → Zip3 R (ays ++ a2) (bs ++ b2) (ids ++ i2)
  | [], [], _, _, _, _, h, h2 => by cases h; exact h2
  | a :: ays, b :: bs, _, _, _, _, ⟨i, j, e, h1, h3⟩, h2 => ⟨i, j ++ _, by rw [e, List.append_assoc], h1, Zip3_app h3 h2⟩
  | [], _ :: _, _, _, _, _, h, _ => h.elim
  | _ :: _, [], _, _, _, _, h, _ => h.elim
theorem Zip3_one {α β : Type} {R : α → β → List Nat → Prop} {a : α} {b : β} {i : List Nat} (h : R a b i) : Zip3 R [a] [b] i := ⟨i, [], by simp, h, rfl⟩

/-! ### they stay where the blocks stay -/
mutual
theorem OwnF_frame {h h' : Heap} : ∀ (f : Fd) {v : V} {u : U} {ids : List Nat}, OwnF h f v u ids → (∀ id ∈ ids, h'[id]? = h[id]?) → OwnF h' f v u ids
  | .int k, _, _, _, ho, _ => by simpa only [OwnF] using ho
  | .bool, _, _, _, ho, _ => by simpa only [OwnF] using ho
  | .str, _, _, _, ho, _ => by simpa only [OwnF] using ho
  | .sub fs, v, u, ids, ho, hk => by
    simp only [OwnF] at ho ⊢
    obtain ⟨xs, e, ho | ⟨id, st, clip, cont, r, e1, e2, e3, ho⟩⟩ := ho
    · exact ⟨xs, e, .inl ho⟩
    · subst e3
      exact ⟨xs, e, .inr ⟨id, st, clip, cont, r, e1, (hk id List.mem_cons_self).trans e2, rfl, Zip3_mono (fun c x i hr hp => OwnR_frame fs hr hp) ho (fun i hi => hk i (List.mem_cons_of_mem _ hi))⟩⟩
theorem OwnR_frame {h h' : Heap} : ∀ (fs : List Fd) {c : List V} {x : List U} {ids : List Nat}, OwnR h fs c x ids → (∀ id ∈ ids, h'[id]? = h[id]?) → OwnR h' fs c x ids
  | [], _, _, _, ho, _ => by simpa only [OwnR] using ho
  | f :: fs, c, x, ids, ho, hk => by
    simp only [OwnR] at ho ⊢
    obtain ⟨v, c', u, x', i, j, e1, e2, e3, h1, h2⟩ := ho
    subst e3
    exact ⟨v, c', u, x', i, j, e1, e2, rfl, OwnF_frame f h1 (fun id hid => hk id (List.mem_append_left _ hid)), OwnR_frame fs h2 (fun id hid => hk id (List.mem_append_right _ hid))⟩
end
theorem Zip3_all {α β : Type} {R : α → β → List Nat → Prop} {P : Nat → Prop} (f : ∀ a b i, R a b i → ∀ id ∈ i, P id) : ∀ {ays : List α} {bs : List β} {ids : List Nat}, Zip3 R ays bs ids → ∀ id ∈ ids, P id
  | [], [], _, h => by cases h; intro _ hm; cases hm
  | a :: ays, b :: bs, _, ⟨i, j, e, h1, h2⟩ => by
    subst e
    intro id hm
    rcases List.mem_append.1 hm with hm | hm
    · exact f a b i h1 id hm
    · exact Zip3_all f h2 id hm
  | [], _ :: _, _, h => h.elim
  | _ :: _, [], _, h => h.elim
mutual
theorem OwnF_lt {h : Heap} : ∀ (f : Fd) {v : V} {u : U} {ids : List Nat}, OwnF h f v u ids → ∀ id ∈ ids, id < h.length
  | .int k, _, _, _, ho => by simp only [OwnF] at ho; obtain ⟨_, _, _, rfl⟩ := ho; intro _ hm; cases hm
  | .bool, _, _, _, ho => by simp only [OwnF] at ho; obtain ⟨_, _, _, rfl⟩ := ho; intro _ hm; cases hm
  | .str, _, _, _, ho => by simp only [OwnF] at ho; obtain ⟨_, _, _, rfl⟩ := ho; intro _ hm; cases hm
  | .sub fs, v, u, ids, ho => by
    simp only [OwnF] at ho
    obtain ⟨xs, e, ⟨_, _, _, rfl⟩ | ⟨id, st, clip, cont, r, e1, e2, rfl, ho⟩⟩ := ho
    · intro _ hm; cases hm
    · intro i hm
      rcases List.mem_cons.1 hm with rfl | hm
      · exact (List.getElem?_eq_some_iff.1 e2).1
      · exact Zip3_all (fun c x i hr => OwnR_lt fs hr) ho i hm
theorem OwnR_lt {h : Heap} : ∀ (fs : List Fd) {c : List V} {x : List U} {ids : List Nat}, OwnR h fs c x ids → ∀ id ∈ ids, id < h.length
  | [], _, _, _, ho => by simp only [OwnR] at ho; obtain ⟨_, _, rfl⟩ := ho; intro _ hm; cases hm
  | f :: fs, c, x, ids, ho => by
    simp only [OwnR] at ho
    obtain ⟨v, c', u, x', i, j, e1, e2, rfl, h1, h2⟩ := ho
    intro id hm
    rcases List.mem_append.1 hm with hm | hm
    · exact OwnF_lt f h1 id hm
    · exact OwnR_lt fs h2 id hm
end

/-! ### told ays values -/
def dep : Fd → Nat
  | .sub fs => depR fs + 1
  | _ => 0
where depR : List Fd → Nat
  | [] => 0
  | f :: fs => max (dep f) (depR fs)
theorem mapO_zip {α β γ' : Type} {R : α → β → List Nat → Prop} {S : γ' → β → Prop} {f : α → Option γ'} (hf : ∀ a b i, R a b i → ∃ c, f a = some c ∧ S c b) : ∀ {ays : List α} {bs : List β} {ids : List Nat}, Zip3 R ays bs ids → ∃ cs, mapO f ays = some cs ∧ Zip2 S cs bs
  | [], [], _, _ => ⟨[], rfl, trivial⟩
  | a :: ays, b :: bs, _, ⟨i, j, _, h1, h2⟩ => by
    obtain ⟨c, e1, s1⟩ := hf a b i h1
    obtain ⟨cs, e2, s2⟩ := mapO_zip hf h2
    exact ⟨c :: cs, by simp only [mapO, e1, e2], s1, s2⟩
  | [], _ :: _, _, h => h.elim
  | _ :: _, [], _, h => h.elim
theorem Zip3_to2 {α β : Type} {R : α → β → List Nat → Prop} {S : α → β → Prop} (f : ∀ a b i, R a b i → S a b) : ∀ {ays : List α} {bs : List β} {ids : List Nat}, Zip3 R ays bs ids → Zip2 S ays bs
  | [], [], _, _ => trivial
  | a :: ays, b :: bs, _, ⟨i, j, _, h1, h2⟩ => ⟨f a b i h1, Zip3_to2 f h2⟩
  | [], _ :: _, _, h => h.elim
  | _ :: _, [], _, h => h.elim
/-- Rows whose cells are no slices lie ays they are told. -/
theorem OwnR_flat {h : Heap} : ∀ (fs : List Fd) {c : List V} {x : List U} {ids : List Nat}, fs.any Fd.deep = false → OwnR h fs c x ids → PurR fs c x
  | [], _, _, _, _, ho => by simp only [OwnR] at ho; simp only [PurR]; exact ⟨ho.1, ho.2.1⟩
  | f :: fs, c, x, ids, hd, ho => by
    simp only [OwnR] at ho
    simp only [PurR]
    simp only [List.any_cons, Bool.or_eq_false_iff] at hd
    obtain ⟨v, c', u, x', i, j, e1, e2, e3, h1, h2⟩ := ho
    refine ⟨v, c', u, x', e1, e2, ?_, OwnR_flat fs hd.2 h2⟩
    cases f with
    | int k => simp only [OwnF] at h1; simp only [PurF]; obtain ⟨n, a, b, _⟩ := h1; exact ⟨n, a, b⟩
    | bool => simp only [OwnF] at h1; simp only [PurF]; obtain ⟨n, a, b, _⟩ := h1; exact ⟨n, a, b⟩
    | str => simp only [OwnF] at h1; simp only [PurF]; obtain ⟨n, a, b, _⟩ := h1; exact ⟨n, a, b⟩
    | sub gs => simp [Fd.deep] at hd
mutual
theorem OwnF_pure {h : Heap} : ∀ (f : Fd) (d : Nat) {v : V} {u : U} {ids : List Nat}, dep f ≤ d → OwnF h f v u ids → ∃ p, pureD h d v = some p ∧ PurF f p u
  | .int k, d, _, _, _, _, ho => by
    simp only [OwnF] at ho
    obtain ⟨n, rfl, rfl, _⟩ := ho
    exact ⟨.int k n, by cases d <;> rfl, by simp only [PurF]; exact ⟨n, rfl, rfl⟩⟩
  | .bool, d, _, _, _, _, ho => by
    simp only [OwnF] at ho
    obtain ⟨n, rfl, rfl, _⟩ := ho
    exact ⟨.bool n, by cases d <;> rfl, by simp only [PurF]; exact ⟨n, rfl, rfl⟩⟩
  | .str, d, _, _, _, _, ho => by
    simp only [OwnF] at ho
    obtain ⟨n, rfl, rfl, _⟩ := ho
    exact ⟨.str n, by cases d <;> rfl, by simp only [PurF]; exact ⟨n, rfl, rfl⟩⟩
  | .sub fs, d, v, u, ids, hd, ho => by
    simp only [OwnF] at ho
    obtain ⟨xs, rfl, ⟨c, rfl, rfl, _⟩ | ⟨id, st, clip, cont, r, rfl, e2, _, ho⟩⟩ := ho
    · exact ⟨.sl c fs.length [], by cases d <;> rfl, by simp only [PurF]; exact ⟨c, [], [], rfl, rfl, trivial⟩⟩
    · obtain ⟨d, rfl⟩ : ∃ m, d = m + 1 := ⟨d - 1, by simp only [dep] at hd; omega⟩
      have hd' : dep.depR fs ≤ d := by simp only [dep] at hd; omega
      cases hdeep : fs.any Fd.deep
      · refine ⟨.sl clip fs.length cont, ?_, ?_⟩
        · simp only [pureD, e2, blkOf, hdeep, Bool.false_eq_true, if_false, if_true, List.drop_zero, List.take_length]
        · simp only [PurF]
          exact ⟨clip, cont, xs, rfl, rfl, Zip3_to2 (fun c x i hr => OwnR_flat fs hdeep hr) ho⟩
      · obtain ⟨cs, m1, m2⟩ := mapO_zip (f := mapO (pureD h d)) (S := PurR fs) (fun c x i hr => OwnR_pure fs d hd' hr) ho
        refine ⟨.sl clip fs.length cs, ?_, ?_⟩
        · simp only [pureD, e2, blkOf, hdeep, if_true, List.drop_zero, List.take_length, m1, Option.map_some]
        · simp only [PurF]
          exact ⟨clip, cs, xs, rfl, rfl, m2⟩
theorem OwnR_pure {h : Heap} : ∀ (fs : List Fd) (d : Nat) {c : List V} {x : List U} {ids : List Nat}, dep.depR fs ≤ d → OwnR h fs c x ids → ∃ p, mapO (pureD h d) c = some p ∧ PurR fs p x
  | [], d, _, _, _, _, ho => by
    simp only [OwnR] at ho
    obtain ⟨rfl, rfl, _⟩ := ho
    exact ⟨[], rfl, by simp [PurR]⟩
  | f :: fs, d, c, x, ids, hd, ho => by
    simp only [OwnR] at ho
    simp only [dep.depR] at hd
    obtain ⟨v, c', u, x', i, j, rfl, rfl, _, h1, h2⟩ := ho
    obtain ⟨p, e1, p1⟩ := OwnF_pure f d (by omega) h1
    obtain ⟨q, e2, q1⟩ := OwnR_pure fs d (by omega) h2
    exact ⟨p :: q, by simp only [mapO, e1, e2], by simp only [PurR]; exact ⟨p, q, u, x', rfl, rfl, p1, q1⟩⟩
end

/-! ### handed over by a call -/
theorem Zip3_fresh {α β : Type} {R : α → β → List Nat → Prop} {P : α → Bool} (f : ∀ a b i, R a b i → P a = true) : ∀ {ays : List α} {bs : List β} {ids : List Nat}, Zip3 R ays bs ids → ays.all P = true
  | [], [], _, _ => rfl
  | a :: ays, b :: bs, _, ⟨i, j, _, h1, h2⟩ => by rw [List.all_cons, f a b i h1, Zip3_fresh f h2]; rfl
  | [], _ :: _, _, h => h.elim
  | _ :: _, [], _, h => h.elim
theorem OwnF_fresh {h : Heap} (f : Fd) {v : V} {u : U} {ids : List Nat} (ho : OwnF h f v u ids) : freshC v = true := by
  cases f with
  | int k => simp only [OwnF] at ho; obtain ⟨_, rfl, _⟩ := ho; rfl
  | bool => simp only [OwnF] at ho; obtain ⟨_, rfl, _⟩ := ho; rfl
  | str => simp only [OwnF] at ho; obtain ⟨_, rfl, _⟩ := ho; rfl
  | sub fs =>
    simp only [OwnF] at ho
    obtain ⟨xs, _, ⟨c, rfl, _⟩ | ⟨id, st, clip, cont, r, rfl, _⟩⟩ := ho <;> rfl
theorem OwnR_fresh {h : Heap} : ∀ (fs : List Fd) {c : List V} {x : List U} {ids : List Nat}, OwnR h fs c x ids → c.all freshC = true
  | [], _, _, _, ho => by simp only [OwnR] at ho; rw [ho.1]; rfl
  | f :: fs, c, x, ids, ho => by
    simp only [OwnR] at ho
    obtain ⟨v, c', u, x', i, j, rfl, _, _, h1, h2⟩ := ho
    rw [List.all_cons, OwnF_fresh f h1, OwnR_fresh fs h2]
    rfl
theorem moved_get {h hc : Heap} {id : Nat} {b : Blk} (hb : hc[id]? = some b) : (h ++ movedH h.length hc)[id + h.length]? = some (shB h.length (clean b)) := by
  rw [List.getElem?_append_right (by omega), Nat.add_sub_cancel]
  simp [movedH, hb]
mutual
theorem OwnF_moved {h hc : Heap} : ∀ (f : Fd) {v : V} {u : U} {ids : List Nat}, OwnF hc f v u ids → OwnF (h ++ movedH h.length hc) f (shC h.length v) u (ids.map (· + h.length))
  | .int k, _, _, _, ho => by simp only [OwnF] at ho ⊢; obtain ⟨n, rfl, rfl, rfl⟩ := ho; exact ⟨n, rfl, rfl, rfl⟩
  | .bool, _, _, _, ho => by simp only [OwnF] at ho ⊢; obtain ⟨n, rfl, rfl, rfl⟩ := ho; exact ⟨n, rfl, rfl, rfl⟩
  | .str, _, _, _, ho => by simp only [OwnF] at ho ⊢; obtain ⟨n, rfl, rfl, rfl⟩ := ho; exact ⟨n, rfl, rfl, rfl⟩
  | .sub fs, v, u, ids, ho => by
    simp only [OwnF] at ho ⊢
    obtain ⟨xs, e, ⟨c, rfl, e1, rfl⟩ | ⟨id, st, clip, cont, r, rfl, e2, rfl, ho⟩⟩ := ho
    · exact ⟨xs, e, .inl ⟨c, rfl, e1, rfl⟩⟩
    · have hz := Zip3_map (S := OwnR (h ++ movedH h.length hc) fs) (g := fun x => x.map (shC h.length)) (m := (· + h.length)) (fun c x i hr => OwnR_moved fs hr) ho
      have hf : cont.all (fun x => x.all freshC) = true := Zip3_fresh (fun c x i hr => OwnR_fresh fs hr) ho
      have hg := moved_get (h := h) e2
      refine ⟨xs, e, .inr ⟨id + h.length, st, clip, cont.map (fun x => x.map (shC h.length)), r.map (· + h.length), by rw [List.length_map]; rfl, ?_, rfl, hz⟩⟩
      rw [hg]
      unfold blkOf
      cases hdeep : fs.any Fd.deep
      · have hid : cont.map (fun x => x.map (shC h.length)) = cont := by
          have := Zip3_to2 (S := fun (c : List V) (_ : List U) => c.map (shC h.length) = c) (fun c x i hr => OwnR_shift fs h.length hdeep hr) ho
          clear hz hf hg e2 ho
          revert this
          generalize xs = ys
          intro hz
          induction cont generalizing ys with
          | nil => rfl
          | cons a ays ih =>
            cases ys with
            | nil => exact hz.elim
            | cons b bs => rw [List.map_cons, hz.1, ih bs hz.2]
        simp only [Bool.false_eq_true, if_false, clean, hf, if_true, shB, hid]
      · simp only [if_true, clean, hf, shB]
theorem OwnR_moved {h hc : Heap} : ∀ (fs : List Fd) {c : List V} {x : List U} {ids : List Nat}, OwnR hc fs c x ids → OwnR (h ++ movedH h.length hc) fs (c.map (shC h.length)) x (ids.map (· + h.length))
  | [], _, _, _, ho => by simp only [OwnR] at ho ⊢; obtain ⟨rfl, rfl, rfl⟩ := ho; exact ⟨rfl, rfl, rfl⟩
  | f :: fs, c, x, ids, ho => by
    simp only [OwnR] at ho ⊢
    obtain ⟨v, c', u, x', i, j, rfl, rfl, rfl, h1, h2⟩ := ho
    exact ⟨shC h.length v, c'.map (shC h.length), u, x', i.map (· + h.length), j.map (· + h.length), rfl, rfl, by rw [List.map_append], OwnF_moved f h1, OwnR_moved fs h2⟩
theorem OwnR_shift {h : Heap} : ∀ (fs : List Fd) (n : Nat) {c : List V} {x : List U} {ids : List Nat}, fs.any Fd.deep = false → OwnR h fs c x ids → c.map (shC n) = c
  | [], _, _, _, _, _, ho => by simp only [OwnR] at ho; rw [ho.1]; rfl
  | f :: fs, n, c, x, ids, hd, ho => by
    simp only [OwnR] at ho
    simp only [List.any_cons, Bool.or_eq_false_iff] at hd
    obtain ⟨v, c', u, x', i, j, rfl, rfl, rfl, h1, h2⟩ := ho
    rw [List.map_cons, OwnR_shift fs n hd.2 h2]
    cases f with
    | int k => simp only [OwnF] at h1; obtain ⟨_, rfl, _⟩ := h1; rfl
    | bool => simp only [OwnF] at h1; obtain ⟨_, rfl, _⟩ := h1; rfl
    | str => simp only [OwnF] at h1; obtain ⟨_, rfl, _⟩ := h1; rfl
    | sub gs => simp [Fd.deep] at hd
end
end Go.Proofs.Ytfbjbkkcilhgjaa.PE
/- What the functions of an exact statement do with such trees: sizes, copies, comparisons, marks; their loops. -/
set_option linter.unusedVariables false
set_option linter.unusedSimpArgs false
namespace Go.Proofs.Ytfbjbkkcilhgjaa.PE
open Go.RowKit

/-! ### loops by what holds at their head -/
section
variable {run : Run} {draw : Draw} {live out : List Nat} {c : C} {n0 : Nat}
theorem LoopK_inv {σ : Type} (n : Nat) (Inv : Nat → σ → Prop) (E : Nat → σ → Env) (H : σ → Heap) (fin : σ → Out)
    (h0 : ∀ b K, Inv n b → LoopK run draw live out c K (E n b) (H b) = fin b)
    (h1 : ∀ (i : Nat) b K, i < n → Inv i b → ∃ b', Inv (i + 1) b' ∧ LoopK run draw live out c (K + 1) (E i b) (H b) = LoopK run draw live out c K (E (i + 1) b') (H b'))
    (K : Nat) (hK : n ≤ K) (b : σ) (hb : Inv 0 b) : ∃ b', Inv n b' ∧ LoopK run draw live out c K (E 0 b) (H b) = fin b' := by
  have key : ∀ (m i K : Nat) b, i + m = n → m ≤ K → Inv i b → ∃ b', Inv n b' ∧ LoopK run draw live out c K (E i b) (H b) = fin b' := by
    intro m
    induction m with
    | zero => intro i K b hi _ hb; have : i = n := by omega
              subst this; exact ⟨b, hb, h0 b K hb⟩
    | succ m ih =>
      intro i K b hi hK hb
      obtain ⟨K, rfl⟩ : ∃ K', K = K' + 1 := ⟨K - 1, by omega⟩
      obtain ⟨b', hb', e⟩ := h1 i b K (by omega) hb
      obtain ⟨b2, hb2, e2⟩ := ih (i + 1) K b' (by omega) (by omega) hb'
      exact ⟨b2, hb2, e.trans e2⟩
  exact key n 0 K b (by omega) hK hb
theorem LoopS_inv {σ : Type} (n : Nat) (Inv : Nat → σ → Prop) (E : Nat → σ → Env) (H : σ → Heap) (fin : σ → Out)
    (h0 : ∀ b K, Inv n b → LoopS run draw live out c n0 K (E n b) (H b) = fin b)
    (h1 : ∀ (i : Nat) b K, i < n → Inv i b → ∃ b', Inv (i + 1) b' ∧ LoopS run draw live out c n0 (K + 1) (E i b) (H b) = LoopS run draw live out c n0 K (E (i + 1) b') (H b'))
    (K : Nat) (hK : n ≤ K) (b : σ) (hb : Inv 0 b) : ∃ b', Inv n b' ∧ LoopS run draw live out c n0 K (E 0 b) (H b) = fin b' := by
  have key : ∀ (m i K : Nat) b, i + m = n → m ≤ K → Inv i b → ∃ b', Inv n b' ∧ LoopS run draw live out c n0 K (E i b) (H b) = fin b' := by
    intro m
    induction m with
    | zero => intro i K b hi _ hb; have : i = n := by omega
              subst this; exact ⟨b, hb, h0 b K hb⟩
    | succ m ih =>
      intro i K b hi hK hb
      obtain ⟨K, rfl⟩ : ∃ K', K = K' + 1 := ⟨K - 1, by omega⟩
      obtain ⟨b', hb', e⟩ := h1 i b K (by omega) hb
      obtain ⟨b2, hb2, e2⟩ := ih (i + 1) K b' (by omega) (by omega) hb'
      exact ⟨b2, hb2, e.trans e2⟩
  exact key n 0 K b (by omega) hK hb
end

/-! ### sizes -/
def szZ (R : List U → Int → Int) : List (List U) → Int → Int
  | [], l => l
  | x :: xs, l => if R x l < 0 then -1 else szZ R xs (R x l)
mutual
def szF : Fd → U → Int → Int
  | .str, .str s, l => if l - s.size < 0 then -1 else l - s.size
  | .sub fs, .sub xs, l => if l - xs.length < 0 then -1 else szZ (szR fs) xs (l - xs.length)
  | _, _, l => l
def szR : List Fd → List U → Int → Int
  | f :: fs, u :: x, l => if szF f u l < 0 then -1 else szR fs x (szF f u l)
  | _, _, l => l
end
def AllU (P : List U → Prop) : List (List U) → Prop
  | [] => True
  | x :: xs => P x ∧ AllU P xs
mutual
def LenF (n m : Nat) : Fd → U → Prop
  | .str, .str s => s.size ≤ m
  | .sub fs, .sub xs => xs.length ≤ n ∧ AllU (LenR n m fs) xs
  | _, _ => True
def LenR (n m : Nat) : List Fd → List U → Prop
  | f :: fs, u :: x => LenF n m f u ∧ LenR n m fs x
  | _, _ => True
end
/-- How many numbers are in it. -/
def sumU (c : List U → Nat) : List (List U) → Nat
  | [] => 0
  | x :: xs => c x + sumU c xs
mutual
def cntF : Fd → U → Nat
  | .sub fs, .sub xs => sumU (cntR fs) xs
  | _, _ => 1
def cntR : List Fd → List U → Nat
  | f :: fs, u :: x => cntF f u + cntR fs x
  | _, _ => 0
end
theorem AllU_mono {P Q : List U → Prop} (f : ∀ x, P x → Q x) : ∀ {xs : List (List U)}, AllU P xs → AllU Q xs
  | [], _ => trivial
  | x :: xs, ⟨h1, h2⟩ => ⟨f x h1, AllU_mono f h2⟩
mutual
theorem LenF_mono {n m n' m' : Nat} (hn : n ≤ n') (hm : m ≤ m') : ∀ (f : Fd) {u : U}, LenF n m f u → LenF n' m' f u
  | .str, .str s, h => by simp only [LenF] at h ⊢; omega
  | .sub fs, .sub xs, h => by simp only [LenF] at h ⊢; exact ⟨by omega, AllU_mono (fun x hx => LenR_mono hn hm fs hx) h.2⟩
  | .int _, _, _ => by simp [LenF]
  | .bool, _, _ => by simp [LenF]
  | .str, .int _, _ => by simp [LenF]
  | .str, .bool _, _ => by simp [LenF]
  | .str, .sub _, _ => by simp [LenF]
  | .sub _, .int _, _ => by simp [LenF]
  | .sub _, .bool _, _ => by simp [LenF]
  | .sub _, .str _, _ => by simp [LenF]
theorem LenR_mono {n m n' m' : Nat} (hn : n ≤ n') (hm : m ≤ m') : ∀ (fs : List Fd) {x : List U}, LenR n m fs x → LenR n' m' fs x
  | f :: fs, u :: x, h => by simp only [LenR] at h ⊢; exact ⟨LenF_mono hn hm f h.1, LenR_mono hn hm fs h.2⟩
  | [], _, _ => by simp [LenR]
  | _ :: _, [], _ => by simp [LenR]
end
theorem szZ_spec {N : Nat} {R : List U → Int → Int} {P : List U → Prop} {c : List U → Nat} (hR : ∀ x (l : Int), l ≤ N → 0 ≤ R x l → 0 ≤ l → R x l ≤ l ∧ P x ∧ (c x : Int) ≤ 16 * (l - R x l) + 16) : ∀ (xs : List (List U)) (l : Int), l ≤ N → 0 ≤ szZ R xs l → 0 ≤ l →
    szZ R xs l ≤ l ∧ AllU P xs ∧ (sumU c xs : Int) ≤ 16 * (l - szZ R xs l) + 16 * xs.length
  | [], l, _, _, _ => by simp [szZ, AllU, sumU]
  | x :: xs, l, hl, h, h0 => by
    simp only [szZ] at h ⊢
    by_cases hx : R x l < 0
    · rw [if_pos hx] at h; omega
    · rw [if_neg hx] at h ⊢
      obtain ⟨a1, a2, a3⟩ := hR x l hl (by omega) h0
      obtain ⟨b1, b2, b3⟩ := szZ_spec hR xs (R x l) (by omega) h (by omega)
      refine ⟨by omega, ⟨a2, b2⟩, ?_⟩
      simp only [sumU, List.length_cons]
      push_cast
      omega
mutual
def okFd : Fd → Bool
  | .sub fs => decide (fs.length ≤ 16) && okFds fs
  | _ => true
def okFds : List Fd → Bool
  | [] => true
  | f :: fs => okFd f && okFds fs
end
mutual
theorem szF_spec {N : Nat} : ∀ (f : Fd) (u : U) (l : Int), okFd f = true → l ≤ N → 0 ≤ szF f u l → 0 ≤ l → szF f u l ≤ l ∧ LenF N N f u ∧ (cntF f u : Int) ≤ 16 * (l - szF f u l) + 1
  | .str, .str s, l, _, hl, h, h0 => by
    simp only [szF, LenF, cntF] at h ⊢
    split at h
    · omega
    · rename_i hc; rw [if_neg hc]; omega
  | .sub fs, .sub xs, l, hk, hl, h, h0 => by
    simp only [szF, LenF, cntF] at h ⊢
    simp only [okFd, Bool.and_eq_true, decide_eq_true_eq] at hk
    split at h
    · omega
    · rename_i hc
      rw [if_neg hc]
      obtain ⟨b1, b2, b3⟩ := szZ_spec (N := N) (R := szR fs) (P := LenR N N fs) (c := cntR fs) (fun x l hl h h0 => by
        obtain ⟨c1, c2, c3⟩ := szR_spec (N := N) fs x l hk.2 hl h h0
        exact ⟨c1, c2, by omega⟩) xs (l - xs.length) (by omega) h (by omega)
      exact ⟨by omega, ⟨by omega, b2⟩, by omega⟩
  | .int _, _, l, _, _, h, h0 => by simp [szF, LenF, cntF]
  | .bool, _, l, _, _, h, h0 => by simp [szF, LenF, cntF]
  | .str, .int _, l, _, _, h, h0 => by simp [szF, LenF, cntF]
  | .str, .bool _, l, _, _, h, h0 => by simp [szF, LenF, cntF]
  | .str, .sub _, l, _, _, h, h0 => by simp [szF, LenF, cntF]
  | .sub _, .int _, l, _, _, h, h0 => by simp [szF, LenF, cntF]
  | .sub _, .bool _, l, _, _, h, h0 => by simp [szF, LenF, cntF]
  | .sub _, .str _, l, _, _, h, h0 => by simp [szF, LenF, cntF]
theorem szR_spec {N : Nat} : ∀ (fs : List Fd) (x : List U) (l : Int), okFds fs = true → l ≤ N → 0 ≤ szR fs x l → 0 ≤ l → szR fs x l ≤ l ∧ LenR N N fs x ∧ (cntR fs x : Int) ≤ 16 * (l - szR fs x l) + fs.length
  | f :: fs, u :: x, l, hk, hl, h, h0 => by
    simp only [szR, LenR, cntR] at h ⊢
    simp only [okFds, Bool.and_eq_true] at hk
    split at h
    · omega
    · rename_i hc
      rw [if_neg hc]
      obtain ⟨a1, a2, a3⟩ := szF_spec (N := N) f u l hk.1 hl (by omega) h0
      obtain ⟨b1, b2, b3⟩ := szR_spec (N := N) fs x (szF f u l) hk.2 (by omega) h (by omega)
      refine ⟨by omega, ⟨a2, b2⟩, ?_⟩
      simp only [List.length_cons]
      push_cast
      omega
  | [], _, l, _, _, h, h0 => by simp [szR, LenR, cntR]
  | _ :: _, [], l, _, _, h, h0 => by simp [szR, LenR, cntR]; omega
end
/-! ### marks -/
/-- The digits of a number, ahead of others. -/
def digs : Nat → Nat → ByteArray → ByteArray
  | 0, _, s => s
  | f + 1, n, s => if n = 0 then s else digs f (n / 10) (⟨#[UInt8.ofNat (48 + n % 10)]⟩ ++ s)
def txt (k : Int) : ByteArray := if k ≤ 0 then ⟨#[109, 48]⟩ else ⟨#[109]⟩ ++ digs 20 k.toNat ⟨#[]⟩
def HeldZ (R : List U → Int → Int → Prop) : List (List U) → Int → Int → Prop
  | [], k, k' => k' = k
  | x :: xs, k, k' => ∃ m, R x k m ∧ HeldZ R xs m k'
mutual
def HeldF : Fd → U → Int → Int → Prop
  | .int kk, u, k, k' => u = .int (kk.wrap k) ∧ k' = k + 1
  | .bool, u, k, k' => u = .bool (decide (k.tmod 3 = 0)) ∧ k' = k + 1
  | .str, u, k, k' => u = .str (txt k) ∧ k' = k + 1
  | .sub fs, u, k, k' => ∃ xs, u = .sub xs ∧ HeldZ (HeldR fs) xs k k'
def HeldR : List Fd → List U → Int → Int → Prop
  | [], x, k, k' => x = [] ∧ k' = k
  | f :: fs, x, k, k' => ∃ u x' m, x = u :: x' ∧ HeldF f u k m ∧ HeldR fs x' m k'
end
theorem HeldZ_le {R : List U → Int → Int → Prop} (hR : ∀ x k k', R x k k' → k ≤ k') : ∀ {xs : List (List U)} {k k' : Int}, HeldZ R xs k k' → k ≤ k'
  | [], k, k', h => by simp only [HeldZ] at h; omega
  | x :: xs, k, k', ⟨m, h1, h2⟩ => by have := hR x k m h1; have := HeldZ_le hR h2; omega
mutual
theorem HeldF_le : ∀ (f : Fd) {u : U} {k k' : Int}, HeldF f u k k' → k ≤ k'
  | .int kk, _, _, _, h => by simp only [HeldF] at h; omega
  | .bool, _, _, _, h => by simp only [HeldF] at h; omega
  | .str, _, _, _, h => by simp only [HeldF] at h; omega
  | .sub fs, _, _, _, h => by
    simp only [HeldF] at h
    obtain ⟨xs, _, h⟩ := h
    exact HeldZ_le (fun x k k' => HeldR_le fs) h
theorem HeldR_le : ∀ (fs : List Fd) {x : List U} {k k' : Int}, HeldR fs x k k' → k ≤ k'
  | [], _, _, _, h => by simp only [HeldR] at h; omega
  | f :: fs, _, _, _, h => by
    simp only [HeldR] at h
    obtain ⟨u, x', m, _, h1, h2⟩ := h
    have := HeldF_le f h1
    have := HeldR_le fs h2
    omega
end
end Go.Proofs.Ytfbjbkkcilhgjaa.PE
/- The loops of copies, comparisons, sizes and marks, by what one round does. -/
set_option linter.unusedVariables false
set_option linter.unusedSimpArgs false
namespace Go.Proofs.Ytfbjbkkcilhgjaa.PE
open Go.RowKit

def big : Nat := 1099511627775
section
variable {run : Run} {draw : Draw} {c : C} {n0 : Nat}
theorem take_snoc {α : Type} {l : List α} {i : Nat} {x : α} (hx : l[i]? = some x) : l.take (i + 1) = l.take i ++ [x] := by
  rw [List.take_add_one, hx]; rfl
end
end Go.Proofs.Ytfbjbkkcilhgjaa.PE
/- What the functions of exact statements promise; the text of a mark. -/
set_option linter.unusedVariables false
set_option linter.unusedSimpArgs false
set_option maxHeartbeats 4000000
namespace Go.Proofs.Ytfbjbkkcilhgjaa.PE
open Go.RowKit

/-! ### copies -/
def ToOK (d f : Nat) (fs : List Fd) : Prop := ∀ {p : V} {xs : List (List U)}, PurF (.sub fs) p (.sub xs) → xs.length ≤ 1048576 → AllU (LenR 1048576 1048576 fs) xs → ∃ v hc ids, runD tab noExt d f [p] [] = some ([v], hc) ∧ OwnF hc (.sub fs) v (.sub xs) ids ∧ ids.Nodup

theorem own_cases {h : Heap} {fs : List Fd} {v : V} {u : U} {ids : List Nat} (ho : OwnF h (.sub fs) v u ids) : (∃ c, v = .sl c fs.length []) ∨ ∃ id st n clip, v = .ref id st 0 n clip := by
  simp only [OwnF] at ho
  obtain ⟨xs, _, ⟨c, e, _⟩ | ⟨id, st, clip, cont, r, e, _⟩⟩ := ho
  · exact .inl ⟨c, e⟩
  · exact .inr ⟨id, st, _, clip, e⟩
def EqOK (d f : Nat) (fs : List Fd) : Prop := ∀ {p q : V} {xs : List (List U)}, PurF (.sub fs) p (.sub xs) → PurF (.sub fs) q (.sub xs) → LenF big big (.sub fs) (.sub xs) → retP (runD tab noExt d) f [p, q] = some [.bool true]

def HeldOK (d f : Nat) (fs : List Fd) : Prop := ∀ {p : V} {xs : List (List U)} {k k' : Int}, PurF (.sub fs) p (.sub xs) → HeldF (.sub fs) (.sub xs) k k' → 0 ≤ k → k' ≤ 4611686018427387904 → LenF big big (.sub fs) (.sub xs) → retP (runD tab noExt d) f [p, .int .i64 k] = some [.int .i64 k']

def MarkOK (d f : Nat) (fs : List Fd) : Prop := ∀ {h : Heap} {v : V} {xs : List (List U)} {ids : List Nat} {k : Int}, OwnF h (.sub fs) v (.sub xs) ids → ids.Nodup → LenF big big (.sub fs) (.sub xs) → 0 ≤ k → k + cntF (.sub fs) (.sub xs) ≤ 4611686018427387904 →
  ∃ h' ys, callX (runD tab noExt d) h 2 f [v, .int .i64 k] = some (.int .i64 (k + cntF (.sub fs) (.sub xs)), h') ∧ OwnF h' (.sub fs) v (.sub ys) ids ∧ HeldF (.sub fs) (.sub ys) k (k + cntF (.sub fs) (.sub xs)) ∧ LenF big big (.sub fs) (.sub ys) ∧ (∀ j, j ∉ ids → h'[j]? = h[j]?) ∧ h'.length = h.length

end Go.Proofs.Ytfbjbkkcilhgjaa.PE
/- What sizes, copies, comparisons and marks do, type by type. -/
set_option linter.unusedVariables false
set_option linter.unusedSimpArgs false
set_option maxHeartbeats 4000000
namespace Go.Proofs.Ytfbjbkkcilhgjaa.PE
open Go.RowKit

/-! ### Int -/
def fdInt : List Fd := [.int .i64]
/-! ### Column -/
def fdColumn : List Fd := [.int .i64, .bool]
/-! ### Value -/
def fdValue : List Fd := [.int .i64, .int .i64, .str]
theorem purR_Value {c : List V} {x : List U} (h : PurR fdValue c x) : ∃ (a0 : Int) (a1 : Int) (a2 : ByteArray), c = [.int .i64 a0, .int .i64 a1, .str a2] ∧ x = [.int a0, .int a1, .str a2] := by
  simp only [fdValue, PurR] at h
  obtain ⟨v0, _, u0, _, rfl, rfl, g0, v1, _, u1, _, rfl, rfl, g1, v2, _, u2, _, rfl, rfl, g2, rfl, rfl⟩ := h
  simp only [PurF] at g0
  obtain ⟨a0, rfl, rfl⟩ := g0
  simp only [PurF] at g1
  obtain ⟨a1, rfl, rfl⟩ := g1
  simp only [PurF] at g2
  obtain ⟨a2, rfl, rfl⟩ := g2
  exact ⟨a0, a1, a2, rfl, rfl⟩
theorem purS_Value {p : V} {xs : List (List U)} (hp : PurF (.sub fdValue) p (.sub xs)) : ∃ cl cont, p = .sl cl 3 cont ∧ Zip2 (PurR fdValue) cont xs := by
  simp only [PurF] at hp
  obtain ⟨cl, cont, xs', rfl, e, hz⟩ := hp
  injection e with e
  subst e
  exact ⟨cl, cont, rfl, hz⟩
theorem ownR_mk_Value (h : Heap) (a0 : Int) (a1 : Int) (a2 : ByteArray) : OwnR h fdValue [.int .i64 a0, .int .i64 a1, .str a2] [.int a0, .int a1, .str a2] [] := by
  simp only [fdValue, OwnR]
  exact ⟨_, _, _, _, [], [], rfl, rfl, (by simp), (by simp only [OwnF]; first | exact ⟨a0, rfl, rfl, rfl⟩ | exact ⟨a0, rfl, rfl, trivial⟩ | exact ⟨a0, rfl, rfl⟩ | exact ⟨a0, rfl⟩ | trivial), _, _, _, _, [], [], rfl, rfl, (by simp), (by simp only [OwnF]; first | exact ⟨a1, rfl, rfl, rfl⟩ | exact ⟨a1, rfl, rfl, trivial⟩ | exact ⟨a1, rfl, rfl⟩ | exact ⟨a1, rfl⟩ | trivial), _, _, _, _, [], [], rfl, rfl, (by simp), (by simp only [OwnF]; first | exact ⟨a2, rfl, rfl, rfl⟩ | exact ⟨a2, rfl, rfl, trivial⟩ | exact ⟨a2, rfl, rfl⟩ | exact ⟨a2, rfl⟩ | trivial), rfl, rfl, rfl⟩
/-! ### ValueS -/
def fdValueS : List Fd := [.sub fdValue]
theorem purR_ValueS {c : List V} {x : List U} (h : PurR fdValueS c x) : ∃ (p0 : V) (y0 : List (List U)), c = [p0] ∧ x = [.sub y0] ∧ PurF (.sub fdValue) p0 (.sub y0) := by
  simp only [fdValueS, PurR] at h
  obtain ⟨v0, _, u0, _, rfl, rfl, g0, rfl, rfl⟩ := h
  have g0' := g0
  simp only [PurF] at g0'
  obtain ⟨_, _, y0, _, rfl, _⟩ := g0'
  exact ⟨v0, y0, rfl, rfl, g0⟩
theorem purS_ValueS {p : V} {xs : List (List U)} (hp : PurF (.sub fdValueS) p (.sub xs)) : ∃ cl cont, p = .sl cl 1 cont ∧ Zip2 (PurR fdValueS) cont xs := by
  simp only [PurF] at hp
  obtain ⟨cl, cont, xs', rfl, e, hz⟩ := hp
  injection e with e
  subst e
  exact ⟨cl, cont, rfl, hz⟩
theorem ownR_mk_ValueS {h : Heap} {p0 : V} {y0 : List (List U)} {i0 : List Nat} (g0 : OwnF h (.sub fdValue) p0 (.sub y0) i0) : OwnR h fdValueS [p0] [.sub y0] (i0) := by
  simp only [fdValueS, OwnR]
  exact ⟨_, _, _, _, i0, [], rfl, rfl, (by simp), g0, rfl, rfl, rfl⟩
/-! ### Version -/
def fdVersion : List Fd := [.int .i64, .int .i64, .int .i64, .sub fdValue]
/-! ### Table -/
def fdTable : List Fd := [.sub fdColumn, .sub fdValueS]
/-! ### Tally -/
def fdTally : List Fd := [.sub fdValue, .int .i64, .int .i64, .int .i64]
end Go.Proofs.Ytfbjbkkcilhgjaa.PE
/- Steps of an exact statement. -/
set_option linter.unusedVariables false
set_option linter.unusedSimpArgs false
namespace Go.Proofs.Ytfbjbkkcilhgjaa.PE
open Go.RowKit

end Go.Proofs.Ytfbjbkkcilhgjaa.PE
/- Contents of trees as columns, values, rows, numbers. -/
set_option linter.unusedVariables false
set_option linter.unusedSimpArgs false
namespace Go.Proofs.Ytfbjbkkcilhgjaa.PE
open Go.RowKit

def colU (c : Col) : List U := [.int c.kind, .bool c.empty]
def valU (v : Val) : List U := [.int v.kind, .int v.n, .str v.s]
def vsU (vs : List Val) : List U := [.sub (vs.map valU)]
theorem typ_of {α : Type} {R : List V → List U → Prop} {f : α → List V} {g : α → List U} (h : ∀ c x, R c x → ∃ a, c = f a ∧ x = g a) : ∀ {l1 : List (List V)} {l2 : List (List U)}, Zip2 R l1 l2 → ∃ ls : List α, l1 = ls.map f ∧ l2 = ls.map g
  | [], [], _ => ⟨[], rfl, rfl⟩
  | c :: l1, x :: l2, ⟨h1, h2⟩ => by
    obtain ⟨a, rfl, rfl⟩ := h c x h1
    obtain ⟨ls, rfl, rfl⟩ := typ_of h h2
    exact ⟨a :: ls, rfl, rfl⟩
  | [], _ :: _, h => h.elim
  | _ :: _, [], h => h.elim
theorem valsU_of {l1 : List (List V)} {l2 : List (List U)} (h : Zip2 (PurR fdValue) l1 l2) : ∃ vs : List Val, l1 = vs.map Val.cells ∧ l2 = vs.map valU :=
  typ_of (fun c x hr => by obtain ⟨a, b, s, rfl, rfl⟩ := purR_Value hr; exact ⟨⟨a, b, s⟩, rfl, rfl⟩) h
theorem rowsU_of {l1 : List (List V)} {l2 : List (List U)} (h : Zip2 (PurR fdValueS) l1 l2) : ∃ rs : List Row, l1 = rs.map Row.cells ∧ l2 = rs.map (fun r => vsU r.vs) :=
  typ_of (fun c x hr => by
    obtain ⟨p, y, rfl, rfl, g⟩ := purR_ValueS hr
    obtain ⟨cl, ct, rfl, hz⟩ := purS_Value g
    obtain ⟨vs, rfl, rfl⟩ := valsU_of hz
    exact ⟨⟨cl, vs⟩, rfl, rfl⟩) h
theorem valU_inj {a b : Val} (h : valU a = valU b) : a = b := by
  cases a; cases b
  simp only [valU, List.cons.injEq, U.int.injEq, U.str.injEq, and_true] at h
  obtain ⟨rfl, rfl, rfl⟩ := h
  rfl
theorem map_inj {α β : Type} {g : α → β} (hg : ∀ a b, g a = g b → a = b) {l1 l2 : List α} (h : l1.map g = l2.map g) : l1 = l2 := (List.map_inj_right hg).1 h
theorem vsU_inj {a b : List Val} (h : vsU a = vsU b) : a = b := by
  simp only [vsU, List.cons.injEq, U.sub.injEq, and_true] at h
  exact map_inj (fun _ _ => valU_inj) h
/-- Values of one's own. -/
theorem own_flat {α : Type} {fs : List Fd} {f : α → List V} {g : α → List U} {h : Heap} (ho : ∀ a, OwnR h fs (f a) (g a) []) : ∀ (ls : List α), Zip3 (OwnR h fs) (ls.map f) (ls.map g) []
  | [] => rfl
  | a :: ls => ⟨[], [], rfl, ho a, own_flat ho ls⟩
theorem own_row {α : Type} {fs : List Fd} {f : α → List V} {g : α → List U} {h : Heap} {id st n : Nat} {clip : Bool} (hd : fs.any Fd.deep = false) (ls : List α) (hn : n = ls.length) (hb : h[id]? = some (.rows st fs.length (ls.map f))) (ho : ∀ a, OwnR h fs (f a) (g a) []) : OwnF h (.sub fs) (.ref id st 0 n clip) (.sub (ls.map g)) [id] := by
  simp only [OwnF]
  refine ⟨_, rfl, .inr ⟨id, st, clip, ls.map f, [], by rw [hn, List.length_map], ?_, rfl, own_flat ho ls⟩⟩
  rw [hb]
  unfold blkOf
  rw [hd]
  rfl
theorem own_nil {fs : List Fd} {h : Heap} {c : Bool} {n : Nat} (hn : n = fs.length) : OwnF h (.sub fs) (.sl c n []) (.sub []) [] := by
  subst hn
  rw [OwnF]
  exact ⟨[], rfl, .inl ⟨c, rfl, rfl, rfl⟩⟩
end Go.Proofs.Ytfbjbkkcilhgjaa.PE
/- Rows and columns as trees: what their sizes say, that only their values matter. -/
set_option linter.unusedVariables false
set_option linter.unusedSimpArgs false
set_option maxHeartbeats 4000000
namespace Go.Proofs.Ytfbjbkkcilhgjaa.PE
open Go.RowKit

def rowU (r : Row) : List U := vsU r.vs
theorem rows_each {rs : List Row} {q : V} (k : PurF (.sub fdValueS) q (.sub (rs.map rowU))) : ∃ (c : Bool) (rs2 : List Row), q = .sl c 1 (rs2.map Row.cells) ∧ rs2.map rowU = rs.map rowU := by
  obtain ⟨c, _, rfl, y0⟩ := purS_ValueS k
  obtain ⟨rs', rfl, e0⟩ := rowsU_of y0
  exact ⟨c, rs', rfl, e0.symm⟩
theorem vss_of {a b : List Row} (h : a.map rowU = b.map rowU) : a.map Row.vs = b.map Row.vs := by
  have : (a.map Row.vs).map vsU = (b.map Row.vs).map vsU := by rw [List.map_map, List.map_map]; exact h
  exact map_inj (fun _ _ => vsU_inj) this
end Go.Proofs.Ytfbjbkkcilhgjaa.PE
/- Copies of rows, and whether lists of rows are the same. -/
set_option linter.unusedSimpArgs false
set_option linter.unusedVariables false
set_option maxHeartbeats 4000000
namespace Go.Proofs.Ytfbjbkkcilhgjaa.PE
open Go.RowKit

/-- A row of one's own. -/
def Row.own (b : Bool) (r : Row) : Row := ⟨b, r.vs⟩
def own (b : Bool) (rs : List Row) : List Row := rs.map (Row.own b)
def sameVs (a b : List Val) : Bool := decide (a = b)
theorem loop_sameRow (d : Nat) (c c' : Bool) (a b : List Val) (hs : a.length < 1099511627776) (hlen : a.length = b.length) (K : Nat) (hK : (a.zip b).length ≤ K) : LoopS (runD tab noExt d) (drawI (runD tab noExt d)) [0, 1, 5] [4] L65x0 ([] : Heap).length K [(0, .sl c 3 (a.map Val.cells)), (1, .sl c' 3 (b.map Val.cells)), (5, .int .i64 0)] [] = if (a.zip b).all (fun p => decide (p.1 = p.2)) then (some (.exit 0, [(4, .undef)], []) : Out) else (some (.ret, [(4, .bool false)], []) : Out) := by
  have key := LoopS_all (run := (runD tab noExt d)) (draw := drawI (runD tab noExt d)) (live := [0, 1, 5]) (out := [4]) (c := L65x0) (n0 := ([] : Heap).length) (a.zip b) (fun p => decide (p.1 = p.2)) (fun (i : Nat) => [(0, .sl c 3 (a.map Val.cells)), (1, .sl c' 3 (b.map Val.cells)), (5, .int .i64 i)]) [] (some (.exit 0, [(4, .undef)], []) : Out) (some (.ret, [(4, .bool false)], []) : Out) (fun K => ?_) (fun (i : Nat) (x : Val × Val) K hi hx => ?_) K hK
  · simp only [Int.natCast_zero] at key
    exact key
  · rw [LoopS_eq]
    simp -implicitDefEqProofs only [go_sem, Nat.reduceBEq, Nat.reduceAdd, Nat.reduceSub, Nat.reduceMul, Nat.reduceLeDiff, Nat.reduceEqDiff, Nat.reduceLT, Int.reduceNeg, Int.reduceAdd, Int.reduceSub, Int.reduceMul, Int.reduceLE, Int.reduceLT, Int.reduceEq, Int.reduceToNat, reduceCtorEq, evL65x0, B65x0, Int.lt_irrefl, List.length_zip, hlen, Nat.min_self, evC_draw, evD65x0, E65x0, Val.cells]
  · obtain ⟨g1, g2⟩ := List.getElem?_zip_eq_some.1 hx; rw [List.length_zip, hlen, Nat.min_self] at hi; obtain ⟨⟨k1, n1, s1⟩, ⟨k2, n2, s2⟩⟩ := x
    rw [LoopS_eq]
    simp -implicitDefEqProofs (disch := omega) only [go_sem, Nat.reduceBEq, Nat.reduceAdd, Nat.reduceSub, Nat.reduceMul, Nat.reduceLeDiff, Nat.reduceEqDiff, Nat.reduceLT, Int.reduceNeg, Int.reduceAdd, Int.reduceSub, Int.reduceMul, Int.reduceLE, Int.reduceLT, Int.reduceEq, Int.reduceToNat, reduceCtorEq, evL65x0, B65x0, hi, hx, IntWalk.i64_in, List.length_zip, hlen, Nat.min_self, evC_draw, evD65x0, E65x0, Val.cells, *]
    repeat' ((first | rw [GuardI_ndec] | rw [CondC_ndec] | rw [GuardQ_ndec] | rw [GuardI_dec] | rw [CondC_dec] | rw [GuardQ_dec] | rw [GuardI_nby] | rw [CondC_nby] | rw [GuardQ_nby] | rw [GuardQ_by] | rw [GuardI_by] | rw [CondC_by]) <;> split <;> simp -implicitDefEqProofs (disch := omega) only [go_sem, Nat.reduceBEq, Nat.reduceAdd, Nat.reduceSub, Nat.reduceMul, Nat.reduceLeDiff, Nat.reduceEqDiff, Nat.reduceLT, Int.reduceNeg, Int.reduceAdd, Int.reduceSub, Int.reduceMul, Int.reduceLE, Int.reduceLT, Int.reduceEq, Int.reduceToNat, reduceCtorEq, hi, hx, IntWalk.i64_in, List.length_zip, hlen, Nat.min_self, evC_draw, evD65x0, E65x0, Val.cells, *, *])
    all_goals first | rfl | (simp_all [Val.mk.injEq]; done) | (simp_all [Val.mk.injEq]; omega)
theorem zip_same {α : Type} [DecidableEq α] : ∀ (a b : List α), a.length = b.length → ((a.zip b).all fun p => decide (p.1 = p.2)) = decide (a = b)
  | [], [], _ => by simp
  | x :: a, y :: b, h => by
    have := zip_same a b (by simpa using h)
    simp only [List.zip_cons_cons, List.all_cons, this]
    by_cases h1 : x = y <;> by_cases h2 : a = b <;> simp [h1, h2]
  | [], _ :: _, h => by simp at h
  | _ :: _, [], h => by simp at h
-- find65
theorem run_sameRow (d : Nat) (c c' : Bool) (a b : List Val) (hs : a.length < 1099511627776) : retP (runD tab noExt (d + 1)) 65 [.sl c 3 (a.map Val.cells), .sl c' 3 (b.map Val.cells)] = some [.bool (decide (a = b))] := by
  rw [retP, runD_eq find65 _ _ _ (by simp)]
  by_cases hlen : a.length = b.length
  · have hl := loop_sameRow d c c' a b hs hlen 1099511627775 (by simp; omega)
    simp -implicitDefEqProofs only [go_sem, Nat.reduceBEq, Nat.reduceAdd, Nat.reduceSub, Nat.reduceMul, Nat.reduceLeDiff, Nat.reduceEqDiff, Nat.reduceLT, Int.reduceNeg, Int.reduceAdd, Int.reduceSub, Int.reduceMul, Int.reduceLE, Int.reduceLT, Int.reduceEq, Int.reduceToNat, reduceCtorEq, hlen] at hl ⊢
    rw [hl, zip_same a b hlen]
    by_cases h : a = b <;> simp -implicitDefEqProofs only [go_sem, Nat.reduceBEq, Nat.reduceAdd, Nat.reduceSub, Nat.reduceMul, Nat.reduceLeDiff, Nat.reduceEqDiff, Nat.reduceLT, Int.reduceNeg, Int.reduceAdd, Int.reduceSub, Int.reduceMul, Int.reduceLE, Int.reduceLT, Int.reduceEq, Int.reduceToNat, reduceCtorEq, h]
  · have h1 : ((a.length : Int) = b.length) = False := eq_false (by omega)
    have h2 : ¬ a = b := fun e => hlen (by rw [e])
    simp -implicitDefEqProofs only [go_sem, Nat.reduceBEq, Nat.reduceAdd, Nat.reduceSub, Nat.reduceMul, Nat.reduceLeDiff, Nat.reduceEqDiff, Nat.reduceLT, Int.reduceNeg, Int.reduceAdd, Int.reduceSub, Int.reduceMul, Int.reduceLE, Int.reduceLT, Int.reduceEq, Int.reduceToNat, reduceCtorEq, h1, h2]
def vss (rs : List Row) : List (List Val) := rs.map Row.vs
theorem loop_sameRows (d : Nat) (c c' : Bool) (a b : List Row) (hs : a.length < 1099511627776) (hsa : ∀ r ∈ a, r.vs.length < 1099511627776) (hlen : a.length = b.length) (K : Nat) (hK : (a.zip b).length ≤ K) : LoopS (runD tab noExt (d + 1)) (drawI (runD tab noExt (d + 1))) [0, 1, 5] [4] L15x0 ([] : Heap).length K [(0, .sl c 1 (a.map Row.cells)), (1, .sl c' 1 (b.map Row.cells)), (5, .int .i64 0)] [] = if (a.zip b).all (fun p => decide (p.1.vs = p.2.vs)) then (some (.exit 0, [(4, .undef)], []) : Out) else (some (.ret, [(4, .bool false)], []) : Out) := by
  have key := LoopS_all (run := (runD tab noExt (d + 1))) (draw := drawI (runD tab noExt (d + 1))) (live := [0, 1, 5]) (out := [4]) (c := L15x0) (n0 := ([] : Heap).length) (a.zip b) (fun p => decide (p.1.vs = p.2.vs)) (fun (i : Nat) => [(0, .sl c 1 (a.map Row.cells)), (1, .sl c' 1 (b.map Row.cells)), (5, .int .i64 i)]) [] (some (.exit 0, [(4, .undef)], []) : Out) (some (.ret, [(4, .bool false)], []) : Out) (fun K => ?_) (fun (i : Nat) (x : Row × Row) K hi hx => ?_) K hK
  · simp only [Int.natCast_zero] at key
    exact key
  · rw [LoopS_eq]
    simp -implicitDefEqProofs only [go_sem, Nat.reduceBEq, Nat.reduceAdd, Nat.reduceSub, Nat.reduceMul, Nat.reduceLeDiff, Nat.reduceEqDiff, Nat.reduceLT, Int.reduceNeg, Int.reduceAdd, Int.reduceSub, Int.reduceMul, Int.reduceLE, Int.reduceLT, Int.reduceEq, Int.reduceToNat, reduceCtorEq, evL15x0, B15x0, Int.lt_irrefl, List.length_zip, hlen, Nat.min_self, evC_draw, evD15x0, E15x0, Row.cells, Row.v]
  · obtain ⟨g1, g2⟩ := List.getElem?_zip_eq_some.1 hx; rw [List.length_zip, hlen, Nat.min_self] at hi; have hss := run_sameRow d x.1.clip x.2.clip x.1.vs x.2.vs (hsa _ (List.mem_of_getElem? g1))
    rw [LoopS_eq]
    simp -implicitDefEqProofs (disch := omega) only [go_sem, Nat.reduceBEq, Nat.reduceAdd, Nat.reduceSub, Nat.reduceMul, Nat.reduceLeDiff, Nat.reduceEqDiff, Nat.reduceLT, Int.reduceNeg, Int.reduceAdd, Int.reduceSub, Int.reduceMul, Int.reduceLE, Int.reduceLT, Int.reduceEq, Int.reduceToNat, reduceCtorEq, evL15x0, B15x0, hi, hx, IntWalk.i64_in, List.length_zip, hlen, Nat.min_self, evC_draw, evD15x0, E15x0, Row.cells, Row.v, *]
    repeat' ((first | rw [GuardI_ndec] | rw [CondC_ndec] | rw [GuardQ_ndec] | rw [GuardI_dec] | rw [CondC_dec] | rw [GuardQ_dec] | rw [GuardI_nby] | rw [CondC_nby] | rw [GuardQ_nby] | rw [GuardQ_by] | rw [GuardI_by] | rw [CondC_by]) <;> split <;> simp -implicitDefEqProofs (disch := omega) only [go_sem, Nat.reduceBEq, Nat.reduceAdd, Nat.reduceSub, Nat.reduceMul, Nat.reduceLeDiff, Nat.reduceEqDiff, Nat.reduceLT, Int.reduceNeg, Int.reduceAdd, Int.reduceSub, Int.reduceMul, Int.reduceLE, Int.reduceLT, Int.reduceEq, Int.reduceToNat, reduceCtorEq, hi, hx, IntWalk.i64_in, List.length_zip, hlen, Nat.min_self, evC_draw, evD15x0, E15x0, Row.cells, Row.v, *, *])
    all_goals first | rfl | (simp_all []; done) | (simp_all []; omega)
theorem zip_sames : ∀ (a b : List Row), a.length = b.length → ((a.zip b).all fun p => decide (p.1.vs = p.2.vs)) = decide (vss a = vss b)
  | [], [], _ => by simp
  | x :: a, y :: b, h => by
    have := zip_sames a b (by simpa using h)
    simp only [vss] at this
    simp only [List.zip_cons_cons, List.all_cons, this, vss, List.map_cons]
    by_cases h1 : x.vs = y.vs <;> by_cases h2 : a.map Row.vs = b.map Row.vs <;> simp [h1, h2]
  | [], _ :: _, h => by simp at h
  | _ :: _, [], h => by simp at h
-- find15
theorem run_sameRows (d : Nat) (c c' : Bool) (a b : List Row) (hs : a.length < 1099511627776) (hsa : ∀ r ∈ a, r.vs.length < 1099511627776) : retP (runD tab noExt (d + 2)) 15 [.sl c 1 (a.map Row.cells), .sl c' 1 (b.map Row.cells)] = some [.bool (decide (vss a = vss b))] := by
  rw [retP, runD_eq find15 _ _ _ (by simp)]
  by_cases hlen : a.length = b.length
  · have hl := loop_sameRows d c c' a b hs hsa hlen 1099511627775 (by simp; omega)
    simp -implicitDefEqProofs only [go_sem, Nat.reduceBEq, Nat.reduceAdd, Nat.reduceSub, Nat.reduceMul, Nat.reduceLeDiff, Nat.reduceEqDiff, Nat.reduceLT, Int.reduceNeg, Int.reduceAdd, Int.reduceSub, Int.reduceMul, Int.reduceLE, Int.reduceLT, Int.reduceEq, Int.reduceToNat, reduceCtorEq, hlen] at hl ⊢
    rw [hl, zip_sames a b hlen]
    by_cases h : vss a = vss b <;> simp -implicitDefEqProofs only [go_sem, Nat.reduceBEq, Nat.reduceAdd, Nat.reduceSub, Nat.reduceMul, Nat.reduceLeDiff, Nat.reduceEqDiff, Nat.reduceLT, Int.reduceNeg, Int.reduceAdd, Int.reduceSub, Int.reduceMul, Int.reduceLE, Int.reduceLT, Int.reduceEq, Int.reduceToNat, reduceCtorEq, h]
  · have h1 : ((a.length : Int) = b.length) = False := eq_false (by omega)
    have h2 : ¬ vss a = vss b := fun e => hlen (by have := congrArg List.length e; simpa [vss] using this)
    simp -implicitDefEqProofs only [go_sem, Nat.reduceBEq, Nat.reduceAdd, Nat.reduceSub, Nat.reduceMul, Nat.reduceLeDiff, Nat.reduceEqDiff, Nat.reduceLT, Int.reduceNeg, Int.reduceAdd, Int.reduceSub, Int.reduceMul, Int.reduceLE, Int.reduceLT, Int.reduceEq, Int.reduceToNat, reduceCtorEq, h1, h2]
end Go.Proofs.Ytfbjbkkcilhgjaa.PE
/- Rows of rows that grow, element by element, each of memory of its own. -/
set_option linter.unusedVariables false
set_option linter.unusedSimpArgs false
namespace Go.Proofs.Ytfbjbkkcilhgjaa.PE
open Go.RowKit

/-- What has been gathered up to now. -/
def Grown (fs : List Fd) (id : Nat) (h : Heap) (done : List (List V)) (xs : List (List U)) : Prop :=
  h[id]? = some (blkOf fs done.length done) ∧ ∃ ids, Zip3 (OwnR h fs) done xs ids ∧ (id :: ids).Nodup
theorem Grown.nest {fs : List Fd} {id : Nat} {h : Heap} {done : List (List V)} {xs : List (List U)} (g : Grown fs id h done xs) (hd : fs.any Fd.deep = true) : h[id]? = some (.nest done.length fs.length done) := by
  have := g.1
  unfold blkOf at this
  rw [hd] at this
  exact this
theorem Grown.len {fs : List Fd} {id : Nat} {h : Heap} {done : List (List V)} {xs : List (List U)} (g : Grown fs id h done xs) : done.length = xs.length := by
  obtain ⟨_, ids, z, _⟩ := g
  exact Zip3_len z
theorem Grown.lt {fs : List Fd} {id : Nat} {h : Heap} {done : List (List V)} {xs : List (List U)} (g : Grown fs id h done xs) : id < h.length := (List.getElem?_eq_some_iff.1 g.1).1
theorem Grown.start {fs : List Fd} {id : Nat} {h : Heap} (hb : h[id]? = some (blkOf fs 0 [])) : Grown fs id h [] [] := ⟨hb, [], rfl, by simp⟩
theorem Grown.frame {fs : List Fd} {id : Nat} {h h1 : Heap} {done : List (List V)} {xs : List (List U)} (g : Grown fs id h done xs) (keep : ∀ j, j < h.length → h1[j]? = h[j]?) : Grown fs id h1 done xs := by
  obtain ⟨g1, ids, z, nd⟩ := g
  refine ⟨(keep id (List.getElem?_eq_some_iff.1 g1).1).trans g1, ids, ?_, nd⟩
  exact Zip3_mono (P := fun _ => True) (fun c x i hr _ => OwnR_frame _ hr (fun j hj => keep j (OwnR_lt _ hr j hj))) z (fun _ _ => trivial)
theorem Grown.add {fs : List Fd} {id : Nat} {h h1 h2 : Heap} {done : List (List V)} {xs : List (List U)} {cells : List V} {x : List U} {js : List Nat} (g : Grown fs id h done xs) (own : OwnR h1 fs cells x js) (nd : js.Nodup)
    (fresh : ∀ j ∈ js, h.length ≤ j) (keep : ∀ j, j < h.length → h1[j]? = h[j]?) (e2 : h2 = h1.set id (blkOf fs (done.length + 1) (done ++ [cells]))) : Grown fs id h2 (done ++ [cells]) (xs ++ [x]) := by
  subst e2
  have hlt := g.lt
  obtain ⟨g1, ids, z, nd1⟩ := g
  have hl1 : id < h1.length := by
    have := keep id hlt
    rw [List.getElem?_eq_getElem hlt] at this
    exact (List.getElem?_eq_some_iff.1 this).1
  obtain ⟨n1, n2⟩ := List.nodup_cons.1 nd1
  have hids : ∀ j ∈ ids, j < h.length := Zip3_all (fun c x i hr => OwnR_lt fs hr) z
  refine ⟨by rw [List.getElem?_set_self hl1, List.length_append]; rfl, ids ++ js, Zip3_app (Zip3_mono (P := fun j => j ∈ ids) (fun c x i hr hp => OwnR_frame fs hr (fun j hj => ?_)) z (fun _ hm => hm)) (Zip3_one (OwnR_frame fs own (fun j hj => ?_))), ?_⟩
  · have hne : id ≠ j := fun e => n1 (e ▸ hp j hj)
    rw [List.getElem?_set_ne hne]
    exact keep j (hids j (hp j hj))
  · have hne : id ≠ j := fun e => by have := fresh j hj; omega
    rw [List.getElem?_set_ne hne]
  · refine List.nodup_cons.2 ⟨fun hm => ?_, List.nodup_append.2 ⟨n2, nd, fun p hp q hq => ?_⟩⟩
    · rcases List.mem_append.1 hm with hm | hm
      · exact n1 hm
      · have := fresh id hm; omega
    · have := hids p hp
      have := fresh q hq
      omega
theorem Grown.set {fs : List Fd} {id : Nat} {h h1 : Heap} {done : List (List V)} {xs : List (List U)} {k : Nat} {b : Blk} (g : Grown fs id h done xs) (hk : h.length ≤ k) : Grown fs id (h.set k b) done xs := by
  rw [List.set_eq_of_length_le hk]
  exact g
theorem Grown.own {fs : List Fd} {id : Nat} {h : Heap} {done : List (List V)} {xs : List (List U)} {n : Nat} {clip : Bool} (g : Grown fs id h done xs) (hn : n = done.length) : ∃ ids, OwnF h (.sub fs) (.ref id n 0 n clip) (.sub xs) ids ∧ ids.Nodup := by
  subst hn
  obtain ⟨g1, ids, z, nd⟩ := g
  refine ⟨id :: ids, ?_, nd⟩
  simp only [OwnF]
  exact ⟨xs, rfl, .inr ⟨id, done.length, clip, done, ids, rfl, g1, rfl, z⟩⟩
end Go.Proofs.Ytfbjbkkcilhgjaa.PE
/- Copies of rows as memory of one's own. -/
set_option linter.unusedVariables false
set_option linter.unusedSimpArgs false
set_option maxHeartbeats 4000000
namespace Go.Proofs.Ytfbjbkkcilhgjaa.PE
open Go.RowKit

theorem val_own (h : Heap) (v : Val) : OwnR h fdValue v.cells (valU v) [] := ownR_mk_Value h v.kind v.n v.s
theorem clip_nest (d : Nat) (h : Heap) (n : Nat) {cont : List (List V)} (hb : h[0]? = some (.nest n 1 cont)) (hn : cont.length = n) : callX (runD tab noExt (d + 1)) h 2 87 [.ref 0 n 0 n false] = some (.ref 0 n 0 n true, h) := by
  simp only [callX, callK]
  rw [runD_eq find87 _ _ _ (by simp)]
  simp -implicitDefEqProofs (disch := omega) only [go_sem, Nat.reduceBEq, Nat.reduceAdd, Nat.reduceSub, Nat.reduceMul, Nat.reduceLeDiff, Nat.reduceEqDiff, Nat.reduceLT, Int.reduceNeg, Int.reduceAdd, Int.reduceSub, Int.reduceMul, Int.reduceLE, Int.reduceLT, Int.reduceEq, Int.reduceToNat, reduceCtorEq, Bool.true_or, resOk, hb, hn]
end Go.Proofs.Ytfbjbkkcilhgjaa.PE
/- Tallies of rows: what the reference draws them by. -/
set_option linter.unusedSimpArgs false
set_option linter.unusedVariables false
set_option maxHeartbeats 4000000
set_option maxRecDepth 20000
namespace Go.Proofs.Ytfbjbkkcilhgjaa.PE
open Go.RowKit

def GK (k : Val) : Prop := rowOk [k] = true ∧ k.ok = true ∧ k.s.size < 1099511627776
def GTs (l : List Tal) : Prop := ∀ t ∈ l, ∃ k, t.key = [k] ∧ GK k
theorem GTs.snoc {l : List Tal} {t : Tal} (h : GTs l) (ht : ∃ k, t.key = [k] ∧ GK k) : GTs (l ++ [t]) := by
  intro x hx
  rcases List.mem_append.1 hx with hx | hx
  · exact h x hx
  · rw [List.mem_singleton.1 hx]; exact ht
theorem GTs.short {l : List Tal} (h : GTs l) : ShortT1 l := by
  intro t ht
  obtain ⟨k, hk, g⟩ := h t ht
  rw [hk]
  exact ⟨by simp, fun v hv => by rw [List.mem_singleton.1 hv]; exact g.2.2⟩
-- find181
theorem loop_turn (d : Nat) (c : Bool) (l : List Tal) (hl : l.length ≤ 4096) (hg : GTs l) (k v : Val) (hk : GK k) (tm ts : Int) : ∃ (dn : Bool) (out : List Tal), LoopS (runD tab noExt (d + 6)) (drawI (runD tab noExt (d + 6))) [0, 9, 10, 11, 12] [9, 10, 11] L181x0 5 1099511627775 [(0, .sl c 4 (l.map Tal.cells)), (9, .ptr 3 0 0 0), (10, .ref 4 0 0 0 false), (11, .bool false), (12, .int .i64 0)]
      [.box k.cells, .box v.cells, .rows 0 4 [], .box [.sl true 3 [k.cells], .int .i64 1, .int .i64 tm, .int .i64 ts], .rows 0 4 []] =
      some (.exit 0, [(9, .ptr 3 0 0 0), (10, .ref 4 out.length 0 out.length false), (11, .bool dn)], [.box k.cells, .box v.cells, .rows 0 4 [], .box [.sl true 3 [k.cells], .int .i64 1, .int .i64 tm, .int .i64 ts], .rows out.length 4 (out.map Tal.cells)]) ∧ GTs out ∧ out.length ≤ 2 * l.length := by
  obtain ⟨⟨dn, out⟩, ⟨g1, g2⟩, e⟩ := LoopS_inv (run := runD tab noExt (d + 6)) (draw := drawI (runD tab noExt (d + 6))) (live := [0, 9, 10, 11, 12]) (out := [9, 10, 11]) (c := L181x0) (n0 := 5) l.length
    (fun i (b : Bool × List Tal) => GTs b.2 ∧ b.2.length ≤ 2 * i)
    (fun i b => [(0, .sl c 4 (l.map Tal.cells)), (9, .ptr 3 0 0 0), (10, .ref 4 b.2.length 0 b.2.length false), (11, .bool b.1), (12, .int .i64 (i : Nat))])
    (fun b => [.box k.cells, .box v.cells, .rows 0 4 [], .box [.sl true 3 [k.cells], .int .i64 1, .int .i64 tm, .int .i64 ts], .rows b.2.length 4 (b.2.map Tal.cells)])
    (fun b => some (.exit 0, [(9, .ptr 3 0 0 0), (10, .ref 4 b.2.length 0 b.2.length false), (11, .bool b.1)], [.box k.cells, .box v.cells, .rows 0 4 [], .box [.sl true 3 [k.cells], .int .i64 1, .int .i64 tm, .int .i64 ts], .rows b.2.length 4 (b.2.map Tal.cells)]))
    (fun b K hb => by
      rw [LoopS_eq]
      simp -implicitDefEqProofs only [go_sem, Nat.reduceBEq, Nat.reduceAdd, Nat.reduceSub, Nat.reduceMul, Nat.reduceLeDiff, Nat.reduceEqDiff, Nat.reduceLT, Int.reduceNeg, Int.reduceAdd, Int.reduceSub, Int.reduceMul, Int.reduceLE, Int.reduceLT, Int.reduceEq, Int.reduceToNat, reduceCtorEq, evL181x0, B181x0, Int.lt_irrefl]) (fun i b K hi hb => by
      obtain ⟨dn, out⟩ := b
      obtain ⟨g, glen⟩ := hb
      simp only at g glen ⊢
      have hx := List.getElem?_eq_getElem hi
      generalize l[i] = x at hx
      obtain ⟨kx, hkx, gx⟩ := hg x (List.mem_of_getElem? hx)
      obtain ⟨xc, xk, xa, xm, xs⟩ := x
      simp only at hkx
      subst hkx
      have hord := run_RowOrder1 (d + 1) xc true kx k gx.1 hk.1 gx.2.1 hk.2.1 gx.2.2 hk.2.2
      generalize Val.cmp kx k = n at hord
      simp only [Val.cells] at hord
      have hi' : (i : Int) < l.length := by omega
      have s1 : out.length + 1 < 4294967296 := by omega
      have s2 : out.length + 1 + 1 < 4294967296 := by omega
      have gt : ∃ q, (Tal.mk true [k] 1 tm ts).key = [q] ∧ GK q := ⟨k, rfl, hk⟩
      rw [LoopS_eq]
      rcases Int.lt_trichotomy n 0 with n1 | n1 | n1
      · have n2 : ¬ n = 0 := by omega
        have n3 : ¬ 0 < n := by omega
        have gx' : ∃ q, (Tal.mk xc [kx] xa xm xs).key = [q] ∧ GK q := ⟨kx, rfl, gx⟩
        have hz : (¬ xa = 0) ∨ (xa = 0 ∧ ¬ xm = 0) ∨ (xa = 0 ∧ xm = 0 ∧ ¬ xs = 0) ∨ (xa = 0 ∧ xm = 0 ∧ xs = 0) := by omega
        rcases hz with z1 | ⟨z1, z2⟩ | ⟨z1, z2, z3⟩ | ⟨z1, z2, z3⟩
        · refine ⟨(dn, out ++ [⟨xc, [kx], xa, xm, xs⟩]), ⟨g.snoc gx', by simp; omega⟩, ?_⟩
          simp -implicitDefEqProofs (disch := omega) only [go_sem, Nat.reduceBEq, Nat.reduceAdd, Nat.reduceSub, Nat.reduceMul, Nat.reduceLeDiff, Nat.reduceEqDiff, Nat.reduceLT, Int.reduceNeg, Int.reduceAdd, Int.reduceSub, Int.reduceMul, Int.reduceLE, Int.reduceLT, Int.reduceEq, Int.reduceToNat, reduceCtorEq, evL181x0, B181x0, hi', hx, Tal.cells, Val.cells, List.map_cons, List.map_nil, List.map_append, List.length_append, List.length_cons, List.length_nil, hord, s1, s2, (eq_false n2 : (n = 0) = False), (eq_false n3 : (0 < n) = False), (eq_false z1 : (xa = 0) = False), IntWalk.i64_in]
        · refine ⟨(dn, out ++ [⟨xc, [kx], xa, xm, xs⟩]), ⟨g.snoc gx', by simp; omega⟩, ?_⟩
          simp -implicitDefEqProofs (disch := omega) only [go_sem, Nat.reduceBEq, Nat.reduceAdd, Nat.reduceSub, Nat.reduceMul, Nat.reduceLeDiff, Nat.reduceEqDiff, Nat.reduceLT, Int.reduceNeg, Int.reduceAdd, Int.reduceSub, Int.reduceMul, Int.reduceLE, Int.reduceLT, Int.reduceEq, Int.reduceToNat, reduceCtorEq, evL181x0, B181x0, hi', hx, Tal.cells, Val.cells, List.map_cons, List.map_nil, List.map_append, List.length_append, List.length_cons, List.length_nil, hord, s1, s2, (eq_false n2 : (n = 0) = False), (eq_false n3 : (0 < n) = False), (eq_true z1 : (xa = 0) = True), (eq_false z2 : (xm = 0) = False), IntWalk.i64_in]
        · refine ⟨(dn, out ++ [⟨xc, [kx], xa, xm, xs⟩]), ⟨g.snoc gx', by simp; omega⟩, ?_⟩
          simp -implicitDefEqProofs (disch := omega) only [go_sem, Nat.reduceBEq, Nat.reduceAdd, Nat.reduceSub, Nat.reduceMul, Nat.reduceLeDiff, Nat.reduceEqDiff, Nat.reduceLT, Int.reduceNeg, Int.reduceAdd, Int.reduceSub, Int.reduceMul, Int.reduceLE, Int.reduceLT, Int.reduceEq, Int.reduceToNat, reduceCtorEq, evL181x0, B181x0, hi', hx, Tal.cells, Val.cells, List.map_cons, List.map_nil, List.map_append, List.length_append, List.length_cons, List.length_nil, hord, s1, s2, (eq_false n2 : (n = 0) = False), (eq_false n3 : (0 < n) = False), (eq_true z1 : (xa = 0) = True), (eq_true z2 : (xm = 0) = True), (eq_false z3 : (xs = 0) = False), IntWalk.i64_in]
        · refine ⟨(dn, out), ⟨g, by simp only; omega⟩, ?_⟩
          simp -implicitDefEqProofs (disch := omega) only [go_sem, Nat.reduceBEq, Nat.reduceAdd, Nat.reduceSub, Nat.reduceMul, Nat.reduceLeDiff, Nat.reduceEqDiff, Nat.reduceLT, Int.reduceNeg, Int.reduceAdd, Int.reduceSub, Int.reduceMul, Int.reduceLE, Int.reduceLT, Int.reduceEq, Int.reduceToNat, reduceCtorEq, evL181x0, B181x0, hi', hx, Tal.cells, Val.cells, List.map_cons, List.map_nil, List.map_append, List.length_append, List.length_cons, List.length_nil, hord, s1, s2, (eq_false n2 : (n = 0) = False), (eq_false n3 : (0 < n) = False), (eq_true z1 : (xa = 0) = True), (eq_true z2 : (xm = 0) = True), (eq_true z3 : (xs = 0) = True), IntWalk.i64_in]
      · subst n1
        have hz : (¬ IntKind.i64.wrap (xa + 1) = 0) ∨ (IntKind.i64.wrap (xa + 1) = 0 ∧ ¬ IntKind.i64.wrap (xm + tm) = 0) ∨ (IntKind.i64.wrap (xa + 1) = 0 ∧ IntKind.i64.wrap (xm + tm) = 0 ∧ ¬ IntKind.i64.wrap (xs + ts) = 0) ∨ (IntKind.i64.wrap (xa + 1) = 0 ∧ IntKind.i64.wrap (xm + tm) = 0 ∧ IntKind.i64.wrap (xs + ts) = 0) := by omega
        have e0 : (0 : Int) < 0 ↔ False := by decide
        generalize hA : IntKind.i64.wrap (xa + 1) = A at hz
        generalize hB : IntKind.i64.wrap (xm + tm) = B at hz
        generalize hC : IntKind.i64.wrap (xs + ts) = C at hz
        have gx' : ∃ q, (Tal.mk xc [kx] A B C).key = [q] ∧ GK q := ⟨kx, rfl, gx⟩
        rcases hz with z1 | ⟨z1, z2⟩ | ⟨z1, z2, z3⟩ | ⟨z1, z2, z3⟩
        · refine ⟨(true, out ++ [⟨xc, [kx], A, B, C⟩]), ⟨g.snoc gx', by simp; omega⟩, ?_⟩
          simp -implicitDefEqProofs (disch := omega) only [go_sem, Nat.reduceBEq, Nat.reduceAdd, Nat.reduceSub, Nat.reduceMul, Nat.reduceLeDiff, Nat.reduceEqDiff, Nat.reduceLT, Int.reduceNeg, Int.reduceAdd, Int.reduceSub, Int.reduceMul, Int.reduceLE, Int.reduceLT, Int.reduceEq, Int.reduceToNat, reduceCtorEq, evL181x0, B181x0, hi', hx, Tal.cells, Val.cells, List.map_cons, List.map_nil, List.map_append, List.length_append, List.length_cons, List.length_nil, hord, s1, s2, Int.lt_irrefl, hA, hB, hC, (eq_false z1 : (A = 0) = False), IntWalk.i64_in]
        · refine ⟨(true, out ++ [⟨xc, [kx], A, B, C⟩]), ⟨g.snoc gx', by simp; omega⟩, ?_⟩
          simp -implicitDefEqProofs (disch := omega) only [go_sem, Nat.reduceBEq, Nat.reduceAdd, Nat.reduceSub, Nat.reduceMul, Nat.reduceLeDiff, Nat.reduceEqDiff, Nat.reduceLT, Int.reduceNeg, Int.reduceAdd, Int.reduceSub, Int.reduceMul, Int.reduceLE, Int.reduceLT, Int.reduceEq, Int.reduceToNat, reduceCtorEq, evL181x0, B181x0, hi', hx, Tal.cells, Val.cells, List.map_cons, List.map_nil, List.map_append, List.length_append, List.length_cons, List.length_nil, hord, s1, s2, Int.lt_irrefl, hA, hB, hC, (eq_true z1 : (A = 0) = True), (eq_false z2 : (B = 0) = False), IntWalk.i64_in]
        · refine ⟨(true, out ++ [⟨xc, [kx], A, B, C⟩]), ⟨g.snoc gx', by simp; omega⟩, ?_⟩
          simp -implicitDefEqProofs (disch := omega) only [go_sem, Nat.reduceBEq, Nat.reduceAdd, Nat.reduceSub, Nat.reduceMul, Nat.reduceLeDiff, Nat.reduceEqDiff, Nat.reduceLT, Int.reduceNeg, Int.reduceAdd, Int.reduceSub, Int.reduceMul, Int.reduceLE, Int.reduceLT, Int.reduceEq, Int.reduceToNat, reduceCtorEq, evL181x0, B181x0, hi', hx, Tal.cells, Val.cells, List.map_cons, List.map_nil, List.map_append, List.length_append, List.length_cons, List.length_nil, hord, s1, s2, Int.lt_irrefl, hA, hB, hC, (eq_true z1 : (A = 0) = True), (eq_true z2 : (B = 0) = True), (eq_false z3 : (C = 0) = False), IntWalk.i64_in]
        · refine ⟨(true, out), ⟨g, by simp only; omega⟩, ?_⟩
          simp -implicitDefEqProofs (disch := omega) only [go_sem, Nat.reduceBEq, Nat.reduceAdd, Nat.reduceSub, Nat.reduceMul, Nat.reduceLeDiff, Nat.reduceEqDiff, Nat.reduceLT, Int.reduceNeg, Int.reduceAdd, Int.reduceSub, Int.reduceMul, Int.reduceLE, Int.reduceLT, Int.reduceEq, Int.reduceToNat, reduceCtorEq, evL181x0, B181x0, hi', hx, Tal.cells, Val.cells, List.map_cons, List.map_nil, List.map_append, List.length_append, List.length_cons, List.length_nil, hord, s1, s2, Int.lt_irrefl, hA, hB, hC, (eq_true z1 : (A = 0) = True), (eq_true z2 : (B = 0) = True), (eq_true z3 : (C = 0) = True), IntWalk.i64_in]
      · have n2 : ¬ n = 0 := by omega
        have gx' : ∃ q, (Tal.mk xc [kx] xa xm xs).key = [q] ∧ GK q := ⟨kx, rfl, gx⟩
        have hz : (¬ xa = 0) ∨ (xa = 0 ∧ ¬ xm = 0) ∨ (xa = 0 ∧ xm = 0 ∧ ¬ xs = 0) ∨ (xa = 0 ∧ xm = 0 ∧ xs = 0) := by omega
        cases dn
        · rcases hz with z1 | ⟨z1, z2⟩ | ⟨z1, z2, z3⟩ | ⟨z1, z2, z3⟩
          · refine ⟨(true, (out ++ [⟨true, [k], 1, tm, ts⟩]) ++ [⟨xc, [kx], xa, xm, xs⟩]), ⟨(g.snoc gt).snoc gx', by simp; omega⟩, ?_⟩
            simp -implicitDefEqProofs (disch := omega) only [go_sem, Nat.reduceBEq, Nat.reduceAdd, Nat.reduceSub, Nat.reduceMul, Nat.reduceLeDiff, Nat.reduceEqDiff, Nat.reduceLT, Int.reduceNeg, Int.reduceAdd, Int.reduceSub, Int.reduceMul, Int.reduceLE, Int.reduceLT, Int.reduceEq, Int.reduceToNat, reduceCtorEq, evL181x0, B181x0, hi', hx, Tal.cells, Val.cells, List.map_cons, List.map_nil, List.map_append, List.length_append, List.length_cons, List.length_nil, hord, s1, s2, (eq_false n2 : (n = 0) = False), (eq_true n1 : (0 < n) = True), (eq_false z1 : (xa = 0) = False), IntWalk.i64_in]
          · refine ⟨(true, (out ++ [⟨true, [k], 1, tm, ts⟩]) ++ [⟨xc, [kx], xa, xm, xs⟩]), ⟨(g.snoc gt).snoc gx', by simp; omega⟩, ?_⟩
            simp -implicitDefEqProofs (disch := omega) only [go_sem, Nat.reduceBEq, Nat.reduceAdd, Nat.reduceSub, Nat.reduceMul, Nat.reduceLeDiff, Nat.reduceEqDiff, Nat.reduceLT, Int.reduceNeg, Int.reduceAdd, Int.reduceSub, Int.reduceMul, Int.reduceLE, Int.reduceLT, Int.reduceEq, Int.reduceToNat, reduceCtorEq, evL181x0, B181x0, hi', hx, Tal.cells, Val.cells, List.map_cons, List.map_nil, List.map_append, List.length_append, List.length_cons, List.length_nil, hord, s1, s2, (eq_false n2 : (n = 0) = False), (eq_true n1 : (0 < n) = True), (eq_true z1 : (xa = 0) = True), (eq_false z2 : (xm = 0) = False), IntWalk.i64_in]
          · refine ⟨(true, (out ++ [⟨true, [k], 1, tm, ts⟩]) ++ [⟨xc, [kx], xa, xm, xs⟩]), ⟨(g.snoc gt).snoc gx', by simp; omega⟩, ?_⟩
            simp -implicitDefEqProofs (disch := omega) only [go_sem, Nat.reduceBEq, Nat.reduceAdd, Nat.reduceSub, Nat.reduceMul, Nat.reduceLeDiff, Nat.reduceEqDiff, Nat.reduceLT, Int.reduceNeg, Int.reduceAdd, Int.reduceSub, Int.reduceMul, Int.reduceLE, Int.reduceLT, Int.reduceEq, Int.reduceToNat, reduceCtorEq, evL181x0, B181x0, hi', hx, Tal.cells, Val.cells, List.map_cons, List.map_nil, List.map_append, List.length_append, List.length_cons, List.length_nil, hord, s1, s2, (eq_false n2 : (n = 0) = False), (eq_true n1 : (0 < n) = True), (eq_true z1 : (xa = 0) = True), (eq_true z2 : (xm = 0) = True), (eq_false z3 : (xs = 0) = False), IntWalk.i64_in]
          · refine ⟨(true, out ++ [⟨true, [k], 1, tm, ts⟩]), ⟨g.snoc gt, by simp; omega⟩, ?_⟩
            simp -implicitDefEqProofs (disch := omega) only [go_sem, Nat.reduceBEq, Nat.reduceAdd, Nat.reduceSub, Nat.reduceMul, Nat.reduceLeDiff, Nat.reduceEqDiff, Nat.reduceLT, Int.reduceNeg, Int.reduceAdd, Int.reduceSub, Int.reduceMul, Int.reduceLE, Int.reduceLT, Int.reduceEq, Int.reduceToNat, reduceCtorEq, evL181x0, B181x0, hi', hx, Tal.cells, Val.cells, List.map_cons, List.map_nil, List.map_append, List.length_append, List.length_cons, List.length_nil, hord, s1, s2, (eq_false n2 : (n = 0) = False), (eq_true n1 : (0 < n) = True), (eq_true z1 : (xa = 0) = True), (eq_true z2 : (xm = 0) = True), (eq_true z3 : (xs = 0) = True), IntWalk.i64_in]
        · rcases hz with z1 | ⟨z1, z2⟩ | ⟨z1, z2, z3⟩ | ⟨z1, z2, z3⟩
          · refine ⟨(true, out ++ [⟨xc, [kx], xa, xm, xs⟩]), ⟨g.snoc gx', by simp; omega⟩, ?_⟩
            simp -implicitDefEqProofs (disch := omega) only [go_sem, Nat.reduceBEq, Nat.reduceAdd, Nat.reduceSub, Nat.reduceMul, Nat.reduceLeDiff, Nat.reduceEqDiff, Nat.reduceLT, Int.reduceNeg, Int.reduceAdd, Int.reduceSub, Int.reduceMul, Int.reduceLE, Int.reduceLT, Int.reduceEq, Int.reduceToNat, reduceCtorEq, evL181x0, B181x0, hi', hx, Tal.cells, Val.cells, List.map_cons, List.map_nil, List.map_append, List.length_append, List.length_cons, List.length_nil, hord, s1, s2, (eq_false n2 : (n = 0) = False), (eq_true n1 : (0 < n) = True), (eq_false z1 : (xa = 0) = False), IntWalk.i64_in]
          · refine ⟨(true, out ++ [⟨xc, [kx], xa, xm, xs⟩]), ⟨g.snoc gx', by simp; omega⟩, ?_⟩
            simp -implicitDefEqProofs (disch := omega) only [go_sem, Nat.reduceBEq, Nat.reduceAdd, Nat.reduceSub, Nat.reduceMul, Nat.reduceLeDiff, Nat.reduceEqDiff, Nat.reduceLT, Int.reduceNeg, Int.reduceAdd, Int.reduceSub, Int.reduceMul, Int.reduceLE, Int.reduceLT, Int.reduceEq, Int.reduceToNat, reduceCtorEq, evL181x0, B181x0, hi', hx, Tal.cells, Val.cells, List.map_cons, List.map_nil, List.map_append, List.length_append, List.length_cons, List.length_nil, hord, s1, s2, (eq_false n2 : (n = 0) = False), (eq_true n1 : (0 < n) = True), (eq_true z1 : (xa = 0) = True), (eq_false z2 : (xm = 0) = False), IntWalk.i64_in]
          · refine ⟨(true, out ++ [⟨xc, [kx], xa, xm, xs⟩]), ⟨g.snoc gx', by simp; omega⟩, ?_⟩
            simp -implicitDefEqProofs (disch := omega) only [go_sem, Nat.reduceBEq, Nat.reduceAdd, Nat.reduceSub, Nat.reduceMul, Nat.reduceLeDiff, Nat.reduceEqDiff, Nat.reduceLT, Int.reduceNeg, Int.reduceAdd, Int.reduceSub, Int.reduceMul, Int.reduceLE, Int.reduceLT, Int.reduceEq, Int.reduceToNat, reduceCtorEq, evL181x0, B181x0, hi', hx, Tal.cells, Val.cells, List.map_cons, List.map_nil, List.map_append, List.length_append, List.length_cons, List.length_nil, hord, s1, s2, (eq_false n2 : (n = 0) = False), (eq_true n1 : (0 < n) = True), (eq_true z1 : (xa = 0) = True), (eq_true z2 : (xm = 0) = True), (eq_false z3 : (xs = 0) = False), IntWalk.i64_in]
          · refine ⟨(true, out), ⟨g, by simp only; omega⟩, ?_⟩
            simp -implicitDefEqProofs (disch := omega) only [go_sem, Nat.reduceBEq, Nat.reduceAdd, Nat.reduceSub, Nat.reduceMul, Nat.reduceLeDiff, Nat.reduceEqDiff, Nat.reduceLT, Int.reduceNeg, Int.reduceAdd, Int.reduceSub, Int.reduceMul, Int.reduceLE, Int.reduceLT, Int.reduceEq, Int.reduceToNat, reduceCtorEq, evL181x0, B181x0, hi', hx, Tal.cells, Val.cells, List.map_cons, List.map_nil, List.map_append, List.length_append, List.length_cons, List.length_nil, hord, s1, s2, (eq_false n2 : (n = 0) = False), (eq_true n1 : (0 < n) = True), (eq_true z1 : (xa = 0) = True), (eq_true z2 : (xm = 0) = True), (eq_true z3 : (xs = 0) = True), IntWalk.i64_in]) 1099511627775 (by omega) (false, []) ⟨fun _ h => by (cases h), by simp⟩
  exact ⟨dn, out, e, g1, g2⟩
theorem run_turn (d : Nat) (c : Bool) (l : List Tal) (hl : l.length ≤ 4096) (hg : GTs l) (k v : Val) (hk : GK k) : ∃ (l2 : List Tal) (id st : Nat) (hc : Heap), runD tab noExt (d + 7) 181 [.sl c 4 (l.map Tal.cells), .agg k.cells, .agg v.cells, .int .i64 1] [] = some ([.ref id st 0 l2.length false], hc) ∧ hc[id]? = some (.rows st 4 (l2.map Tal.cells)) ∧ GTs l2 ∧ l2.length ≤ 2 * l.length + 1 := by
  obtain ⟨kk, kn, ks⟩ := k
  obtain ⟨vk, vn, vs⟩ := v
  have gt : ∀ tm ts, ∃ q, (Tal.mk true [⟨kk, kn, ks⟩] 1 tm ts).key = [q] ∧ GK q := fun _ _ => ⟨_, rfl, hk⟩
  rw [runD_eq find181 _ _ _ (by simp)]
  by_cases h1 : vk = 1
  · obtain ⟨dn, out, hL, g1, g2⟩ := loop_turn d c l hl hg ⟨kk, kn, ks⟩ ⟨vk, vn, vs⟩ hk 1 (IntKind.i64.wrap (1 * vn))
    have s1 : out.length + 1 < 4294967296 := by omega
    simp only [Val.cells] at hL ⊢
    simp -implicitDefEqProofs (disch := omega) only [go_sem, Nat.reduceBEq, Nat.reduceAdd, Nat.reduceSub, Nat.reduceMul, Nat.reduceLeDiff, Nat.reduceEqDiff, Nat.reduceLT, Int.reduceNeg, Int.reduceAdd, Int.reduceSub, Int.reduceMul, Int.reduceLE, Int.reduceLT, Int.reduceEq, Int.reduceToNat, reduceCtorEq, h1, elemsOf, elemOf, refs, refC, refsV, frzs, List.flatMap_cons, List.flatMap_nil]
    try simp -implicitDefEqProofs only [go_sem, Nat.reduceBEq, Nat.reduceAdd, Nat.reduceSub, Nat.reduceMul, Nat.reduceLeDiff, Nat.reduceEqDiff, Nat.reduceLT, Int.reduceNeg, Int.reduceAdd, Int.reduceSub, Int.reduceMul, Int.reduceLE, Int.reduceLT, Int.reduceEq, Int.reduceToNat, reduceCtorEq, h1] at hL
    rw [hL]
    cases dn
    · refine ⟨out ++ [⟨true, [⟨kk, kn, ks⟩], 1, 1, IntKind.i64.wrap (1 * vn)⟩], 4, out.length + 1, ?_⟩
      simp -implicitDefEqProofs (disch := omega) only [go_sem, Nat.reduceBEq, Nat.reduceAdd, Nat.reduceSub, Nat.reduceMul, Nat.reduceLeDiff, Nat.reduceEqDiff, Nat.reduceLT, Int.reduceNeg, Int.reduceAdd, Int.reduceSub, Int.reduceMul, Int.reduceLE, Int.reduceLT, Int.reduceEq, Int.reduceToNat, reduceCtorEq, s1, elemsOf, elemOf, refs, refC, refsV, frzs, List.flatMap_cons, List.flatMap_nil, List.map_append, List.map_cons, List.map_nil, Tal.cells, Val.cells]
      exact ⟨_, rfl, rfl, g1.snoc (gt _ _), by omega⟩
    · refine ⟨out, 4, out.length, ?_⟩
      simp -implicitDefEqProofs (disch := omega) only [go_sem, Nat.reduceBEq, Nat.reduceAdd, Nat.reduceSub, Nat.reduceMul, Nat.reduceLeDiff, Nat.reduceEqDiff, Nat.reduceLT, Int.reduceNeg, Int.reduceAdd, Int.reduceSub, Int.reduceMul, Int.reduceLE, Int.reduceLT, Int.reduceEq, Int.reduceToNat, reduceCtorEq]
      exact ⟨_, rfl, rfl, g1, by omega⟩
  · obtain ⟨dn, out, hL, g1, g2⟩ := loop_turn d c l hl hg ⟨kk, kn, ks⟩ ⟨vk, vn, vs⟩ hk 0 0
    have s1 : out.length + 1 < 4294967296 := by omega
    simp only [Val.cells] at hL ⊢
    simp -implicitDefEqProofs (disch := omega) only [go_sem, Nat.reduceBEq, Nat.reduceAdd, Nat.reduceSub, Nat.reduceMul, Nat.reduceLeDiff, Nat.reduceEqDiff, Nat.reduceLT, Int.reduceNeg, Int.reduceAdd, Int.reduceSub, Int.reduceMul, Int.reduceLE, Int.reduceLT, Int.reduceEq, Int.reduceToNat, reduceCtorEq, (eq_false h1 : (vk = 1) = False), elemsOf, elemOf, refs, refC, refsV, frzs, List.flatMap_cons, List.flatMap_nil]
    try simp -implicitDefEqProofs only [go_sem, Nat.reduceBEq, Nat.reduceAdd, Nat.reduceSub, Nat.reduceMul, Nat.reduceLeDiff, Nat.reduceEqDiff, Nat.reduceLT, Int.reduceNeg, Int.reduceAdd, Int.reduceSub, Int.reduceMul, Int.reduceLE, Int.reduceLT, Int.reduceEq, Int.reduceToNat, reduceCtorEq] at hL
    rw [hL]
    cases dn
    · refine ⟨out ++ [⟨true, [⟨kk, kn, ks⟩], 1, 0, 0⟩], 4, out.length + 1, ?_⟩
      simp -implicitDefEqProofs (disch := omega) only [go_sem, Nat.reduceBEq, Nat.reduceAdd, Nat.reduceSub, Nat.reduceMul, Nat.reduceLeDiff, Nat.reduceEqDiff, Nat.reduceLT, Int.reduceNeg, Int.reduceAdd, Int.reduceSub, Int.reduceMul, Int.reduceLE, Int.reduceLT, Int.reduceEq, Int.reduceToNat, reduceCtorEq, s1, elemsOf, elemOf, refs, refC, refsV, frzs, List.flatMap_cons, List.flatMap_nil, List.map_append, List.map_cons, List.map_nil, Tal.cells, Val.cells]
      exact ⟨_, rfl, rfl, g1.snoc (gt _ _), by omega⟩
    · refine ⟨out, 4, out.length, ?_⟩
      simp -implicitDefEqProofs (disch := omega) only [go_sem, Nat.reduceBEq, Nat.reduceAdd, Nat.reduceSub, Nat.reduceMul, Nat.reduceLeDiff, Nat.reduceEqDiff, Nat.reduceLT, Int.reduceNeg, Int.reduceAdd, Int.reduceSub, Int.reduceMul, Int.reduceLE, Int.reduceLT, Int.reduceEq, Int.reduceToNat, reduceCtorEq]
      exact ⟨_, rfl, rfl, g1, by omega⟩
def row2 (vs : List Val) : Bool := rowOk vs && (decide ((vs.length : Int) = 2) && (decide ((vs.getD 1 .zero).kind = 1) || decide ((vs.getD 1 .zero).kind = 0)))
theorem row2_of {vs : List Val} (h : row2 vs = true) : ∃ x y, vs = [x, y] ∧ rowOk [x] = true ∧ x.ok = true := by
  unfold row2 at h
  simp only [Bool.and_eq_true, decide_eq_true_eq] at h
  obtain ⟨h1, h2, _⟩ := h
  obtain ⟨x, y, rfl⟩ : ∃ x y, vs = [x, y] := by
    match vs, h2 with
    | [x, y], _ => exact ⟨x, y, rfl⟩
    | [], h2 => simp at h2
    | [_], h2 => simp at h2
    | _ :: _ :: _ :: _, h2 => simp at h2; omega
  unfold rowOk at h1 ⊢
  simp at h1
  exact ⟨x, y, rfl, by simp [h1.1], h1.1⟩
-- find180
theorem run_row2 (d : Nat) (c : Bool) (vs : List Val) (hs : vs.length < 1099511627776) (hsh : short vs) : retP (runD tab noExt (d + 4)) 180 [.sl c 3 (vs.map Val.cells)] = some [.bool (row2 vs)] := by
  have hr := run_rowOk d c vs hs hsh
  rw [retP, runD_eq find180 _ _ _ (by simp)]
  unfold row2
  cases h1 : rowOk vs
  · rw [h1] at hr
    simp -implicitDefEqProofs (disch := omega) only [go_sem, Nat.reduceBEq, Nat.reduceAdd, Nat.reduceSub, Nat.reduceMul, Nat.reduceLeDiff, Nat.reduceEqDiff, Nat.reduceLT, Int.reduceNeg, Int.reduceAdd, Int.reduceSub, Int.reduceMul, Int.reduceLE, Int.reduceLT, Int.reduceEq, Int.reduceToNat, reduceCtorEq, hr]
  rw [h1] at hr
  by_cases h2 : (vs.length : Int) = 2
  rotate_left
  · simp -implicitDefEqProofs (disch := omega) only [go_sem, Nat.reduceBEq, Nat.reduceAdd, Nat.reduceSub, Nat.reduceMul, Nat.reduceLeDiff, Nat.reduceEqDiff, Nat.reduceLT, Int.reduceNeg, Int.reduceAdd, Int.reduceSub, Int.reduceMul, Int.reduceLE, Int.reduceLT, Int.reduceEq, Int.reduceToNat, reduceCtorEq, hr, (eq_false h2 : ((vs.length : Int) = 2) = False)]
  obtain ⟨x, y, rfl⟩ : ∃ x y, vs = [x, y] := by
    match vs, h2 with
    | [x, y], _ => exact ⟨x, y, rfl⟩
    | [], h2 => simp at h2
    | [_], h2 => simp at h2
    | _ :: _ :: _ :: _, h2 => simp at h2; omega
  obtain ⟨yk, yn, ys⟩ := y
  simp only [List.map_cons, List.map_nil, Val.cells] at hr ⊢
  have e1 : ([x, ⟨yk, yn, ys⟩] : List Val).getD 1 .zero = ⟨yk, yn, ys⟩ := rfl
  rw [e1]
  by_cases h3 : yk = 1
  · subst h3
    simp -implicitDefEqProofs (disch := omega) only [go_sem, Nat.reduceBEq, Nat.reduceAdd, Nat.reduceSub, Nat.reduceMul, Nat.reduceLeDiff, Nat.reduceEqDiff, Nat.reduceLT, Int.reduceNeg, Int.reduceAdd, Int.reduceSub, Int.reduceMul, Int.reduceLE, Int.reduceLT, Int.reduceEq, Int.reduceToNat, reduceCtorEq, hr, Val.cells, Int.toNat_one, Int.toNat_zero, List.length_cons, List.length_nil]
  · simp -implicitDefEqProofs (disch := omega) only [go_sem, Nat.reduceBEq, Nat.reduceAdd, Nat.reduceSub, Nat.reduceMul, Nat.reduceLeDiff, Nat.reduceEqDiff, Nat.reduceLT, Int.reduceNeg, Int.reduceAdd, Int.reduceSub, Int.reduceMul, Int.reduceLE, Int.reduceLT, Int.reduceEq, Int.reduceToNat, reduceCtorEq, hr, Val.cells, Int.toNat_one, Int.toNat_zero, List.length_cons, List.length_nil, (eq_false h3 : (yk = 1) = False)]
-- find143
theorem loop_tof0 (d : Nat) (c : Bool) (rs : List Row) (hs : rs.length ≤ 12) (hsh : ∀ r ∈ rs, r.vs.length < 1099511627776 ∧ short r.vs) : ∀ (j i K : Nat), i + j = rs.length → j ≤ K →
    (LoopK (runD tab noExt (d + 8)) (drawI (runD tab noExt (d + 8))) [0, 3, 4] [0, 2, 3] L143x0 K [(0, .sl c 1 (rs.map Row.cells)), (3, .sl true 4 []), (4, .int .i64 (i : Nat))] [] = some (.exit 0, [(0, .sl c 1 (rs.map Row.cells)), (2, .undef), (3, .sl true 4 [])], []) ∧ ∀ (k : Nat) (r : Row), i ≤ k → rs[k]? = some r → row2 r.vs = true) ∨
    LoopK (runD tab noExt (d + 8)) (drawI (runD tab noExt (d + 8))) [0, 3, 4] [0, 2, 3] L143x0 K [(0, .sl c 1 (rs.map Row.cells)), (3, .sl true 4 []), (4, .int .i64 (i : Nat))] [] = some (.ret, [(0, .sl c 1 (rs.map Row.cells)), (2, .sl true 4 []), (3, .sl true 4 [])], []) := by
  have hh : ¬ (100 : Int) < rs.length := by omega
  intro j
  induction j with
  | zero =>
    intro i K hi hK
    obtain rfl : i = rs.length := by omega
    left
    refine ⟨?_, fun k r hk hr => ?_⟩
    · rw [LoopK_eq]
      simp -implicitDefEqProofs only [go_sem, Nat.reduceBEq, Nat.reduceAdd, Nat.reduceSub, Nat.reduceMul, Nat.reduceLeDiff, Nat.reduceEqDiff, Nat.reduceLT, Int.reduceNeg, Int.reduceAdd, Int.reduceSub, Int.reduceMul, Int.reduceLE, Int.reduceLT, Int.reduceEq, Int.reduceToNat, reduceCtorEq, evL143x0, B143x0, Int.lt_irrefl]
    · have := (List.getElem?_eq_some_iff.1 hr).1
      omega
  | succ j ih =>
    intro i K hi hK
    obtain ⟨K, rfl⟩ : ∃ K', K = K' + 1 := ⟨K - 1, by omega⟩
    have hi' : (i : Int) < rs.length := by omega
    have hx := List.getElem?_eq_getElem (show i < rs.length by omega)
    generalize rs[i] = x at hx
    obtain ⟨h1, h2⟩ := hsh x (List.mem_of_getElem? hx)
    have hr := run_row2 (d + 4) x.clip x.vs h1 h2
    have ih' := ih (i + 1) K (by omega) (by omega)
    simp only [Int.natCast_add, Int.natCast_one] at ih'
    rw [LoopK_eq]
    cases hb : row2 x.vs
    · rw [hb] at hr
      right
      simp -implicitDefEqProofs (disch := omega) only [go_sem, Nat.reduceBEq, Nat.reduceAdd, Nat.reduceSub, Nat.reduceMul, Nat.reduceLeDiff, Nat.reduceEqDiff, Nat.reduceLT, Int.reduceNeg, Int.reduceAdd, Int.reduceSub, Int.reduceMul, Int.reduceLE, Int.reduceLT, Int.reduceEq, Int.reduceToNat, reduceCtorEq, evL143x0, B143x0, hi', hx, Row.cells, Row.v, hr, elemsOf, frzs, List.flatMap_nil]
    · rw [hb] at hr
      rcases ih' with ⟨ih1, ih2⟩ | ih1
      · left
        refine ⟨?_, fun k r hk hrr => ?_⟩
        · simp -implicitDefEqProofs (disch := omega) only [go_sem, Nat.reduceBEq, Nat.reduceAdd, Nat.reduceSub, Nat.reduceMul, Nat.reduceLeDiff, Nat.reduceEqDiff, Nat.reduceLT, Int.reduceNeg, Int.reduceAdd, Int.reduceSub, Int.reduceMul, Int.reduceLE, Int.reduceLT, Int.reduceEq, Int.reduceToNat, reduceCtorEq, evL143x0, B143x0, hi', hx, Row.cells, Row.v, hr, hh, IntWalk.i64_in]
          exact ih1
        · rcases Nat.eq_or_lt_of_le hk with rfl | hlt
          · rw [hx] at hrr
            injection hrr with e
            rw [← e]
            exact hb
          · exact ih2 k r hlt hrr
      · right
        simp -implicitDefEqProofs (disch := omega) only [go_sem, Nat.reduceBEq, Nat.reduceAdd, Nat.reduceSub, Nat.reduceMul, Nat.reduceLeDiff, Nat.reduceEqDiff, Nat.reduceLT, Int.reduceNeg, Int.reduceAdd, Int.reduceSub, Int.reduceMul, Int.reduceLE, Int.reduceLT, Int.reduceEq, Int.reduceToNat, reduceCtorEq, evL143x0, B143x0, hi', hx, Row.cells, Row.v, hr, hh, IntWalk.i64_in]
        exact ih1
def Held (h : Heap) (v : V) (l : List Tal) : Prop := (v = .sl true 4 [] ∧ l = []) ∨ ∃ id st, v = .ref id st 0 l.length false ∧ h[id]? = some (.rows st 4 (l.map Tal.cells))
theorem loop_tof1 (d : Nat) (c : Bool) (rs : List Row) (hs : rs.length ≤ 12) (hsh : ∀ r ∈ rs, r.vs.length < 1099511627776 ∧ short r.vs) (h2 : ∀ r ∈ rs, row2 r.vs = true) : ∃ (h : Heap) (v : V) (l : List Tal), LoopK (runD tab noExt (d + 8)) (drawI (runD tab noExt (d + 8))) [0, 3, 5] [3] L143x1 1099511627775 [(0, .sl c 1 (rs.map Row.cells)), (3, .sl true 4 []), (5, .int .i64 0)] [] = some (.exit 2, [(3, v)], h) ∧ Held h v l ∧ GTs l ∧ l.length ≤ 4096 := by
  obtain ⟨⟨h, v, l⟩, ⟨g0, g1, g2⟩, e⟩ := LoopK_inv (run := runD tab noExt (d + 8)) (draw := drawI (runD tab noExt (d + 8))) (live := [0, 3, 5]) (out := [3]) (c := L143x1) rs.length
    (fun i (b : Heap × V × List Tal) => Held b.1 b.2.1 b.2.2 ∧ GTs b.2.2 ∧ b.2.2.length + 1 ≤ 2 ^ i)
    (fun i b => [(0, .sl c 1 (rs.map Row.cells)), (3, b.2.1), (5, .int .i64 (i : Nat))]) (fun b => b.1) (fun b => some (.exit 2, [(3, b.2.1)], b.1))
    (fun b K hb => by
      rw [LoopK_eq]
      simp -implicitDefEqProofs only [go_sem, Nat.reduceBEq, Nat.reduceAdd, Nat.reduceSub, Nat.reduceMul, Nat.reduceLeDiff, Nat.reduceEqDiff, Nat.reduceLT, Int.reduceNeg, Int.reduceAdd, Int.reduceSub, Int.reduceMul, Int.reduceLE, Int.reduceLT, Int.reduceEq, Int.reduceToNat, reduceCtorEq, evL143x1, B143x1, Int.lt_irrefl]) (fun i b K hi hb => by
      obtain ⟨h, v, l⟩ := b
      obtain ⟨g0, g, glen⟩ := hb
      simp only at g0 g glen ⊢
      have hx := List.getElem?_eq_getElem hi
      generalize rs[i] = r at hx
      have hm := List.mem_of_getElem? hx
      obtain ⟨x, y, hxy, q1, q2⟩ := row2_of (h2 r hm)
      have hsz : x.s.size < 1099511627776 := (hsh r hm).2 x (by rw [hxy]; simp)
      have hp : 2 ^ i ≤ 2 ^ 11 := Nat.pow_le_pow_right (by omega) (by omega)
      have hp1 : 2 ^ (i + 1) = 2 * 2 ^ i := by rw [Nat.pow_succ]; omega
      have hi' : (i : Int) < rs.length := by omega
      obtain ⟨rc, rvs⟩ := r
      simp only at hxy
      subst hxy
      rcases g0 with ⟨rfl, rfl⟩ | ⟨id, st, rfl, hid⟩
      · obtain ⟨l2, id2, st2, hc, eT, e2, g2, g3⟩ := run_turn (d + 1) true [] (by simp) (fun _ h => by cases h) x y ⟨q1, q2, hsz⟩
        refine ⟨(h ++ [.rows 0 4 (l2.map Tal.cells)], .ref h.length 0 0 l2.length false, l2), ⟨.inr ⟨h.length, 0, rfl, by simp⟩, g2, by simp only [List.length_nil] at g3 glen ⊢; omega⟩, ?_⟩
        simp only [Val.cells, List.map_nil] at eT
        rw [LoopK_eq]
        simp -implicitDefEqProofs (disch := omega) only [go_sem, Nat.reduceBEq, Nat.reduceAdd, Nat.reduceSub, Nat.reduceMul, Nat.reduceLeDiff, Nat.reduceEqDiff, Nat.reduceLT, Int.reduceNeg, Int.reduceAdd, Int.reduceSub, Int.reduceMul, Int.reduceLE, Int.reduceLT, Int.reduceEq, Int.reduceToNat, reduceCtorEq, evL143x1, B143x1, evC_draw, evD143x0, E143x0, hi', hx, Row.cells, Row.v, Val.cells, List.map_cons, List.map_nil, List.getElem?_cons_zero, List.getElem?_cons_succ, Int.toNat_zero, Int.toNat_one, eT, e2, take_map_len, refsAs, refsA, refC, frzs, frz1, IntWalk.i64_in]
      · obtain ⟨l2, id2, st2, hc, eT, e2, g2, g3⟩ := run_turn (d + 1) false l (by omega) g x y ⟨q1, q2, hsz⟩
        refine ⟨(h.set id (.frz st 4 (l.map Tal.cells)) ++ [.rows 0 4 (l2.map Tal.cells)], .ref h.length 0 0 l2.length false, l2), ⟨.inr ⟨h.length, 0, rfl, by simp⟩, g2, by simp only; omega⟩, ?_⟩
        simp only [Val.cells] at eT
        rw [LoopK_eq]
        simp -implicitDefEqProofs (disch := omega) only [go_sem, Nat.reduceBEq, Nat.reduceAdd, Nat.reduceSub, Nat.reduceMul, Nat.reduceLeDiff, Nat.reduceEqDiff, Nat.reduceLT, Int.reduceNeg, Int.reduceAdd, Int.reduceSub, Int.reduceMul, Int.reduceLE, Int.reduceLT, Int.reduceEq, Int.reduceToNat, reduceCtorEq, evL143x1, B143x1, evC_draw, evD143x0, E143x0, hi', hx, hid, Row.cells, Row.v, Val.cells, List.map_cons, List.map_nil, List.getElem?_cons_zero, List.getElem?_cons_succ, Int.toNat_zero, Int.toNat_one, eT, e2, take_map_len, refsAs, refsA, refC, frzs, frz1, List.length_set, IntWalk.i64_in]) 1099511627775 (by omega) ([], .sl true 4 [], []) ⟨.inl ⟨rfl, rfl⟩, fun _ h => by (cases h), by simp⟩
  have hp : 2 ^ rs.length ≤ 2 ^ 12 := Nat.pow_le_pow_right (by omega) hs
  exact ⟨h, v, l, e, g0, g1, by simp only at g2; omega⟩
theorem run_TalliesOf (d : Nat) (c : Bool) (rs : List Row) (hs : rs.length ≤ 12) (hsh : ∀ r ∈ rs, r.vs.length < 1099511627776 ∧ short r.vs) : ∃ (h : Heap) (v : V) (l : List Tal), runD tab noExt (d + 9) 143 [.sl c 1 (rs.map Row.cells)] [] = some ([v], h) ∧ Held h v l ∧ GTs l ∧ l.length ≤ 4096 := by
  have h0 := loop_tof0 d c rs hs hsh rs.length 0 1099511627775 (by omega) (by omega)
  simp only [Int.natCast_zero] at h0
  rw [runD_eq find143 _ _ _ (by simp)]
  simp -implicitDefEqProofs (disch := omega) only [go_sem, Nat.reduceBEq, Nat.reduceAdd, Nat.reduceSub, Nat.reduceMul, Nat.reduceLeDiff, Nat.reduceEqDiff, Nat.reduceLT, Int.reduceNeg, Int.reduceAdd, Int.reduceSub, Int.reduceMul, Int.reduceLE, Int.reduceLT, Int.reduceEq, Int.reduceToNat, reduceCtorEq, elemsOf, frzs, List.flatMap_nil]
  rcases h0 with ⟨h0, hall⟩ | h0
  · try simp -implicitDefEqProofs only [go_sem, Nat.reduceBEq, Nat.reduceAdd, Nat.reduceSub, Nat.reduceMul, Nat.reduceLeDiff, Nat.reduceEqDiff, Nat.reduceLT, Int.reduceNeg, Int.reduceAdd, Int.reduceSub, Int.reduceMul, Int.reduceLE, Int.reduceLT, Int.reduceEq, Int.reduceToNat, reduceCtorEq] at h0
    rw [h0]
    obtain ⟨h, v, l, e, g0, g1, g2⟩ := loop_tof1 d c rs hs hsh (fun r hr => by
      obtain ⟨k, hk⟩ := List.getElem?_of_mem hr
      exact hall k r (by omega) hk)
    refine ⟨h, v, l, ?_, g0, g1, g2⟩
    simp -implicitDefEqProofs (disch := omega) only [go_sem, Nat.reduceBEq, Nat.reduceAdd, Nat.reduceSub, Nat.reduceMul, Nat.reduceLeDiff, Nat.reduceEqDiff, Nat.reduceLT, Int.reduceNeg, Int.reduceAdd, Int.reduceSub, Int.reduceMul, Int.reduceLE, Int.reduceLT, Int.reduceEq, Int.reduceToNat, reduceCtorEq]
    try simp -implicitDefEqProofs only [go_sem, Nat.reduceBEq, Nat.reduceAdd, Nat.reduceSub, Nat.reduceMul, Nat.reduceLeDiff, Nat.reduceEqDiff, Nat.reduceLT, Int.reduceNeg, Int.reduceAdd, Int.reduceSub, Int.reduceMul, Int.reduceLE, Int.reduceLT, Int.reduceEq, Int.reduceToNat, reduceCtorEq] at e
    rw [e]
    simp -implicitDefEqProofs (disch := omega) only [go_sem, Nat.reduceBEq, Nat.reduceAdd, Nat.reduceSub, Nat.reduceMul, Nat.reduceLeDiff, Nat.reduceEqDiff, Nat.reduceLT, Int.reduceNeg, Int.reduceAdd, Int.reduceSub, Int.reduceMul, Int.reduceLE, Int.reduceLT, Int.reduceEq, Int.reduceToNat, reduceCtorEq]
  · try simp -implicitDefEqProofs only [go_sem, Nat.reduceBEq, Nat.reduceAdd, Nat.reduceSub, Nat.reduceMul, Nat.reduceLeDiff, Nat.reduceEqDiff, Nat.reduceLT, Int.reduceNeg, Int.reduceAdd, Int.reduceSub, Int.reduceMul, Int.reduceLE, Int.reduceLT, Int.reduceEq, Int.reduceToNat, reduceCtorEq] at h0
    rw [h0]
    refine ⟨[], .sl true 4 [], [], ?_, .inl ⟨rfl, rfl⟩, fun _ h => by (cases h), by simp⟩
    simp -implicitDefEqProofs (disch := omega) only [go_sem, Nat.reduceBEq, Nat.reduceAdd, Nat.reduceSub, Nat.reduceMul, Nat.reduceLeDiff, Nat.reduceEqDiff, Nat.reduceLT, Int.reduceNeg, Int.reduceAdd, Int.reduceSub, Int.reduceMul, Int.reduceLE, Int.reduceLT, Int.reduceEq, Int.reduceToNat, reduceCtorEq]
end Go.Proofs.Ytfbjbkkcilhgjaa.PE
/- Values that are drawn. -/
set_option linter.unusedSimpArgs false
set_option linter.unusedVariables false
set_option maxHeartbeats 4000000
namespace Go.Proofs.Ytfbjbkkcilhgjaa.PE
open Go.RowKit

theorem empty_size : (⟨#[]⟩ : ByteArray).size = 0 := rfl
/-- A drawn value's text is short. -/
def GV (v : Val) : Prop := v.s.size ≤ 20

-- find197
theorem ex_like {d : Nat} {hp t : Heap} {c : Bool} {bs : List UInt8} {p k : Int} {e : Bool} {X : Option (V × Heap)} (hx : callS (runD tab noExt (d + 2)) (hp ++ .box [.sl c 1 (cellsOfBytes bs), .int .i64 (p)] :: t) 197 [.ptr hp.length 0 0 0, .agg [.int .i64 k, .bool e]] false = X)
    (hp0 : 0 ≤ p) (hq : p ≤ 1099511000000) (hb : bs.length ≤ 2000) (hhp : plainH hp = true) (ht : plainH t = true) :
    ∃ v p', X = some (Val.enc v, hp ++ .box [.sl c 1 (cellsOfBytes bs), .int .i64 (p')] :: t) ∧ p ≤ p' ∧ p' ≤ p + 2 ∧ GV v := by
  subst hx
  have hh : ∀ n, t.all (hiB n) = true := fun n => plainH_hi ht n
  have hhq : ∀ n, hp.all (hiB n) = true := fun n => plainH_hi hhp n
  rw [callS_eq, runD_eq find197 _ _ _ (by simp)]
  simp -implicitDefEqProofs only [go_sem, Nat.reduceBEq, Nat.reduceAdd, Nat.reduceSub, Nat.reduceMul, Nat.reduceLeDiff, Nat.reduceEqDiff, Nat.reduceLT, Int.reduceNeg, Int.reduceAdd, Int.reduceSub, Int.reduceMul, Int.reduceLE, Int.reduceLT, Int.reduceEq, Int.reduceToNat, reduceCtorEq]
  have hidx : ∀ m : Int, 0 ≤ m → m < 4 → ∃ x : ByteArray, ([[.str ⟨#[]⟩], [.str ⟨#[97]⟩], [.str ⟨#[98]⟩], [.str ⟨#[97, 98]⟩]] : List (List V))[m.toNat]? = some [.str x] ∧ x.size ≤ 2 := by
    intro m h0 h1
    rcases (by omega : m = 0 ∨ m = 1 ∨ m = 2 ∨ m = 3) with rfl | rfl | rfl | rfl <;> exact ⟨_, rfl, Nat.le_of_ble_eq_true rfl⟩
  repeat' (first | ((conv in (callS _ _ 57 _ false) => skip); generalize hx : callS (runD tab noExt _) (_ ++ _ :: _) 57 [_, .int .i64 4] false = X; obtain ⟨m, rfl, hm1, hm2⟩ := ex_pick hx (by omega) (by omega) hb hhp (by simp only [ht, plainH_nil, plainH_cons, plainH_append, plainB, List.all_cons, List.all_nil, Bool.and_self, Bool.and_true]) ; skip; clear hx; obtain ⟨x, hx1, hx2⟩ := hidx m hm1 (by omega); simp -implicitDefEqProofs (disch := omega) only [go_sem, Nat.reduceBEq, Nat.reduceAdd, Nat.reduceSub, Nat.reduceMul, Nat.reduceLeDiff, Nat.reduceEqDiff, Nat.reduceLT, Int.reduceNeg, Int.reduceAdd, Int.reduceSub, Int.reduceMul, Int.reduceLE, Int.reduceLT, Int.reduceEq, Int.reduceToNat, reduceCtorEq, IntWalk.i64_in, hh, hhq, List.all_append, *]) | ((conv in (callS _ _ 57 _ false) => skip); generalize hx : callS (runD tab noExt _) (_ ++ _ :: _) 57 _ false = X; obtain ⟨m, rfl, hm1, hm2⟩ := ex_pick hx (by omega) (by omega) hb hhp (by simp only [ht, plainH_nil, plainH_cons, plainH_append, plainB, List.all_cons, List.all_nil, Bool.and_self, Bool.and_true]) ; skip; clear hx; simp -implicitDefEqProofs (disch := omega) only [go_sem, Nat.reduceBEq, Nat.reduceAdd, Nat.reduceSub, Nat.reduceMul, Nat.reduceLeDiff, Nat.reduceEqDiff, Nat.reduceLT, Int.reduceNeg, Int.reduceAdd, Int.reduceSub, Int.reduceMul, Int.reduceLE, Int.reduceLT, Int.reduceEq, Int.reduceToNat, reduceCtorEq, IntWalk.i64_in, hh, hhq, List.all_append, *]) | ((first | rw [GuardI_ndec] | rw [CondC_ndec] | rw [GuardQ_ndec] | rw [GuardV_ndec] | rw [GuardI_dec] | rw [CondC_dec] | rw [GuardQ_dec] | rw [GuardV_dec] | rw [GuardI_nby] | rw [CondC_nby] | rw [GuardQ_nby] | rw [GuardV_nby] | rw [GuardQ_by] | rw [GuardI_by] | rw [GuardV_by] | rw [CondC_by]) <;> split <;> simp -implicitDefEqProofs (disch := omega) only [go_sem, Nat.reduceBEq, Nat.reduceAdd, Nat.reduceSub, Nat.reduceMul, Nat.reduceLeDiff, Nat.reduceEqDiff, Nat.reduceLT, Int.reduceNeg, Int.reduceAdd, Int.reduceSub, Int.reduceMul, Int.reduceLE, Int.reduceLT, Int.reduceEq, Int.reduceToNat, reduceCtorEq, IntWalk.i64_in, hh, hhq, List.all_append, *]))
  all_goals first | (exfalso; omega) | (refine ⟨⟨_, _, _⟩, _, rfl, ?_, ?_, ?_⟩ <;> first | omega | exact Nat.le_of_ble_eq_true rfl | exact Nat.le_trans (by assumption) (by decide))

theorem size_append' (a b : ByteArray) : (a ++ b).size = a.size + b.size := ByteArray.size_append
theorem size_one (b : UInt8) : (⟨#[b]⟩ : ByteArray).size = 1 := rfl

def ValPost (p q : Int) (s s' : ByteArray) (p' : Int) : Prop := p ≤ p' ∧ p' ≤ p + q ∧ s'.size ≤ s.size + q
-- find149
theorem loop_value {d : Nat} {hp t : Heap} {c : Bool} {bs : List UInt8} {n : Int} (hb : bs.length ≤ 2000) (hhp : plainH hp = true) (ht : plainH t = true) : ∀ (j K : Nat) {p k : Int} {s : ByteArray} {Y : Out},
    LoopS (runD tab noExt (d + 1)) (drawI (runD tab noExt (d + 1))) [0, 1, 4, 5, 6] [0, 1, 4, 5] L149x0 (hp.length + (t.length + 3)) K [(0, .ptr hp.length 0 0 0), (1, .int .i64 n), (4, .ptr (hp.length + (t.length + 1)) 0 0 0), (5, .ptr (hp.length + (t.length + 2)) 0 0 0), (6, .int .i64 k)]
      (hp ++ .box [.sl c 1 (cellsOfBytes bs), .int .i64 (p)] :: (t ++ [.box [.int .i64 0, .int .i64 0, .str ⟨#[]⟩], .box [.int .i64 2, .int .i64 0, .str s]])) = Y →
    k = j → j ≤ K → s.size + j ≤ 1000 → 0 ≤ p → p + j ≤ 1099511000000 → ∃ s' p', Y = some (.exit 1, [(0, .ptr hp.length 0 0 0), (1, .int .i64 n), (4, .ptr (hp.length + (t.length + 1)) 0 0 0), (5, .ptr (hp.length + (t.length + 2)) 0 0 0)],
      hp ++ .box [.sl c 1 (cellsOfBytes bs), .int .i64 (p')] :: (t ++ [.box [.int .i64 0, .int .i64 0, .str ⟨#[]⟩], .box [.int .i64 2, .int .i64 0, .str s']])) ∧ ValPost p j s s' p' := by
  have hh : ∀ n, t.all (hiB n) = true := fun n => plainH_hi ht n
  have hhq : ∀ n, hp.all (hiB n) = true := fun n => plainH_hi hhp n
  intro j
  induction j with
  | zero =>
    intro K p k s Y hL hk hK hs hp0 hq
    subst hL hk
    rw [LoopS_eq]
    simp -implicitDefEqProofs only [go_sem, Nat.reduceBEq, Nat.reduceAdd, Nat.reduceSub, Nat.reduceMul, Nat.reduceLeDiff, Nat.reduceEqDiff, Nat.reduceLT, Int.reduceNeg, Int.reduceAdd, Int.reduceSub, Int.reduceMul, Int.reduceLE, Int.reduceLT, Int.reduceEq, Int.reduceToNat, reduceCtorEq, evL149x0, B149x0, hh, hhq, List.all_append, Int.lt_irrefl, Int.natCast_zero]
    exact ⟨s, p, rfl, by omega, by omega, by omega⟩
  | succ j ih =>
    intro K p k s Y hL hk hK hs hp0 hq
    obtain ⟨K, rfl⟩ : ∃ K', K = K' + 1 := ⟨K - 1, by omega⟩
    subst hL
    have hk0 : 0 < k := by omega
    have h1 : s.size + 1 < 4294967296 := by omega
    rw [LoopS_eq]
    simp -implicitDefEqProofs (disch := omega) only [go_sem, Nat.reduceBEq, Nat.reduceAdd, Nat.reduceSub, Nat.reduceMul, Nat.reduceLeDiff, Nat.reduceEqDiff, Nat.reduceLT, Int.reduceNeg, Int.reduceAdd, Int.reduceSub, Int.reduceMul, Int.reduceLE, Int.reduceLT, Int.reduceEq, Int.reduceToNat, reduceCtorEq, evL149x0, B149x0, evC_draw, evD149x0, E149x0, hh, hhq, hk0, List.all_append]
    repeat' (first | ((conv in (callS _ _ 57 _ false) => skip); generalize hx : callS (runD tab noExt _) (_ ++ _ :: _) 57 _ false = X; obtain ⟨m, rfl, hm1, hm2⟩ := ex_pick hx (by omega) (by omega) hb hhp (by simp only [ht, plainH_nil, plainH_cons, plainH_append, plainB, List.all_cons, List.all_nil, Bool.and_self, Bool.and_true]) ; skip;  simp -implicitDefEqProofs (disch := omega) only [go_sem, Nat.reduceBEq, Nat.reduceAdd, Nat.reduceSub, Nat.reduceMul, Nat.reduceLeDiff, Nat.reduceEqDiff, Nat.reduceLT, Int.reduceNeg, Int.reduceAdd, Int.reduceSub, Int.reduceMul, Int.reduceLE, Int.reduceLT, Int.reduceEq, Int.reduceToNat, reduceCtorEq, IntWalk.i64_in, hh, hhq, List.all_append, elemsOf, elemOf, frzs, List.flatMap_cons, List.flatMap_nil, refsV, refC, refs, listOf, bytesOf, small, size_one, *]) | ((first | rw [GuardI_ndec] | rw [CondC_ndec] | rw [GuardQ_ndec] | rw [GuardV_ndec] | rw [GuardI_dec] | rw [CondC_dec] | rw [GuardQ_dec] | rw [GuardV_dec] | rw [GuardI_nby] | rw [CondC_nby] | rw [GuardQ_nby] | rw [GuardV_nby] | rw [GuardQ_by] | rw [GuardI_by] | rw [GuardV_by] | rw [CondC_by]) <;> split <;> simp -implicitDefEqProofs (disch := omega) only [go_sem, Nat.reduceBEq, Nat.reduceAdd, Nat.reduceSub, Nat.reduceMul, Nat.reduceLeDiff, Nat.reduceEqDiff, Nat.reduceLT, Int.reduceNeg, Int.reduceAdd, Int.reduceSub, Int.reduceMul, Int.reduceLE, Int.reduceLT, Int.reduceEq, Int.reduceToNat, reduceCtorEq, IntWalk.i64_in, hh, hhq, List.all_append, elemsOf, elemOf, frzs, List.flatMap_cons, List.flatMap_nil, refsV, refC, refs, listOf, bytesOf, small, size_one, *]))
    generalize hL : LoopS _ _ _ _ _ _ _ _ _ = Y
    obtain ⟨s', p', rfl, h2, h3, h4⟩ := ih K hL (by omega) (by omega) (by rw [size_append', size_one]; omega) (by omega) (by omega)
    rw [size_append', size_one] at h4
    exact ⟨s', p', rfl, by omega, by omega, by omega⟩
end Go.Proofs.Ytfbjbkkcilhgjaa.PE
/- Values, columns and rows that are drawn. -/
set_option linter.unusedSimpArgs false
set_option linter.unusedVariables false
set_option maxHeartbeats 4000000
namespace Go.Proofs.Ytfbjbkkcilhgjaa.PE
open Go.RowKit

theorem loop_value' {d : Nat} {hp t : Heap} {c : Bool} {bs : List UInt8} {n : Int} (hb : bs.length ≤ 2000) (hhp : plainH hp = true) (ht : plainH t = true) {K : Nat} {p k : Int} {s : ByteArray} {Y : Out}
    (hL : LoopS (runD tab noExt (d + 1)) (drawI (runD tab noExt (d + 1))) [0, 1, 4, 5, 6] [0, 1, 4, 5] L149x0 (hp.length + (t.length + 3)) K [(0, .ptr hp.length 0 0 0), (1, .int .i64 n), (4, .ptr (hp.length + (t.length + 1)) 0 0 0), (5, .ptr (hp.length + (t.length + 2)) 0 0 0), (6, .int .i64 k)]
      (hp ++ .box [.sl c 1 (cellsOfBytes bs), .int .i64 (p)] :: (t ++ [.box [.int .i64 0, .int .i64 0, .str ⟨#[]⟩], .box [.int .i64 2, .int .i64 0, .str s]])) = Y)
    (hk : 0 ≤ k) (hk3 : k ≤ 3) (hK : 3 ≤ K) (hs : s.size ≤ 900) (hp0 : 0 ≤ p) (hq : p ≤ 1099510900000) : ∃ s' p', Y = some (.exit 1, [(0, .ptr hp.length 0 0 0), (1, .int .i64 n), (4, .ptr (hp.length + (t.length + 1)) 0 0 0), (5, .ptr (hp.length + (t.length + 2)) 0 0 0)],
      hp ++ .box [.sl c 1 (cellsOfBytes bs), .int .i64 (p')] :: (t ++ [.box [.int .i64 0, .int .i64 0, .str ⟨#[]⟩], .box [.int .i64 2, .int .i64 0, .str s']])) ∧ p ≤ p' ∧ p' ≤ p + 3 ∧ s'.size ≤ s.size + 3 := by
  obtain ⟨s', p', rfl, h1, h2, h3⟩ := loop_value hb hhp ht k.toNat K hL (by omega) (by omega) (by omega) (by omega) (by omega)
  exact ⟨s', p', rfl, h1, by omega, by omega⟩

theorem size_lit7 : (⟨#[97, 98, 99, 100, 101, 102, 103]⟩ : ByteArray).size = 7 := rfl
theorem size_lit1 : (⟨#[65]⟩ : ByteArray).size = 1 := rfl
-- find149
theorem ex_value {d : Nat} {hp t : Heap} {c : Bool} {bs : List UInt8} {p n : Int} {X : Option (V × Heap)} (hx : callS (runD tab noExt (d + 3)) (hp ++ .box [.sl c 1 (cellsOfBytes bs), .int .i64 (p)] :: t) 149 [.ptr hp.length 0 0 0, .int .i64 n] false = X)
    (hp0 : 0 ≤ p) (hq : p ≤ 1099510000000) (hb : bs.length ≤ 2000) (hhp : plainH hp = true) (ht : plainH t = true) :
    ∃ v p', X = some (Val.enc v, hp ++ .box [.sl c 1 (cellsOfBytes bs), .int .i64 (p')] :: t) ∧ p ≤ p' ∧ p' ≤ p + 20 ∧ GV v := by
  subst hx
  have hh : ∀ n, t.all (hiB n) = true := fun n => plainH_hi ht n
  have hhq : ∀ n, hp.all (hiB n) = true := fun n => plainH_hi hhp n
  rw [callS_eq, runD_eq find149 _ _ _ (by simp)]
  simp -implicitDefEqProofs only [go_sem, Nat.reduceBEq, Nat.reduceAdd, Nat.reduceSub, Nat.reduceMul, Nat.reduceLeDiff, Nat.reduceEqDiff, Nat.reduceLT, Int.reduceNeg, Int.reduceAdd, Int.reduceSub, Int.reduceMul, Int.reduceLE, Int.reduceLT, Int.reduceEq, Int.reduceToNat, reduceCtorEq]
  have hidx : ∀ m : Int, 0 ≤ m → m < 5 → ∃ x : Int, ([[.int .i64 9999], [.int .i64 (-9999)], [.int .i64 255], [.int .i64 256], [.int .i64 (-256)]] : List (List V))[m.toNat]? = some [.int .i64 x] := by
    intro m h0 h1
    rcases (by omega : m = 0 ∨ m = 1 ∨ m = 2 ∨ m = 3 ∨ m = 4) with rfl | rfl | rfl | rfl | rfl <;> exact ⟨_, rfl⟩
  repeat' (first | ((conv in (callS _ _ 57 _ false) => skip); generalize hx : callS (runD tab noExt _) (_ ++ _ :: _) 57 [_, .int .i64 5] false = X; obtain ⟨m, rfl, hm1, hm2⟩ := ex_pick hx (by omega) (by omega) hb hhp (by simp only [ht, plainH_nil, plainH_cons, plainH_append, plainB, List.all_cons, List.all_nil, Bool.and_self, Bool.and_true]) ; skip; clear hx; obtain ⟨x, hx1⟩ := hidx m hm1 (by omega); simp -implicitDefEqProofs (disch := omega) only [go_sem, Nat.reduceBEq, Nat.reduceAdd, Nat.reduceSub, Nat.reduceMul, Nat.reduceLeDiff, Nat.reduceEqDiff, Nat.reduceLT, Int.reduceNeg, Int.reduceAdd, Int.reduceSub, Int.reduceMul, Int.reduceLE, Int.reduceLT, Int.reduceEq, Int.reduceToNat, reduceCtorEq, IntWalk.i64_in, hh, hhq, List.all_append, size_lit7, size_lit1, empty_size, *]) | ((conv in (callS _ _ 57 _ false) => skip); generalize hx : callS (runD tab noExt _) (_ ++ _ :: _) 57 _ false = X; obtain ⟨m, rfl, hm1, hm2⟩ := ex_pick hx (by omega) (by omega) hb hhp (by simp only [ht, plainH_nil, plainH_cons, plainH_append, plainB, List.all_cons, List.all_nil, Bool.and_self, Bool.and_true]) ; skip; clear hx; simp -implicitDefEqProofs (disch := omega) only [go_sem, Nat.reduceBEq, Nat.reduceAdd, Nat.reduceSub, Nat.reduceMul, Nat.reduceLeDiff, Nat.reduceEqDiff, Nat.reduceLT, Int.reduceNeg, Int.reduceAdd, Int.reduceSub, Int.reduceMul, Int.reduceLE, Int.reduceLT, Int.reduceEq, Int.reduceToNat, reduceCtorEq, IntWalk.i64_in, hh, hhq, List.all_append, size_lit7, size_lit1, empty_size, *]) | ((conv in (callS _ _ 119 _ false) => skip); generalize hx : callS (runD tab noExt _) (_ ++ _ :: _) 119 _ false = X; obtain ⟨b, p', rfl, hm1, hm2, hm3⟩ := ex_odd hx (by omega) (by omega) hb hhp (by simp only [ht, plainH_nil, plainH_cons, plainH_append, plainB, List.all_cons, List.all_nil, Bool.and_self, Bool.and_true]) ; skip; clear hx; simp -implicitDefEqProofs (disch := omega) only [go_sem, Nat.reduceBEq, Nat.reduceAdd, Nat.reduceSub, Nat.reduceMul, Nat.reduceLeDiff, Nat.reduceEqDiff, Nat.reduceLT, Int.reduceNeg, Int.reduceAdd, Int.reduceSub, Int.reduceMul, Int.reduceLE, Int.reduceLT, Int.reduceEq, Int.reduceToNat, reduceCtorEq, IntWalk.i64_in, hh, hhq, List.all_append, size_lit7, size_lit1, empty_size, *]) | ((conv in (LoopS _ _ _ _ _ _ _ _ _) => skip); generalize hx : LoopS _ _ _ _ _ _ _ _ _ = Y; obtain ⟨s', p', rfl, h2, h3, h4⟩ := loop_value' hb hhp ht hx (by omega) (by omega) (by omega) (by have := empty_size; omega) (by omega) (by omega); clear hx; have h5 := empty_size; have hs1 : s'.size + 7 < 4294967296 := (by omega); have hs2 : s'.size + 1 < 4294967296 := (by omega); simp -implicitDefEqProofs (disch := omega) only [go_sem, Nat.reduceBEq, Nat.reduceAdd, Nat.reduceSub, Nat.reduceMul, Nat.reduceLeDiff, Nat.reduceEqDiff, Nat.reduceLT, Int.reduceNeg, Int.reduceAdd, Int.reduceSub, Int.reduceMul, Int.reduceLE, Int.reduceLT, Int.reduceEq, Int.reduceToNat, reduceCtorEq, IntWalk.i64_in, hh, hhq, List.all_append, size_lit7, size_lit1, empty_size, *]) | ((first | rw [GuardI_ndec] | rw [CondC_ndec] | rw [GuardQ_ndec] | rw [GuardV_ndec] | rw [GuardI_dec] | rw [CondC_dec] | rw [GuardQ_dec] | rw [GuardV_dec] | rw [GuardI_nby] | rw [CondC_nby] | rw [GuardQ_nby] | rw [GuardV_nby] | rw [GuardQ_by] | rw [GuardI_by] | rw [GuardV_by] | rw [CondC_by]) <;> split <;> simp -implicitDefEqProofs (disch := omega) only [go_sem, Nat.reduceBEq, Nat.reduceAdd, Nat.reduceSub, Nat.reduceMul, Nat.reduceLeDiff, Nat.reduceEqDiff, Nat.reduceLT, Int.reduceNeg, Int.reduceAdd, Int.reduceSub, Int.reduceMul, Int.reduceLE, Int.reduceLT, Int.reduceEq, Int.reduceToNat, reduceCtorEq, IntWalk.i64_in, hh, hhq, List.all_append, size_lit7, size_lit1, empty_size, *]))
  all_goals first | (exfalso; omega) | (refine ⟨⟨_, _, _⟩, _, rfl, ?_, ?_, ?_⟩ <;> first | omega | exact Nat.le_of_ble_eq_true rfl | exact Nat.le_trans (by assumption) (by decide) | (show ByteArray.size (_ ++ _) ≤ 20; rw [size_append']; (first | rw [size_lit7] | rw [size_lit1]); omega))
end Go.Proofs.Ytfbjbkkcilhgjaa.PE
/- Columns and rows that are drawn. -/
set_option linter.unusedSimpArgs false
set_option linter.unusedVariables false
set_option maxHeartbeats 4000000
namespace Go.Proofs.Ytfbjbkkcilhgjaa.PE
open Go.RowKit

def IsCol (x : List V) : Prop := ∃ k e, x = [.int .i64 k, .bool e]
def AllP (P : List V → Prop) (l : List (List V)) : Prop := ∀ x ∈ l, P x
theorem AllP.nil {P : List V → Prop} : AllP P [] := fun _ h => by cases h
theorem AllP.snoc {P : List V → Prop} {l : List (List V)} {x : List V} (h : AllP P l) (hx : P x) : AllP P (l ++ [x]) := fun y hy => by
  rcases List.mem_append.1 hy with h1 | h1
  · exact h y h1
  · rw [List.mem_singleton.1 h1]; exact hx
def ColsPost (j : Nat) (cont : List (List V)) (p : Int) (cont' : List (List V)) (p' : Int) : Prop := AllP IsCol cont' ∧ cont'.length = cont.length + j ∧ p ≤ p' ∧ p' ≤ p + 2 * j
-- find58
end Go.Proofs.Ytfbjbkkcilhgjaa.PE
/- Rows and bags that are drawn. -/
set_option linter.unusedSimpArgs false
set_option linter.unusedVariables false
set_option maxHeartbeats 4000000
namespace Go.Proofs.Ytfbjbkkcilhgjaa.PE
open Go.RowKit

def IsVal (x : List V) : Prop := ∃ (k n : Int) (s : ByteArray), s.size ≤ 20 ∧ x = [.int .i64 k, .int .i64 n, .str s]
theorem isVal_of {v : Val} (h : GV v) : IsVal v.cells := ⟨_, _, _, h, rfl⟩
theorem vals_of : ∀ {l : List (List V)}, AllP IsVal l → ∃ vs : List Val, l = vs.map Val.cells ∧ ∀ v ∈ vs, GV v
  | [], _ => ⟨[], rfl, fun _ h => by cases h⟩
  | x :: r, h => by
    obtain ⟨k, n, s, h1, h2⟩ := h x List.mem_cons_self
    obtain ⟨vs, h3, h4⟩ := vals_of (fun y hy => h y (List.mem_cons_of_mem _ hy))
    refine ⟨⟨k, n, s⟩ :: vs, by rw [h2, h3]; rfl, fun v hv => ?_⟩
    rcases List.mem_cons.1 hv with rfl | hv
    · exact h1
    · exact h4 v hv

def ValsPost (j q : Nat) (cont : List (List V)) (p : Int) (cont' : List (List V)) (p' : Int) : Prop := AllP IsVal cont' ∧ cont'.length = cont.length + j ∧ p ≤ p' ∧ p' ≤ p + q * j
theorem vals_at {l : List (List V)} (h : AllP IsVal l) {i : Nat} (hi : i < l.length) : ∃ (k n : Int) (s : ByteArray), l[i]? = some [.int .i64 k, .int .i64 n, .str s] := by
  obtain ⟨k, n, s, _, h2⟩ := h (l[i]) (List.getElem_mem hi)
  exact ⟨k, n, s, by rw [List.getElem?_eq_getElem hi, h2]⟩
theorem AllP.set {P : List V → Prop} {l : List (List V)} {x : List V} (h : AllP P l) (hx : P x) (i : Nat) : AllP P (l.set i x) := fun y hy => by
  rcases List.mem_or_eq_of_mem_set hy with h1 | h1
  · exact h y h1
  · rw [h1]; exact hx
/-- A drawn row. -/
def GR (vs : List Val) : Prop := vs.length ≤ 20 ∧ ∀ v ∈ vs, GV v
-- find194
theorem run_own (d : Nat) (c : Bool) (l : List (List V)) (hl : l.length < 4294967296) : retP (runD tab noExt (d + 1)) 77 [.sl c 3 l] = some [.sl false 3 l] := by
  rw [retP, runD_eq find77 _ _ _ (by simp)]
  have hl' : 0 + l.length < 4294967296 := by omega
  simp -implicitDefEqProofs (disch := omega) only [go_sem, Nat.reduceBEq, Nat.reduceAdd, Nat.reduceSub, Nat.reduceMul, Nat.reduceLeDiff, Nat.reduceEqDiff, Nat.reduceLT, Int.reduceNeg, Int.reduceAdd, Int.reduceSub, Int.reduceMul, Int.reduceLE, Int.reduceLT, Int.reduceEq, Int.reduceToNat, reduceCtorEq, List.take_length, hl, hl']

def IsRow1 (x : List V) : Prop := ∃ (c : Bool) (vs : List Val), GR vs ∧ x = [.sl c 3 (vs.map Val.cells)]
theorem rows_of : ∀ {l : List (List V)}, AllP IsRow1 l → ∃ rs : List Row, l = rs.map Row.cells ∧ ∀ r ∈ rs, GR r.vs
  | [], _ => ⟨[], rfl, fun _ h => by cases h⟩
  | x :: r, h => by
    obtain ⟨c, vs, h1, h2⟩ := h x List.mem_cons_self
    obtain ⟨rs, h3, h4⟩ := rows_of (fun y hy => h y (List.mem_cons_of_mem _ hy))
    refine ⟨⟨c, vs⟩ :: rs, by rw [h2, h3]; rfl, fun v hv => ?_⟩
    rcases List.mem_cons.1 hv with rfl | hv
    · exact h1
    · exact h4 v hv
theorem rows_at {l : List (List V)} (h : AllP IsRow1 l) {i : Nat} (hi : i < l.length) : ∃ (c : Bool) (vs : List Val), GR vs ∧ l[i]? = some [.sl c 3 (vs.map Val.cells)] := by
  obtain ⟨c, vs, h1, h2⟩ := h (l[i]) (List.getElem_mem hi)
  exact ⟨c, vs, h1, by rw [List.getElem?_eq_getElem hi, h2]⟩

def RowsPost (j : Nat) (cont : List (List V)) (p : Int) (cont' : List (List V)) (p' : Int) : Prop := AllP IsRow1 cont' ∧ cont'.length = cont.length + j ∧ p ≤ p' ∧ p' ≤ p + 110 * j
def BagPost (rs : List Row) : Prop := rs.length ≤ 6 ∧ ∀ r ∈ rs, GR r.vs
-- find182
end Go.Proofs.Ytfbjbkkcilhgjaa.PE
/- Rows that fit columns which lie in memory. -/
set_option linter.unusedSimpArgs false
set_option linter.unusedVariables false
set_option maxHeartbeats 4000000
namespace Go.Proofs.Ytfbjbkkcilhgjaa.PE
open Go.RowKit

-- find194
theorem loop_fitR {d : Nat} {hp t : Heap} {c : Bool} {b0 st0 n0 : Nat} {bs : List UInt8} {n : Int} {cs : List Col} (hb : bs.length ≤ 2000) (hhp : plainH hp = true) (ht : plainH t = true) (hcb : t[b0]? = some (.rows st0 2 (cs.map Col.cells))) (hn0 : n0 ≤ cs.length) (hcs : cs.length ≤ 1000) : ∀ (j K : Nat) {p k : Int} {st len : Nat} {cont : List (List V)} {Y : Out},
    LoopS (runD tab noExt (d + 2)) (drawI (runD tab noExt (d + 2))) [0, 1, 2, 7, 8] [0, 2, 7] L194x0 (hp.length + (t.length + 3)) K [(0, .ptr hp.length 0 0 0), (1, .ref (hp.length + (b0 + 1)) st0 0 n0 false), (2, .int .i64 n), (7, .ref (hp.length + (t.length + 2)) st 0 len false), (8, .int .i64 k)]
      (hp ++ .box [.sl c 1 (cellsOfBytes bs), .int .i64 (p)] :: (t ++ [.rows 0 3 [], .rows st 3 cont])) = Y →
    0 ≤ k → k + j = n0 → j ≤ K → len = cont.length → cont.length + j ≤ 2000 → AllP IsVal cont → 0 ≤ p → p + 2 * j ≤ 1099511000000 → ∃ cont' st' p', Y = some (.exit 0, [(0, .ptr hp.length 0 0 0), (2, .int .i64 n), (7, .ref (hp.length + (t.length + 2)) st' 0 cont'.length false)],
      hp ++ .box [.sl c 1 (cellsOfBytes bs), .int .i64 (p')] :: (t ++ [.rows 0 3 [], .rows st' 3 cont'])) ∧ ValsPost j 2 cont p cont' p' := by
  have hh : ∀ n, t.all (hiB n) = true := fun n => plainH_hi ht n
  have hhq : ∀ n, hp.all (hiB n) = true := fun n => plainH_hi hhp n
  have hlt0 : b0 < t.length := (List.getElem?_eq_some_iff.1 hcb).1
  have hm0 : ∀ l, (t ++ l)[b0]? = some (.rows st0 2 (cs.map Col.cells)) := fun l => by rw [List.getElem?_append_left hlt0]; exact hcb
  have hlm : ∀ k, 1 ≤ k → (b0 + 1 < t.length + k) = True := fun k hk => eq_true (by omega)
  have hlm1 : (b0 + 1 < t.length + 1) = True := eq_true (by omega)
  intro j
  induction j with
  | zero =>
    intro K p k st len cont Y hL hk0 hk hK hlen hs hc hp0 hq
    have hk' : k = n0 := by omega
    subst hL hk' hlen
    rw [LoopS_eq]
    simp -implicitDefEqProofs (disch := omega) only [go_sem, Nat.reduceBEq, Nat.reduceAdd, Nat.reduceSub, Nat.reduceMul, Nat.reduceLeDiff, Nat.reduceEqDiff, Nat.reduceLT, Int.reduceNeg, Int.reduceAdd, Int.reduceSub, Int.reduceMul, Int.reduceLE, Int.reduceLT, Int.reduceEq, Int.reduceToNat, reduceCtorEq, hcb, hm0, hlm, hlm1, evL194x0, B194x0, hh, hhq, List.all_append, Int.lt_irrefl]
    exact ⟨cont, st, p, rfl, hc, rfl, by omega, by omega⟩
  | succ j ih =>
    intro K p k st len cont Y hL hk0 hk hK hlen hs hc hp0 hq
    obtain ⟨K, rfl⟩ : ∃ K', K = K' + 1 := ⟨K - 1, by omega⟩
    subst hL hlen
    have hk1 : k < n0 := by omega
    have hk3 : k.toNat < n0 := by omega
    have h1 : cont.length + 1 < 4294967296 := by omega
    have hat := at_getD (⟨0, false⟩ : Col) (show k.toNat < cs.length by omega)
    rw [LoopS_eq]
    simp -implicitDefEqProofs (disch := omega) only [go_sem, Nat.reduceBEq, Nat.reduceAdd, Nat.reduceSub, Nat.reduceMul, Nat.reduceLeDiff, Nat.reduceEqDiff, Nat.reduceLT, Int.reduceNeg, Int.reduceAdd, Int.reduceSub, Int.reduceMul, Int.reduceLE, Int.reduceLT, Int.reduceEq, Int.reduceToNat, reduceCtorEq, hcb, hm0, hlm, hlm1, evL194x0, B194x0, hh, hhq, hk0, hk1, hk3, hat, Col.cells, List.all_append]
    generalize hx : callS (runD tab noExt _) (_ ++ _ :: _) 197 _ _ = X
    obtain ⟨v, p1, rfl, g1, g2, g3⟩ := ex_like hx (by omega) (by omega) hb hhp (by simp only [ht, plainH_nil, plainH_cons, plainH_append, plainB, List.all_cons, List.all_nil, Bool.and_self, Bool.and_true])
    clear hx
    simp -implicitDefEqProofs (disch := omega) only [go_sem, Nat.reduceBEq, Nat.reduceAdd, Nat.reduceSub, Nat.reduceMul, Nat.reduceLeDiff, Nat.reduceEqDiff, Nat.reduceLT, Int.reduceNeg, Int.reduceAdd, Int.reduceSub, Int.reduceMul, Int.reduceLE, Int.reduceLT, Int.reduceEq, Int.reduceToNat, reduceCtorEq, hcb, hm0, hlm, hlm1, hh, hhq, List.all_append, IntWalk.i64_in, Val.enc, h1]
    generalize hL : LoopS _ _ _ _ _ _ _ _ _ = Y
    obtain ⟨cont', st', p', rfl, h2, h3, h4, h5⟩ := ih K hL (by omega) (by omega) (by omega) (by simp) (by simp; omega) (hc.snoc (isVal_of g3)) (by omega) (by omega)
    exact ⟨cont', st', p', rfl, h2, by simp at h3; omega, by omega, by omega⟩

theorem ex_fitR {d : Nat} {hp t : Heap} {c : Bool} {b0 st0 n0 : Nat} {bs : List UInt8} {p n : Int} {cs : List Col} {X : Option (V × Heap)} (hx : callS (runD tab noExt (d + 4)) (hp ++ .box [.sl c 1 (cellsOfBytes bs), .int .i64 (p)] :: t) 194 [.ptr hp.length 0 0 0, .ref (hp.length + (b0 + 1)) st0 0 n0 false, .int .i64 n] false = X)
    (hp0 : 0 ≤ p) (hq : p ≤ 1099500000000) (hb : bs.length ≤ 2000) (hhp : plainH hp = true) (ht : plainH t = true) (hcb : t[b0]? = some (.rows st0 2 (cs.map Col.cells))) (hn0 : n0 ≤ cs.length) (hcs : cs.length ≤ 10) :
    ∃ (vs : List Val) (p' : Int), X = some (.sl false 3 (vs.map Val.cells), hp ++ .box [.sl c 1 (cellsOfBytes bs), .int .i64 (p')] :: t) ∧ p ≤ p' ∧ p' ≤ p + 100 ∧ GR vs ∧ (n ≤ 0 → vs.length = n0) := by
  subst hx
  have hh : ∀ n, t.all (hiB n) = true := fun n => plainH_hi ht n
  have hhq : ∀ n, hp.all (hiB n) = true := fun n => plainH_hi hhp n
  have hlt0 : b0 < t.length := (List.getElem?_eq_some_iff.1 hcb).1
  have hm0 : ∀ l, (t ++ l)[b0]? = some (.rows st0 2 (cs.map Col.cells)) := fun l => by rw [List.getElem?_append_left hlt0]; exact hcb
  have hlm : ∀ k, 1 ≤ k → (b0 + 1 < t.length + k) = True := fun k hk => eq_true (by omega)
  have hlm1 : (b0 + 1 < t.length + 1) = True := eq_true (by omega)
  rw [callS_eq, runD_eq find194 _ _ _ (by simp)]
  simp -implicitDefEqProofs (disch := omega) only [go_sem, Nat.reduceBEq, Nat.reduceAdd, Nat.reduceSub, Nat.reduceMul, Nat.reduceLeDiff, Nat.reduceEqDiff, Nat.reduceLT, Int.reduceNeg, Int.reduceAdd, Int.reduceSub, Int.reduceMul, Int.reduceLE, Int.reduceLT, Int.reduceEq, Int.reduceToNat, reduceCtorEq, hcb, hm0, hlm, hlm1, hh, hhq, List.all_append]
  generalize hx : LoopS _ _ _ _ _ _ _ _ _ = Y
  obtain ⟨cont, st, p1, rfl, h1, h2, h3, h4⟩ := loop_fitR hb hhp ht hcb hn0 (by omega) n0 _ hx (by omega) (by omega) (by omega) rfl (by simp; omega) AllP.nil (by omega) (by omega)
  clear hx
  simp only [List.length_nil, Nat.zero_add] at h2
  have h2a : cont.length ≤ 10 := by omega
  have h4' : p1 ≤ p + 20 := by omega
  have h5 : cont.length + 3 < 4294967296 := by omega
  have h6 : cont.length + 1 < 4294967296 := by omega
  have h2b : cont.length ≤ n0 := by omega
  have h2c : n0 ≤ cont.length := by omega
  clear h2 h4
  simp -implicitDefEqProofs (disch := omega) only [go_sem, Nat.reduceBEq, Nat.reduceAdd, Nat.reduceSub, Nat.reduceMul, Nat.reduceLeDiff, Nat.reduceEqDiff, Nat.reduceLT, Int.reduceNeg, Int.reduceAdd, Int.reduceSub, Int.reduceMul, Int.reduceLE, Int.reduceLT, Int.reduceEq, Int.reduceToNat, reduceCtorEq, hcb, hm0, hlm, hlm1, hh, hhq, List.all_append]
  have fin : ∀ (l : List (List V)) (p' : Int), AllP IsVal l → l.length ≤ 20 → p ≤ p' → p' ≤ p + 100 → (n ≤ 0 → l.length = n0) → ∃ (vs : List Val) (p'' : Int), (some (.sl false 3 l, hp ++ .box [.sl c 1 (cellsOfBytes bs), .int .i64 (p')] :: t) : Option (V × Heap)) = some (.sl false 3 (vs.map Val.cells), hp ++ .box [.sl c 1 (cellsOfBytes bs), .int .i64 (p'')] :: t) ∧ p ≤ p'' ∧ p'' ≤ p + 100 ∧ GR vs ∧ (n ≤ 0 → vs.length = n0) := by
    intro l p' h1 h2 h3 h4 h5
    obtain ⟨vs, rfl, hv⟩ := vals_of h1
    simp only [List.length_map] at h2 h5
    exact ⟨vs, p', rfl, h3, h4, ⟨h2, hv⟩, h5⟩
  repeat' (first | ((conv in (callS _ _ 119 _ false) => skip); generalize hx : callS (runD tab noExt _) (_ ++ _ :: _) 119 _ false = X; obtain ⟨b, p', rfl, hm1, hm2, hm3⟩ := ex_odd hx (by omega) (by omega) hb hhp (by simp only [ht, plainH_nil, plainH_cons, plainH_append, plainB, List.all_cons, List.all_nil, Bool.and_self, Bool.and_true]) ; skip; clear hx; simp -implicitDefEqProofs (disch := omega) only [go_sem, Nat.reduceBEq, Nat.reduceAdd, Nat.reduceSub, Nat.reduceMul, Nat.reduceLeDiff, Nat.reduceEqDiff, Nat.reduceLT, Int.reduceNeg, Int.reduceAdd, Int.reduceSub, Int.reduceMul, Int.reduceLE, Int.reduceLT, Int.reduceEq, Int.reduceToNat, reduceCtorEq, hcb, hm0, hlm, hlm1, IntWalk.i64_in, hh, hhq, List.all_append, List.take_length, Val.enc, List.length_set, List.contains_nil, *]) | ((conv in (callS _ _ 57 _ false) => skip); generalize hx : callS (runD tab noExt _) (_ ++ _ :: _) 57 [_, .int .i64 (cont.length : Int)] false = X; obtain ⟨m, rfl, hm1, hm2⟩ := ex_pick hx (by omega) (by omega) hb hhp (by simp only [ht, plainH_nil, plainH_cons, plainH_append, plainB, List.all_cons, List.all_nil, Bool.and_self, Bool.and_true]) ; skip; clear hx; have hlt : m.toNat < cont.length := (by omega); obtain ⟨y1, y2, y3, hy⟩ := vals_at h1 hlt; simp -implicitDefEqProofs (disch := omega) only [go_sem, Nat.reduceBEq, Nat.reduceAdd, Nat.reduceSub, Nat.reduceMul, Nat.reduceLeDiff, Nat.reduceEqDiff, Nat.reduceLT, Int.reduceNeg, Int.reduceAdd, Int.reduceSub, Int.reduceMul, Int.reduceLE, Int.reduceLT, Int.reduceEq, Int.reduceToNat, reduceCtorEq, hcb, hm0, hlm, hlm1, IntWalk.i64_in, hh, hhq, List.all_append, List.take_length, Val.enc, List.length_set, List.contains_nil, *]) | ((conv in (callS _ _ 57 _ false) => skip); generalize hx : callS (runD tab noExt _) (_ ++ _ :: _) 57 _ false = X; obtain ⟨m, rfl, hm1, hm2⟩ := ex_pick hx (by omega) (by omega) hb hhp (by simp only [ht, plainH_nil, plainH_cons, plainH_append, plainB, List.all_cons, List.all_nil, Bool.and_self, Bool.and_true]) ; skip; clear hx; simp -implicitDefEqProofs (disch := omega) only [go_sem, Nat.reduceBEq, Nat.reduceAdd, Nat.reduceSub, Nat.reduceMul, Nat.reduceLeDiff, Nat.reduceEqDiff, Nat.reduceLT, Int.reduceNeg, Int.reduceAdd, Int.reduceSub, Int.reduceMul, Int.reduceLE, Int.reduceLT, Int.reduceEq, Int.reduceToNat, reduceCtorEq, hcb, hm0, hlm, hlm1, IntWalk.i64_in, hh, hhq, List.all_append, List.take_length, Val.enc, List.length_set, List.contains_nil, *]) | ((conv in (callS _ _ 149 _ false) => skip); generalize hx : callS (runD tab noExt _) (_ ++ _ :: _) 149 _ false = X; obtain ⟨v, p', rfl, hv1, hv2, hv3⟩ := ex_value hx (by omega) (by omega) hb hhp (by simp only [ht, plainH_nil, plainH_cons, plainH_append, plainB, List.all_cons, List.all_nil, Bool.and_self, Bool.and_true]) ; skip; clear hx; simp -implicitDefEqProofs (disch := omega) only [go_sem, Nat.reduceBEq, Nat.reduceAdd, Nat.reduceSub, Nat.reduceMul, Nat.reduceLeDiff, Nat.reduceEqDiff, Nat.reduceLT, Int.reduceNeg, Int.reduceAdd, Int.reduceSub, Int.reduceMul, Int.reduceLE, Int.reduceLT, Int.reduceEq, Int.reduceToNat, reduceCtorEq, hcb, hm0, hlm, hlm1, IntWalk.i64_in, hh, hhq, List.all_append, List.take_length, Val.enc, List.length_set, List.contains_nil, *]) | ((first | rw [GuardI_ndec] | rw [CondC_ndec] | rw [GuardQ_ndec] | rw [GuardV_ndec] | rw [GuardI_dec] | rw [CondC_dec] | rw [GuardQ_dec] | rw [GuardV_dec] | rw [GuardI_nby] | rw [CondC_nby] | rw [GuardQ_nby] | rw [GuardV_nby] | rw [GuardQ_by] | rw [GuardI_by] | rw [GuardV_by] | rw [CondC_by]) <;> split <;> simp -implicitDefEqProofs (disch := omega) only [go_sem, Nat.reduceBEq, Nat.reduceAdd, Nat.reduceSub, Nat.reduceMul, Nat.reduceLeDiff, Nat.reduceEqDiff, Nat.reduceLT, Int.reduceNeg, Int.reduceAdd, Int.reduceSub, Int.reduceMul, Int.reduceLE, Int.reduceLT, Int.reduceEq, Int.reduceToNat, reduceCtorEq, hcb, hm0, hlm, hlm1, IntWalk.i64_in, hh, hhq, List.all_append, List.take_length, Val.enc, List.length_set, List.contains_nil, *]))
  · exact fin _ _ (h1.snoc ⟨_, _, _, Nat.zero_le _, rfl⟩) (by simp; omega) (by omega) (by omega) (fun h => by have := hm3 h; simp_all)
  · rw [show ∀ x, (cont.set m.toNat x).take cont.length = cont.set m.toNat x from fun x => List.take_of_length_le (by simp)]
    exact fin _ _ (h1.set (isVal_of hv3) _) (by simp; omega) (by omega) (by omega) (fun h => by have := hm3 h; simp_all)
  · skip
    rw [show ∀ (a b c : List V), cont ++ [a, b, c] = ((cont ++ [a]) ++ [b]) ++ [c] from fun a b c => by simp]
    refine fin _ _ (((h1.snoc ?_).snoc ?_).snoc ?_) (by simp; omega) (by omega) (by omega) (fun h => by have := hm3 h; simp_all)
    all_goals exact isVal_of (by assumption)

-- find182
theorem loop_bagR {d : Nat} {hp t : Heap} {c : Bool} {b0 st0 n0 : Nat} {bs : List UInt8} {n : Int} {cs : List Col} (hb : bs.length ≤ 2000) (hhp : plainH hp = true) (ht : plainH t = true) (hcb : t[b0]? = some (.rows st0 2 (cs.map Col.cells))) (hn0 : n0 ≤ cs.length) (hcs : cs.length ≤ 10) : ∀ (j K : Nat) {p k : Int} {st len : Nat} {cont : List (List V)} {Y : Out},
    LoopS (runD tab noExt (d + 4)) (drawI (runD tab noExt (d + 4))) [0, 1, 2, 7, 8] [7] L182x0 (hp.length + (t.length + 3)) K [(0, .ptr hp.length 0 0 0), (1, .ref (hp.length + (b0 + 1)) st0 0 n0 false), (2, .int .i64 n), (7, .ref (hp.length + (t.length + 2)) st 0 len false), (8, .int .i64 k)]
      (hp ++ .box [.sl c 1 (cellsOfBytes bs), .int .i64 (p)] :: (t ++ [.rows 0 1 [], .rows st 1 cont])) = Y →
    k = j → j ≤ K → len = cont.length → cont.length + j ≤ 2000 → AllP IsRow1 cont → 0 ≤ p → p + 110 * j ≤ 1099500000000 → ∃ cont' st' p', Y = some (.exit 0, [(7, .ref (hp.length + (t.length + 2)) st' 0 cont'.length false)],
      hp ++ .box [.sl c 1 (cellsOfBytes bs), .int .i64 (p')] :: (t ++ [.rows 0 1 [], .rows st' 1 cont'])) ∧ RowsPost j cont p cont' p' := by
  have hh : ∀ n, t.all (hiB n) = true := fun n => plainH_hi ht n
  have hhq : ∀ n, hp.all (hiB n) = true := fun n => plainH_hi hhp n
  have hlt0 : b0 < t.length := (List.getElem?_eq_some_iff.1 hcb).1
  have hm0 : ∀ l, (t ++ l)[b0]? = some (.rows st0 2 (cs.map Col.cells)) := fun l => by rw [List.getElem?_append_left hlt0]; exact hcb
  have hlm : ∀ k, 1 ≤ k → (b0 + 1 < t.length + k) = True := fun k hk => eq_true (by omega)
  have hlm1 : (b0 + 1 < t.length + 1) = True := eq_true (by omega)
  intro j
  induction j with
  | zero =>
    intro K p k st len cont Y hL hk hK hlen hs hc hp0 hq
    subst hL hk hlen
    rw [LoopS_eq]
    simp -implicitDefEqProofs (disch := omega) only [go_sem, Nat.reduceBEq, Nat.reduceAdd, Nat.reduceSub, Nat.reduceMul, Nat.reduceLeDiff, Nat.reduceEqDiff, Nat.reduceLT, Int.reduceNeg, Int.reduceAdd, Int.reduceSub, Int.reduceMul, Int.reduceLE, Int.reduceLT, Int.reduceEq, Int.reduceToNat, reduceCtorEq, hcb, hm0, hlm, hlm1, evL182x0, B182x0, hh, hhq, List.all_append, Int.lt_irrefl, Int.natCast_zero]
    exact ⟨cont, st, p, rfl, hc, rfl, by omega, by omega⟩
  | succ j ih =>
    intro K p k st len cont Y hL hk hK hlen hs hc hp0 hq
    obtain ⟨K, rfl⟩ : ∃ K', K = K' + 1 := ⟨K - 1, by omega⟩
    subst hL hlen
    have hk0 : 0 < k := by omega
    have h1 : cont.length + 1 < 4294967296 := by omega
    rw [LoopS_eq]
    simp -implicitDefEqProofs (disch := omega) only [go_sem, Nat.reduceBEq, Nat.reduceAdd, Nat.reduceSub, Nat.reduceMul, Nat.reduceLeDiff, Nat.reduceEqDiff, Nat.reduceLT, Int.reduceNeg, Int.reduceAdd, Int.reduceSub, Int.reduceMul, Int.reduceLE, Int.reduceLT, Int.reduceEq, Int.reduceToNat, reduceCtorEq, hcb, hm0, hlm, hlm1, evL182x0, B182x0, hh, hhq, hk0, List.all_append]
    repeat' (first | (exfalso; omega) | ((conv in (callS _ _ 57 _ false) => skip); generalize hx : callS (runD tab noExt _) (_ ++ _ :: _) 57 [_, .int .i64 (cont.length : Int)] false = X; obtain ⟨m, rfl, hm1, hm2⟩ := ex_pick hx (by omega) (by omega) hb hhp (by simp only [ht, plainH_nil, plainH_cons, plainH_append, plainB, List.all_cons, List.all_nil, Bool.and_self, Bool.and_true]) ; skip; clear hx; have hlt : m.toNat < cont.length := (by omega); obtain ⟨yc, ys, hyg, hy⟩ := rows_at hc hlt; have hown := run_own (d + 3) yc (ys.map Val.cells) (by rw [List.length_map]; exact Nat.lt_of_le_of_lt hyg.1 (by decide)); simp -implicitDefEqProofs (disch := omega) only [go_sem, Nat.reduceBEq, Nat.reduceAdd, Nat.reduceSub, Nat.reduceMul, Nat.reduceLeDiff, Nat.reduceEqDiff, Nat.reduceLT, Int.reduceNeg, Int.reduceAdd, Int.reduceSub, Int.reduceMul, Int.reduceLE, Int.reduceLT, Int.reduceEq, Int.reduceToNat, reduceCtorEq, hcb, hm0, hlm, hlm1, IntWalk.i64_in, hh, hhq, List.all_append, List.length_set, *]) | ((conv in (callS _ _ 57 _ false) => skip); generalize hx : callS (runD tab noExt _) (_ ++ _ :: _) 57 _ false = X; obtain ⟨m, rfl, hm1, hm2⟩ := ex_pick hx (by omega) (by omega) hb hhp (by simp only [ht, plainH_nil, plainH_cons, plainH_append, plainB, List.all_cons, List.all_nil, Bool.and_self, Bool.and_true]) ; skip; clear hx; simp -implicitDefEqProofs (disch := omega) only [go_sem, Nat.reduceBEq, Nat.reduceAdd, Nat.reduceSub, Nat.reduceMul, Nat.reduceLeDiff, Nat.reduceEqDiff, Nat.reduceLT, Int.reduceNeg, Int.reduceAdd, Int.reduceSub, Int.reduceMul, Int.reduceLE, Int.reduceLT, Int.reduceEq, Int.reduceToNat, reduceCtorEq, hcb, hm0, hlm, hlm1, IntWalk.i64_in, hh, hhq, List.all_append, List.length_set, *]) | ((conv in (callS _ _ 194 _ false) => skip); generalize hx : callS (runD tab noExt _) (_ ++ _ :: _) 194 _ false = X; obtain ⟨vs, p', rfl, hv1, hv2, hv3, hv4⟩ := ex_fitR hx (by omega) (by omega) hb hhp (by simp only [ht, plainH_nil, plainH_cons, plainH_append, plainB, List.all_cons, List.all_nil, Bool.and_self, Bool.and_true]) (hm0 _) hn0 hcs; skip; clear hx; simp -implicitDefEqProofs (disch := omega) only [go_sem, Nat.reduceBEq, Nat.reduceAdd, Nat.reduceSub, Nat.reduceMul, Nat.reduceLeDiff, Nat.reduceEqDiff, Nat.reduceLT, Int.reduceNeg, Int.reduceAdd, Int.reduceSub, Int.reduceMul, Int.reduceLE, Int.reduceLT, Int.reduceEq, Int.reduceToNat, reduceCtorEq, hcb, hm0, hlm, hlm1, IntWalk.i64_in, hh, hhq, List.all_append, List.length_set, *]) | ((first | rw [GuardI_ndec] | rw [CondC_ndec] | rw [GuardQ_ndec] | rw [GuardV_ndec] | rw [GuardI_dec] | rw [CondC_dec] | rw [GuardQ_dec] | rw [GuardV_dec] | rw [GuardI_nby] | rw [CondC_nby] | rw [GuardQ_nby] | rw [GuardV_nby] | rw [GuardQ_by] | rw [GuardI_by] | rw [GuardV_by] | rw [CondC_by]) <;> split <;> simp -implicitDefEqProofs (disch := omega) only [go_sem, Nat.reduceBEq, Nat.reduceAdd, Nat.reduceSub, Nat.reduceMul, Nat.reduceLeDiff, Nat.reduceEqDiff, Nat.reduceLT, Int.reduceNeg, Int.reduceAdd, Int.reduceSub, Int.reduceMul, Int.reduceLE, Int.reduceLT, Int.reduceEq, Int.reduceToNat, reduceCtorEq, hcb, hm0, hlm, hlm1, IntWalk.i64_in, hh, hhq, List.all_append, List.length_set, *]))
    all_goals
      generalize hL : LoopS _ _ _ _ _ _ _ _ _ = Y
      obtain ⟨cont', st', p', rfl, h2, h3, h4, h5⟩ := ih K hL (by omega) (by omega) (by simp) (by simp; omega) (hc.snoc ⟨_, _, by assumption, rfl⟩) (by omega) (by omega)
      exact ⟨cont', st', p', rfl, h2, by simp at h3; omega, by omega, by omega⟩

theorem exk_bagR {d : Nat} {hp t : Heap} {c : Bool} {b0 st0 n0 : Nat} {bs : List UInt8} {p n : Int} {cs : List Col} {X : Option (V × Heap)} (hx : callS (runD tab noExt (d + 5)) (hp ++ .box [.sl c 1 (cellsOfBytes bs), .int .i64 (p)] :: t) 182 [.ptr hp.length 0 0 0, .ref (hp.length + (b0 + 1)) st0 0 n0 false, .int .i64 n] true = X)
    (hp0 : 0 ≤ p) (hq : p ≤ 1099400000000) (hb : bs.length ≤ 2000) (hhp : plainH hp = true) (ht : plainH t = true) (hcb : t[b0]? = some (.rows st0 2 (cs.map Col.cells))) (hn0 : n0 ≤ cs.length) (hcs : cs.length ≤ 10) :
    ∃ (rs : List Row) (p' : Int), X = some (.ref (hp.length + (t.length + 1)) 0 0 rs.length false, hp ++ .box [.sl c 1 (cellsOfBytes bs), .int .i64 (p')] :: (t ++ [.rows 0 1 (rs.map Row.cells)])) ∧ p ≤ p' ∧ p' ≤ p + 1000 ∧ BagPost rs := by
  subst hx
  have hh : ∀ n, t.all (hiB n) = true := fun n => plainH_hi ht n
  have hhq : ∀ n, hp.all (hiB n) = true := fun n => plainH_hi hhp n
  have hlt0 : b0 < t.length := (List.getElem?_eq_some_iff.1 hcb).1
  have hm0 : ∀ l, (t ++ l)[b0]? = some (.rows st0 2 (cs.map Col.cells)) := fun l => by rw [List.getElem?_append_left hlt0]; exact hcb
  have hlm : ∀ k, 1 ≤ k → (b0 + 1 < t.length + k) = True := fun k hk => eq_true (by omega)
  have hlm1 : (b0 + 1 < t.length + 1) = True := eq_true (by omega)
  rw [callS_eq, runD_eq find182 _ _ _ (by simp)]
  simp -implicitDefEqProofs (disch := omega) only [go_sem, Nat.reduceBEq, Nat.reduceAdd, Nat.reduceSub, Nat.reduceMul, Nat.reduceLeDiff, Nat.reduceEqDiff, Nat.reduceLT, Int.reduceNeg, Int.reduceAdd, Int.reduceSub, Int.reduceMul, Int.reduceLE, Int.reduceLT, Int.reduceEq, Int.reduceToNat, reduceCtorEq, hcb, hm0, hlm, hlm1, hh, hhq, List.all_append]
  generalize hx : callS (runD tab noExt _) _ 57 _ _ = X
  obtain ⟨m, rfl, hm1, hm2⟩ := ex_pick hx (by omega) (by omega) hb hhp (by simp only [ht, plainH_nil, plainH_cons, plainH_append, plainB, List.all_cons, List.all_nil, Bool.and_self, Bool.and_true])
  clear hx
  simp -implicitDefEqProofs (disch := omega) only [go_sem, Nat.reduceBEq, Nat.reduceAdd, Nat.reduceSub, Nat.reduceMul, Nat.reduceLeDiff, Nat.reduceEqDiff, Nat.reduceLT, Int.reduceNeg, Int.reduceAdd, Int.reduceSub, Int.reduceMul, Int.reduceLE, Int.reduceLT, Int.reduceEq, Int.reduceToNat, reduceCtorEq, hcb, hm0, hlm, hlm1, IntWalk.i64_in, hh, hhq, List.all_append]
  generalize hx : LoopS _ _ _ _ _ _ _ _ _ = Y
  obtain ⟨cont, st, p1, rfl, h1, h2, h3, h4⟩ := loop_bagR hb hhp ht hcb hn0 hcs m.toNat _ hx (by omega) (by omega) rfl (by simp; omega) AllP.nil (by omega) (by omega)
  clear hx
  simp only [List.length_nil, Nat.zero_add] at h2
  obtain ⟨rs, rfl, h5⟩ := rows_of h1
  simp -implicitDefEqProofs (disch := omega) only [go_sem, Nat.reduceBEq, Nat.reduceAdd, Nat.reduceSub, Nat.reduceMul, Nat.reduceLeDiff, Nat.reduceEqDiff, Nat.reduceLT, Int.reduceNeg, Int.reduceAdd, Int.reduceSub, Int.reduceMul, Int.reduceLE, Int.reduceLT, Int.reduceEq, Int.reduceToNat, reduceCtorEq, hcb, hm0, hlm, hlm1, hh, hhq, List.all_append, take_map_len]
  exact ⟨rs, p1, rfl, by omega, by omega, by simp at h2; omega, h5⟩
end Go.Proofs.Ytfbjbkkcilhgjaa.PE
/- The reader is opened; a fixed answer. -/
set_option linter.unusedSimpArgs false
set_option linter.unusedVariables false
set_option maxHeartbeats 4000000
namespace Go.Proofs.Ytfbjbkkcilhgjaa.PE
open Go.RowKit

theorem ofBytes_take (l : List UInt8) (k : Nat) : (cellsOfBytes l).take k = cellsOfBytes (l.take k) := by simp [cellsOfBytes, List.map_take]
-- find55
theorem ex_open {d : Nat} {h : Heap} {c : Bool} {l : List UInt8} {X : Option (V × Heap)} (hx : callS (runD tab noExt (d + 1)) h 55 [.sl c 1 (cellsOfBytes l)] true = X) (hh : plainH h = true) :
    ∃ (c' : Bool) (bs : List UInt8), X = some (.ptr h.length 0 0 0, h ++ [.box [.sl c' 1 (cellsOfBytes bs), .int .i64 0]]) ∧ bs.length ≤ 2000 := by
  subst hx
  have hh : ∀ n, h.all (hiB n) = true := fun n => plainH_hi hh n
  rw [callS_eq, runD_eq find55 _ _ _ (by simp)]
  by_cases h1 : (2000 : Int) < l.length
  · have h2 : (2000 : Int) ≤ l.length := by omega
    have h3 : ((2000 : Int) = l.length) = False := eq_false (by omega)
    simp -implicitDefEqProofs (disch := omega) only [go_sem, Nat.reduceBEq, Nat.reduceAdd, Nat.reduceSub, Nat.reduceMul, Nat.reduceLeDiff, Nat.reduceEqDiff, Nat.reduceLT, Int.reduceNeg, Int.reduceAdd, Int.reduceSub, Int.reduceMul, Int.reduceLE, Int.reduceLT, Int.reduceEq, Int.reduceToNat, reduceCtorEq, hh, List.all_append, ofBytes_len, h1, h2, h3, Option.getD_some, Option.isSome_none, Option.isSome_some, Option.isNone_some, List.drop_zero, ofBytes_take, Nat.sub_zero, Int.toNat_zero, Nat.le_refl, Int.le_refl]
    exact ⟨_, _, rfl, by simp; omega⟩
  · simp -implicitDefEqProofs (disch := omega) only [go_sem, Nat.reduceBEq, Nat.reduceAdd, Nat.reduceSub, Nat.reduceMul, Nat.reduceLeDiff, Nat.reduceEqDiff, Nat.reduceLT, Int.reduceNeg, Int.reduceAdd, Int.reduceSub, Int.reduceMul, Int.reduceLE, Int.reduceLT, Int.reduceEq, Int.reduceToNat, reduceCtorEq, hh, List.all_append, ofBytes_len, h1, Nat.le_refl]
    exact ⟨_, _, rfl, by omega⟩

-- find18
theorem run_alive (d : Nat) : retP (runD tab noExt (d + 5)) 18 [] = some [.bool true] := by
  rw [retP, runD_eq find18 _ _ _ (by simp)]
  simp -implicitDefEqProofs (disch := omega) only [go_sem, Nat.reduceBEq, Nat.reduceAdd, Nat.reduceSub, Nat.reduceMul, Nat.reduceLeDiff, Nat.reduceEqDiff, Nat.reduceLT, Int.reduceNeg, Int.reduceAdd, Int.reduceSub, Int.reduceMul, Int.reduceLE, Int.reduceLT, Int.reduceEq, Int.reduceToNat, reduceCtorEq, run_ValueOk]
  have h1 : Val.ok ⟨1, 3, ⟨#[]⟩⟩ = true := rfl
  have h2 : Val.ok ⟨9, 0, ⟨#[]⟩⟩ = false := rfl
  simp -implicitDefEqProofs only [go_sem, Nat.reduceBEq, Nat.reduceAdd, Nat.reduceSub, Nat.reduceMul, Nat.reduceLeDiff, Nat.reduceEqDiff, Nat.reduceLT, Int.reduceNeg, Int.reduceAdd, Int.reduceSub, Int.reduceMul, Int.reduceLE, Int.reduceLT, Int.reduceEq, Int.reduceToNat, reduceCtorEq, h1, h2, run_ValueOk]

end Go.Proofs.Ytfbjbkkcilhgjaa.PE
/- Tallies that are drawn. -/
set_option linter.unusedSimpArgs false
set_option linter.unusedVariables false
set_option maxHeartbeats 4000000
set_option maxRecDepth 20000
namespace Go.Proofs.Ytfbjbkkcilhgjaa.PE
open Go.RowKit

-- find182
theorem ex_bagR {d : Nat} {hp t : Heap} {c : Bool} {b0 st0 n0 : Nat} {bs : List UInt8} {p n : Int} {cs : List Col} {X : Option (V × Heap)} (hx : callS (runD tab noExt (d + 5)) (hp ++ .box [.sl c 1 (cellsOfBytes bs), .int .i64 (p)] :: t) 182 [.ptr hp.length 0 0 0, .ref (hp.length + (b0 + 1)) st0 0 n0 false, .int .i64 n] false = X)
    (hp0 : 0 ≤ p) (hq : p ≤ 1099400000000) (hb : bs.length ≤ 2000) (hhp : plainH hp = true) (ht : plainH t = true) (hcb : t[b0]? = some (.rows st0 2 (cs.map Col.cells))) (hn0 : n0 ≤ cs.length) (hcs : cs.length ≤ 10) :
    ∃ (rs : List Row) (p' : Int), X = some (.sl false 1 (rs.map Row.cells), hp ++ .box [.sl c 1 (cellsOfBytes bs), .int .i64 (p')] :: t) ∧ p ≤ p' ∧ p' ≤ p + 1000 ∧ BagPost rs := by
  subst hx
  have hh : ∀ n, t.all (hiB n) = true := fun n => plainH_hi ht n
  have hhq : ∀ n, hp.all (hiB n) = true := fun n => plainH_hi hhp n
  have hlt0 : b0 < t.length := (List.getElem?_eq_some_iff.1 hcb).1
  have hm0 : ∀ l, (t ++ l)[b0]? = some (.rows st0 2 (cs.map Col.cells)) := fun l => by rw [List.getElem?_append_left hlt0]; exact hcb
  have hlm : ∀ k, 1 ≤ k → (b0 + 1 < t.length + k) = True := fun k hk => eq_true (by omega)
  have hlm1 : (b0 + 1 < t.length + 1) = True := eq_true (by omega)
  rw [callS_eq, runD_eq find182 _ _ _ (by simp)]
  simp -implicitDefEqProofs (disch := omega) only [go_sem, Nat.reduceBEq, Nat.reduceAdd, Nat.reduceSub, Nat.reduceMul, Nat.reduceLeDiff, Nat.reduceEqDiff, Nat.reduceLT, Int.reduceNeg, Int.reduceAdd, Int.reduceSub, Int.reduceMul, Int.reduceLE, Int.reduceLT, Int.reduceEq, Int.reduceToNat, reduceCtorEq, hcb, hm0, hlm, hlm1, hh, hhq, List.all_append]
  generalize hx : callS (runD tab noExt _) _ 57 _ _ = X
  obtain ⟨m, rfl, hm1, hm2⟩ := ex_pick hx (by omega) (by omega) hb hhp (by simp only [ht, plainH_nil, plainH_cons, plainH_append, plainB, List.all_cons, List.all_nil, Bool.and_self, Bool.and_true])
  clear hx
  simp -implicitDefEqProofs (disch := omega) only [go_sem, Nat.reduceBEq, Nat.reduceAdd, Nat.reduceSub, Nat.reduceMul, Nat.reduceLeDiff, Nat.reduceEqDiff, Nat.reduceLT, Int.reduceNeg, Int.reduceAdd, Int.reduceSub, Int.reduceMul, Int.reduceLE, Int.reduceLT, Int.reduceEq, Int.reduceToNat, reduceCtorEq, hcb, hm0, hlm, hlm1, IntWalk.i64_in, hh, hhq, List.all_append]
  generalize hx : LoopS _ _ _ _ _ _ _ _ _ = Y
  obtain ⟨cont, st, p1, rfl, h1, h2, h3, h4⟩ := loop_bagR hb hhp ht hcb hn0 hcs m.toNat _ hx (by omega) (by omega) rfl (by simp; omega) AllP.nil (by omega) (by omega)
  clear hx
  simp only [List.length_nil, Nat.zero_add] at h2
  obtain ⟨rs, rfl, h5⟩ := rows_of h1
  simp -implicitDefEqProofs (disch := omega) only [go_sem, Nat.reduceBEq, Nat.reduceAdd, Nat.reduceSub, Nat.reduceMul, Nat.reduceLeDiff, Nat.reduceEqDiff, Nat.reduceLT, Int.reduceNeg, Int.reduceAdd, Int.reduceSub, Int.reduceMul, Int.reduceLE, Int.reduceLT, Int.reduceEq, Int.reduceToNat, reduceCtorEq, hcb, hm0, hlm, hlm1, hh, hhq, List.all_append, take_map_len]
  exact ⟨rs, p1, rfl, by omega, by omega, by simp at h2; omega, h5⟩
-- find144
theorem ex_twos {d : Nat} {hp t : Heap} {c : Bool} {bs : List UInt8} {p : Int} {X : Option (V × Heap)} (hx : callS (runD tab noExt (d + 6)) (hp ++ .box [.sl c 1 (cellsOfBytes bs), .int .i64 (p)] :: t) 144 [.ptr hp.length 0 0 0, .int .i64 0] false = X)
    (hp0 : 0 ≤ p) (hq : p ≤ 1099300000000) (hb : bs.length ≤ 2000) (hhp : plainH hp = true) (ht : plainH t = true) :
    ∃ (rs : List Row) (p' : Int), X = some (.sl false 1 (rs.map Row.cells), hp ++ .box [.sl c 1 (cellsOfBytes bs), .int .i64 (p')] :: t) ∧ p ≤ p' ∧ p' ≤ p + 3000 ∧ rs.length ≤ 12 ∧ ∀ r ∈ rs, GR r.vs := by
  subst hx
  have hh : ∀ n, t.all (hiB n) = true := fun n => plainH_hi ht n
  have hhq : ∀ n, hp.all (hiB n) = true := fun n => plainH_hi hhp n
  have fin : ∀ (rs1 rs2 : List Row) (p2 : Int), BagPost rs1 → BagPost rs2 → p ≤ p2 → p2 ≤ p + 3000 → ∃ (rs : List Row) (p' : Int), (some (.sl false 1 (rs1.map Row.cells ++ rs2.map Row.cells), hp ++ .box [.sl c 1 (cellsOfBytes bs), .int .i64 (p2)] :: t) : Option (V × Heap)) = some (.sl false 1 (rs.map Row.cells), hp ++ .box [.sl c 1 (cellsOfBytes bs), .int .i64 (p')] :: t) ∧ p ≤ p' ∧ p' ≤ p + 3000 ∧ rs.length ≤ 12 ∧ ∀ r ∈ rs, GR r.vs := by
    intro rs1 rs2 p2 h1 h2 h3 h4
    refine ⟨rs1 ++ rs2, p2, by rw [List.map_append], h3, h4, ?_, ?_⟩
    · have := h1.1; have := h2.1; rw [List.length_append]; omega
    · intro r hr
      rcases List.mem_append.1 hr with hr | hr
      · exact h1.2 r hr
      · exact h2.2 r hr
  rw [callS_eq, runD_eq find144 _ _ _ (by simp)]
  simp -implicitDefEqProofs (disch := omega) only [go_sem, Nat.reduceBEq, Nat.reduceAdd, Nat.reduceSub, Nat.reduceMul, Nat.reduceLeDiff, Nat.reduceEqDiff, Nat.reduceLT, Int.reduceNeg, Int.reduceAdd, Int.reduceSub, Int.reduceMul, Int.reduceLE, Int.reduceLT, Int.reduceEq, Int.reduceToNat, reduceCtorEq, hh, hhq, List.all_append, elemsOf, elemOf, frzs, refs, refC, refsV, List.flatMap_cons, List.flatMap_nil]
  generalize hx : callS (runD tab noExt _) _ 57 _ false = X
  obtain ⟨m, rfl, hm1, hm2⟩ := ex_pick hx (by omega) (by omega) hb hhp (by simp only [ht, plainH_nil, plainH_cons, plainH_append, plainB, List.all_cons, List.all_nil, Bool.and_self, Bool.and_true])
  clear hx
  by_cases hm : m = 0
  · subst hm
    simp -implicitDefEqProofs (disch := omega) only [go_sem, Nat.reduceBEq, Nat.reduceAdd, Nat.reduceSub, Nat.reduceMul, Nat.reduceLeDiff, Nat.reduceEqDiff, Nat.reduceLT, Int.reduceNeg, Int.reduceAdd, Int.reduceSub, Int.reduceMul, Int.reduceLE, Int.reduceLT, Int.reduceEq, Int.reduceToNat, reduceCtorEq, IntWalk.i64_in, hh, hhq, List.all_append]
    generalize hx : callS (runD tab noExt _) _ 182 _ true = X
    obtain ⟨rs1, p1, rfl, a1, a2, a3⟩ := exk_bagR (cs := [⟨2, true⟩, ⟨1, true⟩]) (b0 := t.length + 1) hx (by omega) (by omega) hb hhp (by simp only [ht, plainH_nil, plainH_cons, plainH_append, plainB, List.all_cons, List.all_nil, Bool.and_self, Bool.and_true]) (by simp [Col.cells]) (by simp) (by simp)
    clear hx
    simp -implicitDefEqProofs (disch := omega) only [go_sem, Nat.reduceBEq, Nat.reduceAdd, Nat.reduceSub, Nat.reduceMul, Nat.reduceLeDiff, Nat.reduceEqDiff, Nat.reduceLT, Int.reduceNeg, Int.reduceAdd, Int.reduceSub, Int.reduceMul, Int.reduceLE, Int.reduceLT, Int.reduceEq, Int.reduceToNat, reduceCtorEq, IntWalk.i64_in, hh, hhq, List.all_append]
    generalize hx : callS (runD tab noExt _) _ 182 _ false = X
    obtain ⟨rs2, p2, rfl, b1, b2, b3⟩ := ex_bagR (cs := [⟨2, true⟩, ⟨1, true⟩]) (b0 := t.length + 1) hx (by omega) (by omega) hb hhp (by simp only [ht, plainH_nil, plainH_cons, plainH_append, plainB, List.all_cons, List.all_nil, Bool.and_self, Bool.and_true]) (by simp [Col.cells]) (by simp) (by simp)
    clear hx
    have hl1 : rs1.length + rs2.length < 4294967296 := by have := a3.1; have := b3.1; omega
    have et : List.take (rs1.length + rs2.length) (rs1.map Row.cells ++ rs2.map Row.cells) = rs1.map Row.cells ++ rs2.map Row.cells := List.take_of_length_le (by simp)
    simp -implicitDefEqProofs (disch := omega) only [go_sem, Nat.reduceBEq, Nat.reduceAdd, Nat.reduceSub, Nat.reduceMul, Nat.reduceLeDiff, Nat.reduceEqDiff, Nat.reduceLT, Int.reduceNeg, Int.reduceAdd, Int.reduceSub, Int.reduceMul, Int.reduceLE, Int.reduceLT, Int.reduceEq, Int.reduceToNat, reduceCtorEq, IntWalk.i64_in, hh, hhq, List.all_append, hl1, et]
    exact fin rs1 rs2 p2 a3 b3 (by omega) (by omega)
  · simp -implicitDefEqProofs (disch := omega) only [go_sem, Nat.reduceBEq, Nat.reduceAdd, Nat.reduceSub, Nat.reduceMul, Nat.reduceLeDiff, Nat.reduceEqDiff, Nat.reduceLT, Int.reduceNeg, Int.reduceAdd, Int.reduceSub, Int.reduceMul, Int.reduceLE, Int.reduceLT, Int.reduceEq, Int.reduceToNat, reduceCtorEq, IntWalk.i64_in, hh, hhq, List.all_append, (eq_false hm : (m = 0) = False)]
    generalize hx : callS (runD tab noExt _) _ 182 _ true = X
    obtain ⟨rs1, p1, rfl, a1, a2, a3⟩ := exk_bagR (cs := [⟨1, true⟩, ⟨1, true⟩]) (b0 := t.length + 1) hx (by omega) (by omega) hb hhp (by simp only [ht, plainH_nil, plainH_cons, plainH_append, plainB, List.all_cons, List.all_nil, Bool.and_self, Bool.and_true]) (by simp [Col.cells]) (by simp) (by simp)
    clear hx
    simp -implicitDefEqProofs (disch := omega) only [go_sem, Nat.reduceBEq, Nat.reduceAdd, Nat.reduceSub, Nat.reduceMul, Nat.reduceLeDiff, Nat.reduceEqDiff, Nat.reduceLT, Int.reduceNeg, Int.reduceAdd, Int.reduceSub, Int.reduceMul, Int.reduceLE, Int.reduceLT, Int.reduceEq, Int.reduceToNat, reduceCtorEq, IntWalk.i64_in, hh, hhq, List.all_append]
    generalize hx : callS (runD tab noExt _) _ 182 _ false = X
    obtain ⟨rs2, p2, rfl, b1, b2, b3⟩ := ex_bagR (cs := [⟨1, true⟩, ⟨1, true⟩]) (b0 := t.length + 1) hx (by omega) (by omega) hb hhp (by simp only [ht, plainH_nil, plainH_cons, plainH_append, plainB, List.all_cons, List.all_nil, Bool.and_self, Bool.and_true]) (by simp [Col.cells]) (by simp) (by simp)
    clear hx
    have hl1 : rs1.length + rs2.length < 4294967296 := by have := a3.1; have := b3.1; omega
    have et : List.take (rs1.length + rs2.length) (rs1.map Row.cells ++ rs2.map Row.cells) = rs1.map Row.cells ++ rs2.map Row.cells := List.take_of_length_le (by simp)
    simp -implicitDefEqProofs (disch := omega) only [go_sem, Nat.reduceBEq, Nat.reduceAdd, Nat.reduceSub, Nat.reduceMul, Nat.reduceLeDiff, Nat.reduceEqDiff, Nat.reduceLT, Int.reduceNeg, Int.reduceAdd, Int.reduceSub, Int.reduceMul, Int.reduceLE, Int.reduceLT, Int.reduceEq, Int.reduceToNat, reduceCtorEq, IntWalk.i64_in, hh, hhq, List.all_append, hl1, et]
    exact fin rs1 rs2 p2 a3 b3 (by omega) (by omega)
theorem GR.shortR {rs : List Row} (h : ∀ r ∈ rs, GR r.vs) : ∀ r ∈ rs, r.vs.length < 1099511627776 ∧ short r.vs := by
  intro r hr
  obtain ⟨h1, h2⟩ := h r hr
  exact ⟨by omega, fun v hv => by have := h2 v hv; unfold GV at this; omega⟩
theorem GTs.put {l : List Tal} {i : Nat} {x y : Tal} (h : GTs l) (hx : l[i]? = some x) (he : y.key = x.key) : GTs (l.set i y) := by
  intro t ht
  rcases List.mem_or_eq_of_mem_set ht with ht | rfl
  · exact h t ht
  · rw [he]; exact h x (List.mem_of_getElem? hx)
theorem cells_set (l : List Tal) (i : Nat) (xc : Bool) (xk : List Val) (a m s : Int) : (l.map Tal.cells).set i [.sl xc 3 (xk.map Val.cells), .int .i64 a, .int .i64 m, .int .i64 s] = (l.set i ⟨xc, xk, a, m, s⟩).map Tal.cells := by rw [List.map_set]; rfl
theorem take_set (l : List Tal) (i : Nat) (y : Tal) : List.take l.length ((l.set i y).map Tal.cells) = (l.set i y).map Tal.cells := List.take_of_length_le (by simp)
-- find92
theorem ex_tallies {d : Nat} {hp t : Heap} {c : Bool} {bs : List UInt8} {p : Int} {X : Option (V × Heap)} (hx : callS (runD tab noExt (d + 10)) (hp ++ .box [.sl c 1 (cellsOfBytes bs), .int .i64 (p)] :: t) 92 [.ptr hp.length 0 0 0, .int .i64 9] false = X)
    (hp0 : 0 ≤ p) (hq : p ≤ 1099200000000) (hb : bs.length ≤ 2000) (hhp : plainH hp = true) (ht : plainH t = true) :
    ∃ (cl : Bool) (l : List Tal) (p' : Int), X = some (.sl cl 4 (l.map Tal.cells), hp ++ .box [.sl c 1 (cellsOfBytes bs), .int .i64 (p')] :: t) ∧ GTs l ∧ l.length ≤ 4097 := by
  subst hx
  have hh : ∀ n, t.all (hiB n) = true := fun n => plainH_hi ht n
  have hhq : ∀ n, hp.all (hiB n) = true := fun n => plainH_hi hhp n
  rw [callS_eq, runD_eq find92 _ _ _ (by simp)]
  simp -implicitDefEqProofs (disch := omega) only [go_sem, Nat.reduceBEq, Nat.reduceAdd, Nat.reduceSub, Nat.reduceMul, Nat.reduceLeDiff, Nat.reduceEqDiff, Nat.reduceLT, Int.reduceNeg, Int.reduceAdd, Int.reduceSub, Int.reduceMul, Int.reduceLE, Int.reduceLT, Int.reduceEq, Int.reduceToNat, reduceCtorEq, hh, hhq, List.all_append]
  generalize hx : callS (runD tab noExt _) _ 144 _ false = X
  obtain ⟨rs, p1, rfl, a1, a2, a3, a4⟩ := ex_twos hx (by omega) (by omega) hb hhp (by simp only [ht, plainH_nil, plainH_cons, plainH_append, plainB, List.all_cons, List.all_nil, Bool.and_self, Bool.and_true])
  clear hx
  obtain ⟨hc, v, l, eT, hv, g, gl⟩ := run_TalliesOf d false rs a3 (GR.shortR a4)
  have eR : ∀ H : Heap, RetPk (runD tab noExt (d + 9) 143 [.sl false 1 (rs.map Row.cells)] []) H [.sl false 1 (rs.map Row.cells)] = some (.ref H.length 0 0 l.length false, H ++ [.rows 0 4 (l.map Tal.cells)]) := by
    intro H
    rw [eT]
    rcases hv with ⟨rfl, rfl⟩ | ⟨id, st, rfl, hid⟩
    · simp -implicitDefEqProofs (disch := omega) only [go_sem, Nat.reduceBEq, Nat.reduceAdd, Nat.reduceSub, Nat.reduceMul, Nat.reduceLeDiff, Nat.reduceEqDiff, Nat.reduceLT, Int.reduceNeg, Int.reduceAdd, Int.reduceSub, Int.reduceMul, Int.reduceLE, Int.reduceLT, Int.reduceEq, Int.reduceToNat, reduceCtorEq, List.map_nil]
    · simp -implicitDefEqProofs (disch := omega) only [go_sem, Nat.reduceBEq, Nat.reduceAdd, Nat.reduceSub, Nat.reduceMul, Nat.reduceLeDiff, Nat.reduceEqDiff, Nat.reduceLT, Int.reduceNeg, Int.reduceAdd, Int.reduceSub, Int.reduceMul, Int.reduceLE, Int.reduceLT, Int.reduceEq, Int.reduceToNat, reduceCtorEq, hid, refsAs, refsA, refC, frzs, frz1, List.flatMap_cons, List.flatMap_nil, take_map_len]
  clear eT hv
  simp -implicitDefEqProofs (disch := omega) only [go_sem, Nat.reduceBEq, Nat.reduceAdd, Nat.reduceSub, Nat.reduceMul, Nat.reduceLeDiff, Nat.reduceEqDiff, Nat.reduceLT, Int.reduceNeg, Int.reduceAdd, Int.reduceSub, Int.reduceMul, Int.reduceLE, Int.reduceLT, Int.reduceEq, Int.reduceToNat, reduceCtorEq, hh, hhq, List.all_append, eR]
  cases hl0 : l with
  | nil =>
    simp -implicitDefEqProofs (disch := omega) only [go_sem, Nat.reduceBEq, Nat.reduceAdd, Nat.reduceSub, Nat.reduceMul, Nat.reduceLeDiff, Nat.reduceEqDiff, Nat.reduceLT, Int.reduceNeg, Int.reduceAdd, Int.reduceSub, Int.reduceMul, Int.reduceLE, Int.reduceLT, Int.reduceEq, Int.reduceToNat, reduceCtorEq, hh, hhq, List.all_append, List.map_nil, Int.natCast_zero, Int.lt_irrefl]
    exact ⟨false, [], p1, rfl, fun _ h => (by cases h), by simp⟩
  | cons x0 l0 =>
  rw [← hl0]
  have hpos : 0 < l.length := by rw [hl0]; simp
  clear hl0 eR
  have hpi : (0 : Int) < (l.length : Int) := by omega
  have s1 : l.length + 1 < 4294967296 := by omega
  have tk : List.take l.length (l.map Tal.cells) = l.map Tal.cells := List.take_of_length_le (by simp)
  simp -implicitDefEqProofs (disch := omega) only [go_sem, Nat.reduceBEq, Nat.reduceAdd, Nat.reduceSub, Nat.reduceMul, Nat.reduceLeDiff, Nat.reduceEqDiff, Nat.reduceLT, Int.reduceNeg, Int.reduceAdd, Int.reduceSub, Int.reduceMul, Int.reduceLE, Int.reduceLT, Int.reduceEq, Int.reduceToNat, reduceCtorEq, hh, hhq, List.all_append, hpi]
  generalize hx : callS (runD tab noExt _) _ 119 _ false = X
  obtain ⟨b, p2, rfl, b1, b2, b3⟩ := ex_odd hx (by omega) (by omega) hb hhp (by simp only [ht, plainH_nil, plainH_cons, plainH_append, plainB, List.all_cons, List.all_nil, Bool.and_self, Bool.and_true])
  clear hx
  cases b
  · simp -implicitDefEqProofs (disch := omega) only [go_sem, Nat.reduceBEq, Nat.reduceAdd, Nat.reduceSub, Nat.reduceMul, Nat.reduceLeDiff, Nat.reduceEqDiff, Nat.reduceLT, Int.reduceNeg, Int.reduceAdd, Int.reduceSub, Int.reduceMul, Int.reduceLE, Int.reduceLT, Int.reduceEq, Int.reduceToNat, reduceCtorEq, hh, hhq, List.all_append, tk]
    exact ⟨false, l, p2, rfl, g, by omega⟩
  simp -implicitDefEqProofs (disch := omega) only [go_sem, Nat.reduceBEq, Nat.reduceAdd, Nat.reduceSub, Nat.reduceMul, Nat.reduceLeDiff, Nat.reduceEqDiff, Nat.reduceLT, Int.reduceNeg, Int.reduceAdd, Int.reduceSub, Int.reduceMul, Int.reduceLE, Int.reduceLT, Int.reduceEq, Int.reduceToNat, reduceCtorEq, hh, hhq, List.all_append]
  generalize hx : callS (runD tab noExt _) _ 57 _ false = X
  obtain ⟨m, rfl, m1, m2⟩ := ex_pick hx (by omega) (by omega) hb hhp (by simp only [ht, plainH_nil, plainH_cons, plainH_append, plainB, List.all_cons, List.all_nil, Bool.and_self, Bool.and_true])
  clear hx
  have hlt : m.toNat < l.length := by omega
  have hm' : m < (l.length : Int) := by omega
  have hx1 := List.getElem?_eq_getElem hlt
  generalize l[m.toNat] = x at hx1
  obtain ⟨xc, xk, xa, xm, xs⟩ := x
  simp -implicitDefEqProofs (disch := omega) only [go_sem, Nat.reduceBEq, Nat.reduceAdd, Nat.reduceSub, Nat.reduceMul, Nat.reduceLeDiff, Nat.reduceEqDiff, Nat.reduceLT, Int.reduceNeg, Int.reduceAdd, Int.reduceSub, Int.reduceMul, Int.reduceLE, Int.reduceLT, Int.reduceEq, Int.reduceToNat, reduceCtorEq, hh, hhq, List.all_append]
  generalize hx : callS (runD tab noExt _) _ 57 _ false = X
  obtain ⟨q, rfl, q1, q2⟩ := ex_pick hx (by omega) (by omega) hb hhp (by simp only [ht, plainH_nil, plainH_cons, plainH_append, plainB, List.all_cons, List.all_nil, Bool.and_self, Bool.and_true])
  clear hx
  by_cases c0 : q = 0
  · subst c0
    simp -implicitDefEqProofs (disch := omega) only [go_sem, Nat.reduceBEq, Nat.reduceAdd, Nat.reduceSub, Nat.reduceMul, Nat.reduceLeDiff, Nat.reduceEqDiff, Nat.reduceLT, Int.reduceNeg, Int.reduceAdd, Int.reduceSub, Int.reduceMul, Int.reduceLE, Int.reduceLT, Int.reduceEq, Int.reduceToNat, reduceCtorEq, hh, hhq, List.all_append]
    generalize hx : callS (runD tab noExt _) _ 57 _ false = X
    obtain ⟨u, rfl, u1, u2⟩ := ex_pick hx (by omega) (by omega) hb hhp (by simp only [ht, plainH_nil, plainH_cons, plainH_append, plainB, List.all_cons, List.all_nil, Bool.and_self, Bool.and_true])
    clear hx
    simp -implicitDefEqProofs (disch := omega) only [go_sem, Nat.reduceBEq, Nat.reduceAdd, Nat.reduceSub, Nat.reduceMul, Nat.reduceLeDiff, Nat.reduceEqDiff, Nat.reduceLT, Int.reduceNeg, Int.reduceAdd, Int.reduceSub, Int.reduceMul, Int.reduceLE, Int.reduceLT, Int.reduceEq, Int.reduceToNat, reduceCtorEq, hh, hhq, List.all_append, hx1, hlt, m1, hm', Tal.cells, IntWalk.i64_in]
    rw [cells_set, take_set]
    exact ⟨false, _, _, rfl, g.put hx1 rfl, by simp; omega⟩
  by_cases c1 : q = 1
  · subst c1
    simp -implicitDefEqProofs (disch := omega) only [go_sem, Nat.reduceBEq, Nat.reduceAdd, Nat.reduceSub, Nat.reduceMul, Nat.reduceLeDiff, Nat.reduceEqDiff, Nat.reduceLT, Int.reduceNeg, Int.reduceAdd, Int.reduceSub, Int.reduceMul, Int.reduceLE, Int.reduceLT, Int.reduceEq, Int.reduceToNat, reduceCtorEq, hh, hhq, List.all_append, hx1, hlt, m1, hm', Tal.cells, IntWalk.i64_in]
    rw [cells_set, take_set]
    exact ⟨false, _, _, rfl, g.put hx1 rfl, by simp; omega⟩
  by_cases c2 : q = 2
  · subst c2
    simp -implicitDefEqProofs (disch := omega) only [go_sem, Nat.reduceBEq, Nat.reduceAdd, Nat.reduceSub, Nat.reduceMul, Nat.reduceLeDiff, Nat.reduceEqDiff, Nat.reduceLT, Int.reduceNeg, Int.reduceAdd, Int.reduceSub, Int.reduceMul, Int.reduceLE, Int.reduceLT, Int.reduceEq, Int.reduceToNat, reduceCtorEq, hh, hhq, List.all_append]
    generalize hx : callS (runD tab noExt _) _ 57 _ false = X
    obtain ⟨u, rfl, u1, u2⟩ := ex_pick hx (by omega) (by omega) hb hhp (by simp only [ht, plainH_nil, plainH_cons, plainH_append, plainB, List.all_cons, List.all_nil, Bool.and_self, Bool.and_true])
    clear hx
    simp -implicitDefEqProofs (disch := omega) only [go_sem, Nat.reduceBEq, Nat.reduceAdd, Nat.reduceSub, Nat.reduceMul, Nat.reduceLeDiff, Nat.reduceEqDiff, Nat.reduceLT, Int.reduceNeg, Int.reduceAdd, Int.reduceSub, Int.reduceMul, Int.reduceLE, Int.reduceLT, Int.reduceEq, Int.reduceToNat, reduceCtorEq, hh, hhq, List.all_append, hx1, hlt, m1, hm', Tal.cells, IntWalk.i64_in]
    rw [cells_set, take_set]
    exact ⟨false, _, _, rfl, g.put hx1 rfl, by simp; omega⟩
  · have e0 := (eq_false c0 : (q = 0) = False)
    have e1 := (eq_false c1 : (q = 1) = False)
    have e2 := (eq_false c2 : (q = 2) = False)
    simp -implicitDefEqProofs (disch := omega) only [go_sem, Nat.reduceBEq, Nat.reduceAdd, Nat.reduceSub, Nat.reduceMul, Nat.reduceLeDiff, Nat.reduceEqDiff, Nat.reduceLT, Int.reduceNeg, Int.reduceAdd, Int.reduceSub, Int.reduceMul, Int.reduceLE, Int.reduceLT, Int.reduceEq, Int.reduceToNat, reduceCtorEq, hh, hhq, List.all_append, hx1, hlt, m1, hm', Tal.cells, IntWalk.i64_in, e0, e1, e2, s1, elemsOf, elemOf, refs, refC, refsV, frzs, List.flatMap_cons, List.flatMap_nil]
    have ea : List.take (l.length + 1) (l.map Tal.cells ++ [[V.sl xc 3 (xk.map Val.cells), .int .i64 xa, .int .i64 xm, .int .i64 xs]]) = (l ++ [Tal.mk xc xk xa xm xs]).map Tal.cells := by
      rw [List.take_of_length_le (by simp), List.map_append]; rfl
    rw [ea]
    exact ⟨false, _, _, rfl, g.snoc (g _ (List.mem_of_getElem? hx1)), by simp; omega⟩
-- find34
theorem run_drawTalliesRows (d : Nat) (c : Bool) (bs : List UInt8) : ∃ (cl : Bool) (l : List Tal), retP (runD tab noExt (d + 11)) 34 [.sl c 1 (cellsOfBytes bs)] = some [.sl cl 4 (l.map Tal.cells)] ∧ GTs l ∧ l.length ≤ 4097 := by
  rw [retP, runD_eq find34 _ _ _ (by simp)]
  simp -implicitDefEqProofs only [go_sem, Nat.reduceBEq, Nat.reduceAdd, Nat.reduceSub, Nat.reduceMul, Nat.reduceLeDiff, Nat.reduceEqDiff, Nat.reduceLT, Int.reduceNeg, Int.reduceAdd, Int.reduceSub, Int.reduceMul, Int.reduceLE, Int.reduceLT, Int.reduceEq, Int.reduceToNat, reduceCtorEq]
  generalize hx : callS (runD tab noExt _) _ 55 _ true = X
  obtain ⟨c', bs', rfl, hb⟩ := ex_open hx rfl
  clear hx
  simp -implicitDefEqProofs only [go_sem, Nat.reduceBEq, Nat.reduceAdd, Nat.reduceSub, Nat.reduceMul, Nat.reduceLeDiff, Nat.reduceEqDiff, Nat.reduceLT, Int.reduceNeg, Int.reduceAdd, Int.reduceSub, Int.reduceMul, Int.reduceLE, Int.reduceLT, Int.reduceEq, Int.reduceToNat, reduceCtorEq]
  generalize hx : callS (runD tab noExt _) _ 92 _ false = X
  obtain ⟨cl, l, p', rfl, g1, g2⟩ := ex_tallies (hp := []) (t := []) hx (by omega) (by omega) hb rfl rfl
  clear hx
  simp -implicitDefEqProofs (disch := omega) only [go_sem, Nat.reduceBEq, Nat.reduceAdd, Nat.reduceSub, Nat.reduceMul, Nat.reduceLeDiff, Nat.reduceEqDiff, Nat.reduceLT, Int.reduceNeg, Int.reduceAdd, Int.reduceSub, Int.reduceMul, Int.reduceLE, Int.reduceLT, Int.reduceEq, Int.reduceToNat, reduceCtorEq]
  exact ⟨cl, l, rfl, g1, g2⟩
end Go.Proofs.Ytfbjbkkcilhgjaa.PE
/- Calls whose results are memory of one's own, and a number beside it. -/
set_option linter.unusedVariables false
set_option linter.unusedSimpArgs false
namespace Go.Proofs.Ytfbjbkkcilhgjaa.PE
open Go.RowKit

end Go.Proofs.Ytfbjbkkcilhgjaa.PE
/- Steps of exact statements of structs. -/
set_option linter.unusedVariables false
set_option linter.unusedSimpArgs false
namespace Go.Proofs.Ytfbjbkkcilhgjaa.PE
open Go.RowKit

theorem pureDA_of {h : Heap} {fs : List Fd} {v q : V} {u : U} {ids : List Nat} (ho : OwnF h (.sub fs) v u ids) (e : pureD h 6 v = some q) : pureDA h v = some q := by
  rcases own_cases ho with ⟨c, rfl⟩ | ⟨id, st, n, clip, rfl⟩ <;> exact e
end Go.Proofs.Ytfbjbkkcilhgjaa.PE
/- Results that are memory of one's own, told as values. -/
set_option linter.unusedSimpArgs false
set_option linter.unusedVariables false
namespace Go.Proofs.Ytfbjbkkcilhgjaa.PE
open Go.RowKit

theorem retP_own {run : Run} {f : Nat} {args : List V} {v : V} {hc : Heap} {fs : List Fd} {u : U} {ids : List Nat} (hr : run f args [] = some ([v], hc)) (ho : OwnF hc (.sub fs) v u ids) (hd : dep (.sub fs) ≤ 6) : ∃ q, retP run f args = some [q] ∧ PurF (.sub fs) q u := by
  obtain ⟨q, e1, e2⟩ := OwnF_pure (.sub fs) 6 hd ho
  have e3 := pureDA_of ho e1
  refine ⟨q, ?_, e2⟩
  unfold retP
  rw [hr, PureR_some]
  have hA : pureAs hc [v] = none ∨ pureAs hc [v] = some [q] := by
    simp only [OwnF] at ho
    obtain ⟨xs, rfl, ⟨c, rfl, rfl, _⟩ | ⟨id, st, clip, cont, r, rfl, e, _, _⟩⟩ := ho
    · right
      simp only [pureD, Option.some.injEq] at e1
      subst e1
      rfl
    · simp only [pureAs, pureA, pureC, e, blkOf]
      cases hdeep : fs.any Fd.deep
      · right
        simp only [pureD, e, blkOf, hdeep, Bool.false_eq_true, if_false, if_true, Option.some.injEq] at e1
        subst e1
        simp
      · left
        simp
  rcases hA with hA | hA
  · rw [hA, OrD_none]
    simp only [pureDAs, mapO, e3]
  · rw [hA, OrD_some]
end Go.Proofs.Ytfbjbkkcilhgjaa.PE
/- Sizes of trees of values, rows, columns. -/
set_option linter.unusedVariables false
set_option linter.unusedSimpArgs false
namespace Go.Proofs.Ytfbjbkkcilhgjaa.PE
open Go.RowKit

end Go.Proofs.Ytfbjbkkcilhgjaa.PE
/- Rows of tallies: both functions. -/
set_option linter.unusedSimpArgs false
set_option linter.unusedVariables false
set_option maxHeartbeats 4000000
set_option maxRecDepth 20000
namespace Go.Proofs.Ytfbjbkkcilhgjaa.PE
open Go.RowKit

def numV (n : Int) : Val := if -9999 ≤ n ∧ n ≤ 9999 then ⟨1, n, ⟨#[]⟩⟩ else .zero
def sumV (t : Tal) : Val := if t.many = 0 then .zero else numV t.sum
def talRow (t : Tal) : List Val := [k0 t, ⟨1, t.rows, ⟨#[]⟩⟩, sumV t]
def talRows (l : List Tal) : List Row := if talsOk l then l.map fun t => ⟨true, talRow t⟩ else []
theorem tals_one : ∀ (l : List Tal) (o : Option Tal), (prevsG o l).all talOk = true → ∀ t ∈ l, t.one = true
  | [], _, _, t, ht => by cases ht
  | x :: r, o, h, t, ht => by
    simp only [prevsG, List.all_cons, Bool.and_eq_true] at h
    rcases List.mem_cons.1 ht with rfl | ht
    · have h2 := h.1
      unfold talOk at h2
      simp only [Bool.and_eq_true] at h2
      exact h2.1
    · exact tals_one r (some x) h.2 t ht
theorem one_many {t : Tal} (h : t.one = true) : (0 ≤ t.many ∧ t.many ≤ 100) ∧ 1 ≤ t.rows ∧ t.rows ≤ 100 := by
  unfold Tal.one at h
  simp only [Bool.and_eq_true, decide_eq_true_eq] at h
  omega
-- find86
theorem run_numOf (d : Nat) (n : Int) : retP (runD tab noExt (d + 4)) 86 [.int .i64 n] = some [.agg (numV n).cells] := by
  have ho := run_ok d 1 n ⟨#[]⟩
  have e : Val.ok ⟨1, n, ⟨#[]⟩⟩ = decide (-9999 ≤ n ∧ n ≤ 9999) := by simp [Val.ok]
  rw [e] at ho
  unfold numV
  rw [retP, runD_eq find86 _ _ _ (by simp)]
  by_cases h : -9999 ≤ n ∧ n ≤ 9999
  · rw [decide_eq_true h] at ho
    simp -implicitDefEqProofs (disch := omega) only [go_sem, Nat.reduceBEq, Nat.reduceAdd, Nat.reduceSub, Nat.reduceMul, Nat.reduceLeDiff, Nat.reduceEqDiff, Nat.reduceLT, Int.reduceNeg, Int.reduceAdd, Int.reduceSub, Int.reduceMul, Int.reduceLE, Int.reduceLT, Int.reduceEq, Int.reduceToNat, reduceCtorEq, ho, if_pos h, Val.cells]
  · rw [decide_eq_false h] at ho
    simp -implicitDefEqProofs (disch := omega) only [go_sem, Nat.reduceBEq, Nat.reduceAdd, Nat.reduceSub, Nat.reduceMul, Nat.reduceLeDiff, Nat.reduceEqDiff, Nat.reduceLT, Int.reduceNeg, Int.reduceAdd, Int.reduceSub, Int.reduceMul, Int.reduceLE, Int.reduceLT, Int.reduceEq, Int.reduceToNat, reduceCtorEq, ho, if_neg h, Val.cells, Val.zero]
def talU (t : Tal) : List U := vsU (talRow t)
-- find28
theorem loop_talRows (d : Nat) (c : Bool) (l : List Tal) (hs : l.length < 4294967296) (h1 : ∀ t ∈ l, t.one = true) : ∃ h' done, LoopK (runD tab noExt (d + 4)) (drawI (runD tab noExt (d + 4))) [3, 10, 11, 12] [3] L28x0 1099511627775 [(3, .ref 0 0 0 0 false), (10, .sl c 4 (l.map Tal.cells)), (11, .int .i64 l.length), (12, .int .i64 0)] [.nest 0 1 []] = some (.exit 0, [(3, .ref 0 done.length 0 done.length false)], h') ∧ Grown fdValueS 0 h' done (l.map talU) ∧ done.length = l.length := by
  obtain ⟨⟨h', done⟩, ⟨g1, g2⟩, e⟩ := LoopK_inv (run := runD tab noExt (d + 4)) (draw := drawI (runD tab noExt (d + 4))) (live := [3, 10, 11, 12]) (out := [3]) (c := L28x0) l.length
    (fun i (b : Heap × List (List V)) => Grown fdValueS 0 b.1 b.2 ((l.take i).map talU) ∧ b.2.length = i)
    (fun i b => [(3, .ref 0 b.2.length 0 b.2.length false), (10, .sl c 4 (l.map Tal.cells)), (11, .int .i64 l.length), (12, .int .i64 (i : Nat))]) (fun b => b.1) (fun b => some (.exit 0, [(3, .ref 0 b.2.length 0 b.2.length false)], b.1))
    (fun b K hb => by
      rw [LoopK_eq]
      simp -implicitDefEqProofs only [go_sem, Nat.reduceBEq, Nat.reduceAdd, Nat.reduceSub, Nat.reduceMul, Nat.reduceLeDiff, Nat.reduceEqDiff, Nat.reduceLT, Int.reduceNeg, Int.reduceAdd, Int.reduceSub, Int.reduceMul, Int.reduceLE, Int.reduceLT, Int.reduceEq, Int.reduceToNat, reduceCtorEq, evL28x0, B28x0, Int.lt_irrefl]) (fun i b K hi hb => by
      obtain ⟨h, done⟩ := b
      obtain ⟨g, glen⟩ := hb
      simp only at g glen ⊢
      have hx := List.getElem?_eq_getElem hi
      generalize l[i] = t at hx
      have ho := h1 t (List.mem_of_getElem? hx)
      obtain ⟨kv, hkv, _, _⟩ := Tal.one_key ho
      obtain ⟨⟨m0, m1⟩, r0, r1⟩ := one_many ho
      have hi' : (i : Int) < l.length := by omega
      have hsm : done.length + 1 < 4294967296 := by omega
      have hn := run_numOf d t.sum
      have hm := run_numOf d t.rows
      have em : numV t.rows = ⟨1, t.rows, ⟨#[]⟩⟩ := if_pos (by omega)
      rw [em] at hm
      have hk0 : k0 t = kv := by unfold k0; rw [hkv]; rfl
      have hlt := g.lt
      have hnest : ∀ r : Heap, (h ++ r)[0]? = some (.nest done.length 1 done) := fun r => by rw [List.getElem?_append_left hlt]; exact g.nest (by rfl)
      rw [take_snoc hx, List.map_append]
      refine ⟨((h ++ [Blk.box t.cells, Blk.box (sumV t).cells, Blk.rows 0 3 ((talRow t).map Val.cells)]).set 0 (Blk.nest (done.length + 1) 1 (done ++ [[V.ref (h.length + 2) 0 0 3 false]])), done ++ [[V.ref (h.length + 2) 0 0 3 false]]), ⟨?_, by simp; omega⟩, ?_⟩
      · refine g.add (h1 := h ++ [Blk.box t.cells, Blk.box (sumV t).cells, Blk.rows 0 3 ((talRow t).map Val.cells)]) (js := [h.length + 2]) (ownR_mk_ValueS (own_row rfl (talRow t) (by rfl) (by rw [at_end_add]; rfl) (val_own _))) (by simp) (fun j hj => by rw [List.mem_singleton.1 hj]; omega) (fun j hj => List.getElem?_append_left hj) rfl
      · unfold talRow
        rw [hk0]
        clear g ho em hk0
        obtain ⟨tc, tk, ta, tm, ts⟩ := t
        simp only at hkv hn hm m0 m1 r0 r1
        subst hkv
        by_cases hz : tm = 0
        · subst hz
          have es : sumV ⟨tc, [kv], ta, 0, ts⟩ = .zero := if_pos rfl
          rw [es]
          generalize numV ts = z at hn
          rw [LoopK_eq]
          simp -implicitDefEqProofs (disch := omega) only [go_sem, Nat.reduceBEq, Nat.reduceAdd, Nat.reduceSub, Nat.reduceMul, Nat.reduceLeDiff, Nat.reduceEqDiff, Nat.reduceLT, Int.reduceNeg, Int.reduceAdd, Int.reduceSub, Int.reduceMul, Int.reduceLE, Int.reduceLT, Int.reduceEq, Int.reduceToNat, reduceCtorEq, evL28x0, B28x0, evC_draw, evD28x0, E28x0, hi', hx, Tal.cells, Val.cells, Val.zero, hn, hm, hnest, List.map_cons, List.map_nil, List.append_assoc, List.cons_append, List.nil_append, at_end, at_end_add, set_end, set_end_add, hsm, elemsOf, elemOf, elemsN, elemN, listN, appendN, okN, small, refs, refC, refsV, frzs, List.flatMap_cons, List.flatMap_nil, Int.toNat_zero, IntWalk.i64_in]
        · have es : sumV ⟨tc, [kv], ta, tm, ts⟩ = numV ts := if_neg hz
          rw [es]
          generalize numV ts = z at hn ⊢
          rw [LoopK_eq]
          simp -implicitDefEqProofs (disch := omega) only [go_sem, Nat.reduceBEq, Nat.reduceAdd, Nat.reduceSub, Nat.reduceMul, Nat.reduceLeDiff, Nat.reduceEqDiff, Nat.reduceLT, Int.reduceNeg, Int.reduceAdd, Int.reduceSub, Int.reduceMul, Int.reduceLE, Int.reduceLT, Int.reduceEq, Int.reduceToNat, reduceCtorEq, evL28x0, B28x0, evC_draw, evD28x0, E28x0, hi', hx, Tal.cells, Val.cells, (eq_false hz : (tm = 0) = False), hn, hm, hnest, List.map_cons, List.map_nil, List.append_assoc, List.cons_append, List.nil_append, at_end, at_end_add, set_end, set_end_add, hsm, elemsOf, elemOf, elemsN, elemN, listN, appendN, okN, small, refs, refC, refsV, frzs, List.flatMap_cons, List.flatMap_nil, Int.toNat_zero, IntWalk.i64_in]) 1099511627775 (by omega) ([.nest 0 1 []], []) ⟨Grown.start rfl, rfl⟩
  simp only at g1 g2 e
  rw [List.take_of_length_le (Nat.le_refl _)] at g1
  exact ⟨h', done, e, g1, g2⟩
theorem own_TalliesRows (d : Nat) (c : Bool) (l : List Tal) (hs : l.length < 4294967296) (hsh : ShortT1 l) : ∃ v hc ids, runD tab noExt (d + 10) 28 [.sl c 4 (l.map Tal.cells)] [] = some ([v], hc) ∧ OwnF hc (.sub fdValueS) v (.sub ((talRows l).map rowU)) ids ∧ ids.Nodup := by
  have hv := run_talsI d c l (by omega) hsh
  unfold talRows
  cases hok : talsOk l
  · rw [hok] at hv
    refine ⟨.sl true 1 [], [], [], ?_, own_nil rfl, List.nodup_nil⟩
    rw [runD_eq find28 _ _ _ (by simp)]
    simp -implicitDefEqProofs (disch := omega) only [go_sem, Nat.reduceBEq, Nat.reduceAdd, Nat.reduceSub, Nat.reduceMul, Nat.reduceLeDiff, Nat.reduceEqDiff, Nat.reduceLT, Int.reduceNeg, Int.reduceAdd, Int.reduceSub, Int.reduceMul, Int.reduceLE, Int.reduceLT, Int.reduceEq, Int.reduceToNat, reduceCtorEq, hv]
  · rw [hok] at hv
    obtain ⟨h', done, e, g, hlen⟩ := loop_talRows (d + 5) c l hs (tals_one l none (by unfold talsOk at hok; exact hok))
    obtain ⟨ids, o1, o2⟩ := g.own (n := done.length) (clip := true) rfl
    have hc := clip_nest (d + 8) h' done.length (g.nest (by rfl)) rfl
    have eU : (l.map fun t => (⟨true, talRow t⟩ : Row)).map rowU = l.map talU := by rw [List.map_map]; rfl
    refine ⟨_, h', ids, ?_, by rw [if_pos rfl, eU]; exact o1, o2⟩
    rw [runD_eq find28 _ _ _ (by simp)]
    simp -implicitDefEqProofs (disch := omega) only [go_sem, Nat.reduceBEq, Nat.reduceAdd, Nat.reduceSub, Nat.reduceMul, Nat.reduceLeDiff, Nat.reduceEqDiff, Nat.reduceLT, Int.reduceNeg, Int.reduceAdd, Int.reduceSub, Int.reduceMul, Int.reduceLE, Int.reduceLT, Int.reduceEq, Int.reduceToNat, reduceCtorEq, hv]
    try simp -implicitDefEqProofs only [go_sem, Nat.reduceBEq, Nat.reduceAdd, Nat.reduceSub, Nat.reduceMul, Nat.reduceLeDiff, Nat.reduceEqDiff, Nat.reduceLT, Int.reduceNeg, Int.reduceAdd, Int.reduceSub, Int.reduceMul, Int.reduceLE, Int.reduceLT, Int.reduceEq, Int.reduceToNat, reduceCtorEq] at e
    rw [e]
    simp -implicitDefEqProofs (disch := omega) only [go_sem, Nat.reduceBEq, Nat.reduceAdd, Nat.reduceSub, Nat.reduceMul, Nat.reduceLeDiff, Nat.reduceEqDiff, Nat.reduceLT, Int.reduceNeg, Int.reduceAdd, Int.reduceSub, Int.reduceMul, Int.reduceLE, Int.reduceLT, Int.reduceEq, Int.reduceToNat, reduceCtorEq, hc]
-- find26
theorem loop_talRowsS (d : Nat) (c : Bool) (l : List Tal) (hl : l.length < 4294967296) (h1 : ∀ t ∈ l, t.one = true) (hv : retP (runD tab noExt (d + 7)) 83 [.sl c 4 (l.map Tal.cells)] = some [.bool true]) :
    LoopS (runD tab noExt (d + 7)) (drawI (runD tab noExt (d + 7))) [0, 3, 4] [3] L26x0 2 1099511627775 [(0, .sl c 4 (l.map Tal.cells)), (3, .ref 1 0 0 0 false), (4, .int .i64 0)] [.rows 0 1 [], .rows 0 1 []] =
      some (.exit 0, [(3, .ref 1 l.length 0 l.length false)], [.rows 0 1 [], .rows l.length 1 ((l.map fun t => (⟨true, talRow t⟩ : Row)).map Row.cells)]) := by
  obtain ⟨b', ⟨g1, g2⟩, e⟩ := LoopS_inv (run := runD tab noExt (d + 7)) (draw := drawI (runD tab noExt (d + 7))) (live := [0, 3, 4]) (out := [3]) (c := L26x0) (n0 := 2) l.length
    (fun i (b : List Row) => b = (l.take i).map (fun t => (⟨true, talRow t⟩ : Row)) ∧ b.length = i)
    (fun i b => [(0, .sl c 4 (l.map Tal.cells)), (3, .ref 1 b.length 0 b.length false), (4, .int .i64 (i : Nat))]) (fun b => [.rows 0 1 [], .rows b.length 1 (b.map Row.cells)]) (fun b => some (.exit 0, [(3, .ref 1 b.length 0 b.length false)], [.rows 0 1 [], .rows b.length 1 (b.map Row.cells)]))
    (fun b K hb => by
      rw [LoopS_eq]
      simp -implicitDefEqProofs only [go_sem, Nat.reduceBEq, Nat.reduceAdd, Nat.reduceSub, Nat.reduceMul, Nat.reduceLeDiff, Nat.reduceEqDiff, Nat.reduceLT, Int.reduceNeg, Int.reduceAdd, Int.reduceSub, Int.reduceMul, Int.reduceLE, Int.reduceLT, Int.reduceEq, Int.reduceToNat, reduceCtorEq, evL26x0, B26x0, Int.lt_irrefl]) (fun i b K hi hb => by
      obtain ⟨g, glen⟩ := hb
      have hx := List.getElem?_eq_getElem hi
      generalize l[i] = t at hx
      have ho := h1 t (List.mem_of_getElem? hx)
      obtain ⟨kv, hkv, _, _⟩ := Tal.one_key ho
      obtain ⟨⟨m0, m1⟩, r0, r1⟩ := one_many ho
      have hi' : (i : Int) < l.length := by omega
      have hsm : b.length + 1 < 4294967296 := by omega
      refine ⟨b ++ [⟨true, talRow t⟩], ⟨by rw [take_snoc hx, List.map_append, ← g]; rfl, by simp; omega⟩, ?_⟩
      clear g ho
      have hk0 : k0 t = kv := by unfold k0; rw [hkv]; rfl
      unfold talRow
      rw [hk0]
      obtain ⟨tc, tk, ta, tm, ts⟩ := t
      simp only at hkv m0 m1 r0 r1 ⊢
      subst hkv
      unfold sumV numV
      simp only
      rw [LoopS_eq]
      by_cases hz : tm = 0
      · subst hz
        simp -implicitDefEqProofs (disch := omega) only [go_sem, Nat.reduceBEq, Nat.reduceAdd, Nat.reduceSub, Nat.reduceMul, Nat.reduceLeDiff, Nat.reduceEqDiff, Nat.reduceLT, Int.reduceNeg, Int.reduceAdd, Int.reduceSub, Int.reduceMul, Int.reduceLE, Int.reduceLT, Int.reduceEq, Int.reduceToNat, reduceCtorEq, evL26x0, B26x0, evC_draw, evD26x0, E26x0, hv, hi', hx, hsm, Tal.cells, Row.cells, Row.v, Val.cells, Val.zero, List.map_append, List.map_cons, List.map_nil, elemsOf, elemOf, frzs, refs, refC, refsV, List.flatMap_cons, List.flatMap_nil, run_l1In, IntWalk.i64_in, Int.toNat_zero, Int.lt_irrefl, if_true, List.length_append, List.length_cons, List.length_nil]
      · have hz2 : 0 < tm := by omega
        by_cases h3 : -9999 ≤ ts ∧ ts ≤ 9999
        · simp -implicitDefEqProofs (disch := omega) only [go_sem, Nat.reduceBEq, Nat.reduceAdd, Nat.reduceSub, Nat.reduceMul, Nat.reduceLeDiff, Nat.reduceEqDiff, Nat.reduceLT, Int.reduceNeg, Int.reduceAdd, Int.reduceSub, Int.reduceMul, Int.reduceLE, Int.reduceLT, Int.reduceEq, Int.reduceToNat, reduceCtorEq, evL26x0, B26x0, evC_draw, evD26x0, E26x0, hv, hi', hx, hsm, (eq_false hz : (tm = 0) = False), (eq_true hz2 : (0 < tm) = True), (eq_true h3 : (-9999 ≤ ts ∧ ts ≤ 9999) = True), Tal.cells, Row.cells, Row.v, Val.cells, Val.zero, List.map_append, List.map_cons, List.map_nil, elemsOf, elemOf, frzs, refs, refC, refsV, List.flatMap_cons, List.flatMap_nil, run_l1In, IntWalk.i64_in, Int.toNat_zero, if_true, if_false, List.length_append, List.length_cons, List.length_nil]
        · simp -implicitDefEqProofs (disch := omega) only [go_sem, Nat.reduceBEq, Nat.reduceAdd, Nat.reduceSub, Nat.reduceMul, Nat.reduceLeDiff, Nat.reduceEqDiff, Nat.reduceLT, Int.reduceNeg, Int.reduceAdd, Int.reduceSub, Int.reduceMul, Int.reduceLE, Int.reduceLT, Int.reduceEq, Int.reduceToNat, reduceCtorEq, evL26x0, B26x0, evC_draw, evD26x0, E26x0, hv, hi', hx, hsm, (eq_false hz : (tm = 0) = False), (eq_true hz2 : (0 < tm) = True), (eq_false h3 : (-9999 ≤ ts ∧ ts ≤ 9999) = False), Tal.cells, Row.cells, Row.v, Val.cells, Val.zero, List.map_append, List.map_cons, List.map_nil, elemsOf, elemOf, frzs, refs, refC, refsV, List.flatMap_cons, List.flatMap_nil, run_l1In, IntWalk.i64_in, Int.toNat_zero, if_true, if_false, List.length_append, List.length_cons, List.length_nil]) 1099511627775 (by omega) [] ⟨by simp, by simp⟩
  rw [List.take_of_length_le (Nat.le_refl _)] at g1
  subst g1
  simp only [List.length_map] at e
  exact e
theorem run_TalliesRowsS (d : Nat) (c : Bool) (l : List Tal) (hs : l.length < 4294967296) (hsh : ShortT1 l) : ∃ cw, retP (runD tab noExt (d + 8)) 26 [.sl c 4 (l.map Tal.cells)] = some [.sl cw 1 ((talRows l).map Row.cells)] := by
  have hv := run_talsS (d + 1) c l (by omega) hsh
  unfold talRows
  cases hok : talsOk l
  · rw [hok] at hv
    refine ⟨false, ?_⟩
    have hl : LoopS (runD tab noExt (d + 7)) (drawI (runD tab noExt (d + 7))) [0, 3, 4] [3] L26x0 2 1099511627775 [(0, .sl c 4 (l.map Tal.cells)), (3, .ref 1 0 0 0 false), (4, .int .i64 0)] [.rows 0 1 [], .rows 0 1 []] = some (.exit 0, [(3, .ref 1 0 0 0 false)], [.rows 0 1 [], .rows 0 1 []]) := by
      rw [LoopS_eq]
      by_cases h0 : (0 : Int) < l.length
      · simp -implicitDefEqProofs (disch := omega) only [go_sem, Nat.reduceBEq, Nat.reduceAdd, Nat.reduceSub, Nat.reduceMul, Nat.reduceLeDiff, Nat.reduceEqDiff, Nat.reduceLT, Int.reduceNeg, Int.reduceAdd, Int.reduceSub, Int.reduceMul, Int.reduceLE, Int.reduceLT, Int.reduceEq, Int.reduceToNat, reduceCtorEq, evL26x0, B26x0, hv, h0]
      · simp -implicitDefEqProofs (disch := omega) only [go_sem, Nat.reduceBEq, Nat.reduceAdd, Nat.reduceSub, Nat.reduceMul, Nat.reduceLeDiff, Nat.reduceEqDiff, Nat.reduceLT, Int.reduceNeg, Int.reduceAdd, Int.reduceSub, Int.reduceMul, Int.reduceLE, Int.reduceLT, Int.reduceEq, Int.reduceToNat, reduceCtorEq, evL26x0, B26x0, hv, h0]
    rw [retP, runD_eq find26 _ _ _ (by simp)]
    simp -implicitDefEqProofs (disch := omega) only [go_sem, Nat.reduceBEq, Nat.reduceAdd, Nat.reduceSub, Nat.reduceMul, Nat.reduceLeDiff, Nat.reduceEqDiff, Nat.reduceLT, Int.reduceNeg, Int.reduceAdd, Int.reduceSub, Int.reduceMul, Int.reduceLE, Int.reduceLT, Int.reduceEq, Int.reduceToNat, reduceCtorEq, elemsOf, elemOf]
    try simp -implicitDefEqProofs only [go_sem, Nat.reduceBEq, Nat.reduceAdd, Nat.reduceSub, Nat.reduceMul, Nat.reduceLeDiff, Nat.reduceEqDiff, Nat.reduceLT, Int.reduceNeg, Int.reduceAdd, Int.reduceSub, Int.reduceMul, Int.reduceLE, Int.reduceLT, Int.reduceEq, Int.reduceToNat, reduceCtorEq] at hl
    rw [hl]
    simp -implicitDefEqProofs (disch := omega) only [go_sem, Nat.reduceBEq, Nat.reduceAdd, Nat.reduceSub, Nat.reduceMul, Nat.reduceLeDiff, Nat.reduceEqDiff, Nat.reduceLT, Int.reduceNeg, Int.reduceAdd, Int.reduceSub, Int.reduceMul, Int.reduceLE, Int.reduceLT, Int.reduceEq, Int.reduceToNat, reduceCtorEq, List.map_nil, if_false]
  · rw [hok] at hv
    refine ⟨false, ?_⟩
    have hl := loop_talRowsS d c l hs (tals_one l none (by unfold talsOk at hok; exact hok)) hv
    have et : List.take l.length ((l.map fun t => (⟨true, talRow t⟩ : Row)).map Row.cells) = (l.map fun t => (⟨true, talRow t⟩ : Row)).map Row.cells := List.take_of_length_le (by simp)
    generalize (l.map fun t => (⟨true, talRow t⟩ : Row)) = L at hl et ⊢
    rw [retP, runD_eq find26 _ _ _ (by simp)]
    simp -implicitDefEqProofs (disch := omega) only [go_sem, Nat.reduceBEq, Nat.reduceAdd, Nat.reduceSub, Nat.reduceMul, Nat.reduceLeDiff, Nat.reduceEqDiff, Nat.reduceLT, Int.reduceNeg, Int.reduceAdd, Int.reduceSub, Int.reduceMul, Int.reduceLE, Int.reduceLT, Int.reduceEq, Int.reduceToNat, reduceCtorEq, elemsOf, elemOf]
    try simp -implicitDefEqProofs only [go_sem, Nat.reduceBEq, Nat.reduceAdd, Nat.reduceSub, Nat.reduceMul, Nat.reduceLeDiff, Nat.reduceEqDiff, Nat.reduceLT, Int.reduceNeg, Int.reduceAdd, Int.reduceSub, Int.reduceMul, Int.reduceLE, Int.reduceLT, Int.reduceEq, Int.reduceToNat, reduceCtorEq] at hl
    rw [hl]
    simp -implicitDefEqProofs (disch := omega) only [go_sem, Nat.reduceBEq, Nat.reduceAdd, Nat.reduceSub, Nat.reduceMul, Nat.reduceLeDiff, Nat.reduceEqDiff, Nat.reduceLT, Int.reduceNeg, Int.reduceAdd, Int.reduceSub, Int.reduceMul, Int.reduceLE, Int.reduceLT, Int.reduceEq, Int.reduceToNat, reduceCtorEq, et, if_true]
end Go.Proofs.Ytfbjbkkcilhgjaa.PE
/- Versions: what is ok, in plain words. -/
set_option linter.unusedVariables false
set_option linter.unusedSimpArgs false
set_option maxHeartbeats 4000000
namespace Go.Proofs.Ytfbjbkkcilhgjaa.PE
open Go.RowKit

structure Ver where
  key : Int
  born : Int
  died : Int
  row : Row
def Ver.cells (v : Ver) : List V := [.int .i64 v.key, .int .i64 v.born, .int .i64 v.died, v.row.v]
def Ver.plain (v : Ver) : Ver := ⟨v.key, v.born, v.died, ⟨false, v.row.vs⟩⟩
def Ver.one (v : Ver) : Bool := decide (0 ≤ v.key ∧ v.key ≤ 4) && (decide (1 ≤ v.born ∧ v.born ≤ 40) && ((decide (v.died = 0) || decide (v.born + 1 ≤ v.died ∧ v.died ≤ 40)) && rowOk v.row.vs))
def ordS (w v : Ver) : Bool := !(decide (v.key ≤ w.key) && (decide (v.key < w.key) || (decide (w.died = 0) || decide (v.born < w.died))))
def ordI (w v : Ver) : Bool := !(decide (v.key < w.key) || (decide (w.key = v.key) && (decide (v.born ≤ w.born) || (decide (w.died = 0) || decide (v.born < w.died)))))
/-- Each version with the one ahead of it. -/
def prevs : Option Ver → List Ver → List (Option Ver × Ver)
  | _, [] => []
  | o, v :: r => (o, v) :: prevs (some v) r
def okBy (f : Ver → Ver → Bool) (p : Option Ver × Ver) : Bool := p.2.one && (match p.1 with | none => true | some w => f w p.2)
def versOk (l : List Ver) : Bool := (prevs none l).all (okBy ordS) && decide ((l.length : Int) ≤ 60)
end Go.Proofs.Ytfbjbkkcilhgjaa.PE
/- Versions: both functions tell whether they are ok. -/
set_option linter.unusedVariables false
set_option linter.unusedSimpArgs false
set_option maxHeartbeats 4000000
namespace Go.Proofs.Ytfbjbkkcilhgjaa.PE
open Go.RowKit

-- find102
def ShortVs (l : List Ver) : Prop := ∀ v ∈ l, v.row.vs.length < 1099511627776 ∧ short v.row.vs
end Go.Proofs.Ytfbjbkkcilhgjaa.PE
/- The version that a key has at a time: the program's. -/
set_option linter.unusedVariables false
set_option linter.unusedSimpArgs false
set_option maxHeartbeats 4000000
namespace Go.Proofs.Ytfbjbkkcilhgjaa.PE
open Go.RowKit

def Ver.at (key time : Int) (v : Ver) : Bool := decide (v.key = key) && (decide (v.born ≤ time) && (decide (v.died = 0) || decide (time < v.died)))
def Ver.zero : Ver := ⟨0, 0, 0, ⟨true, []⟩⟩
def seenO (o : Option Ver) : Out := match o with
  | some v => some (.ret, [(6, .ptr 0 0 0 0), (7, .bool true)], [.box v.cells])
  | none => some (.exit 0, [(6, .ptr 0 0 0 0), (7, .undef)], [.box Ver.zero.cells])
end Go.Proofs.Ytfbjbkkcilhgjaa.PE
/- The row that a key has at a time: the reference's. -/
set_option linter.unusedVariables false
set_option linter.unusedSimpArgs false
set_option maxHeartbeats 4000000
namespace Go.Proofs.Ytfbjbkkcilhgjaa.PE
open Go.RowKit

-- find77
def seenS (o : Option Ver) : Out := match o with
  | some v => some (.ret, [(6, .sl false 3 (v.row.vs.map Val.cells)), (7, .bool true)], [])
  | none => some (.exit 0, [(6, .undef), (7, .undef)], [])
/-- What a key has at a time. -/
def rowAt (l : List Ver) (key time : Int) : Option Ver := if versOk l then l.find? (Ver.at key time) else none
-- find123
end Go.Proofs.Ytfbjbkkcilhgjaa.PE
/- The rows at a time: the reference's. -/
set_option linter.unusedVariables false
set_option linter.unusedSimpArgs false
set_option maxHeartbeats 4000000
namespace Go.Proofs.Ytfbjbkkcilhgjaa.PE
open Go.RowKit

def keys5 : List Int := [0, 1, 2, 3, 4]
def addRow (l : List Ver) (time : Int) (b : List Row) (k : Int) : List Row := if (rowAt l k time).isSome then b ++ [⟨false, ((rowAt l k time).getD Ver.zero).row.vs⟩] else b
def rowsAtV (l : List Ver) (time : Int) : List Row := keys5.foldl (addRow l time) []
/-- What a key has at a time, as values. -/
def rowV (l : List Ver) (k time : Int) : Option (List Val) := (rowAt l k time).map fun v => v.row.vs
end Go.Proofs.Ytfbjbkkcilhgjaa.PE
/- Versions as trees: what their sizes say, that only their values matter. -/
set_option linter.unusedVariables false
set_option linter.unusedSimpArgs false
set_option maxHeartbeats 4000000
namespace Go.Proofs.Ytfbjbkkcilhgjaa.PE
open Go.RowKit

def verU (v : Ver) : List U := [.int v.key, .int v.born, .int v.died, .sub (v.row.vs.map valU)]
end Go.Proofs.Ytfbjbkkcilhgjaa.PE
/- Rows of tallies: what both functions come to, of trees. -/
set_option linter.unusedVariables false
set_option linter.unusedSimpArgs false
set_option maxHeartbeats 4000000
namespace Go.Proofs.Ytfbjbkkcilhgjaa.PE
open Go.RowKit

def tallyU (t : Tal) : List U := [.sub (t.key.map valU), .int t.rows, .int t.many, .int t.sum]
def Tal.plain (t : Tal) : Tal := ⟨false, t.key, t.rows, t.many, t.sum⟩
end Go.Proofs.Ytfbjbkkcilhgjaa.PE
/- The law of the rows of tallies. -/
set_option linter.unusedSimpArgs false
set_option linter.unusedVariables false
set_option maxHeartbeats 4000000
set_option maxRecDepth 20000
namespace Go.Proofs.Ytfbjbkkcilhgjaa.PE
open Go.RowKit

theorem loop_allRows (d : Nat) (c : Bool) (rs : List Row) (hs : rs.length < 1099511627776) (hsh : ∀ r ∈ rs, r.vs.length < 1099511627776) (K : Nat) (hK : (rs).length ≤ K) : LoopS (runD tab noExt (d + 7)) (drawI (runD tab noExt (d + 7))) [0, 3] [2] L35x0 ([] : Heap).length K [(0, .sl c 1 (rs.map Row.cells)), (3, .int .i64 0)] [] = if (rs).all ((fun r : Row => rowOk r.vs)) then (some (.exit 0, [(2, .undef)], []) : Out) else (some (.ret, [(2, .bool false)], []) : Out) := by
  have key := LoopS_all (run := (runD tab noExt (d + 7))) (draw := drawI (runD tab noExt (d + 7))) (live := [0, 3]) (out := [2]) (c := L35x0) (n0 := ([] : Heap).length) (rs) ((fun r : Row => rowOk r.vs)) (fun (i : Nat) => [(0, .sl c 1 (rs.map Row.cells)), (3, .int .i64 i)]) [] (some (.exit 0, [(2, .undef)], []) : Out) (some (.ret, [(2, .bool false)], []) : Out) (fun K => ?_) (fun (i : Nat) (x : Row) K hi hx => ?_) K hK
  · simp only [Int.natCast_zero] at key
    exact key
  · rw [LoopS_eq]
    simp -implicitDefEqProofs only [go_sem, Nat.reduceBEq, Nat.reduceAdd, Nat.reduceSub, Nat.reduceMul, Nat.reduceLeDiff, Nat.reduceEqDiff, Nat.reduceLT, Int.reduceNeg, Int.reduceAdd, Int.reduceSub, Int.reduceMul, Int.reduceLE, Int.reduceLT, Int.reduceEq, Int.reduceToNat, reduceCtorEq, evL35x0, B35x0, Int.lt_irrefl, run_rowOkI, Row.cells, Row.v]
  · have hs1 := hsh x (List.mem_of_getElem? hx)
    rw [LoopS_eq]
    simp -implicitDefEqProofs (disch := omega) only [go_sem, Nat.reduceBEq, Nat.reduceAdd, Nat.reduceSub, Nat.reduceMul, Nat.reduceLeDiff, Nat.reduceEqDiff, Nat.reduceLT, Int.reduceNeg, Int.reduceAdd, Int.reduceSub, Int.reduceMul, Int.reduceLE, Int.reduceLT, Int.reduceEq, Int.reduceToNat, reduceCtorEq, evL35x0, B35x0, hi, hx, IntWalk.i64_in, run_rowOkI, Row.cells, Row.v, *]
    repeat' ((first | rw [GuardI_ndec] | rw [CondC_ndec] | rw [GuardQ_ndec] | rw [GuardI_dec] | rw [CondC_dec] | rw [GuardQ_dec] | rw [GuardI_nby] | rw [CondC_nby] | rw [GuardQ_nby] | rw [GuardQ_by] | rw [GuardI_by] | rw [CondC_by]) <;> split <;> simp -implicitDefEqProofs (disch := omega) only [go_sem, Nat.reduceBEq, Nat.reduceAdd, Nat.reduceSub, Nat.reduceMul, Nat.reduceLeDiff, Nat.reduceEqDiff, Nat.reduceLT, Int.reduceNeg, Int.reduceAdd, Int.reduceSub, Int.reduceMul, Int.reduceLE, Int.reduceLT, Int.reduceEq, Int.reduceToNat, reduceCtorEq, hi, hx, IntWalk.i64_in, run_rowOkI, Row.cells, Row.v, *, *])
    all_goals first | rfl | (simp_all []; done) | (simp_all []; omega)
-- find35
theorem run_allRows (d : Nat) (c : Bool) (rs : List Row) (hs : rs.length < 1099511627776) (hsh : ∀ r ∈ rs, r.vs.length < 1099511627776) : retP (runD tab noExt (d + 8)) 35 [.sl c 1 (rs.map Row.cells)] = some [.bool (rs.all fun r => rowOk r.vs)] := by
  have hl := loop_allRows d c rs hs hsh 1099511627775 (by omega)
  rw [retP, runD_eq find35 _ _ _ (by simp)]
  simp -implicitDefEqProofs (disch := omega) only [go_sem, Nat.reduceBEq, Nat.reduceAdd, Nat.reduceSub, Nat.reduceMul, Nat.reduceLeDiff, Nat.reduceEqDiff, Nat.reduceLT, Int.reduceNeg, Int.reduceAdd, Int.reduceSub, Int.reduceMul, Int.reduceLE, Int.reduceLT, Int.reduceEq, Int.reduceToNat, reduceCtorEq]
  try simp -implicitDefEqProofs only [go_sem, Nat.reduceBEq, Nat.reduceAdd, Nat.reduceSub, Nat.reduceMul, Nat.reduceLeDiff, Nat.reduceEqDiff, Nat.reduceLT, Int.reduceNeg, Int.reduceAdd, Int.reduceSub, Int.reduceMul, Int.reduceLE, Int.reduceLT, Int.reduceEq, Int.reduceToNat, reduceCtorEq] at hl
  rw [hl]
  cases h : rs.all fun r => rowOk r.vs <;> simp -implicitDefEqProofs (disch := omega) only [go_sem, Nat.reduceBEq, Nat.reduceAdd, Nat.reduceSub, Nat.reduceMul, Nat.reduceLeDiff, Nat.reduceEqDiff, Nat.reduceLT, Int.reduceNeg, Int.reduceAdd, Int.reduceSub, Int.reduceMul, Int.reduceLE, Int.reduceLT, Int.reduceEq, Int.reduceToNat, reduceCtorEq]
theorem num_ok {n : Int} (h : 1 ≤ n ∧ n ≤ 100) : Val.ok ⟨1, n, ⟨#[]⟩⟩ = true := by
  have h1 : -9999 ≤ n := by omega
  have h2 : n ≤ 9999 := by omega
  simp [Val.ok, h1, h2]
theorem numV_ok (n : Int) : (numV n).ok = true := by
  unfold numV
  split
  · rename_i h
    simp [Val.ok, h.1, h.2]
  · decide
theorem sumV_ok (t : Tal) : (sumV t).ok = true := by
  unfold sumV
  split
  · decide
  · exact numV_ok _
theorem talRow_ok {t : Tal} (h : t.one = true) : rowOk (talRow t) = true := by
  obtain ⟨kv, hkv, _, ok⟩ := Tal.one_key h
  have hk : k0 t = kv := by unfold k0; rw [hkv]; rfl
  unfold rowOk talRow
  rw [hk]
  simp [ok, num_ok (one_many h).2, sumV_ok]
theorem talRows_ok (l : List Tal) : ∀ r ∈ talRows l, rowOk r.vs = true ∧ r.vs.length = 3 := by
  intro r hr
  unfold talRows at hr
  split at hr
  · rename_i hok
    obtain ⟨t, ht, rfl⟩ := List.mem_map.1 hr
    exact ⟨talRow_ok (tals_one l none hok t ht), rfl⟩
  · cases hr
theorem talRows_len (l : List Tal) : (talRows l).length = if talsOk l then l.length else 0 := by
  unfold talRows
  cases talsOk l <;> simp
-- find6
theorem law_TalliesRows (b : List UInt8) (hl : b.length ≤ maxLen) : ∃ d h1, runD tab noExt d 6 [.sl false 1 (cellsOfBytes b)] [] = some ([.bool true], h1) := by
  refine ⟨61, ?_⟩
  rw [runD_eq find6 _ _ _ (by simp)]
  have ha := run_alive 55
  by_cases h0 : (1048576 : Int) < b.length
  · simp -implicitDefEqProofs (disch := omega) only [go_sem, Nat.reduceBEq, Nat.reduceAdd, Nat.reduceSub, Nat.reduceMul, Nat.reduceLeDiff, Nat.reduceEqDiff, Nat.reduceLT, Int.reduceNeg, Int.reduceAdd, Int.reduceSub, Int.reduceMul, Int.reduceLE, Int.reduceLT, Int.reduceEq, Int.reduceToNat, reduceCtorEq, ofBytes_len, h0]
    exact ⟨_, rfl⟩
  obtain ⟨cc, l, eD, hg, hln⟩ := run_drawTalliesRows 49 false b
  have hsh := hg.short
  obtain ⟨v, hc, ids, r, o, _⟩ := own_TalliesRows 50 cc l (by omega) hsh
  obtain ⟨q, eI, gI⟩ := retP_own r o (by decide)
  obtain ⟨cx, rs, rfl, hrs⟩ := rows_each gI
  have hvs : vss rs = vss (talRows l) := vss_of hrs
  obtain ⟨cw, eS⟩ := run_TalliesRowsS 52 cc l (by omega) hsh
  have eT := run_talsI 51 cc l (by omega) hsh
  have hlen : rs.length = (talRows l).length := by simpa using congrArg List.length hrs
  have hle := talRows_len l
  have hall : ∀ x ∈ rs, rowOk x.vs = true ∧ x.vs.length = 3 := by
    intro x hx
    have hm : x.vs ∈ vss rs := List.mem_map_of_mem hx
    rw [hvs] at hm
    obtain ⟨y, hy, e⟩ := List.mem_map.1 hm
    rw [← e]
    exact talRows_ok l y hy
  have hrl : rs.length < 1099511627776 := by
    rw [hlen, hle]
    split <;> omega
  have hsr : ∀ x ∈ rs, x.vs.length < 1099511627776 := fun x hx => by rw [(hall x hx).2]; decide
  have q1 := run_sameRows 58 cx cw rs (talRows l) hrl hsr
  rw [decide_eq_true hvs] at q1
  have q2 := run_allRows 52 cx rs hrl hsr
  rw [List.all_eq_true.2 (fun x hx => (hall x hx).1)] at q2
  cases ok : talsOk l
  · rw [ok] at eT
    simp -implicitDefEqProofs (disch := omega) only [go_sem, Nat.reduceBEq, Nat.reduceAdd, Nat.reduceSub, Nat.reduceMul, Nat.reduceLeDiff, Nat.reduceEqDiff, Nat.reduceLT, Int.reduceNeg, Int.reduceAdd, Int.reduceSub, Int.reduceMul, Int.reduceLE, Int.reduceLT, Int.reduceEq, Int.reduceToNat, reduceCtorEq, ofBytes_len, h0, eD, eI, eS, eT, q1, q2, ha]
    exact ⟨_, rfl⟩
  · rw [ok] at eT hle
    rw [if_pos rfl] at hle
    have hll : (rs.length : Int) = l.length := by omega
    simp -implicitDefEqProofs (disch := omega) only [go_sem, Nat.reduceBEq, Nat.reduceAdd, Nat.reduceSub, Nat.reduceMul, Nat.reduceLeDiff, Nat.reduceEqDiff, Nat.reduceLT, Int.reduceNeg, Int.reduceAdd, Int.reduceSub, Int.reduceMul, Int.reduceLE, Int.reduceLT, Int.reduceEq, Int.reduceToNat, reduceCtorEq, ofBytes_len, h0, eD, eI, eS, eT, q1, q2, ha, hll]
    exact ⟨_, rfl⟩
end Go.Proofs.Ytfbjbkkcilhgjaa.PE
