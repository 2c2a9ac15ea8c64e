/- Texts of this claim, one behind the other: Pv1, Pv2, Pv3, Pv5, Pw1, Pl0, Pi1, Pu1, Pu2, Pu3, Pu4, Pu5, Pu6, Pn1, Pnr, Pq0, Png, Pnc, Pu7, Pu8, Pru, Psz, Pi2, Pvs, Pvt, Pvw, Pvx, Pvy, Pvr, Pi3, Pi4, Pr5. -/
import Derived.Test.YtfbjbkkcilhgjaaPeT
import Derived.Test.YtfbjbkkcilhgjaaPeX
import Derived.IntWalk
import Derived.Test.YtfbjbkkcilhgjaaPeZ
import Derived.Deep.Slices
import Derived.ChangeArms
/- Values of the tables: what the small functions come to. -/
set_option linter.unusedSimpArgs false
namespace Go.Proofs.Ytfbjbkkcilhgjaa.PE
open Go.RowKit

/-- A value. -/
structure Val where
  kind : Int
  n : Int
  s : ByteArray
  deriving DecidableEq

def Val.cells (v : Val) : List V := [.int .i64 v.kind, .int .i64 v.n, .str v.s]
def Val.enc (v : Val) : V := .agg [.int .i64 v.kind, .int .i64 v.n, .str v.s]

def letterB (b : UInt8) : Bool := decide (97 ≤ (b.toNat : Int) ∧ (b.toNat : Int) ≤ 122)
def lettersB (s : ByteArray) : Bool := s.data.toList.all letterB

/-- Is a value one? -/
def Val.ok (v : Val) : Bool :=
  if v.kind = 0 then decide (v.n = 0) && decide (v.s = ⟨#[]⟩)
  else if v.kind = 1 then decide (v.s = ⟨#[]⟩) && (decide (-9999 ≤ v.n) && decide (v.n ≤ 9999))
  else if v.kind = 2 then decide (v.n = 0) && decide ((v.s.size : Int) ≤ 6) && lettersB v.s
  else if v.kind = 3 then decide (v.s = ⟨#[]⟩) && (decide (0 ≤ v.n) && decide (v.n ≤ 1))
  else false

theorem run_between (d : Nat) (n lo hi : Int) : retP (runD tab noExt (d + 1)) 79 [.int .i64 n, .int .i64 lo, .int .i64 hi] = some [.bool (decide (lo ≤ n ∧ n ≤ hi))] := by
  rw [retP, runD_eq find79 _ _ _ (by simp)]
  simp -implicitDefEqProofs (disch := omega) only [go_sem, Nat.reduceBEq, Nat.reduceAdd, Nat.reduceSub, Nat.reduceMul, Nat.reduceLeDiff, Nat.reduceEqDiff, Nat.reduceLT, Int.reduceNeg, Int.reduceAdd, Int.reduceSub, Int.reduceMul, Int.reduceLE, Int.reduceLT, Int.reduceEq, Int.reduceToNat, reduceCtorEq]
  repeat' ((first | rw [GuardI_ndec] | rw [CondC_ndec] | rw [GuardQ_ndec] | rw [GuardI_dec] | rw [CondC_dec] | rw [GuardQ_dec] | rw [GuardI_nby] | rw [CondC_nby] | rw [GuardQ_nby] | rw [GuardQ_by] | rw [GuardI_by] | rw [CondC_by]) <;> split <;> simp -implicitDefEqProofs (disch := omega) only [go_sem, Nat.reduceBEq, Nat.reduceAdd, Nat.reduceSub, Nat.reduceMul, Nat.reduceLeDiff, Nat.reduceEqDiff, Nat.reduceLT, Int.reduceNeg, Int.reduceAdd, Int.reduceSub, Int.reduceMul, Int.reduceLE, Int.reduceLT, Int.reduceEq, Int.reduceToNat, reduceCtorEq, *])
  all_goals simp_all
theorem run_l1In (d : Nat) (n lo hi : Int) : retP (runD tab noExt (d + 1)) 84 [.int .i64 n, .int .i64 lo, .int .i64 hi] = some [.bool (decide (lo ≤ n ∧ n ≤ hi))] := by
  rw [retP, runD_eq find84 _ _ _ (by simp)]
  simp -implicitDefEqProofs (disch := omega) only [go_sem, Nat.reduceBEq, Nat.reduceAdd, Nat.reduceSub, Nat.reduceMul, Nat.reduceLeDiff, Nat.reduceEqDiff, Nat.reduceLT, Int.reduceNeg, Int.reduceAdd, Int.reduceSub, Int.reduceMul, Int.reduceLE, Int.reduceLT, Int.reduceEq, Int.reduceToNat, reduceCtorEq]
  repeat' ((first | rw [GuardI_ndec] | rw [CondC_ndec] | rw [GuardQ_ndec] | rw [GuardI_dec] | rw [CondC_dec] | rw [GuardQ_dec] | rw [GuardI_nby] | rw [CondC_nby] | rw [GuardQ_nby] | rw [GuardQ_by] | rw [GuardI_by] | rw [CondC_by]) <;> split <;> simp -implicitDefEqProofs (disch := omega) only [go_sem, Nat.reduceBEq, Nat.reduceAdd, Nat.reduceSub, Nat.reduceMul, Nat.reduceLeDiff, Nat.reduceEqDiff, Nat.reduceLT, Int.reduceNeg, Int.reduceAdd, Int.reduceSub, Int.reduceMul, Int.reduceLE, Int.reduceLT, Int.reduceEq, Int.reduceToNat, reduceCtorEq, *])
  all_goals simp_all

theorem str_len (s : ByteArray) : s.data.toList.length = s.size := by rw [Array.length_toList]; rfl
/-- From an index on to the end. -/
theorem drop_ind {α : Type} (l : List α) (M : Nat → List α → Prop) (h0 : M l.length []) (h1 : ∀ i x r, i < l.length → l[i]? = some x → M (i + 1) r → M i (x :: r)) : ∀ rest i, l.drop i = rest → i ≤ l.length → M i rest
  | [], i, hd, hi => by
    have := List.drop_eq_nil_iff.1 hd
    have e : i = l.length := by omega
    subst e
    exact h0
  | x :: r, i, hd, hi => by
    have hlt : i < l.length := by
      rcases Nat.lt_or_ge i l.length with h2 | h2
      · exact h2
      · rw [List.drop_eq_nil_of_le h2] at hd; cases hd
    have hx : l[i]? = some x := by rw [← List.head?_drop, hd]; rfl
    have hr : l.drop (i + 1) = r := by rw [← List.drop_drop, hd]; rfl
    exact h1 i x r hlt hx (drop_ind l M h0 h1 r (i + 1) hr (by omega))

theorem ofBytes_at {l : List UInt8} {i : Nat} {b : UInt8} (h : l[i]? = some b) : (cellsOfBytes l)[i]? = some [.int .u8 b.toNat] := by simp [cellsOfBytes, h]

theorem loop_letters (d : Nat) (draw : Draw) (l : List UInt8) (hl : l.length < 1099511627776) : ∀ (rest : List UInt8) (i : Nat), l.drop i = rest → i ≤ l.length → ∀ k, rest.length ≤ k →
    LoopS (runD tab noExt (d + 1)) draw [6, 7, 8] [2] L150x0 0 k [(6, .sl false 1 (cellsOfBytes l)), (7, .int .i64 l.length), (8, .int .i64 i)] [] =
    if rest.all letterB then some (.exit 0, [(2, .undef)], []) else some (.ret, [(2, .bool false)], []) := by
  refine drop_ind l (fun i rest => _) ?_ ?_
  · intro k hk
    rw [LoopS_eq]
    simp [go_sem, Nat.reduceBEq, Nat.reduceAdd, Nat.reduceSub, Nat.reduceMul, Nat.reduceLeDiff, Nat.reduceEqDiff, Nat.reduceLT, Int.reduceNeg, Int.reduceAdd, Int.reduceSub, Int.reduceMul, Int.reduceLE, Int.reduceLT, Int.reduceEq, Int.reduceToNat, reduceCtorEq, evL150x0, B150x0, Int.lt_irrefl]
  · intro i b r hlt hb ih k hk
    have hi : (i : Int) < l.length := by omega
    have hb8 := b.toNat_lt
    obtain ⟨k, rfl⟩ : ∃ k', k = k' + 1 := ⟨k - 1, by simp at hk; omega⟩
    have ih' := ih k (by simp at hk; omega)
    simp only [Int.natCast_add, Int.natCast_one] at ih'
    rw [LoopS_eq]
    simp -implicitDefEqProofs (disch := omega) only [go_sem, Nat.reduceBEq, Nat.reduceAdd, Nat.reduceSub, Nat.reduceMul, Nat.reduceLeDiff, Nat.reduceEqDiff, Nat.reduceLT, Int.reduceNeg, Int.reduceAdd, Int.reduceSub, Int.reduceMul, Int.reduceLE, Int.reduceLT, Int.reduceEq, Int.reduceToNat, reduceCtorEq, evL150x0, B150x0, hi, ofBytes_at hb, run_between, IntWalk.i64_in]
    have e1 : letterB b = decide (97 ≤ (b.toNat : Int) ∧ (b.toNat : Int) ≤ 122) := rfl
    rw [← e1]
    rcases Bool.eq_false_or_eq_true (letterB b) with hlb | hlb
    · simp -implicitDefEqProofs (disch := omega) only [go_sem, Nat.reduceBEq, Nat.reduceAdd, Nat.reduceSub, Nat.reduceMul, Nat.reduceLeDiff, Nat.reduceEqDiff, Nat.reduceLT, Int.reduceNeg, Int.reduceAdd, Int.reduceSub, Int.reduceMul, Int.reduceLE, Int.reduceLT, Int.reduceEq, Int.reduceToNat, reduceCtorEq, hlb, IntWalk.i64_in, ih']
    · simp -implicitDefEqProofs only [go_sem, Nat.reduceBEq, Nat.reduceAdd, Nat.reduceSub, Nat.reduceMul, Nat.reduceLeDiff, Nat.reduceEqDiff, Nat.reduceLT, Int.reduceNeg, Int.reduceAdd, Int.reduceSub, Int.reduceMul, Int.reduceLE, Int.reduceLT, Int.reduceEq, Int.reduceToNat, reduceCtorEq, hlb]

theorem loop_l1Text (d : Nat) (draw : Draw) (s : ByteArray) (hl : s.size < 1099511627776) : ∀ (rest : List UInt8) (i : Nat), s.data.toList.drop i = rest → i ≤ s.data.toList.length → ∀ k, rest.length ≤ k →
    LoopS (runD tab noExt d) draw [0, 3] [0, 2] L152x0 0 k [(0, .str s), (3, .int .i64 i)] [] =
    if rest.all letterB then some (.exit 0, [(0, .str s), (2, .undef)], []) else some (.ret, [(0, .str s), (2, .bool false)], []) := by
  have hsz := str_len s
  refine drop_ind s.data.toList (fun i rest => _) ?_ ?_
  · intro k hk
    rw [LoopS_eq, hsz]
    simp [go_sem, Nat.reduceBEq, Nat.reduceAdd, Nat.reduceSub, Nat.reduceMul, Nat.reduceLeDiff, Nat.reduceEqDiff, Nat.reduceLT, Int.reduceNeg, Int.reduceAdd, Int.reduceSub, Int.reduceMul, Int.reduceLE, Int.reduceLT, Int.reduceEq, Int.reduceToNat, reduceCtorEq, evL152x0, B152x0, Int.lt_irrefl]
  · intro i b r hlt hb ih k hk
    have hi : (i : Int) < s.size := by omega
    have hb8 := b.toNat_lt
    obtain ⟨k, rfl⟩ : ∃ k', k = k' + 1 := ⟨k - 1, by simp at hk; omega⟩
    have ih' := ih k (by simp at hk; omega)
    simp only [Int.natCast_add, Int.natCast_one] at ih'
    rw [LoopS_eq]
    simp -implicitDefEqProofs (disch := omega) only [go_sem, Nat.reduceBEq, Nat.reduceAdd, Nat.reduceSub, Nat.reduceMul, Nat.reduceLeDiff, Nat.reduceEqDiff, Nat.reduceLT, Int.reduceNeg, Int.reduceAdd, Int.reduceSub, Int.reduceMul, Int.reduceLE, Int.reduceLT, Int.reduceEq, Int.reduceToNat, reduceCtorEq, evL152x0, B152x0, hi, hb, IntWalk.i64_in]
    have e1 : letterB b = decide (97 ≤ (b.toNat : Int) ∧ (b.toNat : Int) ≤ 122) := rfl
    by_cases h1 : (b.toNat : Int) < 97
    · have hlb : letterB b = false := by rw [e1]; simp; omega
      simp -implicitDefEqProofs (disch := omega) only [go_sem, Nat.reduceBEq, Nat.reduceAdd, Nat.reduceSub, Nat.reduceMul, Nat.reduceLeDiff, Nat.reduceEqDiff, Nat.reduceLT, Int.reduceNeg, Int.reduceAdd, Int.reduceSub, Int.reduceMul, Int.reduceLE, Int.reduceLT, Int.reduceEq, Int.reduceToNat, reduceCtorEq, h1, hlb]
    · by_cases h2 : 122 < (b.toNat : Int)
      · have hlb : letterB b = false := by rw [e1]; simp; omega
        simp -implicitDefEqProofs (disch := omega) only [go_sem, Nat.reduceBEq, Nat.reduceAdd, Nat.reduceSub, Nat.reduceMul, Nat.reduceLeDiff, Nat.reduceEqDiff, Nat.reduceLT, Int.reduceNeg, Int.reduceAdd, Int.reduceSub, Int.reduceMul, Int.reduceLE, Int.reduceLT, Int.reduceEq, Int.reduceToNat, reduceCtorEq, hb, h1, h2, hlb]
      · have hlb : letterB b = true := by rw [e1]; simp; omega
        simp -implicitDefEqProofs (disch := omega) only [go_sem, Nat.reduceBEq, Nat.reduceAdd, Nat.reduceSub, Nat.reduceMul, Nat.reduceLeDiff, Nat.reduceEqDiff, Nat.reduceLT, Int.reduceNeg, Int.reduceAdd, Int.reduceSub, Int.reduceMul, Int.reduceLE, Int.reduceLT, Int.reduceEq, Int.reduceToNat, reduceCtorEq, hb, h1, h2, hlb, IntWalk.i64_in, ih']

-- find150
theorem run_letters (d : Nat) (s : ByteArray) (hs : s.size < 1099511627776) : retP (runD tab noExt (d + 2)) 150 [.str s] = some [.bool (lettersB s)] := by
  rw [retP, runD_eq find150 _ _ _ (by simp)]
  have hl := loop_letters d (drawI (runD tab noExt (d + 1))) s.data.toList (by rw [str_len]; exact hs) s.data.toList 0 rfl (Nat.zero_le _) 1099511627775 (by rw [str_len]; omega)
  simp -implicitDefEqProofs only [go_sem, Nat.reduceBEq, Nat.reduceAdd, Nat.reduceSub, Nat.reduceMul, Nat.reduceLeDiff, Nat.reduceEqDiff, Nat.reduceLT, Int.reduceNeg, Int.reduceAdd, Int.reduceSub, Int.reduceMul, Int.reduceLE, Int.reduceLT, Int.reduceEq, Int.reduceToNat, reduceCtorEq, cellsOfBytes, List.length_map]
  simp only [cellsOfBytes, Int.natCast_zero] at hl
  rw [hl]
  split <;> simp -implicitDefEqProofs only [go_sem, Nat.reduceBEq, Nat.reduceAdd, Nat.reduceSub, Nat.reduceMul, Nat.reduceLeDiff, Nat.reduceEqDiff, Nat.reduceLT, Int.reduceNeg, Int.reduceAdd, Int.reduceSub, Int.reduceMul, Int.reduceLE, Int.reduceLT, Int.reduceEq, Int.reduceToNat, reduceCtorEq, lettersB, *]

theorem Val.eta (v : Val) : (⟨v.kind, v.n, v.s⟩ : Val) = v := rfl

theorem run_ok (d : Nat) (k n : Int) (s : ByteArray) : retP (runD tab noExt (d + 3)) 96 [.agg [.int .i64 k, .int .i64 n, .str s]] = some [.bool (Val.ok ⟨k, n, s⟩)] := by
  rw [retP, runD_eq find96 _ _ _ (by simp)]
  simp -implicitDefEqProofs (disch := omega) only [go_sem, Nat.reduceBEq, Nat.reduceAdd, Nat.reduceSub, Nat.reduceMul, Nat.reduceLeDiff, Nat.reduceEqDiff, Nat.reduceLT, Int.reduceNeg, Int.reduceAdd, Int.reduceSub, Int.reduceMul, Int.reduceLE, Int.reduceLT, Int.reduceEq, Int.reduceToNat, reduceCtorEq, run_between, run_letters]
  repeat' ((first | rw [GuardI_ndec] | rw [CondC_ndec] | rw [GuardQ_ndec] | rw [GuardI_dec] | rw [CondC_dec] | rw [GuardQ_dec] | rw [GuardI_nby] | rw [CondC_nby] | rw [GuardQ_nby] | rw [GuardQ_by] | rw [GuardI_by] | rw [CondC_by]) <;> split <;> simp -implicitDefEqProofs (disch := omega) only [go_sem, Nat.reduceBEq, Nat.reduceAdd, Nat.reduceSub, Nat.reduceMul, Nat.reduceLeDiff, Nat.reduceEqDiff, Nat.reduceLT, Int.reduceNeg, Int.reduceAdd, Int.reduceSub, Int.reduceMul, Int.reduceLE, Int.reduceLT, Int.reduceEq, Int.reduceToNat, reduceCtorEq, run_between, run_letters, *])
  all_goals (simp_all [Val.ok]; try omega)
theorem run_isNaNI (d : Nat) (a : Int) : retP (runD tab noExt (d + 1)) 183 [.int .i64 a] = some [.bool false] := by
  rw [retP, runD_eq find183 _ _ _ (by simp)]
  simp -implicitDefEqProofs (disch := omega) only [go_sem, Nat.reduceBEq, Nat.reduceAdd, Nat.reduceSub, Nat.reduceMul, Nat.reduceLeDiff, Nat.reduceEqDiff, Nat.reduceLT, Int.reduceNeg, Int.reduceAdd, Int.reduceSub, Int.reduceMul, Int.reduceLE, Int.reduceLT, Int.reduceEq, Int.reduceToNat, reduceCtorEq]
  repeat' ((first | rw [GuardI_ndec] | rw [CondC_ndec] | rw [GuardQ_ndec] | rw [GuardI_dec] | rw [CondC_dec] | rw [GuardQ_dec] | rw [GuardI_nby] | rw [CondC_nby] | rw [GuardQ_nby] | rw [GuardQ_by] | rw [GuardI_by] | rw [CondC_by]) <;> split <;> simp -implicitDefEqProofs (disch := omega) only [go_sem, Nat.reduceBEq, Nat.reduceAdd, Nat.reduceSub, Nat.reduceMul, Nat.reduceLeDiff, Nat.reduceEqDiff, Nat.reduceLT, Int.reduceNeg, Int.reduceAdd, Int.reduceSub, Int.reduceMul, Int.reduceLE, Int.reduceLT, Int.reduceEq, Int.reduceToNat, reduceCtorEq, *])
  all_goals simp_all
theorem run_isNaNS (d : Nat) (a : ByteArray) : retP (runD tab noExt (d + 1)) 187 [.str a] = some [.bool false] := by
  rw [retP, runD_eq find187 _ _ _ (by simp)]
  simp -implicitDefEqProofs (disch := omega) only [go_sem, Nat.reduceBEq, Nat.reduceAdd, Nat.reduceSub, Nat.reduceMul, Nat.reduceLeDiff, Nat.reduceEqDiff, Nat.reduceLT, Int.reduceNeg, Int.reduceAdd, Int.reduceSub, Int.reduceMul, Int.reduceLE, Int.reduceLT, Int.reduceEq, Int.reduceToNat, reduceCtorEq]
  repeat' ((first | rw [GuardI_ndec] | rw [CondC_ndec] | rw [GuardQ_ndec] | rw [GuardI_dec] | rw [CondC_dec] | rw [GuardQ_dec] | rw [GuardI_nby] | rw [CondC_nby] | rw [GuardQ_nby] | rw [GuardQ_by] | rw [GuardI_by] | rw [CondC_by]) <;> split <;> simp -implicitDefEqProofs (disch := omega) only [go_sem, Nat.reduceBEq, Nat.reduceAdd, Nat.reduceSub, Nat.reduceMul, Nat.reduceLeDiff, Nat.reduceEqDiff, Nat.reduceLT, Int.reduceNeg, Int.reduceAdd, Int.reduceSub, Int.reduceMul, Int.reduceLE, Int.reduceLT, Int.reduceEq, Int.reduceToNat, reduceCtorEq, *])
  all_goals simp_all

def cmpI (a b : Int) : Int := if a < b then -1 else if b < a then 1 else 0
def ltS (a b : ByteArray) : Bool := decide (a.data.toList < b.data.toList)
def cmpS (a b : ByteArray) : Int := if ltS a b then -1 else if ltS b a then 1 else 0
theorem str_lt (a b : ByteArray) : Op.bytesLess a.toList b.toList = ltS a b := by rw [bytes_less, ByteArray.toList_eq, ByteArray.toList_eq]; rfl
theorem str_gt (a b : ByteArray) : (!(ltS a b || decide (a = b))) = ltS b a := by
  unfold ltS
  by_cases h : a = b
  · subst h
    simp [List.lt_irrefl]
  · simp only [h, decide_false, Bool.or_false]
    have hne : a.data.toList ≠ b.data.toList := fun e => h (by
      cases a; cases b
      congr 1
      exact Array.toList_inj.1 e)
    by_cases h1 : a.data.toList < b.data.toList
    · have := List.lt_asymm h1
      simp [h1, this]
    · have h2 : b.data.toList ≤ a.data.toList := List.not_lt.1 h1
      have h3 : b.data.toList < a.data.toList := by
        rcases Classical.em (b.data.toList < a.data.toList) with h3 | h3
        · exact h3
        · exact absurd (List.le_antisymm (List.not_lt.1 h3) h2) hne
      simp [h1, h3]

theorem run_cmpI (d : Nat) (a b : Int) : retP (runD tab noExt (d + 2)) 147 [.int .i64 a, .int .i64 b] = some [.int .i64 (cmpI a b)] := by
  rw [retP, runD_eq find147 _ _ _ (by simp)]
  simp -implicitDefEqProofs (disch := omega) only [go_sem, Nat.reduceBEq, Nat.reduceAdd, Nat.reduceSub, Nat.reduceMul, Nat.reduceLeDiff, Nat.reduceEqDiff, Nat.reduceLT, Int.reduceNeg, Int.reduceAdd, Int.reduceSub, Int.reduceMul, Int.reduceLE, Int.reduceLT, Int.reduceEq, Int.reduceToNat, reduceCtorEq, run_isNaNI]
  repeat' ((first | rw [GuardI_ndec] | rw [CondC_ndec] | rw [GuardQ_ndec] | rw [GuardI_dec] | rw [CondC_dec] | rw [GuardQ_dec] | rw [GuardI_nby] | rw [CondC_nby] | rw [GuardQ_nby] | rw [GuardQ_by] | rw [GuardI_by] | rw [CondC_by]) <;> split <;> simp -implicitDefEqProofs (disch := omega) only [go_sem, Nat.reduceBEq, Nat.reduceAdd, Nat.reduceSub, Nat.reduceMul, Nat.reduceLeDiff, Nat.reduceEqDiff, Nat.reduceLT, Int.reduceNeg, Int.reduceAdd, Int.reduceSub, Int.reduceMul, Int.reduceLE, Int.reduceLT, Int.reduceEq, Int.reduceToNat, reduceCtorEq, run_isNaNI, *])
  all_goals (first | (simp_all [cmpI]; done) | (unfold cmpI; split <;> (try split) <;> simp_all <;> omega))
theorem run_cmpS (d : Nat) (a b : ByteArray) : retP (runD tab noExt (d + 2)) 154 [.str a, .str b] = some [.int .i64 (cmpS a b)] := by
  rw [retP, runD_eq find154 _ _ _ (by simp)]
  simp -implicitDefEqProofs (disch := omega) only [go_sem, Nat.reduceBEq, Nat.reduceAdd, Nat.reduceSub, Nat.reduceMul, Nat.reduceLeDiff, Nat.reduceEqDiff, Nat.reduceLT, Int.reduceNeg, Int.reduceAdd, Int.reduceSub, Int.reduceMul, Int.reduceLE, Int.reduceLT, Int.reduceEq, Int.reduceToNat, reduceCtorEq, run_isNaNS, str_lt, str_gt]
  repeat' ((first | rw [GuardI_ndec] | rw [CondC_ndec] | rw [GuardQ_ndec] | rw [GuardI_dec] | rw [CondC_dec] | rw [GuardQ_dec] | rw [GuardI_nby] | rw [CondC_nby] | rw [GuardQ_nby] | rw [GuardQ_by] | rw [GuardI_by] | rw [CondC_by]) <;> split <;> simp -implicitDefEqProofs (disch := omega) only [go_sem, Nat.reduceBEq, Nat.reduceAdd, Nat.reduceSub, Nat.reduceMul, Nat.reduceLeDiff, Nat.reduceEqDiff, Nat.reduceLT, Int.reduceNeg, Int.reduceAdd, Int.reduceSub, Int.reduceMul, Int.reduceLE, Int.reduceLT, Int.reduceEq, Int.reduceToNat, reduceCtorEq, run_isNaNS, str_lt, str_gt, *])
  all_goals (simp_all [cmpS]; try (have := str_gt a b; simp_all))

/-- The order of values. -/
def Val.cmp (v w : Val) : Int := if cmpI v.kind w.kind ≠ 0 then cmpI v.kind w.kind else if cmpI v.n w.n ≠ 0 then cmpI v.n w.n else cmpS v.s w.s

theorem run_Or3 (d : Nat) (a b c : Int) : retP (runD tab noExt (d + 1)) 145 [.sl true 1 [[.int .i64 a], [.int .i64 b], [.int .i64 c]]] = some [.int .i64 (if a ≠ 0 then a else if b ≠ 0 then b else c)] := by
  rw [retP, runD_eq find145 _ _ _ (by simp)]
  simp -implicitDefEqProofs (disch := omega) only [go_sem, Nat.reduceBEq, Nat.reduceAdd, Nat.reduceSub, Nat.reduceMul, Nat.reduceLeDiff, Nat.reduceEqDiff, Nat.reduceLT, Int.reduceNeg, Int.reduceAdd, Int.reduceSub, Int.reduceMul, Int.reduceLE, Int.reduceLT, Int.reduceEq, Int.reduceToNat, reduceCtorEq, LoopS_eq, evL145x0, B145x0, IntWalk.i64_in, Int.cast_ofNat_Int]
  repeat' ((first | rw [GuardI_ndec] | rw [CondC_ndec] | rw [GuardQ_ndec] | rw [GuardI_dec] | rw [CondC_dec] | rw [GuardQ_dec] | rw [GuardI_nby] | rw [CondC_nby] | rw [GuardQ_nby] | rw [GuardQ_by] | rw [GuardI_by] | rw [CondC_by]) <;> split <;> simp -implicitDefEqProofs (disch := omega) only [go_sem, Nat.reduceBEq, Nat.reduceAdd, Nat.reduceSub, Nat.reduceMul, Nat.reduceLeDiff, Nat.reduceEqDiff, Nat.reduceLT, Int.reduceNeg, Int.reduceAdd, Int.reduceSub, Int.reduceMul, Int.reduceLE, Int.reduceLT, Int.reduceEq, Int.reduceToNat, reduceCtorEq, LoopS_eq, evL145x0, B145x0, IntWalk.i64_in, Int.cast_ofNat_Int, *])
  all_goals simp_all
theorem run_l1Text (d : Nat) (s : ByteArray) (hs : s.size < 1099511627776) : retP (runD tab noExt (d + 1)) 152 [.str s] = some [.bool (lettersB s && decide ((s.size : Int) ≤ 6))] := by
  rw [retP, runD_eq find152 _ _ _ (by simp)]
  have hl := loop_l1Text d (drawI (runD tab noExt d)) s hs s.data.toList 0 rfl (Nat.zero_le _) 1099511627775 (by rw [str_len]; omega)
  simp only [Int.natCast_zero] at hl
  simp -implicitDefEqProofs only [go_sem, Nat.reduceBEq, Nat.reduceAdd, Nat.reduceSub, Nat.reduceMul, Nat.reduceLeDiff, Nat.reduceEqDiff, Nat.reduceLT, Int.reduceNeg, Int.reduceAdd, Int.reduceSub, Int.reduceMul, Int.reduceLE, Int.reduceLT, Int.reduceEq, Int.reduceToNat, reduceCtorEq]
  rw [hl]
  split <;> simp -implicitDefEqProofs only [go_sem, Nat.reduceBEq, Nat.reduceAdd, Nat.reduceSub, Nat.reduceMul, Nat.reduceLeDiff, Nat.reduceEqDiff, Nat.reduceLT, Int.reduceNeg, Int.reduceAdd, Int.reduceSub, Int.reduceMul, Int.reduceLE, Int.reduceLT, Int.reduceEq, Int.reduceToNat, reduceCtorEq, lettersB, *]

theorem run_specValueOk (d : Nat) (k n : Int) (s : ByteArray) (hs : s.size < 1099511627776) : retP (runD tab noExt (d + 2)) 101 [.agg [.int .i64 k, .int .i64 n, .str s]] = some [.bool (Val.ok ⟨k, n, s⟩)] := by
  rw [retP, runD_eq find101 _ _ _ (by simp)]
  simp -implicitDefEqProofs (disch := omega) only [go_sem, Nat.reduceBEq, Nat.reduceAdd, Nat.reduceSub, Nat.reduceMul, Nat.reduceLeDiff, Nat.reduceEqDiff, Nat.reduceLT, Int.reduceNeg, Int.reduceAdd, Int.reduceSub, Int.reduceMul, Int.reduceLE, Int.reduceLT, Int.reduceEq, Int.reduceToNat, reduceCtorEq, run_l1In, run_l1Text]
  repeat' ((first | rw [GuardI_ndec] | rw [CondC_ndec] | rw [GuardQ_ndec] | rw [GuardI_dec] | rw [CondC_dec] | rw [GuardQ_dec] | rw [GuardI_nby] | rw [CondC_nby] | rw [GuardQ_nby] | rw [GuardQ_by] | rw [GuardI_by] | rw [CondC_by]) <;> split <;> simp -implicitDefEqProofs (disch := omega) only [go_sem, Nat.reduceBEq, Nat.reduceAdd, Nat.reduceSub, Nat.reduceMul, Nat.reduceLeDiff, Nat.reduceEqDiff, Nat.reduceLT, Int.reduceNeg, Int.reduceAdd, Int.reduceSub, Int.reduceMul, Int.reduceLE, Int.reduceLT, Int.reduceEq, Int.reduceToNat, reduceCtorEq, run_l1In, run_l1Text, *])
  all_goals (simp_all [Val.ok, Bool.and_comm]; try omega)
theorem run_l1Less (d : Nat) (a b : Int) : retP (runD tab noExt (d + 1)) 155 [.int .i64 a, .int .i64 b] = some [.int .i64 (if a < b then 1 else 0)] := by
  rw [retP, runD_eq find155 _ _ _ (by simp)]
  simp -implicitDefEqProofs (disch := omega) only [go_sem, Nat.reduceBEq, Nat.reduceAdd, Nat.reduceSub, Nat.reduceMul, Nat.reduceLeDiff, Nat.reduceEqDiff, Nat.reduceLT, Int.reduceNeg, Int.reduceAdd, Int.reduceSub, Int.reduceMul, Int.reduceLE, Int.reduceLT, Int.reduceEq, Int.reduceToNat, reduceCtorEq]
  repeat' ((first | rw [GuardI_ndec] | rw [CondC_ndec] | rw [GuardQ_ndec] | rw [GuardI_dec] | rw [CondC_dec] | rw [GuardQ_dec] | rw [GuardI_nby] | rw [CondC_nby] | rw [GuardQ_nby] | rw [GuardQ_by] | rw [GuardI_by] | rw [CondC_by]) <;> split <;> simp -implicitDefEqProofs (disch := omega) only [go_sem, Nat.reduceBEq, Nat.reduceAdd, Nat.reduceSub, Nat.reduceMul, Nat.reduceLeDiff, Nat.reduceEqDiff, Nat.reduceLT, Int.reduceNeg, Int.reduceAdd, Int.reduceSub, Int.reduceMul, Int.reduceLE, Int.reduceLT, Int.reduceEq, Int.reduceToNat, reduceCtorEq, *])
  all_goals simp_all
theorem run_l1Cmp (d : Nat) (a b : ByteArray) : retP (runD tab noExt (d + 1)) 156 [.str a, .str b] = some [.int .i64 (cmpS a b)] := by
  rw [retP, runD_eq find156 _ _ _ (by simp)]
  simp -implicitDefEqProofs (disch := omega) only [go_sem, Nat.reduceBEq, Nat.reduceAdd, Nat.reduceSub, Nat.reduceMul, Nat.reduceLeDiff, Nat.reduceEqDiff, Nat.reduceLT, Int.reduceNeg, Int.reduceAdd, Int.reduceSub, Int.reduceMul, Int.reduceLE, Int.reduceLT, Int.reduceEq, Int.reduceToNat, reduceCtorEq, str_lt, str_gt]
  repeat' ((first | rw [GuardI_ndec] | rw [CondC_ndec] | rw [GuardQ_ndec] | rw [GuardI_dec] | rw [CondC_dec] | rw [GuardQ_dec] | rw [GuardI_nby] | rw [CondC_nby] | rw [GuardQ_nby] | rw [GuardQ_by] | rw [GuardI_by] | rw [CondC_by]) <;> split <;> simp -implicitDefEqProofs (disch := omega) only [go_sem, Nat.reduceBEq, Nat.reduceAdd, Nat.reduceSub, Nat.reduceMul, Nat.reduceLeDiff, Nat.reduceEqDiff, Nat.reduceLT, Int.reduceNeg, Int.reduceAdd, Int.reduceSub, Int.reduceMul, Int.reduceLE, Int.reduceLT, Int.reduceEq, Int.reduceToNat, reduceCtorEq, str_lt, str_gt, *])
  all_goals (simp_all [cmpS]; try (have := str_gt a b; simp_all))
end Go.Proofs.Ytfbjbkkcilhgjaa.PE
/- What is known of values: what the functions come to. -/
set_option linter.unusedSimpArgs false
namespace Go.Proofs.Ytfbjbkkcilhgjaa.PE
open Go.RowKit

/-- What is known of values. -/
structure Kn where
  many : Int
  sum : Int
  least : Val
  most : Val
  deriving DecidableEq

def Val.ord (v w : Val) : Int := if v.ok && w.ok then v.cmp w else 0
def Val.zero : Val := ⟨0, 0, ⟨#[]⟩⟩
def Kn.zero : Kn := ⟨0, 0, .zero, .zero⟩
def Kn.ok (k : Kn) : Bool :=
  if k.many = 0 then decide (k = .zero)
  else decide (1 ≤ k.many) && decide (k.many ≤ 100) && (decide (-9999 * k.many ≤ k.sum) && decide (k.sum ≤ 9999 * k.many)) && k.least.ok && k.most.ok &&
    decide (k.least.kind = k.most.kind) && !decide (k.least.kind = 0) && decide (k.least.cmp k.most ≤ 0) && (decide (k.least.kind = 1) || decide (k.sum = 0))

theorem run_ValueOrder (d : Nat) (ak an : Int) (aq : ByteArray) (bk bn : Int) (bq : ByteArray) (ha : aq.size < 1099511627776) (hb : bq.size < 1099511627776) : retP (runD tab noExt (d + 3)) 109 [.agg [.int .i64 ak, .int .i64 an, .str aq], .agg [.int .i64 bk, .int .i64 bn, .str bq]] = some [.int .i64 (Val.ord (⟨ak, an, aq⟩ : Val) (⟨bk, bn, bq⟩ : Val))] := by
  rw [retP, runD_eq find109 _ _ _ (by simp)]
  simp -implicitDefEqProofs (disch := omega) only [go_sem, Nat.reduceBEq, Nat.reduceAdd, Nat.reduceSub, Nat.reduceMul, Nat.reduceLeDiff, Nat.reduceEqDiff, Nat.reduceLT, Int.reduceNeg, Int.reduceAdd, Int.reduceSub, Int.reduceMul, Int.reduceLE, Int.reduceLT, Int.reduceEq, Int.reduceToNat, reduceCtorEq, run_specValueOk, run_l1Less, run_l1Cmp, IntWalk.i64_in]
  repeat' ((first | rw [GuardI_ndec] | rw [CondC_ndec] | rw [GuardQ_ndec] | rw [GuardI_dec] | rw [CondC_dec] | rw [GuardQ_dec] | rw [GuardI_nby] | rw [CondC_nby] | rw [GuardQ_nby] | rw [GuardQ_by] | rw [GuardI_by] | rw [CondC_by]) <;> split <;> simp -implicitDefEqProofs (disch := omega) only [go_sem, Nat.reduceBEq, Nat.reduceAdd, Nat.reduceSub, Nat.reduceMul, Nat.reduceLeDiff, Nat.reduceEqDiff, Nat.reduceLT, Int.reduceNeg, Int.reduceAdd, Int.reduceSub, Int.reduceMul, Int.reduceLE, Int.reduceLT, Int.reduceEq, Int.reduceToNat, reduceCtorEq, run_specValueOk, run_l1Less, run_l1Cmp, IntWalk.i64_in, *])
  all_goals (simp_all [Val.ord]; try (unfold Val.cmp cmpI; repeat' split <;> simp_all <;> omega))
end Go.Proofs.Ytfbjbkkcilhgjaa.PE
/- The reader of the drawn bytes. -/
set_option linter.unusedSimpArgs false
set_option linter.unusedVariables false
namespace Go.Proofs.Ytfbjbkkcilhgjaa.PE
open Go.RowKit

/-- A number below n, or 0. -/
def Pk (n m : Int) : Prop := 0 ≤ m ∧ (m < n ∨ m = 0 ∧ n < 1)

-- find57
end Go.Proofs.Ytfbjbkkcilhgjaa.PE
/- Columns and rows: what the reference's small functions come to. -/
set_option linter.unusedSimpArgs false
set_option linter.unusedVariables false
set_option maxHeartbeats 4000000
namespace Go.Proofs.Ytfbjbkkcilhgjaa.PE
open Go.RowKit

structure Col where
  kind : Int
  empty : Bool
  deriving DecidableEq
def Col.cells (c : Col) : List V := [.int .i64 c.kind, .bool c.empty]
def Col.ok (c : Col) : Bool := decide (1 ≤ c.kind ∧ c.kind ≤ 3)
def colsOk (cs : List Col) : Bool := cs.all Col.ok && decide (cs.length ≤ 4)
/-- A row as it lies in a list of rows: whether it is clipped, and its values. -/
structure Row where
  clip : Bool
  vs : List Val
def Row.v (r : Row) : V := .sl r.clip 3 (r.vs.map Val.cells)
def Row.cells (r : Row) : List V := [r.v]
def short (vs : List Val) : Prop := ∀ v ∈ vs, v.s.size < 1099511627776
def rowOk (vs : List Val) : Bool := vs.all Val.ok && decide (vs.length ≤ 4)
theorem short_at {vs : List Val} (h : short vs) {i : Nat} {x : Val} (hx : vs[i]? = some x) : x.s.size < 1099511627776 := h x (List.mem_of_getElem? hx)

theorem loop_rowOk (d : Nat) (c : Bool) (vs : List Val) (hs : vs.length < 1099511627776) (hsh : short vs) (K : Nat) (hK : (vs).length ≤ K) : LoopS (runD tab noExt (d + 2)) (drawI (runD tab noExt (d + 2))) [0, 3] [0, 2] L138x0 ([] : Heap).length K [(0, .sl c 3 (vs.map Val.cells)), (3, .int .i64 0)] [] = if (vs).all (Val.ok) then (some (.exit 0, [(0, .sl c 3 (vs.map Val.cells)), (2, .undef)], []) : Out) else (some (.ret, [(0, .sl c 3 (vs.map Val.cells)), (2, .bool false)], []) : Out) := by
  have key := LoopS_all (run := (runD tab noExt (d + 2))) (draw := drawI (runD tab noExt (d + 2))) (live := [0, 3]) (out := [0, 2]) (c := L138x0) (n0 := ([] : Heap).length) (vs) (Val.ok) (fun (i : Nat) => [(0, .sl c 3 (vs.map Val.cells)), (3, .int .i64 i)]) [] (some (.exit 0, [(0, .sl c 3 (vs.map Val.cells)), (2, .undef)], []) : Out) (some (.ret, [(0, .sl c 3 (vs.map Val.cells)), (2, .bool false)], []) : Out) (fun K => ?_) (fun (i : Nat) (x : Val) K hi hx => ?_) K hK
  · simp only [Int.natCast_zero] at key
    exact key
  · rw [LoopS_eq]
    simp -implicitDefEqProofs only [go_sem, Nat.reduceBEq, Nat.reduceAdd, Nat.reduceSub, Nat.reduceMul, Nat.reduceLeDiff, Nat.reduceEqDiff, Nat.reduceLT, Int.reduceNeg, Int.reduceAdd, Int.reduceSub, Int.reduceMul, Int.reduceLE, Int.reduceLT, Int.reduceEq, Int.reduceToNat, reduceCtorEq, evL138x0, B138x0, Int.lt_irrefl, run_specValueOk, Val.cells, Val.eta]
  · have hxs := short_at hsh hx
    rw [LoopS_eq]
    simp -implicitDefEqProofs (disch := omega) only [go_sem, Nat.reduceBEq, Nat.reduceAdd, Nat.reduceSub, Nat.reduceMul, Nat.reduceLeDiff, Nat.reduceEqDiff, Nat.reduceLT, Int.reduceNeg, Int.reduceAdd, Int.reduceSub, Int.reduceMul, Int.reduceLE, Int.reduceLT, Int.reduceEq, Int.reduceToNat, reduceCtorEq, evL138x0, B138x0, hi, hx, IntWalk.i64_in, run_specValueOk, Val.cells, Val.eta, *]
    repeat' ((first | rw [GuardI_ndec] | rw [CondC_ndec] | rw [GuardQ_ndec] | rw [GuardI_dec] | rw [CondC_dec] | rw [GuardQ_dec] | rw [GuardI_nby] | rw [CondC_nby] | rw [GuardQ_nby] | rw [GuardQ_by] | rw [GuardI_by] | rw [CondC_by]) <;> split <;> simp -implicitDefEqProofs (disch := omega) only [go_sem, Nat.reduceBEq, Nat.reduceAdd, Nat.reduceSub, Nat.reduceMul, Nat.reduceLeDiff, Nat.reduceEqDiff, Nat.reduceLT, Int.reduceNeg, Int.reduceAdd, Int.reduceSub, Int.reduceMul, Int.reduceLE, Int.reduceLT, Int.reduceEq, Int.reduceToNat, reduceCtorEq, hi, hx, IntWalk.i64_in, run_specValueOk, Val.cells, Val.eta, *, *])
    all_goals first | rfl | (simp_all []; done) | (simp_all []; omega)
-- find138
theorem run_rowOk (d : Nat) (c : Bool) (vs : List Val) (hs : vs.length < 1099511627776) (hsh : short vs) : retP (runD tab noExt (d + 3)) 138 [.sl c 3 (vs.map Val.cells)] = some [.bool (rowOk vs)] := by
  rw [retP, runD_eq find138 _ _ _ (by simp)]
  have hl := loop_rowOk d c vs hs hsh 1099511627775 (by omega)
  simp -implicitDefEqProofs only [go_sem, Nat.reduceBEq, Nat.reduceAdd, Nat.reduceSub, Nat.reduceMul, Nat.reduceLeDiff, Nat.reduceEqDiff, Nat.reduceLT, Int.reduceNeg, Int.reduceAdd, Int.reduceSub, Int.reduceMul, Int.reduceLE, Int.reduceLT, Int.reduceEq, Int.reduceToNat, reduceCtorEq] at hl ⊢
  rw [hl]
  split <;> simp -implicitDefEqProofs only [go_sem, Nat.reduceBEq, Nat.reduceAdd, Nat.reduceSub, Nat.reduceMul, Nat.reduceLeDiff, Nat.reduceEqDiff, Nat.reduceLT, Int.reduceNeg, Int.reduceAdd, Int.reduceSub, Int.reduceMul, Int.reduceLE, Int.reduceLT, Int.reduceEq, Int.reduceToNat, reduceCtorEq, rowOk, *]
  norm_cast

def fits1 (p : Col × Val) : Bool := decide (p.2.kind = p.1.kind) || (decide (p.2.kind = 0) && p.1.empty)
def fitsRow (cs : List Col) (vs : List Val) : Bool := colsOk cs && rowOk vs && decide (vs.length = cs.length) && (cs.zip vs).all fits1
def rowsFit (cs : List Col) (rs : List Row) : Bool := rs.all fun r => fitsRow cs r.vs
def rowsOk (cs : List Col) (rs : List Row) : Bool := rowsFit cs rs && colsOk cs
def Short (rs : List Row) : Prop := ∀ r ∈ rs, r.vs.length < 1099511627776 ∧ short r.vs
/-- Rows that are not too long for memory. -/
def Fine (rs : List Row) : Prop := rs.length < 4294967296 ∧ ∀ r ∈ rs, r.vs.length < 4294967296
end Go.Proofs.Ytfbjbkkcilhgjaa.PE
/- Lists that are looked through by a closure; columns and rows: the program's. -/
set_option linter.unusedSimpArgs false
set_option linter.unusedVariables false
set_option maxHeartbeats 4000000
namespace Go.Proofs.Ytfbjbkkcilhgjaa.PE
open Go.RowKit

def intC (n : Int) : List V := [.int .i64 n]
theorem loop_idxVal (d : Nat) (h : Heap) (c : Bool) (g : Nat) (caps : List V) (xs : List (Val)) (P : Val → Bool) (hs : xs.length < 1099511627776) (hhi : h.all (hiB h.length) = true) (hcap : caps.all (hi0 h.length) = true)
    (hg : ∀ x ∈ xs, callS (runD tab noExt d) h g (V.agg (Val.cells x) :: caps) false = some (.bool (P x), h)) (K : Nat) (hK : xs.length ≤ K) :
    LoopS (runD tab noExt d) (drawI (runD tab noExt d)) [0, 1, 7, 8] [4] L177x0 h.length K [(0, .sl c 3 (xs.map Val.cells)), (1, .clo g caps), (7, .int .i64 xs.length), (8, .int .i64 0)] h =
      (match xs.findIdx? P with
        | some k => (some (.ret, [(4, .int .i64 (k : Int))], h) : Out)
        | none => some (.exit 0, [(4, .undef)], h)) := by
  have key := LoopS_rec (run := runD tab noExt d) (draw := drawI (runD tab noExt d)) (live := [0, 1, 7, 8]) (out := [4]) (c := L177x0) (n0 := h.length) xs (fun (i : Nat) (_ : Unit) => [(0, .sl c 3 (xs.map Val.cells)), (1, .clo g caps), (7, .int .i64 xs.length), (8, .int .i64 i)]) (fun _ _ => h)
    (fun r _ => match r.findIdx? P with
        | some k => (some (.ret, [(4, .int .i64 (xs.length - r.length + k : Int))], h) : Out)
        | none => some (.exit 0, [(4, .undef)], h)) (fun _ K => ?_) (fun (i : Nat) x r _ K hi hx hr ih => ?_) K hK ()
  · simp only [Int.natCast_zero, Int.sub_self, Int.zero_add] at key
    exact key
  · rw [LoopS_eq]
    simp -implicitDefEqProofs only [go_sem, Nat.reduceBEq, Nat.reduceAdd, Nat.reduceSub, Nat.reduceMul, Nat.reduceLeDiff, Nat.reduceEqDiff, Nat.reduceLT, Int.reduceNeg, Int.reduceAdd, Int.reduceSub, Int.reduceMul, Int.reduceLE, Int.reduceLT, Int.reduceEq, Int.reduceToNat, reduceCtorEq, evL177x0, B177x0, hhi, hcap, Int.lt_irrefl, List.findIdx?_nil]
  · have hgx := hg x (List.mem_of_getElem? hx)
    try simp only [Val.cells] at hgx
    have hlen : (xs.length : Int) - (r.length + 1) = i := by omega
    rw [LoopS_eq]
    simp -implicitDefEqProofs (disch := omega) only [go_sem, Nat.reduceBEq, Nat.reduceAdd, Nat.reduceSub, Nat.reduceMul, Nat.reduceLeDiff, Nat.reduceEqDiff, Nat.reduceLT, Int.reduceNeg, Int.reduceAdd, Int.reduceSub, Int.reduceMul, Int.reduceLE, Int.reduceLT, Int.reduceEq, Int.reduceToNat, reduceCtorEq, evL177x0, B177x0, hhi, hcap, hi, hx, hgx, Val.cells, Val.cells, IntWalk.i64_in]
    rw [List.findIdx?_cons]
    cases hp : P x
    · simp -implicitDefEqProofs (disch := omega) only [go_sem, Nat.reduceBEq, Nat.reduceAdd, Nat.reduceSub, Nat.reduceMul, Nat.reduceLeDiff, Nat.reduceEqDiff, Nat.reduceLT, Int.reduceNeg, Int.reduceAdd, Int.reduceSub, Int.reduceMul, Int.reduceLE, Int.reduceLT, Int.reduceEq, Int.reduceToNat, reduceCtorEq, hhi, hcap, IntWalk.i64_in, hp]
      have ih' := ih ()
      simp only [Int.natCast_add, Int.natCast_one] at ih'
      rw [ih']
      cases hf : r.findIdx? P with
      | none => rfl
      | some k => simp; omega
    · simp -implicitDefEqProofs only [go_sem, Nat.reduceBEq, Nat.reduceAdd, Nat.reduceSub, Nat.reduceMul, Nat.reduceLeDiff, Nat.reduceEqDiff, Nat.reduceLT, Int.reduceNeg, Int.reduceAdd, Int.reduceSub, Int.reduceMul, Int.reduceLE, Int.reduceLT, Int.reduceEq, Int.reduceToNat, reduceCtorEq, hp, List.length_cons, Int.natCast_add, Int.natCast_one, hlen]
      simp
theorem idxVal (d : Nat) (h : Heap) (c : Bool) (g : Nat) (caps : List V) (xs : List (Val)) (P : Val → Bool) (hs : xs.length < 1099511627776) (hhi : h.all (hiB h.length) = true) (hcap : caps.all (hi0 h.length) = true)
    (hg : ∀ x ∈ xs, callS (runD tab noExt d) h g (V.agg (Val.cells x) :: caps) false = some (.bool (P x), h)) :
    callS (runD tab noExt (d + 1)) h 177 [.sl c 3 (xs.map Val.cells), .clo g caps] false = some (.int .i64 (match xs.findIdx? P with | some k => (k : Int) | none => -1), h) := by
  rw [callS_eq, runD_eq find177 _ _ _ (by simp)]
  have hl := loop_idxVal d h c g caps xs P hs hhi hcap hg 1099511627775 (by omega)
  simp -implicitDefEqProofs (disch := omega) only [go_sem, Nat.reduceBEq, Nat.reduceAdd, Nat.reduceSub, Nat.reduceMul, Nat.reduceLeDiff, Nat.reduceEqDiff, Nat.reduceLT, Int.reduceNeg, Int.reduceAdd, Int.reduceSub, Int.reduceMul, Int.reduceLE, Int.reduceLT, Int.reduceEq, Int.reduceToNat, reduceCtorEq, hhi, hcap]
  rw [hl]
  cases hf : xs.findIdx? P <;> simp -implicitDefEqProofs only [go_sem, Nat.reduceBEq, Nat.reduceAdd, Nat.reduceSub, Nat.reduceMul, Nat.reduceLeDiff, Nat.reduceEqDiff, Nat.reduceLT, Int.reduceNeg, Int.reduceAdd, Int.reduceSub, Int.reduceMul, Int.reduceLE, Int.reduceLT, Int.reduceEq, Int.reduceToNat, reduceCtorEq, hhi, hcap]
theorem conVal (d : Nat) (h : Heap) (c : Bool) (g : Nat) (caps : List V) (xs : List (Val)) (P : Val → Bool) (hs : xs.length < 1099511627776) (hhi : h.all (hiB h.length) = true) (hcap : caps.all (hi0 h.length) = true)
    (hg : ∀ x ∈ xs, callS (runD tab noExt d) h g (V.agg (Val.cells x) :: caps) false = some (.bool (P x), h)) :
    callS (runD tab noExt (d + 2)) h 135 [.sl c 3 (xs.map Val.cells), .clo g caps] false = some (.bool (xs.any P), h) := by
  rw [callS_eq, runD_eq find135 _ _ _ (by simp)]
  have hl := idxVal d h c g caps xs P hs hhi hcap hg
  simp -implicitDefEqProofs (disch := omega) only [go_sem, Nat.reduceBEq, Nat.reduceAdd, Nat.reduceSub, Nat.reduceMul, Nat.reduceLeDiff, Nat.reduceEqDiff, Nat.reduceLT, Int.reduceNeg, Int.reduceAdd, Int.reduceSub, Int.reduceMul, Int.reduceLE, Int.reduceLT, Int.reduceEq, Int.reduceToNat, reduceCtorEq, hl, hhi, hcap]
  have e : xs.any P = (xs.findIdx? P).isSome := by simp [List.findIdx?_isSome]
  rw [e]
  cases hf : xs.findIdx? P <;> simp -implicitDefEqProofs only [go_sem, Nat.reduceBEq, Nat.reduceAdd, Nat.reduceSub, Nat.reduceMul, Nat.reduceLeDiff, Nat.reduceEqDiff, Nat.reduceLT, Int.reduceNeg, Int.reduceAdd, Int.reduceSub, Int.reduceMul, Int.reduceLE, Int.reduceLT, Int.reduceEq, Int.reduceToNat, reduceCtorEq, Option.isSome_some, Option.isSome_none]

theorem clo_row (d : Nat) (h : Heap) (hh : h.all (hiB h.length) = true) (x : Val) : callS (runD tab noExt (d + 4)) h 136 [.agg (Val.cells x)] false = some (.bool (!x.ok), h) := by
  rw [callS_eq, runD_eq find136 _ _ _ (by simp)]
  simp -implicitDefEqProofs (disch := omega) only [go_sem, Nat.reduceBEq, Nat.reduceAdd, Nat.reduceSub, Nat.reduceMul, Nat.reduceLeDiff, Nat.reduceEqDiff, Nat.reduceLT, Int.reduceNeg, Int.reduceAdd, Int.reduceSub, Int.reduceMul, Int.reduceLE, Int.reduceLT, Int.reduceEq, Int.reduceToNat, reduceCtorEq, run_ok, Val.cells, hh, List.all_append, Val.eta]
-- find80
theorem run_rowOkI (d : Nat) (c : Bool) (vs : List Val) (hs : vs.length < 1099511627776) : retP (runD tab noExt (d + 7)) 80 [.sl c 3 (vs.map Val.cells)] = some [.bool (rowOk vs)] := by
  rw [retP, runD_eq find80 _ _ _ (by simp)]
  have hcon := conVal (d + 4) [] c 136 [] vs (fun x => !x.ok) hs rfl rfl (fun x _ => clo_row d [] rfl x)
  simp -implicitDefEqProofs (disch := omega) only [go_sem, Nat.reduceBEq, Nat.reduceAdd, Nat.reduceSub, Nat.reduceMul, Nat.reduceLeDiff, Nat.reduceEqDiff, Nat.reduceLT, Int.reduceNeg, Int.reduceAdd, Int.reduceSub, Int.reduceMul, Int.reduceLE, Int.reduceLT, Int.reduceEq, Int.reduceToNat, reduceCtorEq, hcon]
  repeat' ((first | rw [GuardI_ndec] | rw [CondC_ndec] | rw [GuardQ_ndec] | rw [GuardI_dec] | rw [CondC_dec] | rw [GuardQ_dec] | rw [GuardI_nby] | rw [CondC_nby] | rw [GuardQ_nby] | rw [GuardQ_by] | rw [GuardI_by] | rw [CondC_by]) <;> split <;> simp -implicitDefEqProofs (disch := omega) only [go_sem, Nat.reduceBEq, Nat.reduceAdd, Nat.reduceSub, Nat.reduceMul, Nat.reduceLeDiff, Nat.reduceEqDiff, Nat.reduceLT, Int.reduceNeg, Int.reduceAdd, Int.reduceSub, Int.reduceMul, Int.reduceLE, Int.reduceLT, Int.reduceEq, Int.reduceToNat, reduceCtorEq, hcon, *])
  all_goals (simp_all [rowOk, List.any_eq_not_all_not]; try omega)
end Go.Proofs.Ytfbjbkkcilhgjaa.PE
/- Writes: what is ok, in plain words; both functions tell it. -/
set_option linter.unusedSimpArgs false
set_option linter.unusedVariables false
set_option maxHeartbeats 4000000
namespace Go.Proofs.Ytfbjbkkcilhgjaa.PE
open Go.RowKit

structure Wr where
  key : Int
  row : Row
  gone : Bool
def Wr.cells (w : Wr) : List V := [.int .i64 w.key, w.row.v, .bool w.gone]
/-- Each element with the one ahead of it. -/
def prevsG {α : Type} : Option α → List α → List (Option α × α)
  | _, [] => []
  | o, v :: r => (o, v) :: prevsG (some v) r
theorem prevsG_len {α : Type} : ∀ (l : List α) (o : Option α), (prevsG o l).length = l.length
  | [], _ => rfl
  | v :: r, o => by simp [prevsG, prevsG_len r]
theorem prevsG_at {α : Type} : ∀ {l : List α} {o : Option α} {i : Nat} {p : Option α} {v : α}, (prevsG o l)[i]? = some (p, v) → l[i]? = some v ∧ (i = 0 → p = o) ∧ ∀ j, i = j + 1 → p = l[j]?
  | [], _, i, _, _, h => by simp [prevsG] at h
  | w :: r, o, 0, p, v, h => by
    simp only [prevsG, List.getElem?_cons_zero, Option.some.injEq, Prod.mk.injEq] at h
    obtain ⟨rfl, rfl⟩ := h
    exact ⟨rfl, fun _ => rfl, fun j hj => by omega⟩
  | w :: r, o, i + 1, p, v, h => by
    simp only [prevsG, List.getElem?_cons_succ] at h
    obtain ⟨h1, h2, h3⟩ := prevsG_at h
    refine ⟨by simpa using h1, fun e => by omega, fun j hj => ?_⟩
    have : j = i := by omega
    subst this
    cases j with
    | zero => rw [h2 rfl]; rfl
    | succ j => rw [h3 j rfl]; simp
def Wr.one (w : Wr) : Bool := decide (0 ≤ w.key ∧ w.key ≤ 4) && (rowOk w.row.vs && !(w.gone && decide ((0 : Int) < w.row.vs.length)))
def wrAhead (p : Option Wr) (v : Wr) : Bool := match p with
  | none => true
  | some q => decide (q.key < v.key)
def wrOk (p : Option Wr × Wr) : Bool := p.2.one && wrAhead p.1 p.2
def wrsOk (ws : List Wr) : Bool := (prevsG none ws).all wrOk
def ShortWs (ws : List Wr) : Prop := ∀ w ∈ ws, w.row.vs.length < 1099511627776 ∧ short w.row.vs
end Go.Proofs.Ytfbjbkkcilhgjaa.PE
/- Tallies: when they are ok, both functions. -/
set_option linter.unusedSimpArgs false
set_option linter.unusedVariables false
set_option maxHeartbeats 4000000
set_option maxRecDepth 20000
namespace Go.Proofs.Ytfbjbkkcilhgjaa.PE
open Go.RowKit

structure Tal where
  rc : Bool
  key : List Val
  rows : Int
  many : Int
  sum : Int
def Tal.cells (t : Tal) : List V := [.sl t.rc 3 (t.key.map Val.cells), .int .i64 t.rows, .int .i64 t.many, .int .i64 t.sum]
def Tal.one (t : Tal) : Bool := decide ((t.key.length : Int) = 1) && (rowOk t.key && (decide (1 ≤ t.rows ∧ t.rows ≤ 100) && (decide (0 ≤ t.many ∧ t.many ≤ t.rows) && decide (-9999 * t.many ≤ t.sum ∧ t.sum ≤ 9999 * t.many))))
def k0 (t : Tal) : Val := t.key.headD .zero
def talAhead (p : Option Tal) (t : Tal) : Bool := match p with
  | none => true
  | some w => decide ((k0 w).cmp (k0 t) < 0)
def talOk (p : Option Tal × Tal) : Bool := p.2.one && talAhead p.1 p.2
def talsOk (l : List Tal) : Bool := (prevsG none l).all talOk
def ShortT1 (l : List Tal) : Prop := ∀ t ∈ l, t.key.length < 1099511627776 ∧ short t.key
theorem Tal.one_key {t : Tal} (h : t.one = true) : ∃ v, t.key = [v] ∧ rowOk [v] = true ∧ v.ok = true := by
  unfold Tal.one at h
  simp only [Bool.and_eq_true, decide_eq_true_eq] at h
  obtain ⟨h1, h2, _⟩ := h
  obtain ⟨v, hv⟩ : ∃ v, t.key = [v] := List.length_eq_one_iff.1 (by omega)
  rw [hv] at h2
  refine ⟨v, hv, h2, ?_⟩
  unfold rowOk at h2
  simp at h2
  exact h2
-- find93
theorem run_tallyOk (d : Nat) (c : Bool) (vs : List Val) (hs : vs.length < 1099511627776) (a m s : Int) : retP (runD tab noExt (d + 8)) 93 [.agg [.sl c 3 (vs.map Val.cells), .int .i64 a, .int .i64 m, .int .i64 s]] = some [.bool (Tal.one ⟨c, vs, a, m, s⟩)] := by
  have hr := run_rowOkI d c vs hs
  unfold Tal.one
  simp only
  rw [retP, runD_eq find93 _ _ _ (by simp)]
  by_cases h1 : (vs.length : Int) = 1
  rotate_left
  · simp -implicitDefEqProofs (disch := omega) only [go_sem, Nat.reduceBEq, Nat.reduceAdd, Nat.reduceSub, Nat.reduceMul, Nat.reduceLeDiff, Nat.reduceEqDiff, Nat.reduceLT, Int.reduceNeg, Int.reduceAdd, Int.reduceSub, Int.reduceMul, Int.reduceLE, Int.reduceLT, Int.reduceEq, Int.reduceToNat, reduceCtorEq, hr, run_between, (eq_false h1 : ((vs.length : Int) = 1) = False)]
  cases h2 : rowOk vs
  · rw [h2] at hr
    simp -implicitDefEqProofs (disch := omega) only [go_sem, Nat.reduceBEq, Nat.reduceAdd, Nat.reduceSub, Nat.reduceMul, Nat.reduceLeDiff, Nat.reduceEqDiff, Nat.reduceLT, Int.reduceNeg, Int.reduceAdd, Int.reduceSub, Int.reduceMul, Int.reduceLE, Int.reduceLT, Int.reduceEq, Int.reduceToNat, reduceCtorEq, hr, run_between, (eq_true h1 : ((vs.length : Int) = 1) = True)]
  rw [h2] at hr
  by_cases h3 : 1 ≤ a ∧ a ≤ 100
  rotate_left
  · simp -implicitDefEqProofs (disch := omega) only [go_sem, Nat.reduceBEq, Nat.reduceAdd, Nat.reduceSub, Nat.reduceMul, Nat.reduceLeDiff, Nat.reduceEqDiff, Nat.reduceLT, Int.reduceNeg, Int.reduceAdd, Int.reduceSub, Int.reduceMul, Int.reduceLE, Int.reduceLT, Int.reduceEq, Int.reduceToNat, reduceCtorEq, hr, run_between, (eq_true h1 : ((vs.length : Int) = 1) = True), (eq_false h3 : (1 ≤ a ∧ a ≤ 100) = False)]
  by_cases h4 : 0 ≤ m ∧ m ≤ a
  rotate_left
  · simp -implicitDefEqProofs (disch := omega) only [go_sem, Nat.reduceBEq, Nat.reduceAdd, Nat.reduceSub, Nat.reduceMul, Nat.reduceLeDiff, Nat.reduceEqDiff, Nat.reduceLT, Int.reduceNeg, Int.reduceAdd, Int.reduceSub, Int.reduceMul, Int.reduceLE, Int.reduceLT, Int.reduceEq, Int.reduceToNat, reduceCtorEq, hr, run_between, (eq_true h1 : ((vs.length : Int) = 1) = True), (eq_true h3 : (1 ≤ a ∧ a ≤ 100) = True), (eq_false h4 : (0 ≤ m ∧ m ≤ a) = False)]
  by_cases h5 : -9999 * m ≤ s ∧ s ≤ 9999 * m <;> simp -implicitDefEqProofs (disch := omega) only [go_sem, Nat.reduceBEq, Nat.reduceAdd, Nat.reduceSub, Nat.reduceMul, Nat.reduceLeDiff, Nat.reduceEqDiff, Nat.reduceLT, Int.reduceNeg, Int.reduceAdd, Int.reduceSub, Int.reduceMul, Int.reduceLE, Int.reduceLT, Int.reduceEq, Int.reduceToNat, reduceCtorEq, hr, run_between, IntWalk.i64_in, (eq_true h1 : ((vs.length : Int) = 1) = True), (eq_true h3 : (1 ≤ a ∧ a ≤ 100) = True), (eq_true h4 : (0 ≤ m ∧ m ≤ a) = True), h5]
-- find108
theorem clo_orderT (d : Nat) (h : Heap) (hp : plainH h = true) (ak an : Int) (aq : ByteArray) (bk bn : Int) (bq : ByteArray) : callS (runD tab noExt (d + 3)) h 108 [.agg [.int .i64 ak, .int .i64 an, .str aq], .agg [.int .i64 bk, .int .i64 bn, .str bq]] false = some (.int .i64 (Val.cmp (⟨ak, an, aq⟩ : Val) (⟨bk, bn, bq⟩ : Val)), h) := by
  have hh : ∀ n, h.all (hiB n) = true := fun n => plainH_hi hp n
  rw [callS_eq, runD_eq find108 _ _ _ (by simp)]
  simp -implicitDefEqProofs (disch := omega) only [go_sem, Nat.reduceBEq, Nat.reduceAdd, Nat.reduceSub, Nat.reduceMul, Nat.reduceLeDiff, Nat.reduceEqDiff, Nat.reduceLT, Int.reduceNeg, Int.reduceAdd, Int.reduceSub, Int.reduceMul, Int.reduceLE, Int.reduceLT, Int.reduceEq, Int.reduceToNat, reduceCtorEq, hh, List.all_append, run_cmpI, run_cmpS, run_Or3, evC_draw, evD108x0, E108x0, elemsOf, elemOf, refsV, refs, refC, List.flatMap_cons, List.flatMap_nil, frzs, List.append_nil, Val.cmp]
-- find146
theorem run_cmpFn (d : Nat) (c c' : Bool) (ak an : Int) (aq : ByteArray) (bk bn : Int) (bq : ByteArray) : callS (runD tab noExt (d + 4)) [] 146 [.sl c 3 [[.int .i64 ak, .int .i64 an, .str aq]], .sl c' 3 [[.int .i64 bk, .int .i64 bn, .str bq]], .clo 108 []] false = some (.int .i64 (Val.cmp (⟨ak, an, aq⟩ : Val) (⟨bk, bn, bq⟩ : Val)), []) := by
  have hc := clo_orderT d [.box [.int .i64 ak, .int .i64 an, .str aq], .box [.int .i64 bk, .int .i64 bn, .str bq]] (by simp [plainH_cons, plainH_nil, plainB, hi0]) ak an aq bk bn bq
  rw [callS_eq, runD_eq find146 _ _ _ (by simp)]
  by_cases h0 : Val.cmp (⟨ak, an, aq⟩ : Val) (⟨bk, bn, bq⟩ : Val) = 0
  · simp -implicitDefEqProofs (disch := omega) only [go_sem, Nat.reduceBEq, Nat.reduceAdd, Nat.reduceSub, Nat.reduceMul, Nat.reduceLeDiff, Nat.reduceEqDiff, Nat.reduceLT, Int.reduceNeg, Int.reduceAdd, Int.reduceSub, Int.reduceMul, Int.reduceLE, Int.reduceLT, Int.reduceEq, Int.reduceToNat, reduceCtorEq, LoopS_eq, evL146x0, B146x0, hc, h0, Int.toNat_zero, Int.toNat_one, IntWalk.i64_in]
  · simp -implicitDefEqProofs (disch := omega) only [go_sem, Nat.reduceBEq, Nat.reduceAdd, Nat.reduceSub, Nat.reduceMul, Nat.reduceLeDiff, Nat.reduceEqDiff, Nat.reduceLT, Int.reduceNeg, Int.reduceAdd, Int.reduceSub, Int.reduceMul, Int.reduceLE, Int.reduceLT, Int.reduceEq, Int.reduceToNat, reduceCtorEq, LoopS_eq, evL146x0, B146x0, hc, h0, Int.toNat_zero, Int.toNat_one, IntWalk.i64_in]
theorem run_Or2 (d : Nat) (a b : Int) : retP (runD tab noExt (d + 1)) 145 [.sl true 1 [[.int .i64 a], [.int .i64 b]]] = some [.int .i64 (if a ≠ 0 then a else b)] := by
  rw [retP, runD_eq find145 _ _ _ (by simp)]
  simp -implicitDefEqProofs (disch := omega) only [go_sem, Nat.reduceBEq, Nat.reduceAdd, Nat.reduceSub, Nat.reduceMul, Nat.reduceLeDiff, Nat.reduceEqDiff, Nat.reduceLT, Int.reduceNeg, Int.reduceAdd, Int.reduceSub, Int.reduceMul, Int.reduceLE, Int.reduceLT, Int.reduceEq, Int.reduceToNat, reduceCtorEq, LoopS_eq, evL145x0, B145x0, IntWalk.i64_in, Int.cast_ofNat_Int]
  repeat' ((first | rw [GuardI_ndec] | rw [CondC_ndec] | rw [GuardQ_ndec] | rw [GuardI_dec] | rw [CondC_dec] | rw [GuardQ_dec] | rw [GuardI_nby] | rw [CondC_nby] | rw [GuardQ_nby] | rw [GuardQ_by] | rw [GuardI_by] | rw [CondC_by]) <;> split <;> simp -implicitDefEqProofs (disch := omega) only [go_sem, Nat.reduceBEq, Nat.reduceAdd, Nat.reduceSub, Nat.reduceMul, Nat.reduceLeDiff, Nat.reduceEqDiff, Nat.reduceLT, Int.reduceNeg, Int.reduceAdd, Int.reduceSub, Int.reduceMul, Int.reduceLE, Int.reduceLT, Int.reduceEq, Int.reduceToNat, reduceCtorEq, LoopS_eq, evL145x0, B145x0, IntWalk.i64_in, Int.cast_ofNat_Int, *])
  all_goals simp_all
-- find94
theorem run_rowOrder (d : Nat) (c c' : Bool) (a b : Val) : retP (runD tab noExt (d + 5)) 94 [.sl c 3 [a.cells], .sl c' 3 [b.cells]] = some [.int .i64 (Val.cmp a b)] := by
  obtain ⟨ak, an, aq⟩ := a
  obtain ⟨bk, bn, bq⟩ := b
  have hc := run_cmpFn d c c' ak an aq bk bn bq
  have hi := run_cmpI (d + 2) 1 1
  have e11 : cmpI 1 1 = 0 := by decide
  rw [e11] at hi
  simp only [Val.cells]
  rw [retP, runD_eq find94 _ _ _ (by simp)]
  generalize Val.cmp ⟨ak, an, aq⟩ ⟨bk, bn, bq⟩ = x at hc ⊢
  by_cases h0 : x = 0
  · subst h0
    simp -implicitDefEqProofs (disch := omega) only [go_sem, Nat.reduceBEq, Nat.reduceAdd, Nat.reduceSub, Nat.reduceMul, Nat.reduceLeDiff, Nat.reduceEqDiff, Nat.reduceLT, Int.reduceNeg, Int.reduceAdd, Int.reduceSub, Int.reduceMul, Int.reduceLE, Int.reduceLT, Int.reduceEq, Int.reduceToNat, reduceCtorEq, hc, hi, run_Or2]
  · simp -implicitDefEqProofs (disch := omega) only [go_sem, Nat.reduceBEq, Nat.reduceAdd, Nat.reduceSub, Nat.reduceMul, Nat.reduceLeDiff, Nat.reduceEqDiff, Nat.reduceLT, Int.reduceNeg, Int.reduceAdd, Int.reduceSub, Int.reduceMul, Int.reduceLE, Int.reduceLT, Int.reduceEq, Int.reduceToNat, reduceCtorEq, hc, hi, run_Or2, h0, ne_eq, not_false_eq_true, if_true]
theorem ord_okT {a b : Val} (h : a.ok = true) (h' : b.ok = true) : a.ord b = a.cmp b := by simp [Val.ord, h, h']
-- find139
theorem run_RowOrder1 (d : Nat) (c c' : Bool) (a b : Val) (ha : rowOk [a] = true) (hb : rowOk [b] = true) (oa : a.ok = true) (ob : b.ok = true) (sa : a.s.size < 1099511627776) (sb : b.s.size < 1099511627776) : retP (runD tab noExt (d + 5)) 139 [.sl c 3 [a.cells], .sl c' 3 [b.cells]] = some [.int .i64 (Val.cmp a b)] := by
  have r1 := run_rowOk (d + 1) c [a] (by simp) (by intro v hv; rw [List.mem_singleton.1 hv]; exact sa)
  have r2 := run_rowOk (d + 1) c' [b] (by simp) (by intro v hv; rw [List.mem_singleton.1 hv]; exact sb)
  rw [ha] at r1
  rw [hb] at r2
  have e := ord_okT oa ob
  obtain ⟨ak, an, aq⟩ := a
  obtain ⟨bk, bn, bq⟩ := b
  have hv := run_ValueOrder (d + 1) ak an aq bk bn bq sa sb
  rw [e] at hv
  simp only [List.map_cons, List.map_nil, Val.cells] at r1 r2 ⊢
  rw [retP, runD_eq find139 _ _ _ (by simp)]
  generalize Val.cmp ⟨ak, an, aq⟩ ⟨bk, bn, bq⟩ = x at hv ⊢
  by_cases h0 : x = 0
  · subst h0
    simp -implicitDefEqProofs (disch := omega) only [go_sem, Nat.reduceBEq, Nat.reduceAdd, Nat.reduceSub, Nat.reduceMul, Nat.reduceLeDiff, Nat.reduceEqDiff, Nat.reduceLT, Int.reduceNeg, Int.reduceAdd, Int.reduceSub, Int.reduceMul, Int.reduceLE, Int.reduceLT, Int.reduceEq, Int.reduceToNat, reduceCtorEq, r1, r2, LoopS_eq, evL139x0, B139x0, evC_draw, evD139x0, E139x0, hv, run_l1Less, Int.toNat_zero, Int.toNat_one, IntWalk.i64_in]
  · simp -implicitDefEqProofs (disch := omega) only [go_sem, Nat.reduceBEq, Nat.reduceAdd, Nat.reduceSub, Nat.reduceMul, Nat.reduceLeDiff, Nat.reduceEqDiff, Nat.reduceLT, Int.reduceNeg, Int.reduceAdd, Int.reduceSub, Int.reduceMul, Int.reduceLE, Int.reduceLT, Int.reduceEq, Int.reduceToNat, reduceCtorEq, r1, r2, LoopS_eq, evL139x0, B139x0, evC_draw, evD139x0, E139x0, hv, h0, run_l1Less, Int.toNat_zero, Int.toNat_one, IntWalk.i64_in]
-- find36
theorem loop_talI (d : Nat) (c : Bool) (l : List Tal) (hs : l.length < 1099511627776) (hsh : ShortT1 l) (K : Nat) (hK : (prevsG none l).length ≤ K) :
    LoopS (runD tab noExt (d + 8)) (drawI (runD tab noExt (d + 8))) [0, 5, 6, 7] [2] L36x0 0 K [(0, .sl c 4 (l.map Tal.cells)), (5, .sl c 4 (l.map Tal.cells)), (6, .int .i64 l.length), (7, .int .i64 0)] [] = if (prevsG none l).all talOk then (some (.exit 0, [(2, .undef)], []) : Out) else some (.ret, [(2, .bool false)], []) := by
  have key := LoopS_allP (run := (runD tab noExt (d + 8))) (draw := drawI (runD tab noExt (d + 8))) (live := [0, 5, 6, 7]) (out := [2]) (c := L36x0) (n0 := 0) (prevsG none l) talOk (fun (i : Nat) => [(0, .sl c 4 (l.map Tal.cells)), (5, .sl c 4 (l.map Tal.cells)), (6, .int .i64 l.length), (7, .int .i64 (i : Int))]) [] (some (.exit 0, [(2, .undef)], [])) (some (.ret, [(2, .bool false)], [])) (fun K => ?_) (fun (i : Nat) x K hi hx0 hbef => ?_) K hK
  · simp only [Int.natCast_zero] at key
    exact key
  · rw [LoopS_eq, prevsG_len]
    simp -implicitDefEqProofs only [go_sem, Nat.reduceBEq, Nat.reduceAdd, Nat.reduceSub, Nat.reduceMul, Nat.reduceLeDiff, Nat.reduceEqDiff, Nat.reduceLT, Int.reduceNeg, Int.reduceAdd, Int.reduceSub, Int.reduceMul, Int.reduceLE, Int.reduceLT, Int.reduceEq, Int.reduceToNat, reduceCtorEq, evL36x0, B36x0, Int.lt_irrefl]
  · obtain ⟨p, v⟩ := x
    rw [prevsG_len] at hi
    obtain ⟨hx, g2, g3⟩ := prevsG_at hx0
    obtain ⟨h1, h2⟩ := hsh v (List.mem_of_getElem? hx)
    have hr := run_tallyOk d v.rc v.key h1 v.rows v.many v.sum
    rw [LoopS_eq]
    have e0 : Tal.one ⟨v.rc, v.key, v.rows, v.many, v.sum⟩ = v.one := rfl
    rw [e0] at hr
    cases k1 : v.one
    · rw [k1] at hr
      have e : talOk (p, v) = false := by unfold talOk; simp only [k1, Bool.false_and]
      rw [e]
      simp -implicitDefEqProofs (disch := omega) only [go_sem, Nat.reduceBEq, Nat.reduceAdd, Nat.reduceSub, Nat.reduceMul, Nat.reduceLeDiff, Nat.reduceEqDiff, Nat.reduceLT, Int.reduceNeg, Int.reduceAdd, Int.reduceSub, Int.reduceMul, Int.reduceLE, Int.reduceLT, Int.reduceEq, Int.reduceToNat, reduceCtorEq, evL36x0, B36x0, evC_draw, evD36x0, E36x0, IntWalk.i64_in, Tal.cells, hr, hx, beq_ft, beq_tf, Bool.true_or, Bool.false_or, hi]
    rw [k1] at hr
    cases i with
    | zero =>
      obtain rfl := g2 rfl
      have hi0 : (0 : Int) < l.length := by omega
      have e : talOk (none, v) = true := by unfold talOk; simp only [k1, talAhead, Bool.true_and]
      rw [e]
      simp -implicitDefEqProofs (disch := omega) only [go_sem, Nat.reduceBEq, Nat.reduceAdd, Nat.reduceSub, Nat.reduceMul, Nat.reduceLeDiff, Nat.reduceEqDiff, Nat.reduceLT, Int.reduceNeg, Int.reduceAdd, Int.reduceSub, Int.reduceMul, Int.reduceLE, Int.reduceLT, Int.reduceEq, Int.reduceToNat, reduceCtorEq, evL36x0, B36x0, evC_draw, evD36x0, E36x0, IntWalk.i64_in, Tal.cells, hr, hx, beq_ft, beq_tf, Bool.true_or, Bool.false_or, hi0, Int.natCast_zero, Int.lt_irrefl]
    | succ j =>
      have hj : j < l.length := by omega
      have hw := List.getElem?_eq_getElem hj
      obtain rfl := (g3 j rfl).trans hw
      generalize l[j] = w at hw hx0
      have hpj : j < (prevsG none l).length := by rw [prevsG_len]; exact hj
      have ho := hbef j ((prevsG none l)[j]) (by omega) (List.getElem?_eq_getElem hpj)
      have hpq := List.getElem?_eq_getElem hpj
      generalize (prevsG none l)[j] = pq at ho hpq
      obtain ⟨q, w'⟩ := pq
      obtain ⟨hw', _, _⟩ := prevsG_at hpq
      obtain rfl : w' = w := by rw [hw] at hw'; injection hw' with h; exact h.symm
      have k2 : w'.one = true := by unfold talOk at ho; simp only [Bool.and_eq_true] at ho; exact ho.1
      obtain ⟨kv, hkv, _, _⟩ := Tal.one_key k1
      obtain ⟨kw, hkw, _, _⟩ := Tal.one_key k2
      have e : talOk (some w', v) = decide (kw.cmp kv < 0) := by unfold talOk; simp only [k1, talAhead, Bool.true_and, k0, hkv, hkw, List.headD_cons]
      have hord := run_rowOrder (d + 3) w'.rc v.rc kw kv
      rw [e]
      obtain ⟨vc, vkey, va, vm, vsum⟩ := v
      obtain ⟨wc, wkey, wa, wm, wsum⟩ := w'
      simp only at hkv hkw
      subst hkv hkw
      simp only [List.map_cons, List.map_nil] at hr hord
      have hp : (0 : Int) < (j : Int) + 1 := by omega
      have hj' : (j : Int) < l.length := by omega
      have hp0 : (0 : Int) ≤ (j : Int) + 1 := by omega
      have htn : ((j : Int) + 1).toNat = j + 1 := by omega
      have hi' : (j : Int) + 1 < l.length := by omega
      generalize Val.cmp kw kv = x at hord ⊢
      by_cases k5 : x < 0
      · have k6 : ¬ 0 ≤ x := by omega
        simp -implicitDefEqProofs (disch := omega) only [go_sem, Nat.reduceBEq, Nat.reduceAdd, Nat.reduceSub, Nat.reduceMul, Nat.reduceLeDiff, Nat.reduceEqDiff, Nat.reduceLT, Int.reduceNeg, Int.reduceAdd, Int.reduceSub, Int.reduceMul, Int.reduceLE, Int.reduceLT, Int.reduceEq, Int.reduceToNat, reduceCtorEq, evL36x0, B36x0, evC_draw, evD36x0, E36x0, IntWalk.i64_in, Tal.cells, hr, hx, beq_ft, beq_tf, Bool.true_or, Bool.false_or, hi', hj', hp0, htn, hp, hw, hord, List.map_cons, List.map_nil, Int.add_sub_cancel, Int.add_assoc, (eq_true k5 : (x < 0) = True), (eq_false k6 : (0 ≤ x) = False)]
      · have k6 : 0 ≤ x := by omega
        simp -implicitDefEqProofs (disch := omega) only [go_sem, Nat.reduceBEq, Nat.reduceAdd, Nat.reduceSub, Nat.reduceMul, Nat.reduceLeDiff, Nat.reduceEqDiff, Nat.reduceLT, Int.reduceNeg, Int.reduceAdd, Int.reduceSub, Int.reduceMul, Int.reduceLE, Int.reduceLT, Int.reduceEq, Int.reduceToNat, reduceCtorEq, evL36x0, B36x0, evC_draw, evD36x0, E36x0, IntWalk.i64_in, Tal.cells, hr, hx, beq_ft, beq_tf, Bool.true_or, Bool.false_or, hi', hj', hp0, htn, hp, hw, hord, List.map_cons, List.map_nil, Int.add_sub_cancel, Int.add_assoc, (eq_false k5 : (x < 0) = False), (eq_true k6 : (0 ≤ x) = True)]
theorem run_talsI (d : Nat) (c : Bool) (l : List Tal) (hs : l.length < 1099511627776) (hsh : ShortT1 l) : retP (runD tab noExt (d + 9)) 36 [.sl c 4 (l.map Tal.cells)] = some [.bool (talsOk l)] := by
  rw [retP, runD_eq find36 _ _ _ (by simp)]
  have hl := loop_talI d c l hs hsh 1099511627775 (by rw [prevsG_len]; omega)
  simp -implicitDefEqProofs (disch := omega) only [go_sem, Nat.reduceBEq, Nat.reduceAdd, Nat.reduceSub, Nat.reduceMul, Nat.reduceLeDiff, Nat.reduceEqDiff, Nat.reduceLT, Int.reduceNeg, Int.reduceAdd, Int.reduceSub, Int.reduceMul, Int.reduceLE, Int.reduceLT, Int.reduceEq, Int.reduceToNat, reduceCtorEq]
  rw [hl]
  unfold talsOk
  cases h : (prevsG none l).all talOk <;> simp -implicitDefEqProofs (disch := omega) only [go_sem, Nat.reduceBEq, Nat.reduceAdd, Nat.reduceSub, Nat.reduceMul, Nat.reduceLeDiff, Nat.reduceEqDiff, Nat.reduceLT, Int.reduceNeg, Int.reduceAdd, Int.reduceSub, Int.reduceMul, Int.reduceLE, Int.reduceLT, Int.reduceEq, Int.reduceToNat, reduceCtorEq]
-- find83
theorem loop_talS (d : Nat) (c : Bool) (l : List Tal) (hs : l.length < 1099511627776) (hsh : ShortT1 l) (K : Nat) (hK : (prevsG none l).length ≤ K) :
    LoopS (runD tab noExt (d + 5)) (drawI (runD tab noExt (d + 5))) [0, 3] [2] L83x0 0 K [(0, .sl c 4 (l.map Tal.cells)), (3, .int .i64 0)] [] = if (prevsG none l).all talOk then (some (.exit 0, [(2, .undef)], []) : Out) else some (.ret, [(2, .bool false)], []) := by
  have key := LoopS_allP (run := (runD tab noExt (d + 5))) (draw := drawI (runD tab noExt (d + 5))) (live := [0, 3]) (out := [2]) (c := L83x0) (n0 := 0) (prevsG none l) talOk (fun (i : Nat) => [(0, .sl c 4 (l.map Tal.cells)), (3, .int .i64 (i : Int))]) [] (some (.exit 0, [(2, .undef)], [])) (some (.ret, [(2, .bool false)], [])) (fun K => ?_) (fun (i : Nat) x K hi hx0 hbef => ?_) K hK
  · simp only [Int.natCast_zero] at key
    exact key
  · rw [LoopS_eq, prevsG_len]
    simp -implicitDefEqProofs only [go_sem, Nat.reduceBEq, Nat.reduceAdd, Nat.reduceSub, Nat.reduceMul, Nat.reduceLeDiff, Nat.reduceEqDiff, Nat.reduceLT, Int.reduceNeg, Int.reduceAdd, Int.reduceSub, Int.reduceMul, Int.reduceLE, Int.reduceLT, Int.reduceEq, Int.reduceToNat, reduceCtorEq, evL83x0, B83x0, Int.lt_irrefl]
  · obtain ⟨p, v⟩ := x
    rw [prevsG_len] at hi
    obtain ⟨hx, g2, g3⟩ := prevsG_at hx0
    obtain ⟨h1, h2⟩ := hsh v (List.mem_of_getElem? hx)
    have hr := run_rowOk (d + 2) v.rc v.key h1 h2
    rw [LoopS_eq]
    obtain ⟨vc, vs, a, m, s⟩ := v
    simp only at hr h1 h2
    have bad : Tal.one ⟨vc, vs, a, m, s⟩ = false → ∀ (A B : Out), (if talOk (p, ⟨vc, vs, a, m, s⟩) = true then A else B) = B := fun h A B => by simp only [talOk, h, Bool.false_and, Bool.false_eq_true, if_false]
    cases c2 : rowOk vs
    · rw [bad (by simp [Tal.one, c2])]
      rw [c2] at hr
      simp -implicitDefEqProofs (disch := omega) only [go_sem, Nat.reduceBEq, Nat.reduceAdd, Nat.reduceSub, Nat.reduceMul, Nat.reduceLeDiff, Nat.reduceEqDiff, Nat.reduceLT, Int.reduceNeg, Int.reduceAdd, Int.reduceSub, Int.reduceMul, Int.reduceLE, Int.reduceLT, Int.reduceEq, Int.reduceToNat, reduceCtorEq, evL83x0, B83x0, evC_draw, evD83x0, E83x0, IntWalk.i64_in, Tal.cells, hr, hx, beq_ft, beq_tf, Bool.true_or, Bool.false_or, hi]
    rw [c2] at hr
    by_cases c1 : (vs.length : Int) = 1
    rotate_left
    · rw [bad (by simp only [Tal.one, decide_eq_false c1, Bool.false_and])]
      simp -implicitDefEqProofs (disch := omega) only [go_sem, Nat.reduceBEq, Nat.reduceAdd, Nat.reduceSub, Nat.reduceMul, Nat.reduceLeDiff, Nat.reduceEqDiff, Nat.reduceLT, Int.reduceNeg, Int.reduceAdd, Int.reduceSub, Int.reduceMul, Int.reduceLE, Int.reduceLT, Int.reduceEq, Int.reduceToNat, reduceCtorEq, evL83x0, B83x0, evC_draw, evD83x0, E83x0, IntWalk.i64_in, Tal.cells, hr, hx, beq_ft, beq_tf, Bool.true_or, Bool.false_or, hi, (eq_false c1 : ((vs.length : Int) = 1) = False)]
    by_cases c3 : 1 ≤ a ∧ a ≤ 100
    rotate_left
    · rw [bad (by simp only [Tal.one, decide_eq_false c3, Bool.false_and, Bool.and_false])]
      simp -implicitDefEqProofs (disch := omega) only [go_sem, Nat.reduceBEq, Nat.reduceAdd, Nat.reduceSub, Nat.reduceMul, Nat.reduceLeDiff, Nat.reduceEqDiff, Nat.reduceLT, Int.reduceNeg, Int.reduceAdd, Int.reduceSub, Int.reduceMul, Int.reduceLE, Int.reduceLT, Int.reduceEq, Int.reduceToNat, reduceCtorEq, evL83x0, B83x0, evC_draw, evD83x0, E83x0, IntWalk.i64_in, Tal.cells, hr, hx, beq_ft, beq_tf, Bool.true_or, Bool.false_or, hi, run_l1In, (eq_true c1 : ((vs.length : Int) = 1) = True), (eq_false c3 : (1 ≤ a ∧ a ≤ 100) = False)]
    by_cases c4 : 0 ≤ m ∧ m ≤ a
    rotate_left
    · rw [bad (by simp only [Tal.one, decide_eq_false c4, Bool.false_and, Bool.and_false])]
      simp -implicitDefEqProofs (disch := omega) only [go_sem, Nat.reduceBEq, Nat.reduceAdd, Nat.reduceSub, Nat.reduceMul, Nat.reduceLeDiff, Nat.reduceEqDiff, Nat.reduceLT, Int.reduceNeg, Int.reduceAdd, Int.reduceSub, Int.reduceMul, Int.reduceLE, Int.reduceLT, Int.reduceEq, Int.reduceToNat, reduceCtorEq, evL83x0, B83x0, evC_draw, evD83x0, E83x0, IntWalk.i64_in, Tal.cells, hr, hx, beq_ft, beq_tf, Bool.true_or, Bool.false_or, hi, run_l1In, (eq_true c1 : ((vs.length : Int) = 1) = True), (eq_true c3 : (1 ≤ a ∧ a ≤ 100) = True), (eq_false c4 : (0 ≤ m ∧ m ≤ a) = False)]
    by_cases c5 : -9999 * m ≤ s ∧ s ≤ 9999 * m
    rotate_left
    · rw [bad (by simp only [Tal.one, decide_eq_false c5, Bool.false_and, Bool.and_false])]
      simp -implicitDefEqProofs (disch := omega) only [go_sem, Nat.reduceBEq, Nat.reduceAdd, Nat.reduceSub, Nat.reduceMul, Nat.reduceLeDiff, Nat.reduceEqDiff, Nat.reduceLT, Int.reduceNeg, Int.reduceAdd, Int.reduceSub, Int.reduceMul, Int.reduceLE, Int.reduceLT, Int.reduceEq, Int.reduceToNat, reduceCtorEq, evL83x0, B83x0, evC_draw, evD83x0, E83x0, IntWalk.i64_in, Tal.cells, hr, hx, beq_ft, beq_tf, Bool.true_or, Bool.false_or, hi, run_l1In, (eq_true c1 : ((vs.length : Int) = 1) = True), (eq_true c3 : (1 ≤ a ∧ a ≤ 100) = True), (eq_true c4 : (0 ≤ m ∧ m ≤ a) = True), (eq_false c5 : (-9999 * m ≤ s ∧ s ≤ 9999 * m) = False)]
    have k1 : Tal.one ⟨vc, vs, a, m, s⟩ = true := by simp only [Tal.one, decide_eq_true c1, c2, decide_eq_true c3, decide_eq_true c4, decide_eq_true c5, Bool.and_self]
    cases i with
    | zero =>
      obtain rfl := g2 rfl
      have hi0 : (0 : Int) < l.length := by omega
      have e : talOk (none, ⟨vc, vs, a, m, s⟩) = true := by unfold talOk; simp only [k1, talAhead, Bool.true_and]
      rw [e]
      simp -implicitDefEqProofs (disch := omega) only [go_sem, Nat.reduceBEq, Nat.reduceAdd, Nat.reduceSub, Nat.reduceMul, Nat.reduceLeDiff, Nat.reduceEqDiff, Nat.reduceLT, Int.reduceNeg, Int.reduceAdd, Int.reduceSub, Int.reduceMul, Int.reduceLE, Int.reduceLT, Int.reduceEq, Int.reduceToNat, reduceCtorEq, evL83x0, B83x0, evC_draw, evD83x0, E83x0, IntWalk.i64_in, Tal.cells, hr, hx, beq_ft, beq_tf, Bool.true_or, Bool.false_or, hi0, run_l1In, (eq_true c1 : ((vs.length : Int) = 1) = True), (eq_true c3 : (1 ≤ a ∧ a ≤ 100) = True), (eq_true c4 : (0 ≤ m ∧ m ≤ a) = True), (eq_true c5 : (-9999 * m ≤ s ∧ s ≤ 9999 * m) = True), Int.natCast_zero, Int.lt_irrefl]
    | succ j =>
      have hj : j < l.length := by omega
      have hw := List.getElem?_eq_getElem hj
      obtain rfl := (g3 j rfl).trans hw
      generalize l[j] = w at hw hx0
      have hpj : j < (prevsG none l).length := by rw [prevsG_len]; exact hj
      have ho := hbef j ((prevsG none l)[j]) (by omega) (List.getElem?_eq_getElem hpj)
      have hpq := List.getElem?_eq_getElem hpj
      generalize (prevsG none l)[j] = pq at ho hpq
      obtain ⟨q, w'⟩ := pq
      obtain ⟨hw', _, _⟩ := prevsG_at hpq
      obtain rfl : w' = w := by rw [hw] at hw'; injection hw' with h; exact h.symm
      have k2 : w'.one = true := by unfold talOk at ho; simp only [Bool.and_eq_true] at ho; exact ho.1
      obtain ⟨kv, hkv, okv, ov⟩ := Tal.one_key k1
      obtain ⟨kw, hkw, okw, ow⟩ := Tal.one_key k2
      have e : talOk (some w', ⟨vc, vs, a, m, s⟩) = decide (kw.cmp kv < 0) := by unfold talOk; simp only [k1, talAhead, Bool.true_and, k0, hkw]; simp only at hkv; rw [hkv]; rfl
      have sw : kw.s.size < 1099511627776 := (hsh w' (List.mem_of_getElem? hw)).2 kw (by rw [hkw]; simp)
      have sv : kv.s.size < 1099511627776 := h2 kv (by simp only at hkv; rw [hkv]; simp)
      have hord := run_RowOrder1 d w'.rc vc kw kv okw okv ow ov sw sv
      rw [e]
      obtain ⟨wc, wkey, wa, wm, wsum⟩ := w'
      simp only at hkv hkw
      subst hkv hkw
      simp only [List.map_cons, List.map_nil] at hr hord
      have hp : (0 : Int) < (j : Int) + 1 := by omega
      have hj' : (j : Int) < l.length := by omega
      have hp0 : (0 : Int) ≤ (j : Int) + 1 := by omega
      have htn : ((j : Int) + 1).toNat = j + 1 := by omega
      have hi' : (j : Int) + 1 < l.length := by omega
      generalize Val.cmp kw kv = x at hord ⊢
      by_cases k5 : x < 0
      · have k6 : ¬ 0 ≤ x := by omega
        simp -implicitDefEqProofs (disch := omega) only [go_sem, Nat.reduceBEq, Nat.reduceAdd, Nat.reduceSub, Nat.reduceMul, Nat.reduceLeDiff, Nat.reduceEqDiff, Nat.reduceLT, Int.reduceNeg, Int.reduceAdd, Int.reduceSub, Int.reduceMul, Int.reduceLE, Int.reduceLT, Int.reduceEq, Int.reduceToNat, reduceCtorEq, evL83x0, B83x0, evC_draw, evD83x0, E83x0, IntWalk.i64_in, Tal.cells, hr, hx, beq_ft, beq_tf, Bool.true_or, Bool.false_or, hi', hj', hp0, htn, hp, hw, hord, run_l1In, List.map_cons, List.map_nil, Int.add_sub_cancel, Int.add_assoc, List.length_cons, List.length_nil, (eq_true c3 : (1 ≤ a ∧ a ≤ 100) = True), (eq_true c4 : (0 ≤ m ∧ m ≤ a) = True), (eq_true c5 : (-9999 * m ≤ s ∧ s ≤ 9999 * m) = True), (eq_true k5 : (x < 0) = True), (eq_false k6 : (0 ≤ x) = False)]
      · have k6 : 0 ≤ x := by omega
        simp -implicitDefEqProofs (disch := omega) only [go_sem, Nat.reduceBEq, Nat.reduceAdd, Nat.reduceSub, Nat.reduceMul, Nat.reduceLeDiff, Nat.reduceEqDiff, Nat.reduceLT, Int.reduceNeg, Int.reduceAdd, Int.reduceSub, Int.reduceMul, Int.reduceLE, Int.reduceLT, Int.reduceEq, Int.reduceToNat, reduceCtorEq, evL83x0, B83x0, evC_draw, evD83x0, E83x0, IntWalk.i64_in, Tal.cells, hr, hx, beq_ft, beq_tf, Bool.true_or, Bool.false_or, hi', hj', hp0, htn, hp, hw, hord, run_l1In, List.map_cons, List.map_nil, Int.add_sub_cancel, Int.add_assoc, List.length_cons, List.length_nil, (eq_true c3 : (1 ≤ a ∧ a ≤ 100) = True), (eq_true c4 : (0 ≤ m ∧ m ≤ a) = True), (eq_true c5 : (-9999 * m ≤ s ∧ s ≤ 9999 * m) = True), (eq_false k5 : (x < 0) = False), (eq_true k6 : (0 ≤ x) = True)]
theorem run_talsS (d : Nat) (c : Bool) (l : List Tal) (hs : l.length < 1099511627776) (hsh : ShortT1 l) : retP (runD tab noExt (d + 6)) 83 [.sl c 4 (l.map Tal.cells)] = some [.bool (talsOk l)] := by
  rw [retP, runD_eq find83 _ _ _ (by simp)]
  have hl := loop_talS d c l hs hsh 1099511627775 (by rw [prevsG_len]; omega)
  simp -implicitDefEqProofs (disch := omega) only [go_sem, Nat.reduceBEq, Nat.reduceAdd, Nat.reduceSub, Nat.reduceMul, Nat.reduceLeDiff, Nat.reduceEqDiff, Nat.reduceLT, Int.reduceNeg, Int.reduceAdd, Int.reduceSub, Int.reduceMul, Int.reduceLE, Int.reduceLT, Int.reduceEq, Int.reduceToNat, reduceCtorEq]
  rw [hl]
  unfold talsOk
  cases h : (prevsG none l).all talOk <;> simp -implicitDefEqProofs (disch := omega) only [go_sem, Nat.reduceBEq, Nat.reduceAdd, Nat.reduceSub, Nat.reduceMul, Nat.reduceLeDiff, Nat.reduceEqDiff, Nat.reduceLT, Int.reduceNeg, Int.reduceAdd, Int.reduceSub, Int.reduceMul, Int.reduceLE, Int.reduceLT, Int.reduceEq, Int.reduceToNat, reduceCtorEq]
end Go.Proofs.Ytfbjbkkcilhgjaa.PE
/- Trees of memory of one's own: what lies in them, that they stay ays they are, how they are told ays values, how a call hands them over. -/
set_option linter.unusedVariables false
set_option linter.unusedSimpArgs false
namespace Go.Proofs.Ytfbjbkkcilhgjaa.PE
open Go.RowKit

/-- The kind of a cell. -/
inductive Fd where
  | int (k : IntKind)
  | bool
  | str
  | sub (fs : List Fd)
/-- What lies in a cell. -/
inductive U where
  | int (n : Int)
  | bool (b : Bool)
  | str (s : ByteArray)
  | sub (xs : List (List U))
def Fd.deep : Fd → Bool
  | .sub _ => true
  | _ => false
def blkOf (fs : List Fd) (st : Nat) (cont : List (List V)) : Blk := if fs.any Fd.deep then .nest st fs.length cont else .rows st fs.length cont

def Zip3 {α β : Type} (R : α → β → List Nat → Prop) : List α → List β → List Nat → Prop
  | [], [], ids => ids = []
  | a :: ays, b :: bs, ids => ∃ i j, ids = i ++ j ∧ R a b i ∧ Zip3 R ays bs j
  | _, _, _ => False
def Zip2 {α β : Type} (R : α → β → Prop) : List α → List β → Prop
  | [], [] => True
  | a :: ays, b :: bs => R a b ∧ Zip2 R ays bs
  | _, _ => False

mutual
/-- A cell whose memory is one's own: the blocks that it lies in. -/
def OwnF (h : Heap) : Fd → V → U → List Nat → Prop
  | .int k, v, u, ids => ∃ n, v = .int k n ∧ u = .int n ∧ ids = []
  | .bool, v, u, ids => ∃ b, v = .bool b ∧ u = .bool b ∧ ids = []
  | .str, v, u, ids => ∃ s, v = .str s ∧ u = .str s ∧ ids = []
  | .sub fs, v, u, ids => ∃ xs, u = .sub xs ∧ ((∃ c, v = .sl c fs.length [] ∧ xs = [] ∧ ids = []) ∨
      ∃ id st clip cont r, v = .ref id st 0 cont.length clip ∧ h[id]? = some (blkOf fs st cont) ∧ ids = id :: r ∧ Zip3 (OwnR h fs) cont xs r)
def OwnR (h : Heap) : List Fd → List V → List U → List Nat → Prop
  | [], c, x, ids => c = [] ∧ x = [] ∧ ids = []
  | f :: fs, c, x, ids => ∃ v c' u x' i j, c = v :: c' ∧ x = u :: x' ∧ ids = i ++ j ∧ OwnF h f v u i ∧ OwnR h fs c' x' j
end
mutual
/-- A cell of a value. -/
def PurF : Fd → V → U → Prop
  | .int k, v, u => ∃ n, v = .int k n ∧ u = .int n
  | .bool, v, u => ∃ b, v = .bool b ∧ u = .bool b
  | .str, v, u => ∃ s, v = .str s ∧ u = .str s
  | .sub fs, v, u => ∃ c cont xs, v = .sl c fs.length cont ∧ u = .sub xs ∧ Zip2 (PurR fs) cont xs
def PurR : List Fd → List V → List U → Prop
  | [], c, x => c = [] ∧ x = []
  | f :: fs, c, x => ∃ v c' u x', c = v :: c' ∧ x = u :: x' ∧ PurF f v u ∧ PurR fs c' x'
end

theorem Zip3_len {α β : Type} {R : α → β → List Nat → Prop} : ∀ {ays : List α} {bs : List β} {ids : List Nat}, Zip3 R ays bs ids → ays.length = bs.length
  | [], [], _, _ => rfl
  | a :: ays, b :: bs, ids, ⟨i, j, _, _, h⟩ => by simp [Zip3_len h]
  | [], _ :: _, _, h => h.elim
  | _ :: _, [], _, h => h.elim
theorem Zip2_len {α β : Type} {R : α → β → Prop} : ∀ {ays : List α} {bs : List β}, Zip2 R ays bs → ays.length = bs.length
  | [], [], _ => rfl
  | a :: ays, b :: bs, ⟨_, h⟩ => by simp [Zip2_len h]
  | [], _ :: _, h => h.elim
  | _ :: _, [], h => h.elim
theorem Zip2_at {α β : Type} {R : α → β → Prop} : ∀ {ays : List α} {bs : List β}, Zip2 R ays bs → ∀ {i : Nat} {a : α}, ays[i]? = some a → ∃ b, bs[i]? = some b ∧ R a b
  | a :: ays, b :: bs, ⟨h1, h2⟩, 0, x, hx => by simp at hx; subst hx; exact ⟨b, rfl, h1⟩
  | a :: ays, b :: bs, ⟨h1, h2⟩, i + 1, x, hx => by simp at hx; simpa using Zip2_at h2 hx
  | [], [], _, i, x, hx => by simp at hx
  | [], _ :: _, h, _, _, _ => h.elim
  | _ :: _, [], h, _, _, _ => h.elim
theorem Zip3_mono {α β : Type} {R S : α → β → List Nat → Prop} {P : Nat → Prop} (f : ∀ a b i, R a b i → (∀ id ∈ i, P id) → S a b i) : ∀ {ays : List α} {bs : List β} {ids : List Nat}, Zip3 R ays bs ids → (∀ id ∈ ids, P id) → Zip3 S ays bs ids
  | [], [], _, h, _ => h
  | a :: ays, b :: bs, _, ⟨i, j, e, h1, h2⟩, hp => ⟨i, j, e, f a b i h1 (fun id hid => hp id (e ▸ List.mem_append_left _ hid)), Zip3_mono f h2 (fun id hid => hp id (e ▸ List.mem_append_right _ hid))⟩
  | [], _ :: _, _, h, _ => h.elim
  | _ :: _, [], _, h, _ => h.elim
theorem Zip3_map {α β : Type} {R S : α → β → List Nat → Prop} {g : α → α} {m : Nat → Nat} (f : ∀ a b i, R a b i → S (g a) b (i.map m)) : ∀ {ays : List α} {bs : List β} {ids : List Nat}, Zip3 R ays bs ids → Zip3 S (ays.map g) bs (ids.map m)
  | [], [], _, h => by cases h; rfl
  | a :: ays, b :: bs, _, ⟨i, j, e, h1, h2⟩ => ⟨i.map m, j.map m, by rw [e, List.map_append], f a b i h1, Zip3_map f h2⟩
  | [], _ :: _, _, h => h.elim
  | _ :: _, [], _, h => h.elim
theorem Zip3_app {α β : Type} {R : α → β → List Nat → Prop} : ∀ {ays : List α} {bs : List β} {ids : List Nat} {a2 : List α} {b2 : List β} {i2 : List Nat}, Zip3 R ays bs ids → Zip3 R a2 b2 i2 → Zip3 R (ays ++ a2) (bs ++ b2) (ids ++ i2)
  | [], [], _, _, _, _, h, h2 => by cases h; exact h2
  | a :: ays, b :: bs, _, _, _, _, ⟨i, j, e, h1, h3⟩, h2 => ⟨i, j ++ _, by rw [e, List.append_assoc], h1, Zip3_app h3 h2⟩
  | [], _ :: _, _, _, _, _, h, _ => h.elim
  | _ :: _, [], _, _, _, _, h, _ => h.elim
theorem Zip3_one {α β : Type} {R : α → β → List Nat → Prop} {a : α} {b : β} {i : List Nat} (h : R a b i) : Zip3 R [a] [b] i := ⟨i, [], by simp, h, rfl⟩

/-! ### they stay where the blocks stay -/
mutual
theorem OwnF_frame {h h' : Heap} : ∀ (f : Fd) {v : V} {u : U} {ids : List Nat}, OwnF h f v u ids → (∀ id ∈ ids, h'[id]? = h[id]?) → OwnF h' f v u ids
  | .int k, _, _, _, ho, _ => by simpa only [OwnF] using ho
  | .bool, _, _, _, ho, _ => by simpa only [OwnF] using ho
  | .str, _, _, _, ho, _ => by simpa only [OwnF] using ho
  | .sub fs, v, u, ids, ho, hk => by
    simp only [OwnF] at ho ⊢
    obtain ⟨xs, e, ho | ⟨id, st, clip, cont, r, e1, e2, e3, ho⟩⟩ := ho
    · exact ⟨xs, e, .inl ho⟩
    · subst e3
      exact ⟨xs, e, .inr ⟨id, st, clip, cont, r, e1, (hk id List.mem_cons_self).trans e2, rfl, Zip3_mono (fun c x i hr hp => OwnR_frame fs hr hp) ho (fun i hi => hk i (List.mem_cons_of_mem _ hi))⟩⟩
theorem OwnR_frame {h h' : Heap} : ∀ (fs : List Fd) {c : List V} {x : List U} {ids : List Nat}, OwnR h fs c x ids → (∀ id ∈ ids, h'[id]? = h[id]?) → OwnR h' fs c x ids
  | [], _, _, _, ho, _ => by simpa only [OwnR] using ho
  | f :: fs, c, x, ids, ho, hk => by
    simp only [OwnR] at ho ⊢
    obtain ⟨v, c', u, x', i, j, e1, e2, e3, h1, h2⟩ := ho
    subst e3
    exact ⟨v, c', u, x', i, j, e1, e2, rfl, OwnF_frame f h1 (fun id hid => hk id (List.mem_append_left _ hid)), OwnR_frame fs h2 (fun id hid => hk id (List.mem_append_right _ hid))⟩
end
theorem Zip3_all {α β : Type} {R : α → β → List Nat → Prop} {P : Nat → Prop} (f : ∀ a b i, R a b i → ∀ id ∈ i, P id) : ∀ {ays : List α} {bs : List β} {ids : List Nat}, Zip3 R ays bs ids → ∀ id ∈ ids, P id
  | [], [], _, h => by cases h; intro _ hm; cases hm
  | a :: ays, b :: bs, _, ⟨i, j, e, h1, h2⟩ => by
    subst e
    intro id hm
    rcases List.mem_append.1 hm with hm | hm
    · exact f a b i h1 id hm
    · exact Zip3_all f h2 id hm
  | [], _ :: _, _, h => h.elim
  | _ :: _, [], _, h => h.elim
mutual
theorem OwnF_lt {h : Heap} : ∀ (f : Fd) {v : V} {u : U} {ids : List Nat}, OwnF h f v u ids → ∀ id ∈ ids, id < h.length
  | .int k, _, _, _, ho => by simp only [OwnF] at ho; obtain ⟨_, _, _, rfl⟩ := ho; intro _ hm; cases hm
  | .bool, _, _, _, ho => by simp only [OwnF] at ho; obtain ⟨_, _, _, rfl⟩ := ho; intro _ hm; cases hm
  | .str, _, _, _, ho => by simp only [OwnF] at ho; obtain ⟨_, _, _, rfl⟩ := ho; intro _ hm; cases hm
  | .sub fs, v, u, ids, ho => by
    simp only [OwnF] at ho
    obtain ⟨xs, e, ⟨_, _, _, rfl⟩ | ⟨id, st, clip, cont, r, e1, e2, rfl, ho⟩⟩ := ho
    · intro _ hm; cases hm
    · intro i hm
      rcases List.mem_cons.1 hm with rfl | hm
      · exact (List.getElem?_eq_some_iff.1 e2).1
      · exact Zip3_all (fun c x i hr => OwnR_lt fs hr) ho i hm
theorem OwnR_lt {h : Heap} : ∀ (fs : List Fd) {c : List V} {x : List U} {ids : List Nat}, OwnR h fs c x ids → ∀ id ∈ ids, id < h.length
  | [], _, _, _, ho => by simp only [OwnR] at ho; obtain ⟨_, _, rfl⟩ := ho; intro _ hm; cases hm
  | f :: fs, c, x, ids, ho => by
    simp only [OwnR] at ho
    obtain ⟨v, c', u, x', i, j, e1, e2, rfl, h1, h2⟩ := ho
    intro id hm
    rcases List.mem_append.1 hm with hm | hm
    · exact OwnF_lt f h1 id hm
    · exact OwnR_lt fs h2 id hm
end

/-! ### told ays values -/
def dep : Fd → Nat
  | .sub fs => depR fs + 1
  | _ => 0
where depR : List Fd → Nat
  | [] => 0
  | f :: fs => max (dep f) (depR fs)
theorem mapO_zip {α β γ' : Type} {R : α → β → List Nat → Prop} {S : γ' → β → Prop} {f : α → Option γ'} (hf : ∀ a b i, R a b i → ∃ c, f a = some c ∧ S c b) : ∀ {ays : List α} {bs : List β} {ids : List Nat}, Zip3 R ays bs ids → ∃ cs, mapO f ays = some cs ∧ Zip2 S cs bs
  | [], [], _, _ => ⟨[], rfl, trivial⟩
  | a :: ays, b :: bs, _, ⟨i, j, _, h1, h2⟩ => by
    obtain ⟨c, e1, s1⟩ := hf a b i h1
    obtain ⟨cs, e2, s2⟩ := mapO_zip hf h2
    exact ⟨c :: cs, by simp only [mapO, e1, e2], s1, s2⟩
  | [], _ :: _, _, h => h.elim
  | _ :: _, [], _, h => h.elim
theorem Zip3_to2 {α β : Type} {R : α → β → List Nat → Prop} {S : α → β → Prop} (f : ∀ a b i, R a b i → S a b) : ∀ {ays : List α} {bs : List β} {ids : List Nat}, Zip3 R ays bs ids → Zip2 S ays bs
  | [], [], _, _ => trivial
  | a :: ays, b :: bs, _, ⟨i, j, _, h1, h2⟩ => ⟨f a b i h1, Zip3_to2 f h2⟩
  | [], _ :: _, _, h => h.elim
  | _ :: _, [], _, h => h.elim
/-- Rows whose cells are no slices lie ays they are told. -/
theorem OwnR_flat {h : Heap} : ∀ (fs : List Fd) {c : List V} {x : List U} {ids : List Nat}, fs.any Fd.deep = false → OwnR h fs c x ids → PurR fs c x
  | [], _, _, _, _, ho => by simp only [OwnR] at ho; simp only [PurR]; exact ⟨ho.1, ho.2.1⟩
  | f :: fs, c, x, ids, hd, ho => by
    simp only [OwnR] at ho
    simp only [PurR]
    simp only [List.any_cons, Bool.or_eq_false_iff] at hd
    obtain ⟨v, c', u, x', i, j, e1, e2, e3, h1, h2⟩ := ho
    refine ⟨v, c', u, x', e1, e2, ?_, OwnR_flat fs hd.2 h2⟩
    cases f with
    | int k => simp only [OwnF] at h1; simp only [PurF]; obtain ⟨n, a, b, _⟩ := h1; exact ⟨n, a, b⟩
    | bool => simp only [OwnF] at h1; simp only [PurF]; obtain ⟨n, a, b, _⟩ := h1; exact ⟨n, a, b⟩
    | str => simp only [OwnF] at h1; simp only [PurF]; obtain ⟨n, a, b, _⟩ := h1; exact ⟨n, a, b⟩
    | sub gs => simp [Fd.deep] at hd
mutual
theorem OwnF_pure {h : Heap} : ∀ (f : Fd) (d : Nat) {v : V} {u : U} {ids : List Nat}, dep f ≤ d → OwnF h f v u ids → ∃ p, pureD h d v = some p ∧ PurF f p u
  | .int k, d, _, _, _, _, ho => by
    simp only [OwnF] at ho
    obtain ⟨n, rfl, rfl, _⟩ := ho
    exact ⟨.int k n, by cases d <;> rfl, by simp only [PurF]; exact ⟨n, rfl, rfl⟩⟩
  | .bool, d, _, _, _, _, ho => by
    simp only [OwnF] at ho
    obtain ⟨n, rfl, rfl, _⟩ := ho
    exact ⟨.bool n, by cases d <;> rfl, by simp only [PurF]; exact ⟨n, rfl, rfl⟩⟩
  | .str, d, _, _, _, _, ho => by
    simp only [OwnF] at ho
    obtain ⟨n, rfl, rfl, _⟩ := ho
    exact ⟨.str n, by cases d <;> rfl, by simp only [PurF]; exact ⟨n, rfl, rfl⟩⟩
  | .sub fs, d, v, u, ids, hd, ho => by
    simp only [OwnF] at ho
    obtain ⟨xs, rfl, ⟨c, rfl, rfl, _⟩ | ⟨id, st, clip, cont, r, rfl, e2, _, ho⟩⟩ := ho
    · exact ⟨.sl c fs.length [], by cases d <;> rfl, by simp only [PurF]; exact ⟨c, [], [], rfl, rfl, trivial⟩⟩
    · obtain ⟨d, rfl⟩ : ∃ m, d = m + 1 := ⟨d - 1, by simp only [dep] at hd; omega⟩
      have hd' : dep.depR fs ≤ d := by simp only [dep] at hd; omega
      cases hdeep : fs.any Fd.deep
      · refine ⟨.sl clip fs.length cont, ?_, ?_⟩
        · simp only [pureD, e2, blkOf, hdeep, Bool.false_eq_true, if_false, if_true, List.drop_zero, List.take_length]
        · simp only [PurF]
          exact ⟨clip, cont, xs, rfl, rfl, Zip3_to2 (fun c x i hr => OwnR_flat fs hdeep hr) ho⟩
      · obtain ⟨cs, m1, m2⟩ := mapO_zip (f := mapO (pureD h d)) (S := PurR fs) (fun c x i hr => OwnR_pure fs d hd' hr) ho
        refine ⟨.sl clip fs.length cs, ?_, ?_⟩
        · simp only [pureD, e2, blkOf, hdeep, if_true, List.drop_zero, List.take_length, m1, Option.map_some]
        · simp only [PurF]
          exact ⟨clip, cs, xs, rfl, rfl, m2⟩
theorem OwnR_pure {h : Heap} : ∀ (fs : List Fd) (d : Nat) {c : List V} {x : List U} {ids : List Nat}, dep.depR fs ≤ d → OwnR h fs c x ids → ∃ p, mapO (pureD h d) c = some p ∧ PurR fs p x
  | [], d, _, _, _, _, ho => by
    simp only [OwnR] at ho
    obtain ⟨rfl, rfl, _⟩ := ho
    exact ⟨[], rfl, by simp [PurR]⟩
  | f :: fs, d, c, x, ids, hd, ho => by
    simp only [OwnR] at ho
    simp only [dep.depR] at hd
    obtain ⟨v, c', u, x', i, j, rfl, rfl, _, h1, h2⟩ := ho
    obtain ⟨p, e1, p1⟩ := OwnF_pure f d (by omega) h1
    obtain ⟨q, e2, q1⟩ := OwnR_pure fs d (by omega) h2
    exact ⟨p :: q, by simp only [mapO, e1, e2], by simp only [PurR]; exact ⟨p, q, u, x', rfl, rfl, p1, q1⟩⟩
end

/-! ### handed over by a call -/
theorem Zip3_fresh {α β : Type} {R : α → β → List Nat → Prop} {P : α → Bool} (f : ∀ a b i, R a b i → P a = true) : ∀ {ays : List α} {bs : List β} {ids : List Nat}, Zip3 R ays bs ids → ays.all P = true
  | [], [], _, _ => rfl
  | a :: ays, b :: bs, _, ⟨i, j, _, h1, h2⟩ => by rw [List.all_cons, f a b i h1, Zip3_fresh f h2]; rfl
  | [], _ :: _, _, h => h.elim
  | _ :: _, [], _, h => h.elim
theorem OwnF_fresh {h : Heap} (f : Fd) {v : V} {u : U} {ids : List Nat} (ho : OwnF h f v u ids) : freshC v = true := by
  cases f with
  | int k => simp only [OwnF] at ho; obtain ⟨_, rfl, _⟩ := ho; rfl
  | bool => simp only [OwnF] at ho; obtain ⟨_, rfl, _⟩ := ho; rfl
  | str => simp only [OwnF] at ho; obtain ⟨_, rfl, _⟩ := ho; rfl
  | sub fs =>
    simp only [OwnF] at ho
    obtain ⟨xs, _, ⟨c, rfl, _⟩ | ⟨id, st, clip, cont, r, rfl, _⟩⟩ := ho <;> rfl
theorem OwnR_fresh {h : Heap} : ∀ (fs : List Fd) {c : List V} {x : List U} {ids : List Nat}, OwnR h fs c x ids → c.all freshC = true
  | [], _, _, _, ho => by simp only [OwnR] at ho; rw [ho.1]; rfl
  | f :: fs, c, x, ids, ho => by
    simp only [OwnR] at ho
    obtain ⟨v, c', u, x', i, j, rfl, _, _, h1, h2⟩ := ho
    rw [List.all_cons, OwnF_fresh f h1, OwnR_fresh fs h2]
    rfl
theorem moved_get {h hc : Heap} {id : Nat} {b : Blk} (hb : hc[id]? = some b) : (h ++ movedH h.length hc)[id + h.length]? = some (shB h.length (clean b)) := by
  rw [List.getElem?_append_right (by omega), Nat.add_sub_cancel]
  simp [movedH, hb]
mutual
theorem OwnF_moved {h hc : Heap} : ∀ (f : Fd) {v : V} {u : U} {ids : List Nat}, OwnF hc f v u ids → OwnF (h ++ movedH h.length hc) f (shC h.length v) u (ids.map (· + h.length))
  | .int k, _, _, _, ho => by simp only [OwnF] at ho ⊢; obtain ⟨n, rfl, rfl, rfl⟩ := ho; exact ⟨n, rfl, rfl, rfl⟩
  | .bool, _, _, _, ho => by simp only [OwnF] at ho ⊢; obtain ⟨n, rfl, rfl, rfl⟩ := ho; exact ⟨n, rfl, rfl, rfl⟩
  | .str, _, _, _, ho => by simp only [OwnF] at ho ⊢; obtain ⟨n, rfl, rfl, rfl⟩ := ho; exact ⟨n, rfl, rfl, rfl⟩
  | .sub fs, v, u, ids, ho => by
    simp only [OwnF] at ho ⊢
    obtain ⟨xs, e, ⟨c, rfl, e1, rfl⟩ | ⟨id, st, clip, cont, r, rfl, e2, rfl, ho⟩⟩ := ho
    · exact ⟨xs, e, .inl ⟨c, rfl, e1, rfl⟩⟩
    · have hz := Zip3_map (S := OwnR (h ++ movedH h.length hc) fs) (g := fun x => x.map (shC h.length)) (m := (· + h.length)) (fun c x i hr => OwnR_moved fs hr) ho
      have hf : cont.all (fun x => x.all freshC) = true := Zip3_fresh (fun c x i hr => OwnR_fresh fs hr) ho
      have hg := moved_get (h := h) e2
      refine ⟨xs, e, .inr ⟨id + h.length, st, clip, cont.map (fun x => x.map (shC h.length)), r.map (· + h.length), by rw [List.length_map]; rfl, ?_, rfl, hz⟩⟩
      rw [hg]
      unfold blkOf
      cases hdeep : fs.any Fd.deep
      · have hid : cont.map (fun x => x.map (shC h.length)) = cont := by
          have := Zip3_to2 (S := fun (c : List V) (_ : List U) => c.map (shC h.length) = c) (fun c x i hr => OwnR_shift fs h.length hdeep hr) ho
          clear hz hf hg e2 ho
          revert this
          generalize xs = ys
          intro hz
          induction cont generalizing ys with
          | nil => rfl
          | cons a ays ih =>
            cases ys with
            | nil => exact hz.elim
            | cons b bs => rw [List.map_cons, hz.1, ih bs hz.2]
        simp only [Bool.false_eq_true, if_false, clean, hf, if_true, shB, hid]
      · simp only [if_true, clean, hf, shB]
theorem OwnR_moved {h hc : Heap} : ∀ (fs : List Fd) {c : List V} {x : List U} {ids : List Nat}, OwnR hc fs c x ids → OwnR (h ++ movedH h.length hc) fs (c.map (shC h.length)) x (ids.map (· + h.length))
  | [], _, _, _, ho => by simp only [OwnR] at ho ⊢; obtain ⟨rfl, rfl, rfl⟩ := ho; exact ⟨rfl, rfl, rfl⟩
  | f :: fs, c, x, ids, ho => by
    simp only [OwnR] at ho ⊢
    obtain ⟨v, c', u, x', i, j, rfl, rfl, rfl, h1, h2⟩ := ho
    exact ⟨shC h.length v, c'.map (shC h.length), u, x', i.map (· + h.length), j.map (· + h.length), rfl, rfl, by rw [List.map_append], OwnF_moved f h1, OwnR_moved fs h2⟩
theorem OwnR_shift {h : Heap} : ∀ (fs : List Fd) (n : Nat) {c : List V} {x : List U} {ids : List Nat}, fs.any Fd.deep = false → OwnR h fs c x ids → c.map (shC n) = c
  | [], _, _, _, _, _, ho => by simp only [OwnR] at ho; rw [ho.1]; rfl
  | f :: fs, n, c, x, ids, hd, ho => by
    simp only [OwnR] at ho
    simp only [List.any_cons, Bool.or_eq_false_iff] at hd
    obtain ⟨v, c', u, x', i, j, rfl, rfl, rfl, h1, h2⟩ := ho
    rw [List.map_cons, OwnR_shift fs n hd.2 h2]
    cases f with
    | int k => simp only [OwnF] at h1; obtain ⟨_, rfl, _⟩ := h1; rfl
    | bool => simp only [OwnF] at h1; obtain ⟨_, rfl, _⟩ := h1; rfl
    | str => simp only [OwnF] at h1; obtain ⟨_, rfl, _⟩ := h1; rfl
    | sub gs => simp [Fd.deep] at hd
end
end Go.Proofs.Ytfbjbkkcilhgjaa.PE
/- What the functions of an exact statement do with such trees: sizes, copies, comparisons, marks; their loops. -/
set_option linter.unusedVariables false
set_option linter.unusedSimpArgs false
namespace Go.Proofs.Ytfbjbkkcilhgjaa.PE
open Go.RowKit

/-! ### loops by what holds at their head -/
section
variable {run : Run} {draw : Draw} {live out : List Nat} {c : C} {n0 : Nat}
theorem LoopK_inv {σ : Type} (n : Nat) (Inv : Nat → σ → Prop) (E : Nat → σ → Env) (H : σ → Heap) (fin : σ → Out)
    (h0 : ∀ b K, Inv n b → LoopK run draw live out c K (E n b) (H b) = fin b)
    (h1 : ∀ (i : Nat) b K, i < n → Inv i b → ∃ b', Inv (i + 1) b' ∧ LoopK run draw live out c (K + 1) (E i b) (H b) = LoopK run draw live out c K (E (i + 1) b') (H b'))
    (K : Nat) (hK : n ≤ K) (b : σ) (hb : Inv 0 b) : ∃ b', Inv n b' ∧ LoopK run draw live out c K (E 0 b) (H b) = fin b' := by
  have key : ∀ (m i K : Nat) b, i + m = n → m ≤ K → Inv i b → ∃ b', Inv n b' ∧ LoopK run draw live out c K (E i b) (H b) = fin b' := by
    intro m
    induction m with
    | zero => intro i K b hi _ hb; have : i = n := by omega
              subst this; exact ⟨b, hb, h0 b K hb⟩
    | succ m ih =>
      intro i K b hi hK hb
      obtain ⟨K, rfl⟩ : ∃ K', K = K' + 1 := ⟨K - 1, by omega⟩
      obtain ⟨b', hb', e⟩ := h1 i b K (by omega) hb
      obtain ⟨b2, hb2, e2⟩ := ih (i + 1) K b' (by omega) (by omega) hb'
      exact ⟨b2, hb2, e.trans e2⟩
  exact key n 0 K b (by omega) hK hb
theorem LoopS_inv {σ : Type} (n : Nat) (Inv : Nat → σ → Prop) (E : Nat → σ → Env) (H : σ → Heap) (fin : σ → Out)
    (h0 : ∀ b K, Inv n b → LoopS run draw live out c n0 K (E n b) (H b) = fin b)
    (h1 : ∀ (i : Nat) b K, i < n → Inv i b → ∃ b', Inv (i + 1) b' ∧ LoopS run draw live out c n0 (K + 1) (E i b) (H b) = LoopS run draw live out c n0 K (E (i + 1) b') (H b'))
    (K : Nat) (hK : n ≤ K) (b : σ) (hb : Inv 0 b) : ∃ b', Inv n b' ∧ LoopS run draw live out c n0 K (E 0 b) (H b) = fin b' := by
  have key : ∀ (m i K : Nat) b, i + m = n → m ≤ K → Inv i b → ∃ b', Inv n b' ∧ LoopS run draw live out c n0 K (E i b) (H b) = fin b' := by
    intro m
    induction m with
    | zero => intro i K b hi _ hb; have : i = n := by omega
              subst this; exact ⟨b, hb, h0 b K hb⟩
    | succ m ih =>
      intro i K b hi hK hb
      obtain ⟨K, rfl⟩ : ∃ K', K = K' + 1 := ⟨K - 1, by omega⟩
      obtain ⟨b', hb', e⟩ := h1 i b K (by omega) hb
      obtain ⟨b2, hb2, e2⟩ := ih (i + 1) K b' (by omega) (by omega) hb'
      exact ⟨b2, hb2, e.trans e2⟩
  exact key n 0 K b (by omega) hK hb
end

/-! ### sizes -/
def szZ (R : List U → Int → Int) : List (List U) → Int → Int
  | [], l => l
  | x :: xs, l => if R x l < 0 then -1 else szZ R xs (R x l)
mutual
def szF : Fd → U → Int → Int
  | .str, .str s, l => if l - s.size < 0 then -1 else l - s.size
  | .sub fs, .sub xs, l => if l - xs.length < 0 then -1 else szZ (szR fs) xs (l - xs.length)
  | _, _, l => l
def szR : List Fd → List U → Int → Int
  | f :: fs, u :: x, l => if szF f u l < 0 then -1 else szR fs x (szF f u l)
  | _, _, l => l
end
def AllU (P : List U → Prop) : List (List U) → Prop
  | [] => True
  | x :: xs => P x ∧ AllU P xs
mutual
def LenF (n m : Nat) : Fd → U → Prop
  | .str, .str s => s.size ≤ m
  | .sub fs, .sub xs => xs.length ≤ n ∧ AllU (LenR n m fs) xs
  | _, _ => True
def LenR (n m : Nat) : List Fd → List U → Prop
  | f :: fs, u :: x => LenF n m f u ∧ LenR n m fs x
  | _, _ => True
end
/-- How many numbers are in it. -/
def sumU (c : List U → Nat) : List (List U) → Nat
  | [] => 0
  | x :: xs => c x + sumU c xs
mutual
def cntF : Fd → U → Nat
  | .sub fs, .sub xs => sumU (cntR fs) xs
  | _, _ => 1
def cntR : List Fd → List U → Nat
  | f :: fs, u :: x => cntF f u + cntR fs x
  | _, _ => 0
end
theorem AllU_mono {P Q : List U → Prop} (f : ∀ x, P x → Q x) : ∀ {xs : List (List U)}, AllU P xs → AllU Q xs
  | [], _ => trivial
  | x :: xs, ⟨h1, h2⟩ => ⟨f x h1, AllU_mono f h2⟩
theorem AllU_at {P : List U → Prop} : ∀ {xs : List (List U)}, AllU P xs → ∀ {i : Nat} {x : List U}, xs[i]? = some x → P x
  | x :: xs, ⟨h1, h2⟩, 0, y, hy => by simp at hy; subst hy; exact h1
  | x :: xs, ⟨h1, h2⟩, i + 1, y, hy => by simp at hy; exact AllU_at h2 hy
  | [], _, i, y, hy => by simp at hy
mutual
theorem LenF_mono {n m n' m' : Nat} (hn : n ≤ n') (hm : m ≤ m') : ∀ (f : Fd) {u : U}, LenF n m f u → LenF n' m' f u
  | .str, .str s, h => by simp only [LenF] at h ⊢; omega
  | .sub fs, .sub xs, h => by simp only [LenF] at h ⊢; exact ⟨by omega, AllU_mono (fun x hx => LenR_mono hn hm fs hx) h.2⟩
  | .int _, _, _ => by simp [LenF]
  | .bool, _, _ => by simp [LenF]
  | .str, .int _, _ => by simp [LenF]
  | .str, .bool _, _ => by simp [LenF]
  | .str, .sub _, _ => by simp [LenF]
  | .sub _, .int _, _ => by simp [LenF]
  | .sub _, .bool _, _ => by simp [LenF]
  | .sub _, .str _, _ => by simp [LenF]
theorem LenR_mono {n m n' m' : Nat} (hn : n ≤ n') (hm : m ≤ m') : ∀ (fs : List Fd) {x : List U}, LenR n m fs x → LenR n' m' fs x
  | f :: fs, u :: x, h => by simp only [LenR] at h ⊢; exact ⟨LenF_mono hn hm f h.1, LenR_mono hn hm fs h.2⟩
  | [], _, _ => by simp [LenR]
  | _ :: _, [], _ => by simp [LenR]
end
theorem szZ_spec {N : Nat} {R : List U → Int → Int} {P : List U → Prop} {c : List U → Nat} (hR : ∀ x (l : Int), l ≤ N → 0 ≤ R x l → 0 ≤ l → R x l ≤ l ∧ P x ∧ (c x : Int) ≤ 16 * (l - R x l) + 16) : ∀ (xs : List (List U)) (l : Int), l ≤ N → 0 ≤ szZ R xs l → 0 ≤ l →
    szZ R xs l ≤ l ∧ AllU P xs ∧ (sumU c xs : Int) ≤ 16 * (l - szZ R xs l) + 16 * xs.length
  | [], l, _, _, _ => by simp [szZ, AllU, sumU]
  | x :: xs, l, hl, h, h0 => by
    simp only [szZ] at h ⊢
    by_cases hx : R x l < 0
    · rw [if_pos hx] at h; omega
    · rw [if_neg hx] at h ⊢
      obtain ⟨a1, a2, a3⟩ := hR x l hl (by omega) h0
      obtain ⟨b1, b2, b3⟩ := szZ_spec hR xs (R x l) (by omega) h (by omega)
      refine ⟨by omega, ⟨a2, b2⟩, ?_⟩
      simp only [sumU, List.length_cons]
      push_cast
      omega
mutual
def okFd : Fd → Bool
  | .sub fs => decide (fs.length ≤ 16) && okFds fs
  | _ => true
def okFds : List Fd → Bool
  | [] => true
  | f :: fs => okFd f && okFds fs
end
mutual
theorem szF_spec {N : Nat} : ∀ (f : Fd) (u : U) (l : Int), okFd f = true → l ≤ N → 0 ≤ szF f u l → 0 ≤ l → szF f u l ≤ l ∧ LenF N N f u ∧ (cntF f u : Int) ≤ 16 * (l - szF f u l) + 1
  | .str, .str s, l, _, hl, h, h0 => by
    simp only [szF, LenF, cntF] at h ⊢
    split at h
    · omega
    · rename_i hc; rw [if_neg hc]; omega
  | .sub fs, .sub xs, l, hk, hl, h, h0 => by
    simp only [szF, LenF, cntF] at h ⊢
    simp only [okFd, Bool.and_eq_true, decide_eq_true_eq] at hk
    split at h
    · omega
    · rename_i hc
      rw [if_neg hc]
      obtain ⟨b1, b2, b3⟩ := szZ_spec (N := N) (R := szR fs) (P := LenR N N fs) (c := cntR fs) (fun x l hl h h0 => by
        obtain ⟨c1, c2, c3⟩ := szR_spec (N := N) fs x l hk.2 hl h h0
        exact ⟨c1, c2, by omega⟩) xs (l - xs.length) (by omega) h (by omega)
      exact ⟨by omega, ⟨by omega, b2⟩, by omega⟩
  | .int _, _, l, _, _, h, h0 => by simp [szF, LenF, cntF]
  | .bool, _, l, _, _, h, h0 => by simp [szF, LenF, cntF]
  | .str, .int _, l, _, _, h, h0 => by simp [szF, LenF, cntF]
  | .str, .bool _, l, _, _, h, h0 => by simp [szF, LenF, cntF]
  | .str, .sub _, l, _, _, h, h0 => by simp [szF, LenF, cntF]
  | .sub _, .int _, l, _, _, h, h0 => by simp [szF, LenF, cntF]
  | .sub _, .bool _, l, _, _, h, h0 => by simp [szF, LenF, cntF]
  | .sub _, .str _, l, _, _, h, h0 => by simp [szF, LenF, cntF]
theorem szR_spec {N : Nat} : ∀ (fs : List Fd) (x : List U) (l : Int), okFds fs = true → l ≤ N → 0 ≤ szR fs x l → 0 ≤ l → szR fs x l ≤ l ∧ LenR N N fs x ∧ (cntR fs x : Int) ≤ 16 * (l - szR fs x l) + fs.length
  | f :: fs, u :: x, l, hk, hl, h, h0 => by
    simp only [szR, LenR, cntR] at h ⊢
    simp only [okFds, Bool.and_eq_true] at hk
    split at h
    · omega
    · rename_i hc
      rw [if_neg hc]
      obtain ⟨a1, a2, a3⟩ := szF_spec (N := N) f u l hk.1 hl (by omega) h0
      obtain ⟨b1, b2, b3⟩ := szR_spec (N := N) fs x (szF f u l) hk.2 (by omega) h (by omega)
      refine ⟨by omega, ⟨a2, b2⟩, ?_⟩
      simp only [List.length_cons]
      push_cast
      omega
  | [], _, l, _, _, h, h0 => by simp [szR, LenR, cntR]
  | _ :: _, [], l, _, _, h, h0 => by simp [szR, LenR, cntR]; omega
end
/-! ### marks -/
/-- The digits of a number, ahead of others. -/
def digs : Nat → Nat → ByteArray → ByteArray
  | 0, _, s => s
  | f + 1, n, s => if n = 0 then s else digs f (n / 10) (⟨#[UInt8.ofNat (48 + n % 10)]⟩ ++ s)
def txt (k : Int) : ByteArray := if k ≤ 0 then ⟨#[109, 48]⟩ else ⟨#[109]⟩ ++ digs 20 k.toNat ⟨#[]⟩
def HeldZ (R : List U → Int → Int → Prop) : List (List U) → Int → Int → Prop
  | [], k, k' => k' = k
  | x :: xs, k, k' => ∃ m, R x k m ∧ HeldZ R xs m k'
mutual
def HeldF : Fd → U → Int → Int → Prop
  | .int kk, u, k, k' => u = .int (kk.wrap k) ∧ k' = k + 1
  | .bool, u, k, k' => u = .bool (decide (k.tmod 3 = 0)) ∧ k' = k + 1
  | .str, u, k, k' => u = .str (txt k) ∧ k' = k + 1
  | .sub fs, u, k, k' => ∃ xs, u = .sub xs ∧ HeldZ (HeldR fs) xs k k'
def HeldR : List Fd → List U → Int → Int → Prop
  | [], x, k, k' => x = [] ∧ k' = k
  | f :: fs, x, k, k' => ∃ u x' m, x = u :: x' ∧ HeldF f u k m ∧ HeldR fs x' m k'
end
theorem HeldZ_le {R : List U → Int → Int → Prop} (hR : ∀ x k k', R x k k' → k ≤ k') : ∀ {xs : List (List U)} {k k' : Int}, HeldZ R xs k k' → k ≤ k'
  | [], k, k', h => by simp only [HeldZ] at h; omega
  | x :: xs, k, k', ⟨m, h1, h2⟩ => by have := hR x k m h1; have := HeldZ_le hR h2; omega
mutual
theorem HeldF_le : ∀ (f : Fd) {u : U} {k k' : Int}, HeldF f u k k' → k ≤ k'
  | .int kk, _, _, _, h => by simp only [HeldF] at h; omega
  | .bool, _, _, _, h => by simp only [HeldF] at h; omega
  | .str, _, _, _, h => by simp only [HeldF] at h; omega
  | .sub fs, _, _, _, h => by
    simp only [HeldF] at h
    obtain ⟨xs, _, h⟩ := h
    exact HeldZ_le (fun x k k' => HeldR_le fs) h
theorem HeldR_le : ∀ (fs : List Fd) {x : List U} {k k' : Int}, HeldR fs x k k' → k ≤ k'
  | [], _, _, _, h => by simp only [HeldR] at h; omega
  | f :: fs, _, _, _, h => by
    simp only [HeldR] at h
    obtain ⟨u, x', m, _, h1, h2⟩ := h
    have := HeldF_le f h1
    have := HeldR_le fs h2
    omega
end
theorem HeldZ_snoc {R : List U → Int → Int → Prop} : ∀ {xs : List (List U)} {x : List U} {k m k' : Int}, HeldZ R xs k m → R x m k' → HeldZ R (xs ++ [x]) k k'
  | [], x, k, m, k', h, hx => by simp only [HeldZ] at h; subst h; exact ⟨k', hx, rfl⟩
  | y :: ys, x, k, m, k', ⟨m1, h1, h2⟩, hx => ⟨m1, h1, HeldZ_snoc h2 hx⟩
end Go.Proofs.Ytfbjbkkcilhgjaa.PE
/- The loops of copies, comparisons, sizes and marks, by what one round does. -/
set_option linter.unusedVariables false
set_option linter.unusedSimpArgs false
namespace Go.Proofs.Ytfbjbkkcilhgjaa.PE
open Go.RowKit

def big : Nat := 1099511627775
theorem HeldZ_drop {R : List U → Int → Int → Prop} {xs : List (List U)} {i : Nat} {x : List U} {k k' : Int} (hx : xs[i]? = some x) (h : HeldZ R (xs.drop i) k k') : ∃ m, R x k m ∧ HeldZ R (xs.drop (i + 1)) m k' := by
  obtain ⟨hi, e⟩ := List.getElem?_eq_some_iff.1 hx
  rw [List.drop_eq_getElem_cons hi, e] at h
  exact h
section
variable {run : Run} {draw : Draw} {c : C} {n0 : Nat}
theorem held_loop {R : List V → List U → Prop} {HR : List U → Int → Int → Prop} {cl : Bool} {sz : Nat} {cont : List (List V)} {xs : List (List U)} {kf : Int} (hz : Zip2 R cont xs) (hle : ∀ x k k', HR x k k' → k ≤ k')
    (hend : ∀ (k : Int) K, LoopS run draw [0, 1, 5] [1, 4] c n0 K [(0, .sl cl sz cont), (1, .int .i64 k), (5, .int .i64 (cont.length : Nat))] [] = some (.exit 0, [(1, .int .i64 k), (4, .undef)], []))
    (hstep : ∀ (i : Nat) cc x (k m : Int) K, cont[i]? = some cc → xs[i]? = some x → (i : Int) < cont.length → R cc x → HR x k m → 0 ≤ k → m ≤ 4611686018427387904 → LoopS run draw [0, 1, 5] [1, 4] c n0 (K + 1) [(0, .sl cl sz cont), (1, .int .i64 k), (5, .int .i64 (i : Nat))] [] = LoopS run draw [0, 1, 5] [1, 4] c n0 K [(0, .sl cl sz cont), (1, .int .i64 m), (5, .int .i64 ((i + 1 : Nat) : Int))] [])
    {k : Int} (hk : HeldZ HR xs k kf) (h0 : 0 ≤ k) (hf : kf ≤ 4611686018427387904) (K : Nat) (hK : cont.length ≤ K) :
    LoopS run draw [0, 1, 5] [1, 4] c n0 K [(0, .sl cl sz cont), (1, .int .i64 k), (5, .int .i64 0)] [] = some (.exit 0, [(1, .int .i64 kf), (4, .undef)], []) := by
  have hl := Zip2_len hz
  obtain ⟨b', hb, e⟩ := LoopS_inv (run := run) (draw := draw) (live := [0, 1, 5]) (out := [1, 4]) (c := c) (n0 := n0) cont.length (fun i (k : Int) => HeldZ HR (xs.drop i) k kf ∧ 0 ≤ k) (fun i k => [(0, .sl cl sz cont), (1, .int .i64 k), (5, .int .i64 (i : Nat))]) (fun _ => []) (fun k => some (.exit 0, [(1, .int .i64 k), (4, .undef)], []))
    (fun k K _ => hend k K) (fun i k K hi hb => by
      have hc := List.getElem?_eq_getElem hi
      obtain ⟨x, hx, hr⟩ := Zip2_at hz hc
      obtain ⟨m, h1, h2⟩ := HeldZ_drop hx hb.1
      have l1 := hle _ _ _ h1
      have l2 := HeldZ_le hle h2
      exact ⟨m, ⟨h2, by omega⟩, hstep i _ x k m K hc hx (by omega) hr h1 hb.2 (by omega)⟩) K hK k ⟨by simpa using hk, h0⟩
  have h3 := hb.1
  rw [List.drop_of_length_le (by omega)] at h3
  simp only [HeldZ] at h3
  subst h3
  exact e
theorem eq_loop {R : List V → List U → Prop} {cl cl' : Bool} {sz : Nat} {cont cont' : List (List V)} {xs : List (List U)} (hz : Zip2 R cont xs) (hz' : Zip2 R cont' xs)
    (hend : ∀ K, LoopS run draw [0, 1, 5] [4] c n0 K [(0, .sl cl sz cont), (1, .sl cl' sz cont'), (5, .int .i64 (xs.length : Nat))] [] = some (.exit 0, [(4, .undef)], []))
    (hstep : ∀ (i : Nat) cc cc' x K, cont[i]? = some cc → cont'[i]? = some cc' → xs[i]? = some x → (i : Int) < cont.length → R cc x → R cc' x → LoopS run draw [0, 1, 5] [4] c n0 (K + 1) [(0, .sl cl sz cont), (1, .sl cl' sz cont'), (5, .int .i64 (i : Nat))] [] = LoopS run draw [0, 1, 5] [4] c n0 K [(0, .sl cl sz cont), (1, .sl cl' sz cont'), (5, .int .i64 ((i + 1 : Nat) : Int))] [])
    (K : Nat) (hK : cont.length ≤ K) :
    LoopS run draw [0, 1, 5] [4] c n0 K [(0, .sl cl sz cont), (1, .sl cl' sz cont'), (5, .int .i64 0)] [] = some (.exit 0, [(4, .undef)], []) := by
  have hl := Zip2_len hz
  have hl' := Zip2_len hz'
  obtain ⟨b', hb, e⟩ := LoopS_inv (run := run) (draw := draw) (live := [0, 1, 5]) (out := [4]) (c := c) (n0 := n0) xs.length (fun i (_ : Unit) => True) (fun i _ => [(0, .sl cl sz cont), (1, .sl cl' sz cont'), (5, .int .i64 (i : Nat))]) (fun _ => []) (fun _ => some (.exit 0, [(4, .undef)], []))
    (fun _ K _ => hend K) (fun i _ K hi _ => by
      have hc := List.getElem?_eq_getElem (show i < cont.length by omega)
      have hc' := List.getElem?_eq_getElem (show i < cont'.length by omega)
      obtain ⟨x, hx, hr⟩ := Zip2_at hz hc
      obtain ⟨x', hx', hr'⟩ := Zip2_at hz' hc'
      rw [hx] at hx'
      injection hx' with hx'
      subst hx'
      exact ⟨(), trivial, hstep i _ _ x K hc hc' hx (by omega) hr hr'⟩) K (by omega) () trivial
  exact e
theorem sz_loop {R : List V → List U → Prop} {SR : List U → Int → Int} {cl : Bool} {sz : Nat} {cont : List (List V)} {xs : List (List U)} (hz : Zip2 R cont xs)
    (hend : ∀ (l : Int) K, LoopS run draw [0, 1, 5] [1, 4] c n0 K [(0, .sl cl sz cont), (1, .int .i64 l), (5, .int .i64 (cont.length : Nat))] [] = some (.exit 0, [(1, .int .i64 l), (4, .undef)], []))
    (hstep : ∀ (i : Nat) cc x (l : Int) K, cont[i]? = some cc → xs[i]? = some x → (i : Int) < cont.length → R cc x → 0 ≤ l → l ≤ 1048576 →
      (SR x l < 0 ∧ ∃ v, LoopS run draw [0, 1, 5] [1, 4] c n0 (K + 1) [(0, .sl cl sz cont), (1, .int .i64 l), (5, .int .i64 (i : Nat))] [] = some (.ret, [(1, v), (4, .int .i64 (-1))], [])) ∨
      (0 ≤ SR x l ∧ SR x l ≤ l ∧ LoopS run draw [0, 1, 5] [1, 4] c n0 (K + 1) [(0, .sl cl sz cont), (1, .int .i64 l), (5, .int .i64 (i : Nat))] [] = LoopS run draw [0, 1, 5] [1, 4] c n0 K [(0, .sl cl sz cont), (1, .int .i64 (SR x l)), (5, .int .i64 ((i + 1 : Nat) : Int))] []))
    {l : Int} (h0 : 0 ≤ l) (hf : l ≤ 1048576) (K : Nat) (hK : cont.length ≤ K) :
    (szZ SR xs l < 0 ∧ ∃ v, LoopS run draw [0, 1, 5] [1, 4] c n0 K [(0, .sl cl sz cont), (1, .int .i64 l), (5, .int .i64 0)] [] = some (.ret, [(1, v), (4, .int .i64 (-1))], [])) ∨
    (0 ≤ szZ SR xs l ∧ LoopS run draw [0, 1, 5] [1, 4] c n0 K [(0, .sl cl sz cont), (1, .int .i64 l), (5, .int .i64 0)] [] = some (.exit 0, [(1, .int .i64 (szZ SR xs l)), (4, .undef)], [])) := by
  have hl := Zip2_len hz
  have key : ∀ (m i K : Nat) (l : Int), i + m = cont.length → m ≤ K → 0 ≤ l → l ≤ 1048576 →
      (szZ SR (xs.drop i) l < 0 ∧ ∃ v, LoopS run draw [0, 1, 5] [1, 4] c n0 K [(0, .sl cl sz cont), (1, .int .i64 l), (5, .int .i64 (i : Nat))] [] = some (.ret, [(1, v), (4, .int .i64 (-1))], [])) ∨
      (0 ≤ szZ SR (xs.drop i) l ∧ LoopS run draw [0, 1, 5] [1, 4] c n0 K [(0, .sl cl sz cont), (1, .int .i64 l), (5, .int .i64 (i : Nat))] [] = some (.exit 0, [(1, .int .i64 (szZ SR (xs.drop i) l)), (4, .undef)], [])) := by
    intro m
    induction m with
    | zero =>
      intro i K l hi _ h0 hf
      have : i = cont.length := by omega
      subst this
      rw [List.drop_of_length_le (by omega)]
      exact .inr ⟨h0, hend l K⟩
    | succ m ih =>
      intro i K l hi hK h0 hf
      obtain ⟨K, rfl⟩ : ∃ K', K = K' + 1 := ⟨K - 1, by omega⟩
      have hc := List.getElem?_eq_getElem (show i < cont.length by omega)
      obtain ⟨x, hx, hr⟩ := Zip2_at hz hc
      obtain ⟨hi2, ex⟩ := List.getElem?_eq_some_iff.1 hx
      rw [List.drop_eq_getElem_cons hi2, ex]
      simp only [szZ]
      rcases hstep i _ x l K hc hx (by omega) hr h0 hf with ⟨s1, s2⟩ | ⟨s1, s2, s3⟩
      · rw [if_pos s1]
        exact .inl ⟨by omega, s2⟩
      · rw [if_neg (by omega), s3]
        exact ih (i + 1) K _ (by omega) (by omega) s1 (by omega)
  have := key cont.length 0 K l (by omega) hK h0 hf
  simpa using this
theorem take_snoc {α : Type} {l : List α} {i : Nat} {x : α} (hx : l[i]? = some x) : l.take (i + 1) = l.take i ++ [x] := by
  rw [List.take_add_one, hx]; rfl
theorem to_loop {fs : List Fd} {zero : List V} {cl : Bool} {sz : Nat} {cont : List (List V)} {xs : List (List U)} (hz : Zip2 (PurR fs) cont xs)
    (hend : ∀ h K, LoopK run draw [0, 3, 4] [3] c K [(0, .sl cl sz cont), (3, .ref 0 0 0 cont.length true), (4, .int .i64 (cont.length : Nat))] h = some (.exit 0, [(3, .ref 0 0 0 cont.length true)], h))
    (hstep : ∀ (i : Nat) cc x h C K, cont[i]? = some cc → xs[i]? = some x → (i : Int) < cont.length → PurR fs cc x → h[0]? = some (blkOf fs 0 C) → C[i]? = some zero → C.length = cont.length →
      ∃ h' cells a, LoopK run draw [0, 3, 4] [3] c (K + 1) [(0, .sl cl sz cont), (3, .ref 0 0 0 cont.length true), (4, .int .i64 (i : Nat))] h = LoopK run draw [0, 3, 4] [3] c K [(0, .sl cl sz cont), (3, .ref 0 0 0 cont.length true), (4, .int .i64 ((i + 1 : Nat) : Int))] h' ∧
        h'[0]? = some (blkOf fs 0 (C.set i cells)) ∧ OwnR h' fs cells x a ∧ a.Nodup ∧ (∀ j ∈ a, h.length ≤ j) ∧ (∀ j, j ≠ 0 → j < h.length → h'[j]? = h[j]?) ∧ h.length ≤ h'.length)
    {h : Heap} (hh : h[0]? = some (blkOf fs 0 (List.replicate cont.length zero))) (K : Nat) (hK : cont.length ≤ K) :
    ∃ h' r, LoopK run draw [0, 3, 4] [3] c K [(0, .sl cl sz cont), (3, .ref 0 0 0 cont.length true), (4, .int .i64 0)] h = some (.exit 0, [(3, .ref 0 0 0 cont.length true)], h') ∧
      OwnF h' (.sub fs) (.ref 0 0 0 cont.length true) (.sub xs) (0 :: r) ∧ (0 :: r).Nodup := by
  have hl := Zip2_len hz
  obtain ⟨h', ⟨done, ids, g1, g2, g3, g4, g5⟩, e⟩ := LoopK_inv (run := run) (draw := draw) (live := [0, 3, 4]) (out := [3]) (c := c) cont.length
    (fun i (h : Heap) => ∃ done ids, h[0]? = some (blkOf fs 0 (done ++ List.replicate (cont.length - i) zero)) ∧ done.length = i ∧ Zip3 (OwnR h fs) done (xs.take i) ids ∧ ids.Nodup ∧ 0 ∉ ids)
    (fun i _ => [(0, .sl cl sz cont), (3, .ref 0 0 0 cont.length true), (4, .int .i64 (i : Nat))]) (fun h => h) (fun h => some (.exit 0, [(3, .ref 0 0 0 cont.length true)], h))
    (fun h K _ => hend h K) (fun i h K hi hb => by
      obtain ⟨done, ids, g1, g2, g3, g4, g5⟩ := hb
      have hc := List.getElem?_eq_getElem hi
      obtain ⟨x, hx, hr⟩ := Zip2_at hz hc
      have hC : (done ++ List.replicate (cont.length - i) zero)[i]? = some zero := by
        rw [List.getElem?_append_right (by omega), g2, Nat.sub_self, List.getElem?_replicate, if_pos (by omega)]
      obtain ⟨h', cells, a, e, f1, f2, f3, f4, f5, f6⟩ := hstep i _ x h _ K hc hx (by omega) hr g1 hC (by simp; omega)
      have hlt := Zip3_all (fun c x i hr => OwnR_lt fs hr) g3
      refine ⟨h', ⟨done ++ [cells], ids ++ a, ?_, by simp [g2], ?_, ?_, ?_⟩, e⟩
      · rw [f1, List.set_append_right _ _ (by omega), g2, Nat.sub_self, List.append_assoc]
        obtain ⟨m, hm⟩ : ∃ m, cont.length - i = m + 1 := ⟨cont.length - i - 1, by omega⟩
        rw [hm, List.replicate_succ, List.set_cons_zero, show cont.length - (i + 1) = m by omega]
        rfl
      · rw [take_snoc hx]
        refine Zip3_app (Zip3_mono (P := fun id => id ∈ ids) (fun c x j hr hp => OwnR_frame fs hr (fun id hid => f5 id (fun e => g5 (e ▸ hp id hid)) (hlt id (hp id hid)))) g3 (fun _ h => h)) (Zip3_one f2)
      · refine List.nodup_append.2 ⟨g4, f3, fun p hp q hq => ?_⟩
        have := hlt p hp
        have := f4 q hq
        omega
      · intro hm
        rcases List.mem_append.1 hm with hm | hm
        · exact g5 hm
        · have := f4 0 hm
          have := (List.getElem?_eq_some_iff.1 g1).1
          omega) K hK h ⟨[], [], by simpa using hh, rfl, by simp [Zip3], List.nodup_nil, by simp⟩
  rw [List.take_of_length_le (by omega)] at g3
  rw [Nat.sub_self, List.replicate_zero, List.append_nil] at g1
  refine ⟨h', ids, e, ?_, List.nodup_cons.2 ⟨g5, g4⟩⟩
  simp only [OwnF]
  exact ⟨xs, rfl, .inr ⟨0, 0, true, done, ids, by rw [g2], g1, rfl, g3⟩⟩

theorem Zip3_cons {α β : Type} {R : α → β → List Nat → Prop} {ays : List α} {bs : List β} {ids : List Nat} (h : Zip3 R ays bs ids) {b : β} {bs' : List β} (e : bs = b :: bs') : ∃ a ays' i j, ays = a :: ays' ∧ ids = i ++ j ∧ R a b i ∧ Zip3 R ays' bs' j := by
  subst e
  cases ays with
  | nil => exact h.elim
  | cons a ays => obtain ⟨i, j, e, h1, h2⟩ := h; exact ⟨a, ays, i, j, rfl, e, h1, h2⟩
theorem sumU_snoc (c : List U → Nat) : ∀ (xs : List (List U)) (x : List U), sumU c (xs ++ [x]) = sumU c xs + c x
  | [], x => by simp [sumU]
  | y :: ys, x => by simp [sumU, sumU_snoc c ys x]; omega
/-- The root of a tree and all that lies beneath it, marked. -/
theorem mark_loop {fs : List Fd} {id st n : Nat} {clip : Bool} {xs : List (List U)} {h : Heap} {cont : List (List V)} {r : List Nat} {k : Int}
    (hend : ∀ h (k : Int) K, LoopK run draw [0, 1, 5] [1] c K [(0, .ref id st 0 n clip), (1, .int .i64 k), (5, .int .i64 (n : Nat))] h = some (.exit 0, [(1, .int .i64 k)], h))
    (hstep : ∀ (i : Nat) h C cc x a (k : Int) K, (i : Int) < n → h[id]? = some (blkOf fs st C) → C.length = n → C[i]? = some cc → OwnR h fs cc x a → LenR big big fs x → id ∉ a → a.Nodup → 0 ≤ k → k + cntR fs x ≤ 4611686018427387904 →
      ∃ h' cells y, LoopK run draw [0, 1, 5] [1] c (K + 1) [(0, .ref id st 0 n clip), (1, .int .i64 k), (5, .int .i64 (i : Nat))] h = LoopK run draw [0, 1, 5] [1] c K [(0, .ref id st 0 n clip), (1, .int .i64 (k + cntR fs x)), (5, .int .i64 ((i + 1 : Nat) : Int))] h' ∧
        h'[id]? = some (blkOf fs st (C.set i cells)) ∧ OwnR h' fs cells y a ∧ HeldR fs y k (k + cntR fs x) ∧ LenR big big fs y ∧ (∀ j, j ≠ id → j ∉ a → h'[j]? = h[j]?) ∧ h'.length = h.length)
    (hn : cont.length = n) (hb : h[id]? = some (blkOf fs st cont)) (ho : Zip3 (OwnR h fs) cont xs r) (hnd : (id :: r).Nodup) (hlen : AllU (LenR big big fs) xs) (h0 : 0 ≤ k) (hk : k + sumU (cntR fs) xs ≤ 4611686018427387904) (K : Nat) (hK : n ≤ K) :
    ∃ h' ys, LoopK run draw [0, 1, 5] [1] c K [(0, .ref id st 0 n clip), (1, .int .i64 k), (5, .int .i64 0)] h = some (.exit 0, [(1, .int .i64 (k + sumU (cntR fs) xs))], h') ∧
      OwnF h' (.sub fs) (.ref id st 0 n clip) (.sub ys) (id :: r) ∧ HeldZ (HeldR fs) ys k (k + sumU (cntR fs) xs) ∧ ys.length = xs.length ∧ AllU (LenR big big fs) ys ∧ (∀ j, j ∉ id :: r → h'[j]? = h[j]?) ∧ h'.length = h.length := by
  have hl := Zip3_len ho
  obtain ⟨⟨h', k'⟩, ⟨done, rest, ys, ia, ib, g1, g2, g3, g4, g5, g6, g7, g8, g9, ga, gb, gc⟩, e⟩ := LoopK_inv (run := run) (draw := draw) (live := [0, 1, 5]) (out := [1]) (c := c) n
    (fun i (b : Heap × Int) => ∃ done rest ys ia ib, b.1[id]? = some (blkOf fs st (done ++ rest)) ∧ done.length = i ∧ (done ++ rest).length = n ∧ Zip3 (OwnR b.1 fs) done ys ia ∧ Zip3 (OwnR b.1 fs) rest (xs.drop i) ib ∧ r = ia ++ ib ∧ HeldZ (HeldR fs) ys k b.2 ∧ b.2 = k + sumU (cntR fs) (xs.take i) ∧ ys.length = i ∧ AllU (LenR big big fs) ys ∧ b.1.length = h.length ∧ ∀ j, j ∉ id :: r → b.1[j]? = h[j]?)
    (fun i b => [(0, .ref id st 0 n clip), (1, .int .i64 b.2), (5, .int .i64 (i : Nat))]) (fun b => b.1) (fun b => some (.exit 0, [(1, .int .i64 b.2)], b.1))
    (fun b K _ => hend b.1 b.2 K) (fun i b K hi hb => by
      obtain ⟨hp, kp⟩ := b
      obtain ⟨done, rest, ys, ia, ib, g1, g2, g3, g4, g5, g6, g7, g8, g9, ga, gb, gc⟩ := hb
      simp only at g1 g4 g5 g7 g8 gb gc ⊢
      have hix : i < xs.length := by omega
      obtain ⟨cc, rest', a, jb, e1, e2, o1, o2⟩ := Zip3_cons g5 (List.drop_eq_getElem_cons hix)
      have hx : xs[i]? = some xs[i] := List.getElem?_eq_getElem hix
      generalize xs[i] = x at *
      subst e1 e2
      have hC : (done ++ cc :: rest')[i]? = some cc := by rw [List.getElem?_append_right (by omega), g2, Nat.sub_self]; rfl
      subst g6
      obtain ⟨n1, n2⟩ := List.nodup_cons.1 hnd
      have hida : id ∉ a := fun hm => n1 (by simp [hm])
      obtain ⟨m1, m2, m3⟩ := List.nodup_append.1 n2
      obtain ⟨m4, m5, m6⟩ := List.nodup_append.1 m2
      have hle : sumU (cntR fs) (xs.take (i + 1)) ≤ sumU (cntR fs) xs := by
        have : ∀ (m : Nat) (zs : List (List U)), sumU (cntR fs) (zs.take m) ≤ sumU (cntR fs) zs := by
          intro m
          induction m with
          | zero => intro zs; simp [sumU]
          | succ m ih =>
            intro zs
            cases zs with
            | nil => simp [sumU]
            | cons z zs => simp only [List.take_succ_cons, sumU]; have := ih zs; omega
        exact this _ _
      rw [take_snoc hx, sumU_snoc] at hle
      obtain ⟨h', cells, y, e, f1, f2, f3, f4, f5, f6⟩ := hstep i hp _ cc x a kp K (by omega) g1 g3 hC o1 (AllU_at hlen hx) hida m4 (by omega) (by omega)
      refine ⟨(h', kp + cntR fs x), ⟨done ++ [cells], rest', ys ++ [y], ia ++ a, jb, ?_, by simp [g2], by simpa using g3, ?_, ?_, by simp, HeldZ_snoc g7 f3, ?_, by simp [g9], ?_, f6.trans gb, fun j hj => ?_⟩, e⟩
      · rw [f1, List.set_append_right _ _ (by omega), g2, Nat.sub_self, List.set_cons_zero, List.append_assoc]; rfl
      · refine Zip3_app (Zip3_mono (P := fun j => j ∈ ia) (fun c x j hr hp => OwnR_frame fs hr (fun q hq => f5 q (fun e => n1 (by rw [← e]; simp [hp q hq])) (fun hm => m3 q (hp q hq) q (by simp [hm]) rfl))) g4 (fun _ h => h)) (Zip3_one f2)
      · refine Zip3_mono (P := fun j => j ∈ jb) (fun c x j hr hp => OwnR_frame fs hr (fun q hq => f5 q (fun e => n1 (by rw [← e]; simp [hp q hq])) (fun hm => m6 q hm q (hp q hq) rfl))) o2 (fun _ h => h)
      · simp only
        rw [take_snoc hx, sumU_snoc]
        push_cast
        omega
      · have : ∀ (zs : List (List U)), AllU (LenR big big fs) zs → AllU (LenR big big fs) (zs ++ [y]) := by
          intro zs
          induction zs with
          | nil => intro _; exact ⟨f4, trivial⟩
          | cons z zs ih => intro h; exact ⟨h.1, ih h.2⟩
        exact this ys ga
      · simp only
        rw [← gc j hj]
        refine f5 j (fun e => hj (by simp [e])) (fun hm => hj (by simp [hm]))) K hK (h, k) ⟨[], cont, [], [], r, by simpa using hb, rfl, by simpa using hn, rfl, by simpa using ho, rfl, rfl, by simp [sumU], rfl, trivial, rfl, fun _ _ => rfl⟩
  simp only at g1 g4 g5 g7 g8 gb gc e
  rw [List.take_of_length_le (by omega)] at g8
  rw [List.drop_of_length_le (by omega)] at g5
  have hr0 : rest = [] := by
    cases rest with
    | nil => rfl
    | cons a ays => simp [Zip3] at g5
  subst hr0
  simp only [Zip3] at g5
  subst g5 g6
  subst g8
  rw [List.append_nil] at g1 g3
  refine ⟨h', ys, e, ?_, g7, by omega, ga, gc, gb⟩
  simp only [OwnF]
  exact ⟨ys, rfl, .inr ⟨id, st, clip, done, ia, by rw [g3], g1, by simp, g4⟩⟩
end
end Go.Proofs.Ytfbjbkkcilhgjaa.PE
/- What the functions of exact statements promise; the text of a mark. -/
set_option linter.unusedVariables false
set_option linter.unusedSimpArgs false
set_option maxHeartbeats 4000000
namespace Go.Proofs.Ytfbjbkkcilhgjaa.PE
open Go.RowKit

theorem szZ_neg {R : List U → Int → Int} : ∀ {xs : List (List U)} {l : Int}, 0 ≤ l → szZ R xs l < 0 → szZ R xs l = -1
  | [], l, h0, h => by simp only [szZ] at h; omega
  | x :: xs, l, h0, h => by
    simp only [szZ] at h ⊢
    by_cases hx : R x l < 0
    · rw [if_pos hx]
    · rw [if_neg hx] at h ⊢; exact szZ_neg (by omega) h

theorem szF_le {f : Fd} {u : U} {l : Int} (hk : okFd f = true) (h0 : 0 ≤ l) (h1 : l ≤ 1048576) : szF f u l ≤ l := by
  by_cases h : 0 ≤ szF f u l
  · exact (szF_spec (N := 1048576) f u l hk (by omega) h h0).1
  · omega
theorem szR_le {fs : List Fd} {x : List U} {l : Int} (hk : okFds fs = true) (h0 : 0 ≤ l) (h1 : l ≤ 1048576) : szR fs x l ≤ l := by
  by_cases h : 0 ≤ szR fs x l
  · exact (szR_spec (N := 1048576) fs x l hk (by omega) h h0).1
  · omega

theorem Zip2_len2 {R : List V → List U → Prop} {P : List U → Prop} : ∀ {l1 : List (List V)} {l2 : List (List U)}, Zip2 R l1 l2 → AllU P l2 → Zip2 (fun c x => R c x ∧ P x) l1 l2
  | [], [], _, _ => trivial
  | a :: l1, b :: l2, ⟨h1, h2⟩, ⟨g1, g2⟩ => ⟨⟨h1, g1⟩, Zip2_len2 h2 g2⟩
  | [], _ :: _, h, _ => h.elim
  | _ :: _, [], h, _ => h.elim
/-! ### copies -/
def ToOK (d f : Nat) (fs : List Fd) : Prop := ∀ {p : V} {xs : List (List U)}, PurF (.sub fs) p (.sub xs) → xs.length ≤ 1048576 → AllU (LenR 1048576 1048576 fs) xs → ∃ v hc ids, runD tab noExt d f [p] [] = some ([v], hc) ∧ OwnF hc (.sub fs) v (.sub xs) ids ∧ ids.Nodup

theorem own_cases {h : Heap} {fs : List Fd} {v : V} {u : U} {ids : List Nat} (ho : OwnF h (.sub fs) v u ids) : (∃ c, v = .sl c fs.length []) ∨ ∃ id st n clip, v = .ref id st 0 n clip := by
  simp only [OwnF] at ho
  obtain ⟨xs, _, ⟨c, e, _⟩ | ⟨id, st, clip, cont, r, e, _⟩⟩ := ho
  · exact .inl ⟨c, e⟩
  · exact .inr ⟨id, st, _, clip, e⟩
theorem own_call {run : Run} {h : Heap} {f : Nat} {args args' : List V} {v : V} {hc : Heap} {fs : List Fd} {u : U} {ids : List Nat} (hp : pureDAs h args = some args') (hr : run f args' [] = some ([v], hc)) (ho : OwnF hc (.sub fs) v u ids) (hn : ids.Nodup) :
    ∃ v' h' ids', callX run h 0 f args = some (v', h') ∧ OwnF h' (.sub fs) v' u ids' ∧ ids'.Nodup ∧ (∀ j ∈ ids', h.length ≤ j) ∧ (∀ j, j < h.length → h'[j]? = h[j]?) ∧ h.length ≤ h'.length := by
  have hs : [v].all scalarA = false := by
    rcases own_cases ho with ⟨c, rfl⟩ | ⟨id, st, n, clip, rfl⟩ <;> rfl
  have hf : [v].all freshA = true := by
    rcases own_cases ho with ⟨c, rfl⟩ | ⟨id, st, n, clip, rfl⟩ <;> rfl
  have ha : shA h.length v = shC h.length v := by
    rcases own_cases ho with ⟨c, rfl⟩ | ⟨id, st, n, clip, rfl⟩ <;> rfl
  refine ⟨shC h.length v, h ++ movedH h.length hc, ids.map (· + h.length), ?_, OwnF_moved _ ho, ?_, fun j hj => ?_, fun j hj => by rw [List.getElem?_append_left hj], by simp⟩
  · simp only [callX, callO, hp, hr, BackO, hs, hf, Bool.false_eq_true, if_false, if_true, List.map_cons, List.map_nil, oneOf, ha]
  · exact (List.pairwise_map.2 (List.Pairwise.imp (fun {a b} hab => by simp only [ne_eq] at hab ⊢; omega) hn))
  · obtain ⟨i, _, rfl⟩ := List.mem_map.1 hj
    omega
theorem pureDA_pur {h : Heap} {f : Fd} {p : V} {u : U} (hp : PurF f p u) : pureDA h p = some p := by
  cases f with
  | int k => simp only [PurF] at hp; obtain ⟨_, rfl, _⟩ := hp; rfl
  | bool => simp only [PurF] at hp; obtain ⟨_, rfl, _⟩ := hp; rfl
  | str => simp only [PurF] at hp; obtain ⟨_, rfl, _⟩ := hp; rfl
  | sub fs => simp only [PurF] at hp; obtain ⟨_, _, _, rfl, _⟩ := hp; rfl

def EqOK (d f : Nat) (fs : List Fd) : Prop := ∀ {p q : V} {xs : List (List U)}, PurF (.sub fs) p (.sub xs) → PurF (.sub fs) q (.sub xs) → LenF big big (.sub fs) (.sub xs) → retP (runD tab noExt d) f [p, q] = some [.bool true]

theorem digs_size : ∀ (f n : Nat) (s : ByteArray), (digs f n s).size ≤ s.size + f
  | 0, n, s => by simp [digs]
  | f + 1, n, s => by
    simp only [digs]
    split
    · omega
    · have := digs_size f (n / 10) (⟨#[UInt8.ofNat (48 + n % 10)]⟩ ++ s)
      have e : (⟨#[UInt8.ofNat (48 + n % 10)]⟩ ++ s : ByteArray).size = 1 + s.size := by rw [ByteArray.size_append]; rfl
      omega
theorem txt_size (k : Int) : (txt k).size ≤ 21 := by
  unfold txt
  split
  · decide
  · rw [ByteArray.size_append]
    have := digs_size 20 k.toNat ⟨#[]⟩
    have e : (⟨#[109]⟩ : ByteArray).size = 1 := rfl
    have e2 : (⟨#[]⟩ : ByteArray).size = 0 := rfl
    omega
-- find142
theorem loop_markText (d : Nat) : ∀ (f n K : Nat) (s : ByteArray), n < 10 ^ f → n ≤ 4611686018427387904 → s.size + f ≤ 1000 → f ≤ K → LoopS (runD tab noExt d) (drawI (runD tab noExt d)) [0, 3] [3] L142x0 0 K [(0, .int .i64 (n : Nat)), (3, .str s)] [] = some (.exit 0, [(3, .str (digs f n s))], []) := by
  intro f
  induction f with
  | zero =>
    intro n K s hn _ _ _
    have : n = 0 := by simpa using hn
    subst this
    rw [LoopS_eq]
    simp -implicitDefEqProofs only [go_sem, Nat.reduceBEq, Nat.reduceAdd, Nat.reduceSub, Nat.reduceMul, Nat.reduceLeDiff, Nat.reduceEqDiff, Nat.reduceLT, Int.reduceNeg, Int.reduceAdd, Int.reduceSub, Int.reduceMul, Int.reduceLE, Int.reduceLT, Int.reduceEq, Int.reduceToNat, reduceCtorEq, evL142x0, B142x0, Int.lt_irrefl, digs]
  | succ f ih =>
    intro n K s hn hb hs hK
    by_cases h0 : n = 0
    · subst h0
      rw [LoopS_eq]
      simp -implicitDefEqProofs only [go_sem, Nat.reduceBEq, Nat.reduceAdd, Nat.reduceSub, Nat.reduceMul, Nat.reduceLeDiff, Nat.reduceEqDiff, Nat.reduceLT, Int.reduceNeg, Int.reduceAdd, Int.reduceSub, Int.reduceMul, Int.reduceLE, Int.reduceLT, Int.reduceEq, Int.reduceToNat, reduceCtorEq, evL142x0, B142x0, Int.lt_irrefl, digs]
    · obtain ⟨K, rfl⟩ : ∃ K', K = K' + 1 := ⟨K - 1, by omega⟩
      have e1 : (0 < (n : Int)) = True := eq_true (by omega)
      have e2 : ((n : Int).tmod 10) = ((n % 10 : Nat) : Int) := by rw [Int.tmod_eq_emod_of_nonneg (by omega)]; omega
      have e3 : ((n : Int).tdiv 10) = ((n / 10 : Nat) : Int) := by rw [Int.tdiv_eq_ediv_of_nonneg (by omega)]; omega
      have e4 : UInt8.ofNat ((48 + (n % 10 : Nat) : Int)).toNat = UInt8.ofNat (48 + n % 10) := by congr 1
      have e5 : (⟨#[UInt8.ofNat (48 + n % 10)]⟩ : ByteArray).size = 1 := rfl
      have e6 : (⟨#[UInt8.ofNat (48 + n % 10)]⟩ ++ s : ByteArray).size = 1 + s.size := by rw [ByteArray.size_append]; rfl
      have hih := ih (n / 10) K (⟨#[UInt8.ofNat (48 + n % 10)]⟩ ++ s) (by rw [Nat.pow_succ] at hn; omega) (by omega) (by omega) (by omega)
      have e7 : (1 + s.size < 4294967296) = True := eq_true (by omega)
      rw [LoopS_eq]
      simp -implicitDefEqProofs (disch := omega) only [go_sem, Nat.reduceBEq, Nat.reduceAdd, Nat.reduceSub, Nat.reduceMul, Nat.reduceLeDiff, Nat.reduceEqDiff, Nat.reduceLT, Int.reduceNeg, Int.reduceAdd, Int.reduceSub, Int.reduceMul, Int.reduceLE, Int.reduceLT, Int.reduceEq, Int.reduceToNat, reduceCtorEq, evL142x0, B142x0, e1, e2, e3, IntWalk.i64_in, IntWalk.u8_in, elemsOf, elemOf, refsV, refs, refC, List.flatMap_cons, List.flatMap_nil, frzs, listOf, bytesOf, e4, e5, e7, digs, h0, hih]
theorem run_markText (d : Nat) (k : Int) (h0 : 0 ≤ k) (h1 : k ≤ 4611686018427387904) : retP (runD tab noExt (d + 1)) 142 [.int .i64 k] = some [.str (txt k)] := by
  rw [retP, runD_eq find142 _ _ _ (by simp)]
  by_cases e : k ≤ 0
  · simp -implicitDefEqProofs (disch := omega) only [go_sem, Nat.reduceBEq, Nat.reduceAdd, Nat.reduceSub, Nat.reduceMul, Nat.reduceLeDiff, Nat.reduceEqDiff, Nat.reduceLT, Int.reduceNeg, Int.reduceAdd, Int.reduceSub, Int.reduceMul, Int.reduceLE, Int.reduceLT, Int.reduceEq, Int.reduceToNat, reduceCtorEq, e, txt]
  · obtain ⟨n, rfl⟩ : ∃ n : Nat, k = n := ⟨k.toNat, by omega⟩
    have hlp := loop_markText d 20 n 1099511627775 ⟨#[]⟩ (by omega) (by omega) (by decide) (by omega)
    have hd := digs_size 20 n ⟨#[]⟩
    have e0 : (⟨#[]⟩ : ByteArray).size = 0 := rfl
    have e1 : (⟨#[109]⟩ : ByteArray).size = 1 := rfl
    have e2 : (1 + (digs 20 n ⟨#[]⟩).size < 4294967296) = True := eq_true (by omega)
    simp -implicitDefEqProofs (disch := omega) only [go_sem, Nat.reduceBEq, Nat.reduceAdd, Nat.reduceSub, Nat.reduceMul, Nat.reduceLeDiff, Nat.reduceEqDiff, Nat.reduceLT, Int.reduceNeg, Int.reduceAdd, Int.reduceSub, Int.reduceMul, Int.reduceLE, Int.reduceLT, Int.reduceEq, Int.reduceToNat, reduceCtorEq, e, txt]
    rw [hlp]
    simp -implicitDefEqProofs (disch := omega) only [go_sem, Nat.reduceBEq, Nat.reduceAdd, Nat.reduceSub, Nat.reduceMul, Nat.reduceLeDiff, Nat.reduceEqDiff, Nat.reduceLT, Int.reduceNeg, Int.reduceAdd, Int.reduceSub, Int.reduceMul, Int.reduceLE, Int.reduceLT, Int.reduceEq, Int.reduceToNat, reduceCtorEq, e1, e2]
theorem txt_big (k : Int) : LenF big big .str (.str (txt k)) := by
  have := txt_size k
  simp only [LenF]
  unfold big
  omega
def HeldOK (d f : Nat) (fs : List Fd) : Prop := ∀ {p : V} {xs : List (List U)} {k k' : Int}, PurF (.sub fs) p (.sub xs) → HeldF (.sub fs) (.sub xs) k k' → 0 ≤ k → k' ≤ 4611686018427387904 → LenF big big (.sub fs) (.sub xs) → retP (runD tab noExt d) f [p, .int .i64 k] = some [.int .i64 k']

def MarkOK (d f : Nat) (fs : List Fd) : Prop := ∀ {h : Heap} {v : V} {xs : List (List U)} {ids : List Nat} {k : Int}, OwnF h (.sub fs) v (.sub xs) ids → ids.Nodup → LenF big big (.sub fs) (.sub xs) → 0 ≤ k → k + cntF (.sub fs) (.sub xs) ≤ 4611686018427387904 →
  ∃ h' ys, callX (runD tab noExt d) h 2 f [v, .int .i64 k] = some (.int .i64 (k + cntF (.sub fs) (.sub xs)), h') ∧ OwnF h' (.sub fs) v (.sub ys) ids ∧ HeldF (.sub fs) (.sub ys) k (k + cntF (.sub fs) (.sub xs)) ∧ LenF big big (.sub fs) (.sub ys) ∧ (∀ j, j ∉ ids → h'[j]? = h[j]?) ∧ h'.length = h.length

theorem set_same {α : Type} {l : List α} {i : Nat} {x : α} (hx : l[i]? = some x) : l.set i x = l := by
  obtain ⟨hi, rfl⟩ := List.getElem?_eq_some_iff.1 hx
  exact List.set_getElem_self hi
theorem szF_int (k : IntKind) (u : U) (l : Int) : szF (.int k) u l = l := by cases u <;> simp [szF]
theorem szF_bool (u : U) (l : Int) : szF .bool u l = l := by cases u <;> simp [szF]
theorem szF_str (s : ByteArray) (l : Int) : szF .str (.str s) l = if l - s.size < 0 then -1 else l - s.size := by simp only [szF]
theorem cntF_int (k : IntKind) (u : U) : cntF (.int k) u = 1 := by cases u <;> simp [cntF]
theorem cntF_bool (u : U) : cntF .bool u = 1 := by cases u <;> simp [cntF]
theorem cntF_str (u : U) : cntF .str u = 1 := by cases u <;> simp [cntF]
theorem pureD_pur {h : Heap} {f : Fd} {p : V} {u : U} (hp : PurF f p u) (n : Nat) : pureD h n p = some p := by
  cases f with
  | int k => simp only [PurF] at hp; obtain ⟨_, rfl, _⟩ := hp; cases n <;> rfl
  | bool => simp only [PurF] at hp; obtain ⟨_, rfl, _⟩ := hp; cases n <;> rfl
  | str => simp only [PurF] at hp; obtain ⟨_, rfl, _⟩ := hp; cases n <;> rfl
  | sub fs => simp only [PurF] at hp; obtain ⟨_, _, _, rfl, _⟩ := hp; cases n <;> rfl
theorem own_callA {run : Run} {h : Heap} {f : Nat} {args args' : List V} {cs : List V} {hc : Heap} {fs : List Fd} {x : List U} {ids : List Nat} (hp : pureDAs h args = some args') (hr : run f args' [] = some ([.agg cs], hc)) (ho : OwnR hc fs cs x ids) (hn : ids.Nodup) (hs : cs.all scalar = false) :
    ∃ cs' h' ids', callX run h 0 f args = some (.agg cs', h') ∧ OwnR h' fs cs' x ids' ∧ ids'.Nodup ∧ (∀ j ∈ ids', h.length ≤ j) ∧ (∀ j, j < h.length → h'[j]? = h[j]?) ∧ h.length ≤ h'.length := by
  have hf := OwnR_fresh fs ho
  refine ⟨cs.map (shC h.length), h ++ movedH h.length hc, ids.map (· + h.length), ?_, OwnR_moved _ ho, ?_, fun j hj => ?_, fun j hj => by rw [List.getElem?_append_left hj], by simp⟩
  · simp only [callX, callO, hp, hr, BackO, List.all_cons, List.all_nil, scalarA, freshA, hs, hf, Bool.false_eq_true, Bool.false_and, Bool.true_and, if_false, if_true, List.map_cons, List.map_nil, oneOf, shA]
  · exact (List.pairwise_map.2 (List.Pairwise.imp (fun {a b} hab => by simp only [ne_eq] at hab ⊢; omega) hn))
  · obtain ⟨i, _, rfl⟩ := List.mem_map.1 hj
    omega
end Go.Proofs.Ytfbjbkkcilhgjaa.PE
/- What sizes, copies, comparisons and marks do, type by type. -/
set_option linter.unusedVariables false
set_option linter.unusedSimpArgs false
set_option maxHeartbeats 4000000
namespace Go.Proofs.Ytfbjbkkcilhgjaa.PE
open Go.RowKit

/-! ### Int -/
def fdInt : List Fd := [.int .i64]
/-! ### Column -/
def fdColumn : List Fd := [.int .i64, .bool]
/-! ### Value -/
def fdValue : List Fd := [.int .i64, .int .i64, .str]
theorem purR_Value {c : List V} {x : List U} (h : PurR fdValue c x) : ∃ (a0 : Int) (a1 : Int) (a2 : ByteArray), c = [.int .i64 a0, .int .i64 a1, .str a2] ∧ x = [.int a0, .int a1, .str a2] := by
  simp only [fdValue, PurR] at h
  obtain ⟨v0, _, u0, _, rfl, rfl, g0, v1, _, u1, _, rfl, rfl, g1, v2, _, u2, _, rfl, rfl, g2, rfl, rfl⟩ := h
  simp only [PurF] at g0
  obtain ⟨a0, rfl, rfl⟩ := g0
  simp only [PurF] at g1
  obtain ⟨a1, rfl, rfl⟩ := g1
  simp only [PurF] at g2
  obtain ⟨a2, rfl, rfl⟩ := g2
  exact ⟨a0, a1, a2, rfl, rfl⟩
theorem purR_mk_Value (a0 : Int) (a1 : Int) (a2 : ByteArray) : PurR fdValue [.int .i64 a0, .int .i64 a1, .str a2] [.int a0, .int a1, .str a2] := by
  simp only [fdValue, PurR]
  exact ⟨_, _, _, _, rfl, rfl, (by simp only [PurF]; first | exact ⟨a0, rfl, rfl⟩ | exact ⟨a0, rfl⟩ | trivial), _, _, _, _, rfl, rfl, (by simp only [PurF]; first | exact ⟨a1, rfl, rfl⟩ | exact ⟨a1, rfl⟩ | trivial), _, _, _, _, rfl, rfl, (by simp only [PurF]; first | exact ⟨a2, rfl, rfl⟩ | exact ⟨a2, rfl⟩ | trivial), rfl, rfl⟩
theorem purS_Value {p : V} {xs : List (List U)} (hp : PurF (.sub fdValue) p (.sub xs)) : ∃ cl cont, p = .sl cl 3 cont ∧ Zip2 (PurR fdValue) cont xs := by
  simp only [PurF] at hp
  obtain ⟨cl, cont, xs', rfl, e, hz⟩ := hp
  injection e with e
  subst e
  exact ⟨cl, cont, rfl, hz⟩
theorem ownR_Value {h : Heap} {c : List V} {x : List U} {i : List Nat} (ho : OwnR h fdValue c x i) : ∃ (a0 : Int) (a1 : Int) (a2 : ByteArray) , c = [.int .i64 a0, .int .i64 a1, .str a2] ∧ x = [.int a0, .int a1, .str a2] ∧ i = [] := by
  simp only [fdValue, OwnR] at ho
  obtain ⟨v0, _, u0, _, i0, _, rfl, rfl, rfl, g0, v1, _, u1, _, i1, _, rfl, rfl, rfl, g1, v2, _, u2, _, i2, _, rfl, rfl, rfl, g2, rfl, rfl, rfl⟩ := ho
  simp only [OwnF] at g0
  obtain ⟨a0, rfl, rfl, rfl⟩ := g0
  simp only [OwnF] at g1
  obtain ⟨a1, rfl, rfl, rfl⟩ := g1
  simp only [OwnF] at g2
  obtain ⟨a2, rfl, rfl, rfl⟩ := g2
  exact ⟨a0, a1, a2, rfl, rfl, by simp⟩
theorem ownR_mk_Value (h : Heap) (a0 : Int) (a1 : Int) (a2 : ByteArray) : OwnR h fdValue [.int .i64 a0, .int .i64 a1, .str a2] [.int a0, .int a1, .str a2] [] := by
  simp only [fdValue, OwnR]
  exact ⟨_, _, _, _, [], [], rfl, rfl, (by simp), (by simp only [OwnF]; first | exact ⟨a0, rfl, rfl, rfl⟩ | exact ⟨a0, rfl, rfl, trivial⟩ | exact ⟨a0, rfl, rfl⟩ | exact ⟨a0, rfl⟩ | trivial), _, _, _, _, [], [], rfl, rfl, (by simp), (by simp only [OwnF]; first | exact ⟨a1, rfl, rfl, rfl⟩ | exact ⟨a1, rfl, rfl, trivial⟩ | exact ⟨a1, rfl, rfl⟩ | exact ⟨a1, rfl⟩ | trivial), _, _, _, _, [], [], rfl, rfl, (by simp), (by simp only [OwnF]; first | exact ⟨a2, rfl, rfl, rfl⟩ | exact ⟨a2, rfl, rfl, trivial⟩ | exact ⟨a2, rfl, rfl⟩ | exact ⟨a2, rfl⟩ | trivial), rfl, rfl, rfl⟩
theorem heldR_Value {x : List U} {k k' : Int} (h : HeldR fdValue x k k') (h0 : 0 ≤ k) (h1 : k' ≤ 4611686018427387904) : x = [.int k, .int (k + 1), .str (txt (k + 2))] ∧ k' = k + 3 := by
  simp only [fdValue, HeldR] at h
  obtain ⟨u0, _, m0, rfl, g0, u1, _, m1, rfl, g1, u2, _, m2, rfl, g2, rfl, ek⟩ := h
  simp only [HeldF] at g0
  obtain ⟨rfl, rfl⟩ := g0
  simp only [HeldF] at g1
  obtain ⟨rfl, rfl⟩ := g1
  simp only [HeldF] at g2
  obtain ⟨rfl, rfl⟩ := g2
  exact ⟨by simp (disch := omega) only [IntWalk.i64_in, Int.add_assoc, Int.reduceAdd], by simp only [ek, Int.add_assoc, Int.reduceAdd]⟩
theorem heldR_mk_Value (k : Int)  (h0 : 0 ≤ k) (h1 : k + 3 ≤ 4611686018427387904) : HeldR fdValue [.int k, .int (k + 1), .str (txt (k + 2))] k (k + 3) := by
  simp only [fdValue, HeldR]
  exact ⟨_, _, (k + 1), rfl, (by simp only [HeldF]; first | trivial | exact ⟨rfl, by omega⟩ | exact ⟨by simp (disch := omega) only [IntWalk.i64_in], by omega⟩ | (simp (disch := omega) only [IntWalk.i64_in, true_and, Int.add_assoc, Int.reduceAdd]; done) | (simp (disch := omega) only [IntWalk.i64_in, true_and, Int.add_assoc, Int.reduceAdd]; omega)), _, _, (k + 2), rfl, (by simp only [HeldF]; first | trivial | exact ⟨rfl, by omega⟩ | exact ⟨by simp (disch := omega) only [IntWalk.i64_in], by omega⟩ | (simp (disch := omega) only [IntWalk.i64_in, true_and, Int.add_assoc, Int.reduceAdd]; done) | (simp (disch := omega) only [IntWalk.i64_in, true_and, Int.add_assoc, Int.reduceAdd]; omega)), _, _, (k + 3), rfl, (by simp only [HeldF]; first | trivial | exact ⟨rfl, by omega⟩ | exact ⟨by simp (disch := omega) only [IntWalk.i64_in], by omega⟩ | (simp (disch := omega) only [IntWalk.i64_in, true_and, Int.add_assoc, Int.reduceAdd]; done) | (simp (disch := omega) only [IntWalk.i64_in, true_and, Int.add_assoc, Int.reduceAdd]; omega)), rfl, by first | rfl | simp only [Int.add_assoc, Int.reduceAdd]⟩
-- find178
theorem run_szValue (d : Nat) (a0 : Int) (a1 : Int) (a2 : ByteArray) (l : Int) (hb : LenR 9223372036854775807 9223372036854775807 fdValue [.int a0, .int a1, .str a2]) (h0 : 0 ≤ l) (h1 : l ≤ 1048576) : retP (runD tab noExt (d + 1)) 178 [.agg [.int .i64 a0, .int .i64 a1, .str a2], .int .i64 l] = some [.int .i64 (szR fdValue [.int a0, .int a1, .str a2] l)] := by
  rw [retP, runD_eq find178 _ _ _ (by simp)]
  have e0 : (l < 0) = False := eq_false (by omega)
  simp only [fdValue, LenR] at hb
  have hb2 := hb.2.2.1
  simp only [LenF] at hb2
  have hm0 : l - (a2.size : Int) ≤ 1048576 := by omega
  by_cases e1 : (l - (a2.size : Int)) < 0
  · simp -implicitDefEqProofs (disch := omega) only [go_sem, Nat.reduceBEq, Nat.reduceAdd, Nat.reduceSub, Nat.reduceMul, Nat.reduceLeDiff, Nat.reduceEqDiff, Nat.reduceLT, Int.reduceNeg, Int.reduceAdd, Int.reduceSub, Int.reduceMul, Int.reduceLE, Int.reduceLT, Int.reduceEq, Int.reduceToNat, reduceCtorEq, IntWalk.i64_in, szR, szF_int, szF_bool, szF_str, fdValue, e0, e1, if_true, if_false]
  · simp -implicitDefEqProofs (disch := omega) only [go_sem, Nat.reduceBEq, Nat.reduceAdd, Nat.reduceSub, Nat.reduceMul, Nat.reduceLeDiff, Nat.reduceEqDiff, Nat.reduceLT, Int.reduceNeg, Int.reduceAdd, Int.reduceSub, Int.reduceMul, Int.reduceLE, Int.reduceLT, Int.reduceEq, Int.reduceToNat, reduceCtorEq, IntWalk.i64_in, szR, szF_int, szF_bool, szF_str, fdValue, e0, e1, if_true, if_false]
-- find137
theorem run_szValueS (d : Nat) {p : V} {xs : List (List U)} (l : Int) (hp : PurF (.sub fdValue) p (.sub xs)) (hb : LenF 9223372036854775807 9223372036854775807 (.sub fdValue) (.sub xs)) (h0 : 0 ≤ l) (h1 : l ≤ 1048576) : retP (runD tab noExt (d + 2)) 137 [p, .int .i64 l] = some [.int .i64 (szF (.sub fdValue) (.sub xs) l)] := by
  obtain ⟨cl, cont, rfl, hz⟩ := purS_Value hp
  simp only [LenF] at hb
  obtain ⟨hb1, hb2⟩ := hb
  have hl := Zip2_len hz
  rw [retP, runD_eq find137 _ _ _ (by simp)]
  rw [szF, ← hl]
  by_cases e : l - (cont.length : Int) < 0
  · simp -implicitDefEqProofs (disch := omega) only [go_sem, Nat.reduceBEq, Nat.reduceAdd, Nat.reduceSub, Nat.reduceMul, Nat.reduceLeDiff, Nat.reduceEqDiff, Nat.reduceLT, Int.reduceNeg, Int.reduceAdd, Int.reduceSub, Int.reduceMul, Int.reduceLE, Int.reduceLT, Int.reduceEq, Int.reduceToNat, reduceCtorEq, IntWalk.i64_in, e, if_true]
  · have hlp := sz_loop (run := runD tab noExt (d + 1)) (draw := drawI (runD tab noExt (d + 1))) (c := L137x0) (n0 := 0) (SR := szR fdValue) (cl := cl) (sz := 3) hz (fun l K => by
        rw [LoopS_eq]
        simp -implicitDefEqProofs only [go_sem, Nat.reduceBEq, Nat.reduceAdd, Nat.reduceSub, Nat.reduceMul, Nat.reduceLeDiff, Nat.reduceEqDiff, Nat.reduceLT, Int.reduceNeg, Int.reduceAdd, Int.reduceSub, Int.reduceMul, Int.reduceLE, Int.reduceLT, Int.reduceEq, Int.reduceToNat, reduceCtorEq, evL137x0, B137x0, Int.lt_irrefl]) (fun i cc x l K hc hx hi hr h0 h1 => by
        obtain ⟨a0, a1, a2, rfl, rfl⟩ := purR_Value hr
        have hs := AllU_at hb2 hx
        have hm : szR fdValue [.int a0, .int a1, .str a2] l ≤ l := szR_le (by decide) h0 h1
        have he := run_szValue d a0 a1 a2  l hs h0 h1
        generalize szR fdValue [.int a0, .int a1, .str a2] l = r at he hm ⊢
        rw [LoopS_eq]
        by_cases e : r < 0
        · refine .inl ⟨e, .int .i64 r, ?_⟩
          simp -implicitDefEqProofs (disch := omega) only [go_sem, Nat.reduceBEq, Nat.reduceAdd, Nat.reduceSub, Nat.reduceMul, Nat.reduceLeDiff, Nat.reduceEqDiff, Nat.reduceLT, Int.reduceNeg, Int.reduceAdd, Int.reduceSub, Int.reduceMul, Int.reduceLE, Int.reduceLT, Int.reduceEq, Int.reduceToNat, reduceCtorEq, evL137x0, B137x0, hi, hc, he, e, IntWalk.i64_in]
        · refine .inr ⟨by omega, hm, ?_⟩
          simp -implicitDefEqProofs (disch := omega) only [go_sem, Nat.reduceBEq, Nat.reduceAdd, Nat.reduceSub, Nat.reduceMul, Nat.reduceLeDiff, Nat.reduceEqDiff, Nat.reduceLT, Int.reduceNeg, Int.reduceAdd, Int.reduceSub, Int.reduceMul, Int.reduceLE, Int.reduceLT, Int.reduceEq, Int.reduceToNat, reduceCtorEq, evL137x0, B137x0, hi, hc, he, e, IntWalk.i64_in]) (l := l - cont.length) (by omega) (by omega) 1099511627775 (by omega)
    rw [if_neg e]
    simp -implicitDefEqProofs (disch := omega) only [go_sem, Nat.reduceBEq, Nat.reduceAdd, Nat.reduceSub, Nat.reduceMul, Nat.reduceLeDiff, Nat.reduceEqDiff, Nat.reduceLT, Int.reduceNeg, Int.reduceAdd, Int.reduceSub, Int.reduceMul, Int.reduceLE, Int.reduceLT, Int.reduceEq, Int.reduceToNat, reduceCtorEq, IntWalk.i64_in, e]
    rcases hlp with ⟨s1, v, s2⟩ | ⟨s1, s2⟩
    · rw [s2, szZ_neg (by omega) s1]
      simp -implicitDefEqProofs only [go_sem, Nat.reduceBEq, Nat.reduceAdd, Nat.reduceSub, Nat.reduceMul, Nat.reduceLeDiff, Nat.reduceEqDiff, Nat.reduceLT, Int.reduceNeg, Int.reduceAdd, Int.reduceSub, Int.reduceMul, Int.reduceLE, Int.reduceLT, Int.reduceEq, Int.reduceToNat, reduceCtorEq]
    · rw [s2]
      simp -implicitDefEqProofs only [go_sem, Nat.reduceBEq, Nat.reduceAdd, Nat.reduceSub, Nat.reduceMul, Nat.reduceLeDiff, Nat.reduceEqDiff, Nat.reduceLT, Int.reduceNeg, Int.reduceAdd, Int.reduceSub, Int.reduceMul, Int.reduceLE, Int.reduceLT, Int.reduceEq, Int.reduceToNat, reduceCtorEq]
-- find179
theorem run_toValue (d : Nat) (h : Heap) (a0 : Int) (a1 : Int) (a2 : ByteArray) : callX (runD tab noExt (d + 1)) h 0 179 [.agg [.int .i64 a0, .int .i64 a1, .str a2]] = some (.agg [.int .i64 a0, .int .i64 a1, .str a2], h) := by
  simp only [callX, callO, pureDAs, mapO, pureDA, pureD, deepest, Option.map_some]
  rw [runD_eq find179 _ _ _ (by simp)]
  simp -implicitDefEqProofs (disch := omega) only [go_sem, Nat.reduceBEq, Nat.reduceAdd, Nat.reduceSub, Nat.reduceMul, Nat.reduceLeDiff, Nat.reduceEqDiff, Nat.reduceLT, Int.reduceNeg, Int.reduceAdd, Int.reduceSub, Int.reduceMul, Int.reduceLE, Int.reduceLT, Int.reduceEq, Int.reduceToNat, reduceCtorEq, BackO]
-- find140
theorem run_toValueS (d : Nat) : ToOK (d + 2) 140 fdValue := by
  intro p xs hp hx hb
  obtain ⟨cl, cont, rfl, hz⟩ := purS_Value hp
  have hl := Zip2_len hz
  rw [runD_eq find140 _ _ _ (by simp)]
  obtain ⟨h', r, e1, e2, e3⟩ := to_loop (run := runD tab noExt (d + 1)) (draw := drawI (runD tab noExt (d + 1))) (c := L140x0) (zero := [.int .i64 0, .int .i64 0, .str ⟨#[]⟩]) (cl := cl) (sz := 3) hz (fun h K => by
        rw [LoopK_eq]
        simp -implicitDefEqProofs only [go_sem, Nat.reduceBEq, Nat.reduceAdd, Nat.reduceSub, Nat.reduceMul, Nat.reduceLeDiff, Nat.reduceEqDiff, Nat.reduceLT, Int.reduceNeg, Int.reduceAdd, Int.reduceSub, Int.reduceMul, Int.reduceLE, Int.reduceLT, Int.reduceEq, Int.reduceToNat, reduceCtorEq, evL140x0, B140x0, Int.lt_irrefl]) (fun i cc x h C K hc hx hi hr hh hC hCl => by
        obtain ⟨a0, a1, a2, rfl, rfl⟩ := purR_Value hr
        have hi' : i < C.length := by omega
        have hi2 : i < cont.length := by omega
        have hh' : h[0]? = some (.rows 0 3 C) := hh
        have h0 : 0 < h.length := (List.getElem?_eq_some_iff.1 hh).1
        have he := run_toValue d h a0 a1 a2
        refine ⟨h.set 0 (.rows 0 3 (C.set i [.int .i64 a0, .int .i64 a1, .str a2])), _, [], ?_, by rw [List.getElem?_set_self h0]; rfl, ownR_mk_Value _ a0 a1 a2, List.nodup_nil, (fun j hj => by cases hj), (fun j hj _ => by rw [List.getElem?_set_ne (Ne.symm hj)]), by simp⟩
        rw [LoopK_eq]
        simp -implicitDefEqProofs (disch := omega) only [go_sem, Nat.reduceBEq, Nat.reduceAdd, Nat.reduceSub, Nat.reduceMul, Nat.reduceLeDiff, Nat.reduceEqDiff, Nat.reduceLT, Int.reduceNeg, Int.reduceAdd, Int.reduceSub, Int.reduceMul, Int.reduceLE, Int.reduceLT, Int.reduceEq, Int.reduceToNat, reduceCtorEq, evL140x0, B140x0, hi, hi2, hc, he, hh', hC, IntWalk.i64_in, IntWalk.u8_in]) (h := [.rows 0 3 (List.replicate cont.length [.int .i64 0, .int .i64 0, .str ⟨#[]⟩])]) rfl 1099511627775 (by omega)
  have k1 : ((cont.length : Int) < 4294967296) = True := eq_true (by omega)
  simp -implicitDefEqProofs (disch := omega) only [go_sem, Nat.reduceBEq, Nat.reduceAdd, Nat.reduceSub, Nat.reduceMul, Nat.reduceLeDiff, Nat.reduceEqDiff, Nat.reduceLT, Int.reduceNeg, Int.reduceAdd, Int.reduceSub, Int.reduceMul, Int.reduceLE, Int.reduceLT, Int.reduceEq, Int.reduceToNat, reduceCtorEq, small, k1]
  rw [e1]
  simp -implicitDefEqProofs only [go_sem, Nat.reduceBEq, Nat.reduceAdd, Nat.reduceSub, Nat.reduceMul, Nat.reduceLeDiff, Nat.reduceEqDiff, Nat.reduceLT, Int.reduceNeg, Int.reduceAdd, Int.reduceSub, Int.reduceMul, Int.reduceLE, Int.reduceLT, Int.reduceEq, Int.reduceToNat, reduceCtorEq]
  exact ⟨_, _, _, rfl, e2, e3⟩
-- find141
theorem run_eqValue (d : Nat) (a0 : Int) (a1 : Int) (a2 : ByteArray)  : retP (runD tab noExt (d + 1)) 141 [.agg [.int .i64 a0, .int .i64 a1, .str a2], .agg [.int .i64 a0, .int .i64 a1, .str a2]] = some [.bool true] := by
  rw [retP, runD_eq find141 _ _ _ (by simp)]
  simp -implicitDefEqProofs (disch := omega) only [go_sem, Nat.reduceBEq, Nat.reduceAdd, Nat.reduceSub, Nat.reduceMul, Nat.reduceLeDiff, Nat.reduceEqDiff, Nat.reduceLT, Int.reduceNeg, Int.reduceAdd, Int.reduceSub, Int.reduceMul, Int.reduceLE, Int.reduceLT, Int.reduceEq, Int.reduceToNat, reduceCtorEq]
-- find88
theorem run_eqValueS (d : Nat) : EqOK (d + 2) 88 fdValue := by
  intro p q xs hp hq hb
  obtain ⟨cl, cont, rfl, hz⟩ := purS_Value hp
  obtain ⟨cl', cont', rfl, hz'⟩ := purS_Value hq
  simp only [LenF, big] at hb
  have hl := Zip2_len hz
  have hl' := Zip2_len hz'
  rw [retP, runD_eq find88 _ _ _ (by simp)]
  have hlp := eq_loop (run := runD tab noExt (d + 1)) (draw := drawI (runD tab noExt (d + 1))) (c := L88x0) (n0 := 0) (cl := cl) (cl' := cl') (sz := 3) hz hz' (fun K => by
        rw [LoopS_eq, ← hl]
        simp -implicitDefEqProofs only [go_sem, Nat.reduceBEq, Nat.reduceAdd, Nat.reduceSub, Nat.reduceMul, Nat.reduceLeDiff, Nat.reduceEqDiff, Nat.reduceLT, Int.reduceNeg, Int.reduceAdd, Int.reduceSub, Int.reduceMul, Int.reduceLE, Int.reduceLT, Int.reduceEq, Int.reduceToNat, reduceCtorEq, evL88x0, B88x0, Int.lt_irrefl]) (fun i cc cc' x K hc hc' hx hi hr hr' => by
        obtain ⟨a0, a1, a2, rfl, rfl⟩ := purR_Value hr
        obtain ⟨b0, b1, b2, rfl, e⟩ := purR_Value hr'
        simp only [List.cons.injEq, U.int.injEq, U.bool.injEq, U.str.injEq, U.sub.injEq, and_true] at e
        obtain ⟨rfl, rfl, rfl⟩ := e
        have he := run_eqValue d a0 a1 a2 
        rw [LoopS_eq]
        simp -implicitDefEqProofs (disch := omega) only [go_sem, Nat.reduceBEq, Nat.reduceAdd, Nat.reduceSub, Nat.reduceMul, Nat.reduceLeDiff, Nat.reduceEqDiff, Nat.reduceLT, Int.reduceNeg, Int.reduceAdd, Int.reduceSub, Int.reduceMul, Int.reduceLE, Int.reduceLT, Int.reduceEq, Int.reduceToNat, reduceCtorEq, evL88x0, B88x0, evC_draw, evD88x0, E88x0, hi, hc, hc', he, IntWalk.i64_in]) 1099511627775 (by omega)
  simp -implicitDefEqProofs (disch := omega) only [go_sem, Nat.reduceBEq, Nat.reduceAdd, Nat.reduceSub, Nat.reduceMul, Nat.reduceLeDiff, Nat.reduceEqDiff, Nat.reduceLT, Int.reduceNeg, Int.reduceAdd, Int.reduceSub, Int.reduceMul, Int.reduceLE, Int.reduceLT, Int.reduceEq, Int.reduceToNat, reduceCtorEq, hl, hl']
  rw [hlp]
  simp -implicitDefEqProofs only [go_sem, Nat.reduceBEq, Nat.reduceAdd, Nat.reduceSub, Nat.reduceMul, Nat.reduceLeDiff, Nat.reduceEqDiff, Nat.reduceLT, Int.reduceNeg, Int.reduceAdd, Int.reduceSub, Int.reduceMul, Int.reduceLE, Int.reduceLT, Int.reduceEq, Int.reduceToNat, reduceCtorEq]
-- find91
theorem run_heldValueS (d : Nat) : HeldOK (d + 2) 91 fdValue := by
  intro p xs k k' hp hh h0 h1 hb
  obtain ⟨cl, cont, rfl, hz⟩ := purS_Value hp
  simp only [LenF, big] at hb
  simp only [HeldF] at hh
  obtain ⟨xs', e, hh⟩ := hh
  injection e with e
  subst e
  have hl := Zip2_len hz
  rw [retP, runD_eq find91 _ _ _ (by simp)]
  have hlp := held_loop (run := runD tab noExt (d + 1)) (draw := drawI (runD tab noExt (d + 1))) (c := L91x0) (n0 := 0) (R := fun c x => PurR fdValue c x ∧ LenR big big fdValue x) (cl := cl) (sz := 3) (xs := xs) (cont := cont) (Zip2_len2 hz hb.2) (fun x k k' h => HeldR_le fdValue h) (fun k K => by
        rw [LoopS_eq]
        simp -implicitDefEqProofs only [go_sem, Nat.reduceBEq, Nat.reduceAdd, Nat.reduceSub, Nat.reduceMul, Nat.reduceLeDiff, Nat.reduceEqDiff, Nat.reduceLT, Int.reduceNeg, Int.reduceAdd, Int.reduceSub, Int.reduceMul, Int.reduceLE, Int.reduceLT, Int.reduceEq, Int.reduceToNat, reduceCtorEq, evL91x0, B91x0, Int.lt_irrefl]) (fun i cc x k m K hc hx hi hr hhr h0 h1 => by
        obtain ⟨a0, a1, a2, rfl, rfl⟩ := purR_Value hr.1
        have hle := HeldR_le _ hhr
        obtain ⟨e, em⟩ := heldR_Value hhr h0 h1
        subst em
        simp only [List.cons.injEq, U.int.injEq, U.bool.injEq, U.str.injEq, U.sub.injEq, and_true] at e
        obtain ⟨rfl, rfl, rfl⟩ := e
        have ht := fun j (g0 : 0 ≤ j) (g1 : j ≤ 4611686018427387904) => run_markText d j g0 g1
        rw [LoopS_eq]
        simp -implicitDefEqProofs (disch := omega) only [go_sem, Nat.reduceBEq, Nat.reduceAdd, Nat.reduceSub, Nat.reduceMul, Nat.reduceLeDiff, Nat.reduceEqDiff, Nat.reduceLT, Int.reduceNeg, Int.reduceAdd, Int.reduceSub, Int.reduceMul, Int.reduceLE, Int.reduceLT, Int.reduceEq, Int.reduceToNat, reduceCtorEq, evL91x0, B91x0, evC_draw, evD91x0, E91x0, hi, hc, ht, IntWalk.i64_in, IntWalk.u8_in, Int.add_assoc]) hh h0 h1 1099511627775 (by omega)
  simp -implicitDefEqProofs (disch := omega) only [go_sem, Nat.reduceBEq, Nat.reduceAdd, Nat.reduceSub, Nat.reduceMul, Nat.reduceLeDiff, Nat.reduceEqDiff, Nat.reduceLT, Int.reduceNeg, Int.reduceAdd, Int.reduceSub, Int.reduceMul, Int.reduceLE, Int.reduceLT, Int.reduceEq, Int.reduceToNat, reduceCtorEq]
  rw [hlp]
  simp -implicitDefEqProofs only [go_sem, Nat.reduceBEq, Nat.reduceAdd, Nat.reduceSub, Nat.reduceMul, Nat.reduceLeDiff, Nat.reduceEqDiff, Nat.reduceLT, Int.reduceNeg, Int.reduceAdd, Int.reduceSub, Int.reduceMul, Int.reduceLE, Int.reduceLT, Int.reduceEq, Int.reduceToNat, reduceCtorEq]
-- find90
theorem run_markValueS (d : Nat) : MarkOK (d + 2) 90 fdValue := by
  intro h v xs ids k ho hn hb h0 hk
  simp only [cntF] at hk ⊢
  simp only [LenF] at hb
  have ho' := ho
  simp only [OwnF] at ho
  obtain ⟨xs', e, ⟨cl, rfl, rfl, rfl⟩ | ⟨id, st, clip, cont, r, rfl, e2, rfl, ho⟩⟩ := ho <;> injection e with e <;> subst e
  · refine ⟨h, [], ?_, ho', by simp only [HeldF]; exact ⟨[], rfl, by simp [HeldZ, sumU]⟩, by simp [LenF, AllU], fun _ _ => rfl, rfl⟩
    simp only [callX, callK]
    rw [runD_eq find90 _ _ _ (by simp)]
    simp -implicitDefEqProofs (disch := omega) only [go_sem, Nat.reduceBEq, Nat.reduceAdd, Nat.reduceSub, Nat.reduceMul, Nat.reduceLeDiff, Nat.reduceEqDiff, Nat.reduceLT, Int.reduceNeg, Int.reduceAdd, Int.reduceSub, Int.reduceMul, Int.reduceLE, Int.reduceLT, Int.reduceEq, Int.reduceToNat, reduceCtorEq]
    rw [LoopK_eq]
    simp -implicitDefEqProofs only [go_sem, Nat.reduceBEq, Nat.reduceAdd, Nat.reduceSub, Nat.reduceMul, Nat.reduceLeDiff, Nat.reduceEqDiff, Nat.reduceLT, Int.reduceNeg, Int.reduceAdd, Int.reduceSub, Int.reduceMul, Int.reduceLE, Int.reduceLT, Int.reduceEq, Int.reduceToNat, reduceCtorEq, evL90x0, B90x0, Int.lt_irrefl, resOk, sumU, Int.add_zero]
  · have hl := Zip3_len ho
    have hlb : cont.length ≤ 1099511627775 := by have := hb.1; unfold big at this; omega
    obtain ⟨h', ys, f1, f2, f3, f4, f5, f6, f7⟩ := mark_loop (run := runD tab noExt (d + 1)) (draw := drawI (runD tab noExt (d + 1))) (c := L90x0) (fs := fdValue) (id := id) (st := st) (n := cont.length) (clip := clip) (xs := xs) (h := h) (cont := cont) (r := r) (k := k) (fun h k K => by
        rw [LoopK_eq]
        simp -implicitDefEqProofs only [go_sem, Nat.reduceBEq, Nat.reduceAdd, Nat.reduceSub, Nat.reduceMul, Nat.reduceLeDiff, Nat.reduceEqDiff, Nat.reduceLT, Int.reduceNeg, Int.reduceAdd, Int.reduceSub, Int.reduceMul, Int.reduceLE, Int.reduceLT, Int.reduceEq, Int.reduceToNat, reduceCtorEq, evL90x0, B90x0, Int.lt_irrefl]) (fun i h C cc x a k K hi hh hCl hC hr hx hid hnd h0 hk => by
        obtain ⟨a0, a1, a2, rfl, rfl, rfl⟩ := ownR_Value hr
        have hcnt : cntR fdValue [.int a0, .int a1, .str a2] = 1 + 1 + 1 := by simp only [fdValue, cntR, cntF_int, cntF_bool, cntF_str] <;> omega
        rw [hcnt] at hk ⊢
        have hh' : h[id]? = some (.rows st 3 C) := hh
        have hidl : id < h.length := (List.getElem?_eq_some_iff.1 hh').1
        have hi' : i < C.length := by omega
        have hi2 : i < cont.length := by omega
        have ht := fun j (g0 : 0 ≤ j) (g1 : j ≤ 4611686018427387904) => run_markText d j g0 g1
        refine ⟨h.set id (.rows st 3 (C.set i [.int .i64 k, .int .i64 (k + 1), .str (txt (k + 2))])), [.int .i64 k, .int .i64 (k + 1), .str (txt (k + 2))], [.int k, .int (k + 1), .str (txt (k + 2))], ?_, by rw [List.getElem?_set_self hidl]; rfl, ownR_mk_Value _ (k) ((k + 1)) ((txt (k + 2))), ?_, ⟨trivial, trivial, txt_big _, trivial⟩, (fun j hj hj2 => by rw [List.getElem?_set_ne (Ne.symm hj)]), by simp⟩
        · rw [LoopK_eq]
          simp -implicitDefEqProofs (disch := omega) only [go_sem, Nat.reduceBEq, Nat.reduceAdd, Nat.reduceSub, Nat.reduceMul, Nat.reduceLeDiff, Nat.reduceEqDiff, Nat.reduceLT, Int.reduceNeg, Int.reduceAdd, Int.reduceSub, Int.reduceMul, Int.reduceLE, Int.reduceLT, Int.reduceEq, Int.reduceToNat, reduceCtorEq, evL90x0, B90x0, hi, hi2, hh', hC, ht, IntWalk.i64_in, IntWalk.u8_in, refs, refC, frzs, List.contains_nil, List.getElem?_set_self, List.length_set, List.set_set, Int.add_assoc, Int.natCast_add, Int.natCast_one, Int.cast_ofNat_Int, pures, okN, hidl, hi']
        · have hq := heldR_mk_Value k h0 (by omega)
          first | exact hq | (refine cast ?_ hq; simp only [Int.add_assoc, Int.natCast_add, Int.natCast_one, Int.cast_ofNat_Int, Int.reduceAdd]) | (simpa only [Int.add_assoc, Int.natCast_add, Int.natCast_one, Int.cast_ofNat_Int, Int.reduceAdd] using hq)
        ) rfl e2 ho hn hb.2 h0 hk 1099511627775 (by omega)
    refine ⟨h', ys, ?_, f2, by simp only [HeldF]; exact ⟨ys, rfl, f3⟩, by simp only [LenF]; exact ⟨by omega, f5⟩, f6, f7⟩
    simp only [callX, callK]
    rw [runD_eq find90 _ _ _ (by simp)]
    simp -implicitDefEqProofs (disch := omega) only [go_sem, Nat.reduceBEq, Nat.reduceAdd, Nat.reduceSub, Nat.reduceMul, Nat.reduceLeDiff, Nat.reduceEqDiff, Nat.reduceLT, Int.reduceNeg, Int.reduceAdd, Int.reduceSub, Int.reduceMul, Int.reduceLE, Int.reduceLT, Int.reduceEq, Int.reduceToNat, reduceCtorEq]
    rw [f1]
    simp -implicitDefEqProofs only [go_sem, Nat.reduceBEq, Nat.reduceAdd, Nat.reduceSub, Nat.reduceMul, Nat.reduceLeDiff, Nat.reduceEqDiff, Nat.reduceLT, Int.reduceNeg, Int.reduceAdd, Int.reduceSub, Int.reduceMul, Int.reduceLE, Int.reduceLT, Int.reduceEq, Int.reduceToNat, reduceCtorEq, resOk]
/-! ### ValueS -/
def fdValueS : List Fd := [.sub fdValue]
theorem purR_ValueS {c : List V} {x : List U} (h : PurR fdValueS c x) : ∃ (p0 : V) (y0 : List (List U)), c = [p0] ∧ x = [.sub y0] ∧ PurF (.sub fdValue) p0 (.sub y0) := by
  simp only [fdValueS, PurR] at h
  obtain ⟨v0, _, u0, _, rfl, rfl, g0, rfl, rfl⟩ := h
  have g0' := g0
  simp only [PurF] at g0'
  obtain ⟨_, _, y0, _, rfl, _⟩ := g0'
  exact ⟨v0, y0, rfl, rfl, g0⟩
theorem purR_mk_ValueS {p0 : V} {y0 : List (List U)} (g0 : PurF (.sub fdValue) p0 (.sub y0)) : PurR fdValueS [p0] [.sub y0] := by
  simp only [fdValueS, PurR]
  exact ⟨_, _, _, _, rfl, rfl, g0, rfl, rfl⟩
theorem purS_ValueS {p : V} {xs : List (List U)} (hp : PurF (.sub fdValueS) p (.sub xs)) : ∃ cl cont, p = .sl cl 1 cont ∧ Zip2 (PurR fdValueS) cont xs := by
  simp only [PurF] at hp
  obtain ⟨cl, cont, xs', rfl, e, hz⟩ := hp
  injection e with e
  subst e
  exact ⟨cl, cont, rfl, hz⟩
theorem ownR_ValueS {h : Heap} {c : List V} {x : List U} {i : List Nat} (ho : OwnR h fdValueS c x i) : ∃ (p0 : V) (y0 : List (List U)) (i0 : List Nat), c = [p0] ∧ x = [.sub y0] ∧ i = i0 ∧ OwnF h (.sub fdValue) p0 (.sub y0) i0 := by
  simp only [fdValueS, OwnR] at ho
  obtain ⟨v0, _, u0, _, i0, _, rfl, rfl, rfl, g0, rfl, rfl, rfl⟩ := ho
  have g0' := g0
  simp only [OwnF] at g0'
  obtain ⟨y0, rfl, _⟩ := g0'
  exact ⟨v0, y0, i0, rfl, rfl, by simp, g0⟩
theorem ownR_mk_ValueS {h : Heap} {p0 : V} {y0 : List (List U)} {i0 : List Nat} (g0 : OwnF h (.sub fdValue) p0 (.sub y0) i0) : OwnR h fdValueS [p0] [.sub y0] (i0) := by
  simp only [fdValueS, OwnR]
  exact ⟨_, _, _, _, i0, [], rfl, rfl, (by simp), g0, rfl, rfl, rfl⟩
theorem heldR_ValueS {x : List U} {k k' : Int} (h : HeldR fdValueS x k k') (h0 : 0 ≤ k) (h1 : k' ≤ 4611686018427387904) : ∃ (y0 : List (List U)) (m0 : Int), x = [.sub y0] ∧ HeldF (.sub fdValue) (.sub y0) k m0 ∧ k' = m0 := by
  simp only [fdValueS, HeldR] at h
  obtain ⟨u0, _, m0, rfl, g0, rfl, ek⟩ := h
  have l0 := HeldF_le _ g0
  have g0' := g0
  simp only [HeldF] at g0'
  obtain ⟨y0, rfl, _⟩ := g0'
  exact ⟨y0, m0, by simp (disch := omega) only [IntWalk.i64_in, Int.add_assoc, Int.reduceAdd], by simpa only [Int.add_assoc, Int.reduceAdd] using g0, by simp only [ek, Int.add_assoc, Int.reduceAdd]⟩
theorem heldR_mk_ValueS (k : Int) (y0 : List (List U)) (m0 : Int) (g0 : HeldF (.sub fdValue) (.sub y0) k m0) (h0 : 0 ≤ k) (h1 : m0 ≤ 4611686018427387904) : HeldR fdValueS [.sub y0] k (m0) := by
  have l0 := HeldF_le _ g0
  simp only [fdValueS, HeldR]
  exact ⟨_, _, m0, rfl, g0, rfl, by first | rfl | simp only [Int.add_assoc, Int.reduceAdd]⟩
-- find29
theorem run_eqValueSS (d : Nat) : EqOK (d + 3) 29 fdValueS := by
  intro p q xs hp hq hb
  obtain ⟨cl, cont, rfl, hz⟩ := purS_ValueS hp
  obtain ⟨cl', cont', rfl, hz'⟩ := purS_ValueS hq
  simp only [LenF, big] at hb
  have hl := Zip2_len hz
  have hl' := Zip2_len hz'
  rw [retP, runD_eq find29 _ _ _ (by simp)]
  have hlp := eq_loop (run := runD tab noExt (d + 2)) (draw := drawI (runD tab noExt (d + 2))) (c := L29x0) (n0 := 0) (cl := cl) (cl' := cl') (sz := 1) hz hz' (fun K => by
        rw [LoopS_eq, ← hl]
        simp -implicitDefEqProofs only [go_sem, Nat.reduceBEq, Nat.reduceAdd, Nat.reduceSub, Nat.reduceMul, Nat.reduceLeDiff, Nat.reduceEqDiff, Nat.reduceLT, Int.reduceNeg, Int.reduceAdd, Int.reduceSub, Int.reduceMul, Int.reduceLE, Int.reduceLT, Int.reduceEq, Int.reduceToNat, reduceCtorEq, evL29x0, B29x0, Int.lt_irrefl]) (fun i cc cc' x K hc hc' hx hi hr hr' => by
        obtain ⟨p0, y0, rfl, rfl, g0⟩ := purR_ValueS hr
        obtain ⟨p0q, y0q, rfl, e, q0⟩ := purR_ValueS hr'
        simp only [List.cons.injEq, U.int.injEq, U.bool.injEq, U.str.injEq, U.sub.injEq, and_true] at e
        subst e
        have hs := AllU_at hb.2 hx
        simp only [LenR, fdValueS] at hs
        have he := run_eqValueS d g0 q0 hs.1
        obtain ⟨cl0, ct0, rfl, hz0⟩ := purS_Value g0
        obtain ⟨cm0, cu0, rfl, hy0⟩ := purS_Value q0
        rw [LoopS_eq]
        simp -implicitDefEqProofs (disch := omega) only [go_sem, Nat.reduceBEq, Nat.reduceAdd, Nat.reduceSub, Nat.reduceMul, Nat.reduceLeDiff, Nat.reduceEqDiff, Nat.reduceLT, Int.reduceNeg, Int.reduceAdd, Int.reduceSub, Int.reduceMul, Int.reduceLE, Int.reduceLT, Int.reduceEq, Int.reduceToNat, reduceCtorEq, evL29x0, B29x0, evC_draw, evD29x0, E29x0, hi, hc, hc', he, IntWalk.i64_in]) 1099511627775 (by omega)
  simp -implicitDefEqProofs (disch := omega) only [go_sem, Nat.reduceBEq, Nat.reduceAdd, Nat.reduceSub, Nat.reduceMul, Nat.reduceLeDiff, Nat.reduceEqDiff, Nat.reduceLT, Int.reduceNeg, Int.reduceAdd, Int.reduceSub, Int.reduceMul, Int.reduceLE, Int.reduceLT, Int.reduceEq, Int.reduceToNat, reduceCtorEq, hl, hl']
  rw [hlp]
  simp -implicitDefEqProofs only [go_sem, Nat.reduceBEq, Nat.reduceAdd, Nat.reduceSub, Nat.reduceMul, Nat.reduceLeDiff, Nat.reduceEqDiff, Nat.reduceLT, Int.reduceNeg, Int.reduceAdd, Int.reduceSub, Int.reduceMul, Int.reduceLE, Int.reduceLT, Int.reduceEq, Int.reduceToNat, reduceCtorEq]
-- find33
theorem run_heldValueSS (d : Nat) : HeldOK (d + 3) 33 fdValueS := by
  intro p xs k k' hp hh h0 h1 hb
  obtain ⟨cl, cont, rfl, hz⟩ := purS_ValueS hp
  simp only [LenF, big] at hb
  simp only [HeldF] at hh
  obtain ⟨xs', e, hh⟩ := hh
  injection e with e
  subst e
  have hl := Zip2_len hz
  rw [retP, runD_eq find33 _ _ _ (by simp)]
  have hlp := held_loop (run := runD tab noExt (d + 2)) (draw := drawI (runD tab noExt (d + 2))) (c := L33x0) (n0 := 0) (R := fun c x => PurR fdValueS c x ∧ LenR big big fdValueS x) (cl := cl) (sz := 1) (xs := xs) (cont := cont) (Zip2_len2 hz hb.2) (fun x k k' h => HeldR_le fdValueS h) (fun k K => by
        rw [LoopS_eq]
        simp -implicitDefEqProofs only [go_sem, Nat.reduceBEq, Nat.reduceAdd, Nat.reduceSub, Nat.reduceMul, Nat.reduceLeDiff, Nat.reduceEqDiff, Nat.reduceLT, Int.reduceNeg, Int.reduceAdd, Int.reduceSub, Int.reduceMul, Int.reduceLE, Int.reduceLT, Int.reduceEq, Int.reduceToNat, reduceCtorEq, evL33x0, B33x0, Int.lt_irrefl]) (fun i cc x k m K hc hx hi hr hhr h0 h1 => by
        obtain ⟨p0, y0, rfl, rfl, g0⟩ := purR_ValueS hr.1
        have hle := HeldR_le _ hhr
        have hs := hr.2
        simp only [LenR, fdValueS] at hs
        obtain ⟨z0, m0, e, k0, em⟩ := heldR_ValueS hhr h0 h1
        rw [em]
        simp only [List.cons.injEq, U.int.injEq, U.bool.injEq, U.str.injEq, U.sub.injEq, and_true] at e
        subst e
        have l0 := HeldF_le _ k0
        have he0 := run_heldValueS d g0 k0 (by omega) (by omega) hs.1
        have f0 : (m0 < 0) = False := eq_false (by omega)
        obtain ⟨cl0, ct0, rfl, hz0⟩ := purS_Value g0
        rw [LoopS_eq]
        simp -implicitDefEqProofs (disch := omega) only [go_sem, Nat.reduceBEq, Nat.reduceAdd, Nat.reduceSub, Nat.reduceMul, Nat.reduceLeDiff, Nat.reduceEqDiff, Nat.reduceLT, Int.reduceNeg, Int.reduceAdd, Int.reduceSub, Int.reduceMul, Int.reduceLE, Int.reduceLT, Int.reduceEq, Int.reduceToNat, reduceCtorEq, evL33x0, B33x0, hi, hc, he0, f0, IntWalk.i64_in, IntWalk.u8_in, Int.add_assoc]) hh h0 h1 1099511627775 (by omega)
  simp -implicitDefEqProofs (disch := omega) only [go_sem, Nat.reduceBEq, Nat.reduceAdd, Nat.reduceSub, Nat.reduceMul, Nat.reduceLeDiff, Nat.reduceEqDiff, Nat.reduceLT, Int.reduceNeg, Int.reduceAdd, Int.reduceSub, Int.reduceMul, Int.reduceLE, Int.reduceLT, Int.reduceEq, Int.reduceToNat, reduceCtorEq]
  rw [hlp]
  simp -implicitDefEqProofs only [go_sem, Nat.reduceBEq, Nat.reduceAdd, Nat.reduceSub, Nat.reduceMul, Nat.reduceLeDiff, Nat.reduceEqDiff, Nat.reduceLT, Int.reduceNeg, Int.reduceAdd, Int.reduceSub, Int.reduceMul, Int.reduceLE, Int.reduceLT, Int.reduceEq, Int.reduceToNat, reduceCtorEq]
-- find32
theorem run_markValueSS (d : Nat) : MarkOK (d + 3) 32 fdValueS := by
  intro h v xs ids k ho hn hb h0 hk
  simp only [cntF] at hk ⊢
  simp only [LenF] at hb
  have ho' := ho
  simp only [OwnF] at ho
  obtain ⟨xs', e, ⟨cl, rfl, rfl, rfl⟩ | ⟨id, st, clip, cont, r, rfl, e2, rfl, ho⟩⟩ := ho <;> injection e with e <;> subst e
  · refine ⟨h, [], ?_, ho', by simp only [HeldF]; exact ⟨[], rfl, by simp [HeldZ, sumU]⟩, by simp [LenF, AllU], fun _ _ => rfl, rfl⟩
    simp only [callX, callK]
    rw [runD_eq find32 _ _ _ (by simp)]
    simp -implicitDefEqProofs (disch := omega) only [go_sem, Nat.reduceBEq, Nat.reduceAdd, Nat.reduceSub, Nat.reduceMul, Nat.reduceLeDiff, Nat.reduceEqDiff, Nat.reduceLT, Int.reduceNeg, Int.reduceAdd, Int.reduceSub, Int.reduceMul, Int.reduceLE, Int.reduceLT, Int.reduceEq, Int.reduceToNat, reduceCtorEq]
    rw [LoopK_eq]
    simp -implicitDefEqProofs only [go_sem, Nat.reduceBEq, Nat.reduceAdd, Nat.reduceSub, Nat.reduceMul, Nat.reduceLeDiff, Nat.reduceEqDiff, Nat.reduceLT, Int.reduceNeg, Int.reduceAdd, Int.reduceSub, Int.reduceMul, Int.reduceLE, Int.reduceLT, Int.reduceEq, Int.reduceToNat, reduceCtorEq, evL32x0, B32x0, Int.lt_irrefl, resOk, sumU, Int.add_zero]
  · have hl := Zip3_len ho
    have hlb : cont.length ≤ 1099511627775 := by have := hb.1; unfold big at this; omega
    obtain ⟨h', ys, f1, f2, f3, f4, f5, f6, f7⟩ := mark_loop (run := runD tab noExt (d + 2)) (draw := drawI (runD tab noExt (d + 2))) (c := L32x0) (fs := fdValueS) (id := id) (st := st) (n := cont.length) (clip := clip) (xs := xs) (h := h) (cont := cont) (r := r) (k := k) (fun h k K => by
        rw [LoopK_eq]
        simp -implicitDefEqProofs only [go_sem, Nat.reduceBEq, Nat.reduceAdd, Nat.reduceSub, Nat.reduceMul, Nat.reduceLeDiff, Nat.reduceEqDiff, Nat.reduceLT, Int.reduceNeg, Int.reduceAdd, Int.reduceSub, Int.reduceMul, Int.reduceLE, Int.reduceLT, Int.reduceEq, Int.reduceToNat, reduceCtorEq, evL32x0, B32x0, Int.lt_irrefl]) (fun i h C cc x a k K hi hh hCl hC hr hx hid hnd h0 hk => by
        obtain ⟨p0, y0, i0, rfl, rfl, rfl, g0⟩ := ownR_ValueS hr
        have hcnt : cntR fdValueS [.sub y0] = cntF (.sub fdValue) (.sub y0) := by simp only [fdValueS, cntR, cntF_int, cntF_bool, cntF_str] <;> omega
        have hct0 : 0 ≤ cntF (.sub fdValue) (.sub y0) := Nat.zero_le _
        rw [hcnt] at hk ⊢
        generalize hcn0 : cntF (.sub fdValue) (.sub y0) = N0 at hk hct0 hcnt ⊢
        have hh' : h[id]? = some (.nest st 1 C) := hh
        have hidl : id < h.length := (List.getElem?_eq_some_iff.1 hh').1
        have hi' : i < C.length := by omega
        have hi2 : i < cont.length := by omega
        have hs := hx
        simp only [LenR, fdValueS] at hs
        obtain ⟨ha0, z0, m01, m02, m03, m04, m05, m06⟩ := run_markValueS d (h := h) (k := k) (OwnF_frame _ g0 (fun j hj => rfl)) hnd hs.1 (by omega) (by rw [hcn0]; omega)
        rw [hcn0] at m01 m03
        have hr0 : ha0[id]? = some (.nest st 1 (C)) := (m05 id hid).trans hh'
        have hl0 : id < ha0.length := (List.getElem?_eq_some_iff.1 hr0).1
        refine ⟨ha0, [p0], [.sub z0], ?_, by rw [hr0]; first | rfl | (rw [set_same hC]; rfl), ownR_mk_ValueS (OwnF_frame _ m02 (fun j hj => rfl)), ?_, ⟨m04, trivial⟩, (fun j hj hj2 => by rw [m05 j hj2]), by simp only [List.length_set, m06]⟩
        · rw [LoopK_eq]
          simp -implicitDefEqProofs (disch := omega) only [go_sem, Nat.reduceBEq, Nat.reduceAdd, Nat.reduceSub, Nat.reduceMul, Nat.reduceLeDiff, Nat.reduceEqDiff, Nat.reduceLT, Int.reduceNeg, Int.reduceAdd, Int.reduceSub, Int.reduceMul, Int.reduceLE, Int.reduceLT, Int.reduceEq, Int.reduceToNat, reduceCtorEq, evL32x0, B32x0, hi, hi2, hh', hC, m01, hr0, hl0, IntWalk.i64_in, IntWalk.u8_in, refs, refC, frzs, List.contains_nil, List.getElem?_set_self, List.length_set, List.set_set, Int.add_assoc, Int.natCast_add, Int.natCast_one, Int.cast_ofNat_Int, pures, okN, hidl, hi']
        · have hq := heldR_mk_ValueS k z0 _ m03 h0 (by omega)
          first | exact hq | (refine cast ?_ hq; simp only [Int.add_assoc, Int.natCast_add, Int.natCast_one, Int.cast_ofNat_Int, Int.reduceAdd]) | (simpa only [Int.add_assoc, Int.natCast_add, Int.natCast_one, Int.cast_ofNat_Int, Int.reduceAdd] using hq)
        ) rfl e2 ho hn hb.2 h0 hk 1099511627775 (by omega)
    refine ⟨h', ys, ?_, f2, by simp only [HeldF]; exact ⟨ys, rfl, f3⟩, by simp only [LenF]; exact ⟨by omega, f5⟩, f6, f7⟩
    simp only [callX, callK]
    rw [runD_eq find32 _ _ _ (by simp)]
    simp -implicitDefEqProofs (disch := omega) only [go_sem, Nat.reduceBEq, Nat.reduceAdd, Nat.reduceSub, Nat.reduceMul, Nat.reduceLeDiff, Nat.reduceEqDiff, Nat.reduceLT, Int.reduceNeg, Int.reduceAdd, Int.reduceSub, Int.reduceMul, Int.reduceLE, Int.reduceLT, Int.reduceEq, Int.reduceToNat, reduceCtorEq]
    rw [f1]
    simp -implicitDefEqProofs only [go_sem, Nat.reduceBEq, Nat.reduceAdd, Nat.reduceSub, Nat.reduceMul, Nat.reduceLeDiff, Nat.reduceEqDiff, Nat.reduceLT, Int.reduceNeg, Int.reduceAdd, Int.reduceSub, Int.reduceMul, Int.reduceLE, Int.reduceLT, Int.reduceEq, Int.reduceToNat, reduceCtorEq, resOk]
/-! ### Version -/
def fdVersion : List Fd := [.int .i64, .int .i64, .int .i64, .sub fdValue]
/-! ### Table -/
def fdTable : List Fd := [.sub fdColumn, .sub fdValueS]
/-! ### Tally -/
def fdTally : List Fd := [.sub fdValue, .int .i64, .int .i64, .int .i64]
theorem purR_Tally {c : List V} {x : List U} (h : PurR fdTally c x) : ∃ (p0 : V) (y0 : List (List U)) (a1 : Int) (a2 : Int) (a3 : Int), c = [p0, .int .i64 a1, .int .i64 a2, .int .i64 a3] ∧ x = [.sub y0, .int a1, .int a2, .int a3] ∧ PurF (.sub fdValue) p0 (.sub y0) := by
  simp only [fdTally, PurR] at h
  obtain ⟨v0, _, u0, _, rfl, rfl, g0, v1, _, u1, _, rfl, rfl, g1, v2, _, u2, _, rfl, rfl, g2, v3, _, u3, _, rfl, rfl, g3, rfl, rfl⟩ := h
  have g0' := g0
  simp only [PurF] at g0'
  obtain ⟨_, _, y0, _, rfl, _⟩ := g0'
  simp only [PurF] at g1
  obtain ⟨a1, rfl, rfl⟩ := g1
  simp only [PurF] at g2
  obtain ⟨a2, rfl, rfl⟩ := g2
  simp only [PurF] at g3
  obtain ⟨a3, rfl, rfl⟩ := g3
  exact ⟨v0, y0, a1, a2, a3, rfl, rfl, g0⟩
theorem purS_Tally {p : V} {xs : List (List U)} (hp : PurF (.sub fdTally) p (.sub xs)) : ∃ cl cont, p = .sl cl 4 cont ∧ Zip2 (PurR fdTally) cont xs := by
  simp only [PurF] at hp
  obtain ⟨cl, cont, xs', rfl, e, hz⟩ := hp
  injection e with e
  subst e
  exact ⟨cl, cont, rfl, hz⟩
theorem ownR_Tally {h : Heap} {c : List V} {x : List U} {i : List Nat} (ho : OwnR h fdTally c x i) : ∃ (p0 : V) (y0 : List (List U)) (a1 : Int) (a2 : Int) (a3 : Int) (i0 : List Nat), c = [p0, .int .i64 a1, .int .i64 a2, .int .i64 a3] ∧ x = [.sub y0, .int a1, .int a2, .int a3] ∧ i = i0 ∧ OwnF h (.sub fdValue) p0 (.sub y0) i0 := by
  simp only [fdTally, OwnR] at ho
  obtain ⟨v0, _, u0, _, i0, _, rfl, rfl, rfl, g0, v1, _, u1, _, i1, _, rfl, rfl, rfl, g1, v2, _, u2, _, i2, _, rfl, rfl, rfl, g2, v3, _, u3, _, i3, _, rfl, rfl, rfl, g3, rfl, rfl, rfl⟩ := ho
  have g0' := g0
  simp only [OwnF] at g0'
  obtain ⟨y0, rfl, _⟩ := g0'
  simp only [OwnF] at g1
  obtain ⟨a1, rfl, rfl, rfl⟩ := g1
  simp only [OwnF] at g2
  obtain ⟨a2, rfl, rfl, rfl⟩ := g2
  simp only [OwnF] at g3
  obtain ⟨a3, rfl, rfl, rfl⟩ := g3
  exact ⟨v0, y0, a1, a2, a3, i0, rfl, rfl, by simp, g0⟩
theorem ownR_mk_Tally {h : Heap} {p0 : V} {y0 : List (List U)} {a1 : Int} {a2 : Int} {a3 : Int} {i0 : List Nat} (g0 : OwnF h (.sub fdValue) p0 (.sub y0) i0) : OwnR h fdTally [p0, .int .i64 a1, .int .i64 a2, .int .i64 a3] [.sub y0, .int a1, .int a2, .int a3] (i0) := by
  simp only [fdTally, OwnR]
  exact ⟨_, _, _, _, i0, [], rfl, rfl, (by simp), g0, _, _, _, _, [], [], rfl, rfl, (by simp), (by simp only [OwnF]; first | exact ⟨a1, rfl, rfl, rfl⟩ | exact ⟨a1, rfl, rfl, trivial⟩ | exact ⟨a1, rfl, rfl⟩ | exact ⟨a1, rfl⟩ | trivial), _, _, _, _, [], [], rfl, rfl, (by simp), (by simp only [OwnF]; first | exact ⟨a2, rfl, rfl, rfl⟩ | exact ⟨a2, rfl, rfl, trivial⟩ | exact ⟨a2, rfl, rfl⟩ | exact ⟨a2, rfl⟩ | trivial), _, _, _, _, [], [], rfl, rfl, (by simp), (by simp only [OwnF]; first | exact ⟨a3, rfl, rfl, rfl⟩ | exact ⟨a3, rfl, rfl, trivial⟩ | exact ⟨a3, rfl, rfl⟩ | exact ⟨a3, rfl⟩ | trivial), rfl, rfl, rfl⟩
theorem heldR_mk_Tally (k : Int) (y0 : List (List U)) (m0 : Int) (g0 : HeldF (.sub fdValue) (.sub y0) k m0) (h0 : 0 ≤ k) (h1 : m0 + 3 ≤ 4611686018427387904) : HeldR fdTally [.sub y0, .int m0, .int (m0 + 1), .int (m0 + 2)] k (m0 + 3) := by
  have l0 := HeldF_le _ g0
  simp only [fdTally, HeldR]
  exact ⟨_, _, m0, rfl, g0, _, _, (m0 + 1), rfl, (by simp only [HeldF]; first | trivial | exact ⟨rfl, by omega⟩ | exact ⟨by simp (disch := omega) only [IntWalk.i64_in], by omega⟩ | (simp (disch := omega) only [IntWalk.i64_in, true_and, Int.add_assoc, Int.reduceAdd]; done) | (simp (disch := omega) only [IntWalk.i64_in, true_and, Int.add_assoc, Int.reduceAdd]; omega)), _, _, (m0 + 2), rfl, (by simp only [HeldF]; first | trivial | exact ⟨rfl, by omega⟩ | exact ⟨by simp (disch := omega) only [IntWalk.i64_in], by omega⟩ | (simp (disch := omega) only [IntWalk.i64_in, true_and, Int.add_assoc, Int.reduceAdd]; done) | (simp (disch := omega) only [IntWalk.i64_in, true_and, Int.add_assoc, Int.reduceAdd]; omega)), _, _, (m0 + 3), rfl, (by simp only [HeldF]; first | trivial | exact ⟨rfl, by omega⟩ | exact ⟨by simp (disch := omega) only [IntWalk.i64_in], by omega⟩ | (simp (disch := omega) only [IntWalk.i64_in, true_and, Int.add_assoc, Int.reduceAdd]; done) | (simp (disch := omega) only [IntWalk.i64_in, true_and, Int.add_assoc, Int.reduceAdd]; omega)), rfl, by first | rfl | simp only [Int.add_assoc, Int.reduceAdd]⟩
-- find82
theorem run_szTally (d : Nat) (p0 : V) (y0 : List (List U)) (a1 : Int) (a2 : Int) (a3 : Int) (g0 : PurF (.sub fdValue) p0 (.sub y0)) (l : Int) (hb : LenR 9223372036854775807 9223372036854775807 fdTally [.sub y0, .int a1, .int a2, .int a3]) (h0 : 0 ≤ l) (h1 : l ≤ 1048576) : retP (runD tab noExt (d + 3)) 82 [.agg [p0, .int .i64 a1, .int .i64 a2, .int .i64 a3], .int .i64 l] = some [.int .i64 (szR fdTally [.sub y0, .int a1, .int a2, .int a3] l)] := by
  rw [retP, runD_eq find82 _ _ _ (by simp)]
  have e0 : (l < 0) = False := eq_false (by omega)
  simp only [fdTally, LenR] at hb
  have he0 := run_szValueS d l g0 hb.1 (by omega) (by omega)
  have hm0 : szF (.sub fdValue) (.sub y0) l ≤ 1048576 := by have := szF_le (f := .sub fdValue) (u := .sub y0) (l := l) (by decide) (by omega) (by omega); omega
  generalize hr0 : szF (.sub fdValue) (.sub y0) l = r0 at he0 hm0
  by_cases e1 : r0 < 0
  · obtain ⟨cl0, ct0, rfl, hz0⟩ := purS_Value g0; simp -implicitDefEqProofs (disch := omega) only [go_sem, Nat.reduceBEq, Nat.reduceAdd, Nat.reduceSub, Nat.reduceMul, Nat.reduceLeDiff, Nat.reduceEqDiff, Nat.reduceLT, Int.reduceNeg, Int.reduceAdd, Int.reduceSub, Int.reduceMul, Int.reduceLE, Int.reduceLT, Int.reduceEq, Int.reduceToNat, reduceCtorEq, IntWalk.i64_in, szR, szF_int, szF_bool, szF_str, fdTally, e0, hr0, he0, e1, if_true, if_false]
  · obtain ⟨cl0, ct0, rfl, hz0⟩ := purS_Value g0; simp -implicitDefEqProofs (disch := omega) only [go_sem, Nat.reduceBEq, Nat.reduceAdd, Nat.reduceSub, Nat.reduceMul, Nat.reduceLeDiff, Nat.reduceEqDiff, Nat.reduceLT, Int.reduceNeg, Int.reduceAdd, Int.reduceSub, Int.reduceMul, Int.reduceLE, Int.reduceLT, Int.reduceEq, Int.reduceToNat, reduceCtorEq, IntWalk.i64_in, szR, szF_int, szF_bool, szF_str, fdTally, e0, hr0, he0, e1, if_true, if_false]
-- find25
theorem run_szTallyS (d : Nat) {p : V} {xs : List (List U)} (l : Int) (hp : PurF (.sub fdTally) p (.sub xs)) (hb : LenF 9223372036854775807 9223372036854775807 (.sub fdTally) (.sub xs)) (h0 : 0 ≤ l) (h1 : l ≤ 1048576) : retP (runD tab noExt (d + 4)) 25 [p, .int .i64 l] = some [.int .i64 (szF (.sub fdTally) (.sub xs) l)] := by
  obtain ⟨cl, cont, rfl, hz⟩ := purS_Tally hp
  simp only [LenF] at hb
  obtain ⟨hb1, hb2⟩ := hb
  have hl := Zip2_len hz
  rw [retP, runD_eq find25 _ _ _ (by simp)]
  rw [szF, ← hl]
  by_cases e : l - (cont.length : Int) < 0
  · simp -implicitDefEqProofs (disch := omega) only [go_sem, Nat.reduceBEq, Nat.reduceAdd, Nat.reduceSub, Nat.reduceMul, Nat.reduceLeDiff, Nat.reduceEqDiff, Nat.reduceLT, Int.reduceNeg, Int.reduceAdd, Int.reduceSub, Int.reduceMul, Int.reduceLE, Int.reduceLT, Int.reduceEq, Int.reduceToNat, reduceCtorEq, IntWalk.i64_in, e, if_true]
  · have hlp := sz_loop (run := runD tab noExt (d + 3)) (draw := drawI (runD tab noExt (d + 3))) (c := L25x0) (n0 := 0) (SR := szR fdTally) (cl := cl) (sz := 4) hz (fun l K => by
        rw [LoopS_eq]
        simp -implicitDefEqProofs only [go_sem, Nat.reduceBEq, Nat.reduceAdd, Nat.reduceSub, Nat.reduceMul, Nat.reduceLeDiff, Nat.reduceEqDiff, Nat.reduceLT, Int.reduceNeg, Int.reduceAdd, Int.reduceSub, Int.reduceMul, Int.reduceLE, Int.reduceLT, Int.reduceEq, Int.reduceToNat, reduceCtorEq, evL25x0, B25x0, Int.lt_irrefl]) (fun i cc x l K hc hx hi hr h0 h1 => by
        obtain ⟨p0, y0, a1, a2, a3, rfl, rfl, g0⟩ := purR_Tally hr
        have hs := AllU_at hb2 hx
        have hm : szR fdTally [.sub y0, .int a1, .int a2, .int a3] l ≤ l := szR_le (by decide) h0 h1
        have he := run_szTally d p0 y0 a1 a2 a3 g0 l hs h0 h1
        obtain ⟨cl0, cont0, rfl, hz0⟩ := purS_Value g0
        generalize szR fdTally [.sub y0, .int a1, .int a2, .int a3] l = r at he hm ⊢
        rw [LoopS_eq]
        by_cases e : r < 0
        · refine .inl ⟨e, .int .i64 r, ?_⟩
          simp -implicitDefEqProofs (disch := omega) only [go_sem, Nat.reduceBEq, Nat.reduceAdd, Nat.reduceSub, Nat.reduceMul, Nat.reduceLeDiff, Nat.reduceEqDiff, Nat.reduceLT, Int.reduceNeg, Int.reduceAdd, Int.reduceSub, Int.reduceMul, Int.reduceLE, Int.reduceLT, Int.reduceEq, Int.reduceToNat, reduceCtorEq, evL25x0, B25x0, hi, hc, he, e, IntWalk.i64_in]
        · refine .inr ⟨by omega, hm, ?_⟩
          simp -implicitDefEqProofs (disch := omega) only [go_sem, Nat.reduceBEq, Nat.reduceAdd, Nat.reduceSub, Nat.reduceMul, Nat.reduceLeDiff, Nat.reduceEqDiff, Nat.reduceLT, Int.reduceNeg, Int.reduceAdd, Int.reduceSub, Int.reduceMul, Int.reduceLE, Int.reduceLT, Int.reduceEq, Int.reduceToNat, reduceCtorEq, evL25x0, B25x0, hi, hc, he, e, IntWalk.i64_in]) (l := l - cont.length) (by omega) (by omega) 1099511627775 (by omega)
    rw [if_neg e]
    simp -implicitDefEqProofs (disch := omega) only [go_sem, Nat.reduceBEq, Nat.reduceAdd, Nat.reduceSub, Nat.reduceMul, Nat.reduceLeDiff, Nat.reduceEqDiff, Nat.reduceLT, Int.reduceNeg, Int.reduceAdd, Int.reduceSub, Int.reduceMul, Int.reduceLE, Int.reduceLT, Int.reduceEq, Int.reduceToNat, reduceCtorEq, IntWalk.i64_in, e]
    rcases hlp with ⟨s1, v, s2⟩ | ⟨s1, s2⟩
    · rw [s2, szZ_neg (by omega) s1]
      simp -implicitDefEqProofs only [go_sem, Nat.reduceBEq, Nat.reduceAdd, Nat.reduceSub, Nat.reduceMul, Nat.reduceLeDiff, Nat.reduceEqDiff, Nat.reduceLT, Int.reduceNeg, Int.reduceAdd, Int.reduceSub, Int.reduceMul, Int.reduceLE, Int.reduceLT, Int.reduceEq, Int.reduceToNat, reduceCtorEq]
    · rw [s2]
      simp -implicitDefEqProofs only [go_sem, Nat.reduceBEq, Nat.reduceAdd, Nat.reduceSub, Nat.reduceMul, Nat.reduceLeDiff, Nat.reduceEqDiff, Nat.reduceLT, Int.reduceNeg, Int.reduceAdd, Int.reduceSub, Int.reduceMul, Int.reduceLE, Int.reduceLT, Int.reduceEq, Int.reduceToNat, reduceCtorEq]
-- find85
theorem run0_toTally (d : Nat) (a1 : Int) (a2 : Int) (a3 : Int) {p0 : V} {y0 : List (List U)} (g0 : PurF (.sub fdValue) p0 (.sub y0)) (b0 : LenF 1048576 1048576 (.sub fdValue) (.sub y0)) : ∃ cells hc ids, runD tab noExt (d + 3) 85 [.agg [p0, .int .i64 a1, .int .i64 a2, .int .i64 a3]] [] = some ([.agg cells], hc) ∧ OwnR hc fdTally cells [.sub y0, .int a1, .int a2, .int a3] ids ∧ ids.Nodup ∧ cells.all scalar = false := by
  rw [runD_eq find85 _ _ _ (by simp)]
  obtain ⟨v0, hc0, j0, r0, o0, n0⟩ := run_toValueS d g0 (by have := b0; simp only [LenF] at this; exact this.1) (by have := b0; simp only [LenF] at this; exact this.2)
  obtain ⟨w0, k0, a0, c01, c02, c03, c04, c05, c06⟩ := own_call (h := ([.box [p0, .int .i64 a1, .int .i64 a2, .int .i64 a3], .box [.sl true 3 [], .int .i64 0, .int .i64 0, .int .i64 0], .box [.sl true 3 [], .int .i64 0, .int .i64 0, .int .i64 0]] : Heap)) (args := [p0]) (by simp only [pureDAs, mapO, pureDA_pur g0]) r0 o0 n0
  have f00 : k0[0]? = some (.box [p0, .int .i64 a1, .int .i64 a2, .int .i64 a3]) := c05 0 (by simp)
  have f01 : k0[1]? = some (.box [.sl true 3 [], .int .i64 0, .int .i64 0, .int .i64 0]) := c05 1 (by simp)
  have f02 : k0[2]? = some (.box [.sl true 3 [], .int .i64 0, .int .i64 0, .int .i64 0]) := c05 2 (by simp)
  have z0 : 2 < k0.length := (List.getElem?_eq_some_iff.1 f02).1
  have L : ∀ (h : Heap) (b c : Blk) (j : Nat), 3 ≤ j → ((h.set 2 b).set 1 c)[j]? = h[j]? := fun h b c j hj => by rw [List.getElem?_set_ne (by omega), List.getElem?_set_ne (by omega)]
  have hw0 := own_cases c02
  refine ⟨[w0, .int .i64 a1, .int .i64 a2, .int .i64 a3], (k0.set 2 (.box [w0, .int .i64 a1, .int .i64 a2, .int .i64 a3])).set 1 (.box [w0, .int .i64 a1, .int .i64 a2, .int .i64 a3]), a0, ?_, ownR_mk_Tally ?_, ?_, ?_⟩
  · obtain ⟨cl0, ct0, rfl, hz0⟩ := purS_Value g0
    rcases hw0 with ⟨q0, rfl⟩ | ⟨q0, s0, t0, u0, rfl⟩ <;> simp -implicitDefEqProofs (disch := first | omega | (simp only [List.length_set]; omega)) only [go_sem, Nat.reduceBEq, Nat.reduceAdd, Nat.reduceSub, Nat.reduceMul, Nat.reduceLeDiff, Nat.reduceEqDiff, Nat.reduceLT, Int.reduceNeg, Int.reduceAdd, Int.reduceSub, Int.reduceMul, Int.reduceLE, Int.reduceLT, Int.reduceEq, Int.reduceToNat, reduceCtorEq, c01, f00, f01, f02, z0, List.getElem?_set_self, List.getElem?_set_ne, List.length_set, List.set_set, okN]
  · refine OwnF_frame _ c02 (fun j hj => ?_)
    have g1 := c04 j hj
    have g2 := OwnF_lt _ c02 j hj
    have g3 : 3 ≤ j := by simpa using g1
    rw [L _ _ _ j g3]
  · exact c03
  · rcases hw0 with ⟨q, rfl⟩ | ⟨q, s, t, u, rfl⟩ <;> simp [scalar]
theorem run_toTally (d : Nat) (h : Heap) (a1 : Int) (a2 : Int) (a3 : Int) {p0 : V} {y0 : List (List U)} (g0 : PurF (.sub fdValue) p0 (.sub y0)) (b0 : LenF 1048576 1048576 (.sub fdValue) (.sub y0)) : ∃ cells h' ids, callX (runD tab noExt (d + 3)) h 0 85 [.agg [p0, .int .i64 a1, .int .i64 a2, .int .i64 a3]] = some (.agg cells, h') ∧ OwnR h' fdTally cells [.sub y0, .int a1, .int a2, .int a3] ids ∧ ids.Nodup ∧ (∀ j ∈ ids, h.length ≤ j) ∧ (∀ j, j < h.length → h'[j]? = h[j]?) ∧ h.length ≤ h'.length := by
  obtain ⟨cs, hc, ids, r0, o0, n0, s0⟩ := run0_toTally d a1 a2 a3 g0 b0
  exact own_callA (args := [.agg [p0, .int .i64 a1, .int .i64 a2, .int .i64 a3]]) (args' := [.agg [p0, .int .i64 a1, .int .i64 a2, .int .i64 a3]]) (by simp only [pureDAs, mapO, pureDA, pureD, deepest, Option.map_some, pureD_pur g0]) r0 o0 n0 s0
-- find27
theorem run_toTallyS (d : Nat) : ToOK (d + 4) 27 fdTally := by
  intro p xs hp hx hb
  obtain ⟨cl, cont, rfl, hz⟩ := purS_Tally hp
  have hl := Zip2_len hz
  rw [runD_eq find27 _ _ _ (by simp)]
  obtain ⟨h', r, e1, e2, e3⟩ := to_loop (run := runD tab noExt (d + 3)) (draw := drawI (runD tab noExt (d + 3))) (c := L27x0) (zero := [.sl true 3 [], .int .i64 0, .int .i64 0, .int .i64 0]) (cl := cl) (sz := 4) hz (fun h K => by
        rw [LoopK_eq]
        simp -implicitDefEqProofs only [go_sem, Nat.reduceBEq, Nat.reduceAdd, Nat.reduceSub, Nat.reduceMul, Nat.reduceLeDiff, Nat.reduceEqDiff, Nat.reduceLT, Int.reduceNeg, Int.reduceAdd, Int.reduceSub, Int.reduceMul, Int.reduceLE, Int.reduceLT, Int.reduceEq, Int.reduceToNat, reduceCtorEq, evL27x0, B27x0, Int.lt_irrefl]) (fun i cc x h C K hc hx hi hr hh hC hCl => by
        obtain ⟨p0, y0, a1, a2, a3, rfl, rfl, g0⟩ := purR_Tally hr
        have hi' : i < C.length := by omega
        have hi2 : i < cont.length := by omega
        have hh' : h[0]? = some (.nest 0 4 C) := hh
        have h0 : 0 < h.length := (List.getElem?_eq_some_iff.1 hh).1
        have hs := AllU_at hb hx
        simp only [LenR, fdTally] at hs
        obtain ⟨cs, h1, a, c1, c2, c3, c4, c5, c6⟩ := run_toTally d h a1 a2 a3 g0 hs.1
        have h01 : 0 < h1.length := by omega
        have hh1 : h1[0]? = some (.nest 0 4 C) := (c5 0 h0).trans hh'
        have ha0 : 0 ∉ a := fun hm => by have := c4 0 hm; omega
        obtain ⟨w0, z0, b1, b2, b3, i0, rfl, ec, ei, o0⟩ := ownR_Tally c2
        refine ⟨h1.set 0 (.nest 0 4 (C.set i _)), _, a, ?_, by rw [List.getElem?_set_self h01]; rfl, OwnR_frame _ c2 (fun j hj => by rw [List.getElem?_set_ne (by rintro rfl; exact ha0 hj)]), c3, c4, (fun j hj hlt => by rw [List.getElem?_set_ne (Ne.symm hj)]; exact c5 j hlt), by simpa using c6⟩
        rw [LoopK_eq]
        obtain ⟨cl0, cont0, rfl, hz0⟩ := purS_Value g0
        rcases own_cases o0 with ⟨k0, rfl⟩ | ⟨id0, st0, m0, k0, rfl⟩ <;> simp -implicitDefEqProofs (disch := omega) only [go_sem, Nat.reduceBEq, Nat.reduceAdd, Nat.reduceSub, Nat.reduceMul, Nat.reduceLeDiff, Nat.reduceEqDiff, Nat.reduceLT, Int.reduceNeg, Int.reduceAdd, Int.reduceSub, Int.reduceMul, Int.reduceLE, Int.reduceLT, Int.reduceEq, Int.reduceToNat, reduceCtorEq, evL27x0, B27x0, hi, hi2, hc, c1, hh1, hC, IntWalk.i64_in, okN]) (h := [.nest 0 4 (List.replicate cont.length [.sl true 3 [], .int .i64 0, .int .i64 0, .int .i64 0])]) rfl 1099511627775 (by omega)
  have k1 : ((cont.length : Int) < 4294967296) = True := eq_true (by omega)
  simp -implicitDefEqProofs (disch := omega) only [go_sem, Nat.reduceBEq, Nat.reduceAdd, Nat.reduceSub, Nat.reduceMul, Nat.reduceLeDiff, Nat.reduceEqDiff, Nat.reduceLT, Int.reduceNeg, Int.reduceAdd, Int.reduceSub, Int.reduceMul, Int.reduceLE, Int.reduceLT, Int.reduceEq, Int.reduceToNat, reduceCtorEq, small, k1]
  rw [e1]
  simp -implicitDefEqProofs only [go_sem, Nat.reduceBEq, Nat.reduceAdd, Nat.reduceSub, Nat.reduceMul, Nat.reduceLeDiff, Nat.reduceEqDiff, Nat.reduceLT, Int.reduceNeg, Int.reduceAdd, Int.reduceSub, Int.reduceMul, Int.reduceLE, Int.reduceLT, Int.reduceEq, Int.reduceToNat, reduceCtorEq]
  exact ⟨_, _, _, rfl, e2, e3⟩
-- find89
theorem run_eqTally (d : Nat) (a1 : Int) (a2 : Int) (a3 : Int) {p0 p0q : V} {y0 : List (List U)} (g0 : PurF (.sub fdValue) p0 (.sub y0)) (q0 : PurF (.sub fdValue) p0q (.sub y0)) (b0 : LenF big big (.sub fdValue) (.sub y0)) : retP (runD tab noExt (d + 3)) 89 [.agg [p0, .int .i64 a1, .int .i64 a2, .int .i64 a3], .agg [p0q, .int .i64 a1, .int .i64 a2, .int .i64 a3]] = some [.bool true] := by
  rw [retP, runD_eq find89 _ _ _ (by simp)]
  have he0 := run_eqValueS d g0 q0 b0
  obtain ⟨cl0, ct0, rfl, hz0⟩ := purS_Value g0
  obtain ⟨cm0, cu0, rfl, hy0⟩ := purS_Value q0
  simp -implicitDefEqProofs (disch := omega) only [go_sem, Nat.reduceBEq, Nat.reduceAdd, Nat.reduceSub, Nat.reduceMul, Nat.reduceLeDiff, Nat.reduceEqDiff, Nat.reduceLT, Int.reduceNeg, Int.reduceAdd, Int.reduceSub, Int.reduceMul, Int.reduceLE, Int.reduceLT, Int.reduceEq, Int.reduceToNat, reduceCtorEq, he0]
-- find30
theorem run_eqTallyS (d : Nat) : EqOK (d + 4) 30 fdTally := by
  intro p q xs hp hq hb
  obtain ⟨cl, cont, rfl, hz⟩ := purS_Tally hp
  obtain ⟨cl', cont', rfl, hz'⟩ := purS_Tally hq
  simp only [LenF, big] at hb
  have hl := Zip2_len hz
  have hl' := Zip2_len hz'
  rw [retP, runD_eq find30 _ _ _ (by simp)]
  have hlp := eq_loop (run := runD tab noExt (d + 3)) (draw := drawI (runD tab noExt (d + 3))) (c := L30x0) (n0 := 0) (cl := cl) (cl' := cl') (sz := 4) hz hz' (fun K => by
        rw [LoopS_eq, ← hl]
        simp -implicitDefEqProofs only [go_sem, Nat.reduceBEq, Nat.reduceAdd, Nat.reduceSub, Nat.reduceMul, Nat.reduceLeDiff, Nat.reduceEqDiff, Nat.reduceLT, Int.reduceNeg, Int.reduceAdd, Int.reduceSub, Int.reduceMul, Int.reduceLE, Int.reduceLT, Int.reduceEq, Int.reduceToNat, reduceCtorEq, evL30x0, B30x0, Int.lt_irrefl]) (fun i cc cc' x K hc hc' hx hi hr hr' => by
        obtain ⟨p0, y0, a1, a2, a3, rfl, rfl, g0⟩ := purR_Tally hr
        obtain ⟨p0q, y0q, b1, b2, b3, rfl, e, q0⟩ := purR_Tally hr'
        simp only [List.cons.injEq, U.int.injEq, U.bool.injEq, U.str.injEq, U.sub.injEq, and_true] at e
        obtain ⟨rfl, rfl, rfl, rfl⟩ := e
        have hs := AllU_at hb.2 hx
        simp only [LenR, fdTally] at hs
        have he := run_eqTally d a1 a2 a3 g0 q0 hs.1
        obtain ⟨cl0, ct0, rfl, hz0⟩ := purS_Value g0
        obtain ⟨cm0, cu0, rfl, hy0⟩ := purS_Value q0
        rw [LoopS_eq]
        simp -implicitDefEqProofs (disch := omega) only [go_sem, Nat.reduceBEq, Nat.reduceAdd, Nat.reduceSub, Nat.reduceMul, Nat.reduceLeDiff, Nat.reduceEqDiff, Nat.reduceLT, Int.reduceNeg, Int.reduceAdd, Int.reduceSub, Int.reduceMul, Int.reduceLE, Int.reduceLT, Int.reduceEq, Int.reduceToNat, reduceCtorEq, evL30x0, B30x0, evC_draw, evD30x0, E30x0, hi, hc, hc', he, IntWalk.i64_in]) 1099511627775 (by omega)
  simp -implicitDefEqProofs (disch := omega) only [go_sem, Nat.reduceBEq, Nat.reduceAdd, Nat.reduceSub, Nat.reduceMul, Nat.reduceLeDiff, Nat.reduceEqDiff, Nat.reduceLT, Int.reduceNeg, Int.reduceAdd, Int.reduceSub, Int.reduceMul, Int.reduceLE, Int.reduceLT, Int.reduceEq, Int.reduceToNat, reduceCtorEq, hl, hl']
  rw [hlp]
  simp -implicitDefEqProofs only [go_sem, Nat.reduceBEq, Nat.reduceAdd, Nat.reduceSub, Nat.reduceMul, Nat.reduceLeDiff, Nat.reduceEqDiff, Nat.reduceLT, Int.reduceNeg, Int.reduceAdd, Int.reduceSub, Int.reduceMul, Int.reduceLE, Int.reduceLT, Int.reduceEq, Int.reduceToNat, reduceCtorEq]
-- find31
theorem run_markTallyS (d : Nat) : MarkOK (d + 3) 31 fdTally := by
  intro h v xs ids k ho hn hb h0 hk
  simp only [cntF] at hk ⊢
  simp only [LenF] at hb
  have ho' := ho
  simp only [OwnF] at ho
  obtain ⟨xs', e, ⟨cl, rfl, rfl, rfl⟩ | ⟨id, st, clip, cont, r, rfl, e2, rfl, ho⟩⟩ := ho <;> injection e with e <;> subst e
  · refine ⟨h, [], ?_, ho', by simp only [HeldF]; exact ⟨[], rfl, by simp [HeldZ, sumU]⟩, by simp [LenF, AllU], fun _ _ => rfl, rfl⟩
    simp only [callX, callK]
    rw [runD_eq find31 _ _ _ (by simp)]
    simp -implicitDefEqProofs (disch := omega) only [go_sem, Nat.reduceBEq, Nat.reduceAdd, Nat.reduceSub, Nat.reduceMul, Nat.reduceLeDiff, Nat.reduceEqDiff, Nat.reduceLT, Int.reduceNeg, Int.reduceAdd, Int.reduceSub, Int.reduceMul, Int.reduceLE, Int.reduceLT, Int.reduceEq, Int.reduceToNat, reduceCtorEq]
    rw [LoopK_eq]
    simp -implicitDefEqProofs only [go_sem, Nat.reduceBEq, Nat.reduceAdd, Nat.reduceSub, Nat.reduceMul, Nat.reduceLeDiff, Nat.reduceEqDiff, Nat.reduceLT, Int.reduceNeg, Int.reduceAdd, Int.reduceSub, Int.reduceMul, Int.reduceLE, Int.reduceLT, Int.reduceEq, Int.reduceToNat, reduceCtorEq, evL31x0, B31x0, Int.lt_irrefl, resOk, sumU, Int.add_zero]
  · have hl := Zip3_len ho
    have hlb : cont.length ≤ 1099511627775 := by have := hb.1; unfold big at this; omega
    obtain ⟨h', ys, f1, f2, f3, f4, f5, f6, f7⟩ := mark_loop (run := runD tab noExt (d + 2)) (draw := drawI (runD tab noExt (d + 2))) (c := L31x0) (fs := fdTally) (id := id) (st := st) (n := cont.length) (clip := clip) (xs := xs) (h := h) (cont := cont) (r := r) (k := k) (fun h k K => by
        rw [LoopK_eq]
        simp -implicitDefEqProofs only [go_sem, Nat.reduceBEq, Nat.reduceAdd, Nat.reduceSub, Nat.reduceMul, Nat.reduceLeDiff, Nat.reduceEqDiff, Nat.reduceLT, Int.reduceNeg, Int.reduceAdd, Int.reduceSub, Int.reduceMul, Int.reduceLE, Int.reduceLT, Int.reduceEq, Int.reduceToNat, reduceCtorEq, evL31x0, B31x0, Int.lt_irrefl]) (fun i h C cc x a k K hi hh hCl hC hr hx hid hnd h0 hk => by
        obtain ⟨p0, y0, a1, a2, a3, i0, rfl, rfl, rfl, g0⟩ := ownR_Tally hr
        have hcnt : cntR fdTally [.sub y0, .int a1, .int a2, .int a3] = cntF (.sub fdValue) (.sub y0) + 1 + 1 + 1 := by simp only [fdTally, cntR, cntF_int, cntF_bool, cntF_str] <;> omega
        have hct0 : 0 ≤ cntF (.sub fdValue) (.sub y0) := Nat.zero_le _
        rw [hcnt] at hk ⊢
        generalize hcn0 : cntF (.sub fdValue) (.sub y0) = N0 at hk hct0 hcnt ⊢
        have hh' : h[id]? = some (.nest st 4 C) := hh
        have hidl : id < h.length := (List.getElem?_eq_some_iff.1 hh').1
        have hi' : i < C.length := by omega
        have hi2 : i < cont.length := by omega
        have hs := hx
        simp only [LenR, fdTally] at hs
        obtain ⟨ha0, z0, m01, m02, m03, m04, m05, m06⟩ := run_markValueS d (h := h) (k := k) (OwnF_frame _ g0 (fun j hj => rfl)) hnd hs.1 (by omega) (by rw [hcn0]; omega)
        rw [hcn0] at m01 m03
        have hr0 : ha0[id]? = some (.nest st 4 (C)) := (m05 id hid).trans hh'
        have hl0 : id < ha0.length := (List.getElem?_eq_some_iff.1 hr0).1
        refine ⟨ha0.set id (.nest st 4 (C.set i [p0, .int .i64 (k + (N0 : Int)), .int .i64 (k + (N0 : Int) + 1), .int .i64 (k + (N0 : Int) + 2)])), [p0, .int .i64 (k + (N0 : Int)), .int .i64 (k + (N0 : Int) + 1), .int .i64 (k + (N0 : Int) + 2)], [.sub z0, .int (k + (N0 : Int)), .int (k + (N0 : Int) + 1), .int (k + (N0 : Int) + 2)], ?_, by rw [List.getElem?_set_self hl0]; rfl, ownR_mk_Tally (OwnF_frame _ m02 (fun j hj => by rw [List.getElem?_set_ne (by rintro rfl; exact hid hj)])), ?_, ⟨m04, trivial, trivial, trivial, trivial⟩, (fun j hj hj2 => by rw [List.getElem?_set_ne (Ne.symm hj), m05 j hj2]), by simp only [List.length_set, m06]⟩
        · rw [LoopK_eq]
          simp -implicitDefEqProofs (disch := omega) only [go_sem, Nat.reduceBEq, Nat.reduceAdd, Nat.reduceSub, Nat.reduceMul, Nat.reduceLeDiff, Nat.reduceEqDiff, Nat.reduceLT, Int.reduceNeg, Int.reduceAdd, Int.reduceSub, Int.reduceMul, Int.reduceLE, Int.reduceLT, Int.reduceEq, Int.reduceToNat, reduceCtorEq, evL31x0, B31x0, hi, hi2, hh', hC, m01, hr0, hl0, IntWalk.i64_in, IntWalk.u8_in, refs, refC, frzs, List.contains_nil, List.getElem?_set_self, List.length_set, List.set_set, Int.add_assoc, Int.natCast_add, Int.natCast_one, Int.cast_ofNat_Int, pures, okN, hidl, hi']
        · have hq := heldR_mk_Tally k z0 _ m03 h0 (by omega)
          first | exact hq | (refine cast ?_ hq; simp only [Int.add_assoc, Int.natCast_add, Int.natCast_one, Int.cast_ofNat_Int, Int.reduceAdd]) | (simpa only [Int.add_assoc, Int.natCast_add, Int.natCast_one, Int.cast_ofNat_Int, Int.reduceAdd] using hq)
        ) rfl e2 ho hn hb.2 h0 hk 1099511627775 (by omega)
    refine ⟨h', ys, ?_, f2, by simp only [HeldF]; exact ⟨ys, rfl, f3⟩, by simp only [LenF]; exact ⟨by omega, f5⟩, f6, f7⟩
    simp only [callX, callK]
    rw [runD_eq find31 _ _ _ (by simp)]
    simp -implicitDefEqProofs (disch := omega) only [go_sem, Nat.reduceBEq, Nat.reduceAdd, Nat.reduceSub, Nat.reduceMul, Nat.reduceLeDiff, Nat.reduceEqDiff, Nat.reduceLT, Int.reduceNeg, Int.reduceAdd, Int.reduceSub, Int.reduceMul, Int.reduceLE, Int.reduceLT, Int.reduceEq, Int.reduceToNat, reduceCtorEq]
    rw [f1]
    simp -implicitDefEqProofs only [go_sem, Nat.reduceBEq, Nat.reduceAdd, Nat.reduceSub, Nat.reduceMul, Nat.reduceLeDiff, Nat.reduceEqDiff, Nat.reduceLT, Int.reduceNeg, Int.reduceAdd, Int.reduceSub, Int.reduceMul, Int.reduceLE, Int.reduceLT, Int.reduceEq, Int.reduceToNat, reduceCtorEq, resOk]
end Go.Proofs.Ytfbjbkkcilhgjaa.PE
/- Steps of an exact statement. -/
set_option linter.unusedVariables false
set_option linter.unusedSimpArgs false
namespace Go.Proofs.Ytfbjbkkcilhgjaa.PE
open Go.RowKit

theorem pureDA_int (h : Heap) (k : IntKind) (n : Int) : pureDA h (.int k n) = some (.int k n) := rfl
theorem pureDA_bool (h : Heap) (b : Bool) : pureDA h (.bool b) = some (.bool b) := rfl
theorem pureDA_str (h : Heap) (b : ByteArray) : pureDA h (.str b) = some (.str b) := rfl
theorem retP_some {run : Run} {f : Nat} {args rs : List V} (h : retP run f args = some rs) : ∃ r hc, run f args [] = some (r, hc) ∧ pureRs hc r = some rs := by
  unfold retP PureR at h
  rcases hr : run f args [] with _ | ⟨r, hc⟩
  · rw [hr] at h; cases h
  · rw [hr] at h; exact ⟨r, hc, rfl, h⟩
theorem call_specB {run : Run} {h : Heap} {f : Nat} {args args' rs : List V} (hp : pureDAs h args = some args') (hr : retP run f args' = some rs) : callX run h 1 f args = some (oneOf rs, h.map deadB) := by
  obtain ⟨r, hc, e1, e2⟩ := retP_some hr
  simp only [callX, callD, hp, e1, e2]
theorem pureD_bool {h : Heap} {n : Nat} {v : V} {b : Bool} (hp : pureD h n v = some (.bool b)) : v = .bool b := by
  cases v with
  | bool c => cases n <;> simp [pureD] at hp <;> rw [hp]
  | ref id st off len clip =>
    cases n with
    | zero => simp [pureD] at hp
    | succ n =>
      simp only [pureD] at hp
      split at hp
      · split at hp <;> cases hp
      · split at hp <;> cases hp
      · split at hp
        · obtain ⟨_, _, e⟩ := Option.map_eq_some_iff.1 hp; cases e
        · cases hp
      · cases hp
  | _ => cases n <;> simp [pureD] at hp
theorem pureD_int {h : Heap} {n : Nat} {v : V} {k : IntKind} {b : Int} (hp : pureD h n v = some (.int k b)) : v = .int k b := by
  cases v with
  | int c m => cases n <;> simp [pureD] at hp <;> obtain ⟨rfl, rfl⟩ := hp <;> rfl
  | ref id st off len clip =>
    cases n with
    | zero => simp [pureD] at hp
    | succ n =>
      simp only [pureD] at hp
      split at hp
      · split at hp <;> cases hp
      · split at hp <;> cases hp
      · split at hp
        · obtain ⟨_, _, e⟩ := Option.map_eq_some_iff.1 hp; cases e
        · cases hp
      · cases hp
  | _ => cases n <;> simp [pureD] at hp
theorem pureC_D {h : Heap} {v x : V} (hv : pureC h v = some x) : pureD h 1 v = some x := by
  cases v with
  | ref id st off len clip =>
    simp only [pureC] at hv
    simp only [pureD]
    split at hv
    · rename_i hb; rw [hb]; exact hv
    · rename_i hb; rw [hb]; exact hv
    · cases hv
  | _ => first | exact hv | (simp [pureC] at hv)
theorem pureA_C {h : Heap} {v x : V} (hv : pureA h v = some x) (hx : ∀ cs, x ≠ .agg cs) : pureC h v = some x := by
  unfold pureA at hv
  split at hv
  · obtain ⟨cs, _, e⟩ := Option.map_eq_some_iff.1 hv; exact absurd e.symm (hx cs)
  · exact hv
theorem pureRs_scal {h : Heap} {r : List V} {x : V} (hx : (∃ b, x = .bool b) ∨ ∃ k n, x = .int k n) (hp : pureRs h r = some [x]) : r = [x] := by
  have key : ∀ v, pureA h v = some x → v = x := by
    intro v hv
    have := pureC_D (pureA_C hv (by rintro cs rfl; rcases hx with ⟨b, e⟩ | ⟨k, n, e⟩ <;> cases e))
    rcases hx with ⟨b, rfl⟩ | ⟨k, n, rfl⟩
    · exact pureD_bool this
    · exact pureD_int this
  have key2 : ∀ v, pureDA h v = some x → v = x := by
    intro v hv
    unfold pureDA at hv
    split at hv
    · obtain ⟨_, _, e⟩ := Option.map_eq_some_iff.1 hv
      rcases hx with ⟨b, rfl⟩ | ⟨k, n, rfl⟩ <;> cases e
    · rcases hx with ⟨b, rfl⟩ | ⟨k, n, rfl⟩
      · exact pureD_bool hv
      · exact pureD_int hv
  unfold pureRs OrD at hp
  split at hp
  · rename_i r' hr
    injection hp with hp
    subst hp
    obtain ⟨a1, a2⟩ := pureAs_spec hr
    obtain ⟨v, hv, e⟩ := a2 0 x rfl
    match r, a1, hv with
    | [v'], _, hv => simp at hv; subst hv; rw [key _ e]
  · obtain ⟨a1, a2⟩ := pureDAs_spec hp
    obtain ⟨v, hv, e⟩ := a2 0 x rfl
    match r, a1, hv with
    | [v'], _, hv => simp at hv; subst hv; rw [key2 _ e]
theorem call_bool {run : Run} {h : Heap} {f : Nat} {args args' : List V} {b : Bool} (hp : pureDAs h args = some args') (hr : retP run f args' = some [.bool b]) : callX run h 0 f args = some (.bool b, h) := by
  obtain ⟨r, hc, e1, e2⟩ := retP_some hr
  have := pureRs_scal (.inl ⟨b, rfl⟩) e2
  subst this
  simp only [callX, callO, hp, e1]
  rfl
theorem call_int {run : Run} {h : Heap} {f : Nat} {args args' : List V} {k : IntKind} {b : Int} (hp : pureDAs h args = some args') (hr : retP run f args' = some [.int k b]) : callX run h 0 f args = some (.int k b, h) := by
  obtain ⟨r, hc, e1, e2⟩ := retP_some hr
  have := pureRs_scal (.inr ⟨k, b, rfl⟩) e2
  subst this
  simp only [callX, callO, hp, e1]
  rfl
theorem own_ids {h h' : Heap} {fs : List Fd} {v : V} {u : U} {ids : List Nat} (ho : OwnF h' (.sub fs) v u ids) (hl : ∀ j ∈ ids, h.length ≤ j) : ∀ j ∈ ids, h.length ≤ j ∧ j < h'.length := fun j hj => ⟨hl j hj, OwnF_lt _ ho j hj⟩
end Go.Proofs.Ytfbjbkkcilhgjaa.PE
/- Contents of trees as columns, values, rows, numbers. -/
set_option linter.unusedVariables false
set_option linter.unusedSimpArgs false
namespace Go.Proofs.Ytfbjbkkcilhgjaa.PE
open Go.RowKit

def colU (c : Col) : List U := [.int c.kind, .bool c.empty]
def valU (v : Val) : List U := [.int v.kind, .int v.n, .str v.s]
def vsU (vs : List Val) : List U := [.sub (vs.map valU)]
theorem typ_of {α : Type} {R : List V → List U → Prop} {f : α → List V} {g : α → List U} (h : ∀ c x, R c x → ∃ a, c = f a ∧ x = g a) : ∀ {l1 : List (List V)} {l2 : List (List U)}, Zip2 R l1 l2 → ∃ ls : List α, l1 = ls.map f ∧ l2 = ls.map g
  | [], [], _ => ⟨[], rfl, rfl⟩
  | c :: l1, x :: l2, ⟨h1, h2⟩ => by
    obtain ⟨a, rfl, rfl⟩ := h c x h1
    obtain ⟨ls, rfl, rfl⟩ := typ_of h h2
    exact ⟨a :: ls, rfl, rfl⟩
  | [], _ :: _, h => h.elim
  | _ :: _, [], h => h.elim
theorem zip_map {α : Type} {R : List V → List U → Prop} {f : α → List V} {g : α → List U} (h : ∀ a, R (f a) (g a)) : ∀ (ls : List α), Zip2 R (ls.map f) (ls.map g)
  | [] => trivial
  | a :: ls => ⟨h a, zip_map h ls⟩
theorem pur_map {α : Type} {fs : List Fd} {f : α → List V} {g : α → List U} (h : ∀ a, PurR fs (f a) (g a)) (c : Bool) (n : Nat) (hn : n = fs.length) (ls : List α) : PurF (.sub fs) (.sl c n (ls.map f)) (.sub (ls.map g)) := by
  subst hn
  simp only [PurF]
  exact ⟨c, _, _, rfl, rfl, zip_map h ls⟩
theorem valsU_of {l1 : List (List V)} {l2 : List (List U)} (h : Zip2 (PurR fdValue) l1 l2) : ∃ vs : List Val, l1 = vs.map Val.cells ∧ l2 = vs.map valU :=
  typ_of (fun c x hr => by obtain ⟨a, b, s, rfl, rfl⟩ := purR_Value hr; exact ⟨⟨a, b, s⟩, rfl, rfl⟩) h
theorem valU_inj {a b : Val} (h : valU a = valU b) : a = b := by
  cases a; cases b
  simp only [valU, List.cons.injEq, U.int.injEq, U.str.injEq, and_true] at h
  obtain ⟨rfl, rfl, rfl⟩ := h
  rfl
theorem map_inj {α β : Type} {g : α → β} (hg : ∀ a b, g a = g b → a = b) {l1 l2 : List α} (h : l1.map g = l2.map g) : l1 = l2 := (List.map_inj_right hg).1 h
theorem val_pur (v : Val) : PurR fdValue v.cells (valU v) := purR_mk_Value v.kind v.n v.s
theorem row_pur (r : Row) : PurR fdValueS r.cells (vsU r.vs) := purR_mk_ValueS (pur_map val_pur _ 3 rfl _)
/-- Values of one's own. -/
theorem own_flat {α : Type} {fs : List Fd} {f : α → List V} {g : α → List U} {h : Heap} (ho : ∀ a, OwnR h fs (f a) (g a) []) : ∀ (ls : List α), Zip3 (OwnR h fs) (ls.map f) (ls.map g) []
  | [] => rfl
  | a :: ls => ⟨[], [], rfl, ho a, own_flat ho ls⟩
theorem own_row {α : Type} {fs : List Fd} {f : α → List V} {g : α → List U} {h : Heap} {id st n : Nat} {clip : Bool} (hd : fs.any Fd.deep = false) (ls : List α) (hn : n = ls.length) (hb : h[id]? = some (.rows st fs.length (ls.map f))) (ho : ∀ a, OwnR h fs (f a) (g a) []) : OwnF h (.sub fs) (.ref id st 0 n clip) (.sub (ls.map g)) [id] := by
  simp only [OwnF]
  refine ⟨_, rfl, .inr ⟨id, st, clip, ls.map f, [], by rw [hn, List.length_map], ?_, rfl, own_flat ho ls⟩⟩
  rw [hb]
  unfold blkOf
  rw [hd]
  rfl
theorem own_nil {fs : List Fd} {h : Heap} {c : Bool} {n : Nat} (hn : n = fs.length) : OwnF h (.sub fs) (.sl c n []) (.sub []) [] := by
  subst hn
  rw [OwnF]
  exact ⟨[], rfl, .inl ⟨c, rfl, rfl, rfl⟩⟩
end Go.Proofs.Ytfbjbkkcilhgjaa.PE
/- Rows and columns as trees: what their sizes say, that only their values matter. -/
set_option linter.unusedVariables false
set_option linter.unusedSimpArgs false
set_option maxHeartbeats 4000000
namespace Go.Proofs.Ytfbjbkkcilhgjaa.PE
open Go.RowKit

def rowU (r : Row) : List U := vsU r.vs
end Go.Proofs.Ytfbjbkkcilhgjaa.PE
/- Copies of rows, and whether lists of rows are the same. -/
set_option linter.unusedSimpArgs false
set_option linter.unusedVariables false
set_option maxHeartbeats 4000000
namespace Go.Proofs.Ytfbjbkkcilhgjaa.PE
open Go.RowKit

/-- A row of one's own. -/
def Row.own (b : Bool) (r : Row) : Row := ⟨b, r.vs⟩
def own (b : Bool) (rs : List Row) : List Row := rs.map (Row.own b)
def sameVs (a b : List Val) : Bool := decide (a = b)
def vss (rs : List Row) : List (List Val) := rs.map Row.vs
end Go.Proofs.Ytfbjbkkcilhgjaa.PE
/- Rows of rows that grow, element by element, each of memory of its own. -/
set_option linter.unusedVariables false
set_option linter.unusedSimpArgs false
namespace Go.Proofs.Ytfbjbkkcilhgjaa.PE
open Go.RowKit

/-- What has been gathered up to now. -/
def Grown (fs : List Fd) (id : Nat) (h : Heap) (done : List (List V)) (xs : List (List U)) : Prop :=
  h[id]? = some (blkOf fs done.length done) ∧ ∃ ids, Zip3 (OwnR h fs) done xs ids ∧ (id :: ids).Nodup
theorem Grown.nest {fs : List Fd} {id : Nat} {h : Heap} {done : List (List V)} {xs : List (List U)} (g : Grown fs id h done xs) (hd : fs.any Fd.deep = true) : h[id]? = some (.nest done.length fs.length done) := by
  have := g.1
  unfold blkOf at this
  rw [hd] at this
  exact this
theorem Grown.len {fs : List Fd} {id : Nat} {h : Heap} {done : List (List V)} {xs : List (List U)} (g : Grown fs id h done xs) : done.length = xs.length := by
  obtain ⟨_, ids, z, _⟩ := g
  exact Zip3_len z
theorem Grown.lt {fs : List Fd} {id : Nat} {h : Heap} {done : List (List V)} {xs : List (List U)} (g : Grown fs id h done xs) : id < h.length := (List.getElem?_eq_some_iff.1 g.1).1
theorem Grown.start {fs : List Fd} {id : Nat} {h : Heap} (hb : h[id]? = some (blkOf fs 0 [])) : Grown fs id h [] [] := ⟨hb, [], rfl, by simp⟩
theorem Grown.frame {fs : List Fd} {id : Nat} {h h1 : Heap} {done : List (List V)} {xs : List (List U)} (g : Grown fs id h done xs) (keep : ∀ j, j < h.length → h1[j]? = h[j]?) : Grown fs id h1 done xs := by
  obtain ⟨g1, ids, z, nd⟩ := g
  refine ⟨(keep id (List.getElem?_eq_some_iff.1 g1).1).trans g1, ids, ?_, nd⟩
  exact Zip3_mono (P := fun _ => True) (fun c x i hr _ => OwnR_frame _ hr (fun j hj => keep j (OwnR_lt _ hr j hj))) z (fun _ _ => trivial)
theorem Grown.add {fs : List Fd} {id : Nat} {h h1 h2 : Heap} {done : List (List V)} {xs : List (List U)} {cells : List V} {x : List U} {js : List Nat} (g : Grown fs id h done xs) (own : OwnR h1 fs cells x js) (nd : js.Nodup)
    (fresh : ∀ j ∈ js, h.length ≤ j) (keep : ∀ j, j < h.length → h1[j]? = h[j]?) (e2 : h2 = h1.set id (blkOf fs (done.length + 1) (done ++ [cells]))) : Grown fs id h2 (done ++ [cells]) (xs ++ [x]) := by
  subst e2
  have hlt := g.lt
  obtain ⟨g1, ids, z, nd1⟩ := g
  have hl1 : id < h1.length := by
    have := keep id hlt
    rw [List.getElem?_eq_getElem hlt] at this
    exact (List.getElem?_eq_some_iff.1 this).1
  obtain ⟨n1, n2⟩ := List.nodup_cons.1 nd1
  have hids : ∀ j ∈ ids, j < h.length := Zip3_all (fun c x i hr => OwnR_lt fs hr) z
  refine ⟨by rw [List.getElem?_set_self hl1, List.length_append]; rfl, ids ++ js, Zip3_app (Zip3_mono (P := fun j => j ∈ ids) (fun c x i hr hp => OwnR_frame fs hr (fun j hj => ?_)) z (fun _ hm => hm)) (Zip3_one (OwnR_frame fs own (fun j hj => ?_))), ?_⟩
  · have hne : id ≠ j := fun e => n1 (e ▸ hp j hj)
    rw [List.getElem?_set_ne hne]
    exact keep j (hids j (hp j hj))
  · have hne : id ≠ j := fun e => by have := fresh j hj; omega
    rw [List.getElem?_set_ne hne]
  · refine List.nodup_cons.2 ⟨fun hm => ?_, List.nodup_append.2 ⟨n2, nd, fun p hp q hq => ?_⟩⟩
    · rcases List.mem_append.1 hm with hm | hm
      · exact n1 hm
      · have := fresh id hm; omega
    · have := hids p hp
      have := fresh q hq
      omega
theorem Grown.set {fs : List Fd} {id : Nat} {h h1 : Heap} {done : List (List V)} {xs : List (List U)} {k : Nat} {b : Blk} (g : Grown fs id h done xs) (hk : h.length ≤ k) : Grown fs id (h.set k b) done xs := by
  rw [List.set_eq_of_length_le hk]
  exact g
theorem Grown.own {fs : List Fd} {id : Nat} {h : Heap} {done : List (List V)} {xs : List (List U)} {n : Nat} {clip : Bool} (g : Grown fs id h done xs) (hn : n = done.length) : ∃ ids, OwnF h (.sub fs) (.ref id n 0 n clip) (.sub xs) ids ∧ ids.Nodup := by
  subst hn
  obtain ⟨g1, ids, z, nd⟩ := g
  refine ⟨id :: ids, ?_, nd⟩
  simp only [OwnF]
  exact ⟨xs, rfl, .inr ⟨id, done.length, clip, done, ids, rfl, g1, rfl, z⟩⟩
end Go.Proofs.Ytfbjbkkcilhgjaa.PE
/- Copies of rows as memory of one's own. -/
set_option linter.unusedVariables false
set_option linter.unusedSimpArgs false
set_option maxHeartbeats 4000000
namespace Go.Proofs.Ytfbjbkkcilhgjaa.PE
open Go.RowKit

theorem val_own (h : Heap) (v : Val) : OwnR h fdValue v.cells (valU v) [] := ownR_mk_Value h v.kind v.n v.s
theorem clip_nest (d : Nat) (h : Heap) (n : Nat) {cont : List (List V)} (hb : h[0]? = some (.nest n 1 cont)) (hn : cont.length = n) : callX (runD tab noExt (d + 1)) h 2 87 [.ref 0 n 0 n false] = some (.ref 0 n 0 n true, h) := by
  simp only [callX, callK]
  rw [runD_eq find87 _ _ _ (by simp)]
  simp -implicitDefEqProofs (disch := omega) only [go_sem, Nat.reduceBEq, Nat.reduceAdd, Nat.reduceSub, Nat.reduceMul, Nat.reduceLeDiff, Nat.reduceEqDiff, Nat.reduceLT, Int.reduceNeg, Int.reduceAdd, Int.reduceSub, Int.reduceMul, Int.reduceLE, Int.reduceLT, Int.reduceEq, Int.reduceToNat, reduceCtorEq, Bool.true_or, resOk, hb, hn]
end Go.Proofs.Ytfbjbkkcilhgjaa.PE
/- Calls whose results are memory of one's own, and a number beside it. -/
set_option linter.unusedVariables false
set_option linter.unusedSimpArgs false
namespace Go.Proofs.Ytfbjbkkcilhgjaa.PE
open Go.RowKit

end Go.Proofs.Ytfbjbkkcilhgjaa.PE
/- Steps of exact statements of structs. -/
set_option linter.unusedVariables false
set_option linter.unusedSimpArgs false
namespace Go.Proofs.Ytfbjbkkcilhgjaa.PE
open Go.RowKit

theorem pureDA_of {h : Heap} {fs : List Fd} {v q : V} {u : U} {ids : List Nat} (ho : OwnF h (.sub fs) v u ids) (e : pureD h 6 v = some q) : pureDA h v = some q := by
  rcases own_cases ho with ⟨c, rfl⟩ | ⟨id, st, n, clip, rfl⟩ <;> exact e
theorem pureDA_agg (h : Heap) (cs : List V) : pureDA h (.agg cs) = (mapO (pureD h 6) cs).map .agg := rfl
theorem pureD_intv (h : Heap) (n : Nat) (k : IntKind) (m : Int) : pureD h n (.int k m) = some (.int k m) := by cases n <;> rfl
theorem pureD_boolv (h : Heap) (n : Nat) (b : Bool) : pureD h n (.bool b) = some (.bool b) := by cases n <;> rfl
theorem pureD_strv (h : Heap) (n : Nat) (b : ByteArray) : pureD h n (.str b) = some (.str b) := by cases n <;> rfl
end Go.Proofs.Ytfbjbkkcilhgjaa.PE
/- Results that are memory of one's own, told as values. -/
set_option linter.unusedSimpArgs false
set_option linter.unusedVariables false
namespace Go.Proofs.Ytfbjbkkcilhgjaa.PE
open Go.RowKit

end Go.Proofs.Ytfbjbkkcilhgjaa.PE
/- Sizes of trees of values, rows, columns. -/
set_option linter.unusedVariables false
set_option linter.unusedSimpArgs false
namespace Go.Proofs.Ytfbjbkkcilhgjaa.PE
open Go.RowKit

theorem sum_all {c : List U → Nat} {n : Nat} : ∀ {xs : List (List U)}, (∀ x ∈ xs, c x ≤ n) → sumU c xs ≤ n * xs.length
  | [], _ => by simp [sumU]
  | x :: xs, h => by
    have := sum_all (fun y hy => h y (List.mem_cons_of_mem _ hy)) (xs := xs)
    have := h x List.mem_cons_self
    simp only [sumU, List.length_cons, Nat.mul_add, Nat.mul_one]
    omega
theorem all_of {P : List U → Prop} : ∀ {xs : List (List U)}, (∀ x ∈ xs, P x) → AllU P xs
  | [], _ => trivial
  | x :: xs, h => ⟨h x List.mem_cons_self, all_of (fun y hy => h y (List.mem_cons_of_mem _ hy))⟩
theorem vals_len {n m : Nat} {vs : List Val} (h1 : vs.length ≤ n) (h2 : ∀ v ∈ vs, v.s.size ≤ m) : LenF n m (.sub fdValue) (.sub (vs.map valU)) := by
  simp only [LenF, List.length_map]
  refine ⟨h1, all_of (fun x hx => ?_)⟩
  obtain ⟨v, hv, rfl⟩ := List.mem_map.1 hx
  simp only [fdValue, valU, LenR, LenF, true_and, and_true]
  exact h2 v hv
theorem vals_cnt (vs : List Val) : cntF (.sub fdValue) (.sub (vs.map valU)) = 3 * vs.length := by
  simp only [cntF]
  induction vs with
  | nil => rfl
  | cons v vs ih =>
    have e : cntR fdValue (valU v) = 3 := rfl
    simp only [List.map_cons, sumU, e, ih, List.length_cons]
    omega
theorem rows_big {rs : List Row} (h1 : rs.length ≤ 1048576) (h2 : ∀ r ∈ rs, r.vs.length ≤ 1048576 ∧ ∀ w ∈ r.vs, w.s.size ≤ 1048576) : LenF big big (.sub fdValueS) (.sub (rs.map rowU)) := by
  simp only [LenF, List.length_map]
  refine ⟨by unfold big; omega, all_of (fun x hx => ?_)⟩
  obtain ⟨r, hr, rfl⟩ := List.mem_map.1 hx
  have := LenF_mono (n' := big) (m' := big) (by decide) (by decide) _ (vals_len (h2 r hr).1 (h2 r hr).2)
  simp only [fdValueS, rowU, vsU, LenR]
  exact ⟨this, trivial⟩
theorem rows_cnt {rs : List Row} {n : Nat} (h1 : rs.length ≤ n) (h2 : ∀ r ∈ rs, r.vs.length ≤ 1048576) : cntF (.sub fdValueS) (.sub (rs.map rowU)) ≤ 4000000 * n := by
  have := sum_all (c := cntR fdValueS) (n := 4000000) (xs := rs.map rowU) (fun x hx => by
    obtain ⟨r, hr, rfl⟩ := List.mem_map.1 hx
    have e : cntR fdValueS (rowU r) = cntF (.sub fdValue) (.sub (r.vs.map valU)) := by simp only [fdValueS, rowU, vsU, cntR]; omega
    have := h2 r hr
    rw [e, vals_cnt]
    omega)
  rw [List.length_map] at this
  simp only [cntF]
  have := Nat.mul_le_mul_left 4000000 h1
  omega
end Go.Proofs.Ytfbjbkkcilhgjaa.PE
/- Rows of tallies: both functions. -/
set_option linter.unusedSimpArgs false
set_option linter.unusedVariables false
set_option maxHeartbeats 4000000
set_option maxRecDepth 20000
namespace Go.Proofs.Ytfbjbkkcilhgjaa.PE
open Go.RowKit

def numV (n : Int) : Val := if -9999 ≤ n ∧ n ≤ 9999 then ⟨1, n, ⟨#[]⟩⟩ else .zero
def sumV (t : Tal) : Val := if t.many = 0 then .zero else numV t.sum
def talRow (t : Tal) : List Val := [k0 t, ⟨1, t.rows, ⟨#[]⟩⟩, sumV t]
def talRows (l : List Tal) : List Row := if talsOk l then l.map fun t => ⟨true, talRow t⟩ else []
theorem tals_one : ∀ (l : List Tal) (o : Option Tal), (prevsG o l).all talOk = true → ∀ t ∈ l, t.one = true
  | [], _, _, t, ht => by cases ht
  | x :: r, o, h, t, ht => by
    simp only [prevsG, List.all_cons, Bool.and_eq_true] at h
    rcases List.mem_cons.1 ht with rfl | ht
    · have h2 := h.1
      unfold talOk at h2
      simp only [Bool.and_eq_true] at h2
      exact h2.1
    · exact tals_one r (some x) h.2 t ht
theorem one_many {t : Tal} (h : t.one = true) : (0 ≤ t.many ∧ t.many ≤ 100) ∧ 1 ≤ t.rows ∧ t.rows ≤ 100 := by
  unfold Tal.one at h
  simp only [Bool.and_eq_true, decide_eq_true_eq] at h
  omega
-- find86
theorem run_numOf (d : Nat) (n : Int) : retP (runD tab noExt (d + 4)) 86 [.int .i64 n] = some [.agg (numV n).cells] := by
  have ho := run_ok d 1 n ⟨#[]⟩
  have e : Val.ok ⟨1, n, ⟨#[]⟩⟩ = decide (-9999 ≤ n ∧ n ≤ 9999) := by simp [Val.ok]
  rw [e] at ho
  unfold numV
  rw [retP, runD_eq find86 _ _ _ (by simp)]
  by_cases h : -9999 ≤ n ∧ n ≤ 9999
  · rw [decide_eq_true h] at ho
    simp -implicitDefEqProofs (disch := omega) only [go_sem, Nat.reduceBEq, Nat.reduceAdd, Nat.reduceSub, Nat.reduceMul, Nat.reduceLeDiff, Nat.reduceEqDiff, Nat.reduceLT, Int.reduceNeg, Int.reduceAdd, Int.reduceSub, Int.reduceMul, Int.reduceLE, Int.reduceLT, Int.reduceEq, Int.reduceToNat, reduceCtorEq, ho, if_pos h, Val.cells]
  · rw [decide_eq_false h] at ho
    simp -implicitDefEqProofs (disch := omega) only [go_sem, Nat.reduceBEq, Nat.reduceAdd, Nat.reduceSub, Nat.reduceMul, Nat.reduceLeDiff, Nat.reduceEqDiff, Nat.reduceLT, Int.reduceNeg, Int.reduceAdd, Int.reduceSub, Int.reduceMul, Int.reduceLE, Int.reduceLT, Int.reduceEq, Int.reduceToNat, reduceCtorEq, ho, if_neg h, Val.cells, Val.zero]
def talU (t : Tal) : List U := vsU (talRow t)
-- find28
theorem loop_talRows (d : Nat) (c : Bool) (l : List Tal) (hs : l.length < 4294967296) (h1 : ∀ t ∈ l, t.one = true) : ∃ h' done, LoopK (runD tab noExt (d + 4)) (drawI (runD tab noExt (d + 4))) [3, 10, 11, 12] [3] L28x0 1099511627775 [(3, .ref 0 0 0 0 false), (10, .sl c 4 (l.map Tal.cells)), (11, .int .i64 l.length), (12, .int .i64 0)] [.nest 0 1 []] = some (.exit 0, [(3, .ref 0 done.length 0 done.length false)], h') ∧ Grown fdValueS 0 h' done (l.map talU) ∧ done.length = l.length := by
  obtain ⟨⟨h', done⟩, ⟨g1, g2⟩, e⟩ := LoopK_inv (run := runD tab noExt (d + 4)) (draw := drawI (runD tab noExt (d + 4))) (live := [3, 10, 11, 12]) (out := [3]) (c := L28x0) l.length
    (fun i (b : Heap × List (List V)) => Grown fdValueS 0 b.1 b.2 ((l.take i).map talU) ∧ b.2.length = i)
    (fun i b => [(3, .ref 0 b.2.length 0 b.2.length false), (10, .sl c 4 (l.map Tal.cells)), (11, .int .i64 l.length), (12, .int .i64 (i : Nat))]) (fun b => b.1) (fun b => some (.exit 0, [(3, .ref 0 b.2.length 0 b.2.length false)], b.1))
    (fun b K hb => by
      rw [LoopK_eq]
      simp -implicitDefEqProofs only [go_sem, Nat.reduceBEq, Nat.reduceAdd, Nat.reduceSub, Nat.reduceMul, Nat.reduceLeDiff, Nat.reduceEqDiff, Nat.reduceLT, Int.reduceNeg, Int.reduceAdd, Int.reduceSub, Int.reduceMul, Int.reduceLE, Int.reduceLT, Int.reduceEq, Int.reduceToNat, reduceCtorEq, evL28x0, B28x0, Int.lt_irrefl]) (fun i b K hi hb => by
      obtain ⟨h, done⟩ := b
      obtain ⟨g, glen⟩ := hb
      simp only at g glen ⊢
      have hx := List.getElem?_eq_getElem hi
      generalize l[i] = t at hx
      have ho := h1 t (List.mem_of_getElem? hx)
      obtain ⟨kv, hkv, _, _⟩ := Tal.one_key ho
      obtain ⟨⟨m0, m1⟩, r0, r1⟩ := one_many ho
      have hi' : (i : Int) < l.length := by omega
      have hsm : done.length + 1 < 4294967296 := by omega
      have hn := run_numOf d t.sum
      have hm := run_numOf d t.rows
      have em : numV t.rows = ⟨1, t.rows, ⟨#[]⟩⟩ := if_pos (by omega)
      rw [em] at hm
      have hk0 : k0 t = kv := by unfold k0; rw [hkv]; rfl
      have hlt := g.lt
      have hnest : ∀ r : Heap, (h ++ r)[0]? = some (.nest done.length 1 done) := fun r => by rw [List.getElem?_append_left hlt]; exact g.nest (by rfl)
      rw [take_snoc hx, List.map_append]
      refine ⟨((h ++ [Blk.box t.cells, Blk.box (sumV t).cells, Blk.rows 0 3 ((talRow t).map Val.cells)]).set 0 (Blk.nest (done.length + 1) 1 (done ++ [[V.ref (h.length + 2) 0 0 3 false]])), done ++ [[V.ref (h.length + 2) 0 0 3 false]]), ⟨?_, by simp; omega⟩, ?_⟩
      · refine g.add (h1 := h ++ [Blk.box t.cells, Blk.box (sumV t).cells, Blk.rows 0 3 ((talRow t).map Val.cells)]) (js := [h.length + 2]) (ownR_mk_ValueS (own_row rfl (talRow t) (by rfl) (by rw [at_end_add]; rfl) (val_own _))) (by simp) (fun j hj => by rw [List.mem_singleton.1 hj]; omega) (fun j hj => List.getElem?_append_left hj) rfl
      · unfold talRow
        rw [hk0]
        clear g ho em hk0
        obtain ⟨tc, tk, ta, tm, ts⟩ := t
        simp only at hkv hn hm m0 m1 r0 r1
        subst hkv
        by_cases hz : tm = 0
        · subst hz
          have es : sumV ⟨tc, [kv], ta, 0, ts⟩ = .zero := if_pos rfl
          rw [es]
          generalize numV ts = z at hn
          rw [LoopK_eq]
          simp -implicitDefEqProofs (disch := omega) only [go_sem, Nat.reduceBEq, Nat.reduceAdd, Nat.reduceSub, Nat.reduceMul, Nat.reduceLeDiff, Nat.reduceEqDiff, Nat.reduceLT, Int.reduceNeg, Int.reduceAdd, Int.reduceSub, Int.reduceMul, Int.reduceLE, Int.reduceLT, Int.reduceEq, Int.reduceToNat, reduceCtorEq, evL28x0, B28x0, evC_draw, evD28x0, E28x0, hi', hx, Tal.cells, Val.cells, Val.zero, hn, hm, hnest, List.map_cons, List.map_nil, List.append_assoc, List.cons_append, List.nil_append, at_end, at_end_add, set_end, set_end_add, hsm, elemsOf, elemOf, elemsN, elemN, listN, appendN, okN, small, refs, refC, refsV, frzs, List.flatMap_cons, List.flatMap_nil, Int.toNat_zero, IntWalk.i64_in]
        · have es : sumV ⟨tc, [kv], ta, tm, ts⟩ = numV ts := if_neg hz
          rw [es]
          generalize numV ts = z at hn ⊢
          rw [LoopK_eq]
          simp -implicitDefEqProofs (disch := omega) only [go_sem, Nat.reduceBEq, Nat.reduceAdd, Nat.reduceSub, Nat.reduceMul, Nat.reduceLeDiff, Nat.reduceEqDiff, Nat.reduceLT, Int.reduceNeg, Int.reduceAdd, Int.reduceSub, Int.reduceMul, Int.reduceLE, Int.reduceLT, Int.reduceEq, Int.reduceToNat, reduceCtorEq, evL28x0, B28x0, evC_draw, evD28x0, E28x0, hi', hx, Tal.cells, Val.cells, (eq_false hz : (tm = 0) = False), hn, hm, hnest, List.map_cons, List.map_nil, List.append_assoc, List.cons_append, List.nil_append, at_end, at_end_add, set_end, set_end_add, hsm, elemsOf, elemOf, elemsN, elemN, listN, appendN, okN, small, refs, refC, refsV, frzs, List.flatMap_cons, List.flatMap_nil, Int.toNat_zero, IntWalk.i64_in]) 1099511627775 (by omega) ([.nest 0 1 []], []) ⟨Grown.start rfl, rfl⟩
  simp only at g1 g2 e
  rw [List.take_of_length_le (Nat.le_refl _)] at g1
  exact ⟨h', done, e, g1, g2⟩
theorem own_TalliesRows (d : Nat) (c : Bool) (l : List Tal) (hs : l.length < 4294967296) (hsh : ShortT1 l) : ∃ v hc ids, runD tab noExt (d + 10) 28 [.sl c 4 (l.map Tal.cells)] [] = some ([v], hc) ∧ OwnF hc (.sub fdValueS) v (.sub ((talRows l).map rowU)) ids ∧ ids.Nodup := by
  have hv := run_talsI d c l (by omega) hsh
  unfold talRows
  cases hok : talsOk l
  · rw [hok] at hv
    refine ⟨.sl true 1 [], [], [], ?_, own_nil rfl, List.nodup_nil⟩
    rw [runD_eq find28 _ _ _ (by simp)]
    simp -implicitDefEqProofs (disch := omega) only [go_sem, Nat.reduceBEq, Nat.reduceAdd, Nat.reduceSub, Nat.reduceMul, Nat.reduceLeDiff, Nat.reduceEqDiff, Nat.reduceLT, Int.reduceNeg, Int.reduceAdd, Int.reduceSub, Int.reduceMul, Int.reduceLE, Int.reduceLT, Int.reduceEq, Int.reduceToNat, reduceCtorEq, hv]
  · rw [hok] at hv
    obtain ⟨h', done, e, g, hlen⟩ := loop_talRows (d + 5) c l hs (tals_one l none (by unfold talsOk at hok; exact hok))
    obtain ⟨ids, o1, o2⟩ := g.own (n := done.length) (clip := true) rfl
    have hc := clip_nest (d + 8) h' done.length (g.nest (by rfl)) rfl
    have eU : (l.map fun t => (⟨true, talRow t⟩ : Row)).map rowU = l.map talU := by rw [List.map_map]; rfl
    refine ⟨_, h', ids, ?_, by rw [if_pos rfl, eU]; exact o1, o2⟩
    rw [runD_eq find28 _ _ _ (by simp)]
    simp -implicitDefEqProofs (disch := omega) only [go_sem, Nat.reduceBEq, Nat.reduceAdd, Nat.reduceSub, Nat.reduceMul, Nat.reduceLeDiff, Nat.reduceEqDiff, Nat.reduceLT, Int.reduceNeg, Int.reduceAdd, Int.reduceSub, Int.reduceMul, Int.reduceLE, Int.reduceLT, Int.reduceEq, Int.reduceToNat, reduceCtorEq, hv]
    try simp -implicitDefEqProofs only [go_sem, Nat.reduceBEq, Nat.reduceAdd, Nat.reduceSub, Nat.reduceMul, Nat.reduceLeDiff, Nat.reduceEqDiff, Nat.reduceLT, Int.reduceNeg, Int.reduceAdd, Int.reduceSub, Int.reduceMul, Int.reduceLE, Int.reduceLT, Int.reduceEq, Int.reduceToNat, reduceCtorEq] at e
    rw [e]
    simp -implicitDefEqProofs (disch := omega) only [go_sem, Nat.reduceBEq, Nat.reduceAdd, Nat.reduceSub, Nat.reduceMul, Nat.reduceLeDiff, Nat.reduceEqDiff, Nat.reduceLT, Int.reduceNeg, Int.reduceAdd, Int.reduceSub, Int.reduceMul, Int.reduceLE, Int.reduceLT, Int.reduceEq, Int.reduceToNat, reduceCtorEq, hc]
-- find26
theorem loop_talRowsS (d : Nat) (c : Bool) (l : List Tal) (hl : l.length < 4294967296) (h1 : ∀ t ∈ l, t.one = true) (hv : retP (runD tab noExt (d + 7)) 83 [.sl c 4 (l.map Tal.cells)] = some [.bool true]) :
    LoopS (runD tab noExt (d + 7)) (drawI (runD tab noExt (d + 7))) [0, 3, 4] [3] L26x0 2 1099511627775 [(0, .sl c 4 (l.map Tal.cells)), (3, .ref 1 0 0 0 false), (4, .int .i64 0)] [.rows 0 1 [], .rows 0 1 []] =
      some (.exit 0, [(3, .ref 1 l.length 0 l.length false)], [.rows 0 1 [], .rows l.length 1 ((l.map fun t => (⟨true, talRow t⟩ : Row)).map Row.cells)]) := by
  obtain ⟨b', ⟨g1, g2⟩, e⟩ := LoopS_inv (run := runD tab noExt (d + 7)) (draw := drawI (runD tab noExt (d + 7))) (live := [0, 3, 4]) (out := [3]) (c := L26x0) (n0 := 2) l.length
    (fun i (b : List Row) => b = (l.take i).map (fun t => (⟨true, talRow t⟩ : Row)) ∧ b.length = i)
    (fun i b => [(0, .sl c 4 (l.map Tal.cells)), (3, .ref 1 b.length 0 b.length false), (4, .int .i64 (i : Nat))]) (fun b => [.rows 0 1 [], .rows b.length 1 (b.map Row.cells)]) (fun b => some (.exit 0, [(3, .ref 1 b.length 0 b.length false)], [.rows 0 1 [], .rows b.length 1 (b.map Row.cells)]))
    (fun b K hb => by
      rw [LoopS_eq]
      simp -implicitDefEqProofs only [go_sem, Nat.reduceBEq, Nat.reduceAdd, Nat.reduceSub, Nat.reduceMul, Nat.reduceLeDiff, Nat.reduceEqDiff, Nat.reduceLT, Int.reduceNeg, Int.reduceAdd, Int.reduceSub, Int.reduceMul, Int.reduceLE, Int.reduceLT, Int.reduceEq, Int.reduceToNat, reduceCtorEq, evL26x0, B26x0, Int.lt_irrefl]) (fun i b K hi hb => by
      obtain ⟨g, glen⟩ := hb
      have hx := List.getElem?_eq_getElem hi
      generalize l[i] = t at hx
      have ho := h1 t (List.mem_of_getElem? hx)
      obtain ⟨kv, hkv, _, _⟩ := Tal.one_key ho
      obtain ⟨⟨m0, m1⟩, r0, r1⟩ := one_many ho
      have hi' : (i : Int) < l.length := by omega
      have hsm : b.length + 1 < 4294967296 := by omega
      refine ⟨b ++ [⟨true, talRow t⟩], ⟨by rw [take_snoc hx, List.map_append, ← g]; rfl, by simp; omega⟩, ?_⟩
      clear g ho
      have hk0 : k0 t = kv := by unfold k0; rw [hkv]; rfl
      unfold talRow
      rw [hk0]
      obtain ⟨tc, tk, ta, tm, ts⟩ := t
      simp only at hkv m0 m1 r0 r1 ⊢
      subst hkv
      unfold sumV numV
      simp only
      rw [LoopS_eq]
      by_cases hz : tm = 0
      · subst hz
        simp -implicitDefEqProofs (disch := omega) only [go_sem, Nat.reduceBEq, Nat.reduceAdd, Nat.reduceSub, Nat.reduceMul, Nat.reduceLeDiff, Nat.reduceEqDiff, Nat.reduceLT, Int.reduceNeg, Int.reduceAdd, Int.reduceSub, Int.reduceMul, Int.reduceLE, Int.reduceLT, Int.reduceEq, Int.reduceToNat, reduceCtorEq, evL26x0, B26x0, evC_draw, evD26x0, E26x0, hv, hi', hx, hsm, Tal.cells, Row.cells, Row.v, Val.cells, Val.zero, List.map_append, List.map_cons, List.map_nil, elemsOf, elemOf, frzs, refs, refC, refsV, List.flatMap_cons, List.flatMap_nil, run_l1In, IntWalk.i64_in, Int.toNat_zero, Int.lt_irrefl, if_true, List.length_append, List.length_cons, List.length_nil]
      · have hz2 : 0 < tm := by omega
        by_cases h3 : -9999 ≤ ts ∧ ts ≤ 9999
        · simp -implicitDefEqProofs (disch := omega) only [go_sem, Nat.reduceBEq, Nat.reduceAdd, Nat.reduceSub, Nat.reduceMul, Nat.reduceLeDiff, Nat.reduceEqDiff, Nat.reduceLT, Int.reduceNeg, Int.reduceAdd, Int.reduceSub, Int.reduceMul, Int.reduceLE, Int.reduceLT, Int.reduceEq, Int.reduceToNat, reduceCtorEq, evL26x0, B26x0, evC_draw, evD26x0, E26x0, hv, hi', hx, hsm, (eq_false hz : (tm = 0) = False), (eq_true hz2 : (0 < tm) = True), (eq_true h3 : (-9999 ≤ ts ∧ ts ≤ 9999) = True), Tal.cells, Row.cells, Row.v, Val.cells, Val.zero, List.map_append, List.map_cons, List.map_nil, elemsOf, elemOf, frzs, refs, refC, refsV, List.flatMap_cons, List.flatMap_nil, run_l1In, IntWalk.i64_in, Int.toNat_zero, if_true, if_false, List.length_append, List.length_cons, List.length_nil]
        · simp -implicitDefEqProofs (disch := omega) only [go_sem, Nat.reduceBEq, Nat.reduceAdd, Nat.reduceSub, Nat.reduceMul, Nat.reduceLeDiff, Nat.reduceEqDiff, Nat.reduceLT, Int.reduceNeg, Int.reduceAdd, Int.reduceSub, Int.reduceMul, Int.reduceLE, Int.reduceLT, Int.reduceEq, Int.reduceToNat, reduceCtorEq, evL26x0, B26x0, evC_draw, evD26x0, E26x0, hv, hi', hx, hsm, (eq_false hz : (tm = 0) = False), (eq_true hz2 : (0 < tm) = True), (eq_false h3 : (-9999 ≤ ts ∧ ts ≤ 9999) = False), Tal.cells, Row.cells, Row.v, Val.cells, Val.zero, List.map_append, List.map_cons, List.map_nil, elemsOf, elemOf, frzs, refs, refC, refsV, List.flatMap_cons, List.flatMap_nil, run_l1In, IntWalk.i64_in, Int.toNat_zero, if_true, if_false, List.length_append, List.length_cons, List.length_nil]) 1099511627775 (by omega) [] ⟨by simp, by simp⟩
  rw [List.take_of_length_le (Nat.le_refl _)] at g1
  subst g1
  simp only [List.length_map] at e
  exact e
theorem run_TalliesRowsS (d : Nat) (c : Bool) (l : List Tal) (hs : l.length < 4294967296) (hsh : ShortT1 l) : ∃ cw, retP (runD tab noExt (d + 8)) 26 [.sl c 4 (l.map Tal.cells)] = some [.sl cw 1 ((talRows l).map Row.cells)] := by
  have hv := run_talsS (d + 1) c l (by omega) hsh
  unfold talRows
  cases hok : talsOk l
  · rw [hok] at hv
    refine ⟨false, ?_⟩
    have hl : LoopS (runD tab noExt (d + 7)) (drawI (runD tab noExt (d + 7))) [0, 3, 4] [3] L26x0 2 1099511627775 [(0, .sl c 4 (l.map Tal.cells)), (3, .ref 1 0 0 0 false), (4, .int .i64 0)] [.rows 0 1 [], .rows 0 1 []] = some (.exit 0, [(3, .ref 1 0 0 0 false)], [.rows 0 1 [], .rows 0 1 []]) := by
      rw [LoopS_eq]
      by_cases h0 : (0 : Int) < l.length
      · simp -implicitDefEqProofs (disch := omega) only [go_sem, Nat.reduceBEq, Nat.reduceAdd, Nat.reduceSub, Nat.reduceMul, Nat.reduceLeDiff, Nat.reduceEqDiff, Nat.reduceLT, Int.reduceNeg, Int.reduceAdd, Int.reduceSub, Int.reduceMul, Int.reduceLE, Int.reduceLT, Int.reduceEq, Int.reduceToNat, reduceCtorEq, evL26x0, B26x0, hv, h0]
      · simp -implicitDefEqProofs (disch := omega) only [go_sem, Nat.reduceBEq, Nat.reduceAdd, Nat.reduceSub, Nat.reduceMul, Nat.reduceLeDiff, Nat.reduceEqDiff, Nat.reduceLT, Int.reduceNeg, Int.reduceAdd, Int.reduceSub, Int.reduceMul, Int.reduceLE, Int.reduceLT, Int.reduceEq, Int.reduceToNat, reduceCtorEq, evL26x0, B26x0, hv, h0]
    rw [retP, runD_eq find26 _ _ _ (by simp)]
    simp -implicitDefEqProofs (disch := omega) only [go_sem, Nat.reduceBEq, Nat.reduceAdd, Nat.reduceSub, Nat.reduceMul, Nat.reduceLeDiff, Nat.reduceEqDiff, Nat.reduceLT, Int.reduceNeg, Int.reduceAdd, Int.reduceSub, Int.reduceMul, Int.reduceLE, Int.reduceLT, Int.reduceEq, Int.reduceToNat, reduceCtorEq, elemsOf, elemOf]
    try simp -implicitDefEqProofs only [go_sem, Nat.reduceBEq, Nat.reduceAdd, Nat.reduceSub, Nat.reduceMul, Nat.reduceLeDiff, Nat.reduceEqDiff, Nat.reduceLT, Int.reduceNeg, Int.reduceAdd, Int.reduceSub, Int.reduceMul, Int.reduceLE, Int.reduceLT, Int.reduceEq, Int.reduceToNat, reduceCtorEq] at hl
    rw [hl]
    simp -implicitDefEqProofs (disch := omega) only [go_sem, Nat.reduceBEq, Nat.reduceAdd, Nat.reduceSub, Nat.reduceMul, Nat.reduceLeDiff, Nat.reduceEqDiff, Nat.reduceLT, Int.reduceNeg, Int.reduceAdd, Int.reduceSub, Int.reduceMul, Int.reduceLE, Int.reduceLT, Int.reduceEq, Int.reduceToNat, reduceCtorEq, List.map_nil, if_false]
  · rw [hok] at hv
    refine ⟨false, ?_⟩
    have hl := loop_talRowsS d c l hs (tals_one l none (by unfold talsOk at hok; exact hok)) hv
    have et : List.take l.length ((l.map fun t => (⟨true, talRow t⟩ : Row)).map Row.cells) = (l.map fun t => (⟨true, talRow t⟩ : Row)).map Row.cells := List.take_of_length_le (by simp)
    generalize (l.map fun t => (⟨true, talRow t⟩ : Row)) = L at hl et ⊢
    rw [retP, runD_eq find26 _ _ _ (by simp)]
    simp -implicitDefEqProofs (disch := omega) only [go_sem, Nat.reduceBEq, Nat.reduceAdd, Nat.reduceSub, Nat.reduceMul, Nat.reduceLeDiff, Nat.reduceEqDiff, Nat.reduceLT, Int.reduceNeg, Int.reduceAdd, Int.reduceSub, Int.reduceMul, Int.reduceLE, Int.reduceLT, Int.reduceEq, Int.reduceToNat, reduceCtorEq, elemsOf, elemOf]
    try simp -implicitDefEqProofs only [go_sem, Nat.reduceBEq, Nat.reduceAdd, Nat.reduceSub, Nat.reduceMul, Nat.reduceLeDiff, Nat.reduceEqDiff, Nat.reduceLT, Int.reduceNeg, Int.reduceAdd, Int.reduceSub, Int.reduceMul, Int.reduceLE, Int.reduceLT, Int.reduceEq, Int.reduceToNat, reduceCtorEq] at hl
    rw [hl]
    simp -implicitDefEqProofs (disch := omega) only [go_sem, Nat.reduceBEq, Nat.reduceAdd, Nat.reduceSub, Nat.reduceMul, Nat.reduceLeDiff, Nat.reduceEqDiff, Nat.reduceLT, Int.reduceNeg, Int.reduceAdd, Int.reduceSub, Int.reduceMul, Int.reduceLE, Int.reduceLT, Int.reduceEq, Int.reduceToNat, reduceCtorEq, et, if_true]
end Go.Proofs.Ytfbjbkkcilhgjaa.PE
/- Versions: what is ok, in plain words. -/
set_option linter.unusedVariables false
set_option linter.unusedSimpArgs false
set_option maxHeartbeats 4000000
namespace Go.Proofs.Ytfbjbkkcilhgjaa.PE
open Go.RowKit

structure Ver where
  key : Int
  born : Int
  died : Int
  row : Row
def Ver.cells (v : Ver) : List V := [.int .i64 v.key, .int .i64 v.born, .int .i64 v.died, v.row.v]
def Ver.plain (v : Ver) : Ver := ⟨v.key, v.born, v.died, ⟨false, v.row.vs⟩⟩
def Ver.one (v : Ver) : Bool := decide (0 ≤ v.key ∧ v.key ≤ 4) && (decide (1 ≤ v.born ∧ v.born ≤ 40) && ((decide (v.died = 0) || decide (v.born + 1 ≤ v.died ∧ v.died ≤ 40)) && rowOk v.row.vs))
def ordS (w v : Ver) : Bool := !(decide (v.key ≤ w.key) && (decide (v.key < w.key) || (decide (w.died = 0) || decide (v.born < w.died))))
def ordI (w v : Ver) : Bool := !(decide (v.key < w.key) || (decide (w.key = v.key) && (decide (v.born ≤ w.born) || (decide (w.died = 0) || decide (v.born < w.died)))))
/-- Each version with the one ahead of it. -/
def prevs : Option Ver → List Ver → List (Option Ver × Ver)
  | _, [] => []
  | o, v :: r => (o, v) :: prevs (some v) r
def okBy (f : Ver → Ver → Bool) (p : Option Ver × Ver) : Bool := p.2.one && (match p.1 with | none => true | some w => f w p.2)
def versOk (l : List Ver) : Bool := (prevs none l).all (okBy ordS) && decide ((l.length : Int) ≤ 60)
end Go.Proofs.Ytfbjbkkcilhgjaa.PE
/- Versions: both functions tell whether they are ok. -/
set_option linter.unusedVariables false
set_option linter.unusedSimpArgs false
set_option maxHeartbeats 4000000
namespace Go.Proofs.Ytfbjbkkcilhgjaa.PE
open Go.RowKit

-- find102
def ShortVs (l : List Ver) : Prop := ∀ v ∈ l, v.row.vs.length < 1099511627776 ∧ short v.row.vs
end Go.Proofs.Ytfbjbkkcilhgjaa.PE
/- The version that a key has at a time: the program's. -/
set_option linter.unusedVariables false
set_option linter.unusedSimpArgs false
set_option maxHeartbeats 4000000
namespace Go.Proofs.Ytfbjbkkcilhgjaa.PE
open Go.RowKit

def Ver.at (key time : Int) (v : Ver) : Bool := decide (v.key = key) && (decide (v.born ≤ time) && (decide (v.died = 0) || decide (time < v.died)))
def Ver.zero : Ver := ⟨0, 0, 0, ⟨true, []⟩⟩
def seenO (o : Option Ver) : Out := match o with
  | some v => some (.ret, [(6, .ptr 0 0 0 0), (7, .bool true)], [.box v.cells])
  | none => some (.exit 0, [(6, .ptr 0 0 0 0), (7, .undef)], [.box Ver.zero.cells])
end Go.Proofs.Ytfbjbkkcilhgjaa.PE
/- The row that a key has at a time: the reference's. -/
set_option linter.unusedVariables false
set_option linter.unusedSimpArgs false
set_option maxHeartbeats 4000000
namespace Go.Proofs.Ytfbjbkkcilhgjaa.PE
open Go.RowKit

-- find77
def seenS (o : Option Ver) : Out := match o with
  | some v => some (.ret, [(6, .sl false 3 (v.row.vs.map Val.cells)), (7, .bool true)], [])
  | none => some (.exit 0, [(6, .undef), (7, .undef)], [])
/-- What a key has at a time. -/
def rowAt (l : List Ver) (key time : Int) : Option Ver := if versOk l then l.find? (Ver.at key time) else none
-- find123
end Go.Proofs.Ytfbjbkkcilhgjaa.PE
/- The rows at a time: the reference's. -/
set_option linter.unusedVariables false
set_option linter.unusedSimpArgs false
set_option maxHeartbeats 4000000
namespace Go.Proofs.Ytfbjbkkcilhgjaa.PE
open Go.RowKit

def keys5 : List Int := [0, 1, 2, 3, 4]
def addRow (l : List Ver) (time : Int) (b : List Row) (k : Int) : List Row := if (rowAt l k time).isSome then b ++ [⟨false, ((rowAt l k time).getD Ver.zero).row.vs⟩] else b
def rowsAtV (l : List Ver) (time : Int) : List Row := keys5.foldl (addRow l time) []
/-- What a key has at a time, as values. -/
def rowV (l : List Ver) (k time : Int) : Option (List Val) := (rowAt l k time).map fun v => v.row.vs
end Go.Proofs.Ytfbjbkkcilhgjaa.PE
/- Versions as trees: what their sizes say, that only their values matter. -/
set_option linter.unusedVariables false
set_option linter.unusedSimpArgs false
set_option maxHeartbeats 4000000
namespace Go.Proofs.Ytfbjbkkcilhgjaa.PE
open Go.RowKit

def verU (v : Ver) : List U := [.int v.key, .int v.born, .int v.died, .sub (v.row.vs.map valU)]
theorem vals_each {y : List (List U)} {p : V} (h : PurF (.sub fdValue) p (.sub y)) : ∃ (r : Row), p = r.v ∧ y = r.vs.map valU := by
  obtain ⟨cl, ct, rfl, hz⟩ := purS_Value h
  obtain ⟨vs, rfl, rfl⟩ := valsU_of hz
  exact ⟨⟨cl, vs⟩, rfl, rfl⟩
end Go.Proofs.Ytfbjbkkcilhgjaa.PE
/- Rows of tallies: what both functions come to, of trees. -/
set_option linter.unusedVariables false
set_option linter.unusedSimpArgs false
set_option maxHeartbeats 4000000
namespace Go.Proofs.Ytfbjbkkcilhgjaa.PE
open Go.RowKit

def tallyU (t : Tal) : List U := [.sub (t.key.map valU), .int t.rows, .int t.many, .int t.sum]
def Tal.plain (t : Tal) : Tal := ⟨false, t.key, t.rows, t.many, t.sum⟩
theorem talsU_of {l1 : List (List V)} {l2 : List (List U)} (h : Zip2 (PurR fdTally) l1 l2) : ∃ ts : List Tal, l1 = ts.map Tal.cells ∧ l2 = ts.map tallyU :=
  typ_of (fun c x hr => by
    obtain ⟨p0, y0, a1, a2, a3, rfl, rfl, g⟩ := purR_Tally hr
    obtain ⟨r, rfl, rfl⟩ := vals_each g
    exact ⟨⟨r.clip, r.vs, a1, a2, a3⟩, rfl, rfl⟩) h
theorem tallyU_inj {a b : Tal} (h : tallyU a = tallyU b) : a.plain = b.plain := by
  simp only [tallyU, List.cons.injEq, U.int.injEq, U.sub.injEq, and_true] at h
  obtain ⟨h1, h2, h3, h4⟩ := h
  have := map_inj (fun _ _ => valU_inj) h1
  simp only [Tal.plain, h2, h3, h4, this]
theorem tplain_of : ∀ {a b : List Tal}, a.map tallyU = b.map tallyU → a.map Tal.plain = b.map Tal.plain
  | [], [], _ => rfl
  | x :: a, y :: b, h => by
    simp only [List.map_cons, List.cons.injEq] at h
    rw [List.map_cons, List.map_cons, tallyU_inj h.1, tplain_of h.2]
  | [], _ :: _, h => by simp at h
  | _ :: _, [], h => by simp at h
theorem tals_each {l : List Tal} {q : V} (k : PurF (.sub fdTally) q (.sub (l.map tallyU))) : ∃ (c : Bool) (l2 : List Tal), q = .sl c 4 (l2.map Tal.cells) ∧ l2.map tallyU = l.map tallyU := by
  obtain ⟨c, _, rfl, y0⟩ := purS_Tally k
  obtain ⟨l', rfl, e0⟩ := talsU_of y0
  exact ⟨c, l', rfl, e0.symm⟩
theorem talsOk_plain : ∀ (l : List Tal) (o : Option Tal), (prevsG (o.map Tal.plain) (l.map Tal.plain)).all talOk = (prevsG o l).all talOk
  | [], _ => rfl
  | v :: r, o => by
    have ih := talsOk_plain r (some v)
    simp only [Option.map_some] at ih
    have e : talOk (o.map Tal.plain, v.plain) = talOk (o, v) := by cases o <;> rfl
    simp only [List.map_cons, prevsG, List.all_cons, ih, e]
theorem talRows_plain (l : List Tal) : talRows (l.map Tal.plain) = talRows l := by
  have e := talsOk_plain l none
  simp only [Option.map_none] at e
  unfold talRows talsOk
  rw [e, List.map_map]
  rfl
theorem talRows_vs {a b : List Tal} (h : a.map tallyU = b.map tallyU) : talRows a = talRows b := by rw [← talRows_plain a, ← talRows_plain b, tplain_of h]
theorem tals_lim {l : List Tal} (L : LenF 1048576 1048576 (.sub fdTally) (.sub (l.map tallyU))) : l.length ≤ 1048576 ∧ (∀ v ∈ l, v.key.length ≤ 1048576 ∧ ∀ w ∈ v.key, w.s.size ≤ 1048576) := by
  simp only [LenF, List.length_map] at L
  refine ⟨L.1, fun v hv => ?_⟩
  obtain ⟨i, hi⟩ := List.getElem?_of_mem hv
  have := AllU_at L.2 (map_at tallyU hi)
  simp only [fdTally, tallyU, LenR, LenF, List.length_map, true_and, and_true] at this
  refine ⟨this.1, fun w hw => ?_⟩
  obtain ⟨j, hj⟩ := List.getElem?_of_mem hw
  have := AllU_at this.2 (map_at valU hj)
  simp only [fdValue, valU, LenR, LenF, true_and, and_true] at this
  exact this
theorem tals_lims {a b : List Tal} (e : a.map tallyU = b.map tallyU) (L : LenF 1048576 1048576 (.sub fdTally) (.sub (b.map tallyU))) : a.length ≤ 1048576 ∧ ShortT1 a := by
  rw [← e] at L
  obtain ⟨h1, h2⟩ := tals_lim L
  exact ⟨h1, fun v hv => ⟨by have := (h2 v hv).1; omega, fun w hw => by have := (h2 v hv).2 w hw; omega⟩⟩
theorem core_TalliesRows {x0 : List (List U)} (h0 : ∃ p, PurF (.sub fdTally) p (.sub x0)) (L0 : LenF 1048576 1048576 (.sub fdTally) (.sub x0)) :
    ∃ ux, LenF big big (.sub fdValueS) (.sub ux) ∧ (cntF (.sub fdValueS) (.sub ux) : Int) ≤ 2305843009213693952 ∧
      (∀ {q0 : V}, PurF (.sub fdTally) q0 (.sub x0) → ∃ w, retP (runD tab noExt 60) 26 [q0] = some [w] ∧ PurF (.sub fdValueS) w (.sub ux)) ∧
      (∀ {q0 : V}, PurF (.sub fdTally) q0 (.sub x0) → ∃ v hc ids, runD tab noExt 60 28 [q0] [] = some ([v], hc) ∧ OwnF hc (.sub fdValueS) v (.sub ux) ids ∧ ids.Nodup) := by
  obtain ⟨p0, g0⟩ := h0
  obtain ⟨_, _, _, z0⟩ := purS_Tally g0
  obtain ⟨l, rfl, rfl⟩ := talsU_of z0
  obtain ⟨v1, v2⟩ := tals_lim L0
  have hlen : (talRows l).length ≤ 1048576 := by
    unfold talRows
    split
    · simpa using v1
    · simp
  have hmem : ∀ r ∈ talRows l, r.vs.length ≤ 1048576 ∧ ∀ w ∈ r.vs, w.s.size ≤ 1048576 := by
    intro r hr
    unfold talRows at hr
    split at hr
    · rename_i hok
      obtain ⟨t, ht, rfl⟩ := List.mem_map.1 hr
      refine ⟨by simp [talRow], fun w hw => ?_⟩
      obtain ⟨kv, hkv, _, _⟩ := Tal.one_key (tals_one l none hok t ht)
      have hk := (v2 t ht).2 kv (by rw [hkv]; simp)
      have e0 : (⟨#[]⟩ : ByteArray).size = 0 := rfl
      have hz : Val.zero.s.size = 0 := rfl
      have hs : (sumV t).s.size = 0 := by
        unfold sumV numV
        repeat' split
        all_goals rfl
      simp only [talRow, k0, hkv, List.headD_cons, List.mem_cons, List.not_mem_nil, or_false] at hw
      rcases hw with rfl | rfl | rfl
      · exact hk
      · simp only [e0]; omega
      · omega
    · cases hr
  refine ⟨(talRows l).map rowU, rows_big hlen hmem, ?_, fun k0 => ?_, fun k0 => ?_⟩
  · have c2 := rows_cnt (n := 1048576) hlen (fun r hr => (hmem r hr).1)
    omega
  · obtain ⟨c, l2, rfl, f⟩ := tals_each k0
    obtain ⟨s1, s2⟩ := tals_lims f L0
    obtain ⟨cw, e⟩ := run_TalliesRowsS 52 c l2 (by omega) s2
    rw [talRows_vs f] at e
    exact ⟨_, e, pur_map row_pur cw 1 rfl (talRows l)⟩
  · obtain ⟨c, l2, rfl, f⟩ := tals_each k0
    obtain ⟨s1, s2⟩ := tals_lims f L0
    obtain ⟨v, hc, ids, e, o, nd⟩ := own_TalliesRows 50 c l2 (by omega) s2
    rw [talRows_vs f] at o
    exact ⟨v, hc, ids, e, o, nd⟩
end Go.Proofs.Ytfbjbkkcilhgjaa.PE
/- The exact statement of FnExactTalliesRows. -/
set_option linter.unusedVariables false
set_option linter.unusedSimpArgs false
set_option maxHeartbeats 8000000
set_option maxRecDepth 20000
namespace Go.Proofs.Ytfbjbkkcilhgjaa.PE
open Go.RowKit

-- find5
theorem law_FnExactTalliesRows {p0 : V} {x0 : List (List U)} (g0 : PurF (.sub fdTally) p0 (.sub x0)) (B0 : LenF 9223372036854775807 9223372036854775807 (.sub fdTally) (.sub x0)) : ∃ d h1, runD tab noExt d 5 [p0] [] = some ([.bool true], h1) := by
  refine ⟨61, ?_⟩
  rw [runD_eq find5 _ _ _ (by simp)]
  obtain ⟨cl0, ct0, rfl, hz0⟩ := purS_Tally g0
  have hl0 := Zip2_len hz0
  have z0 := run_szTallyS 56 (1048576) g0 B0 (by omega) (by omega)
  have y0 := szF_spec (N := 1048576) (.sub fdTally) (.sub x0) (1048576) (by decide) (by omega)
  generalize szF (.sub fdTally) (.sub x0) (1048576) = l0 at z0 y0
  by_cases q0 : l0 < 0
  · simp -implicitDefEqProofs (disch := omega) only [go_sem, Nat.reduceBEq, Nat.reduceAdd, Nat.reduceSub, Nat.reduceMul, Nat.reduceLeDiff, Nat.reduceEqDiff, Nat.reduceLT, Int.reduceNeg, Int.reduceAdd, Int.reduceSub, Int.reduceMul, Int.reduceLE, Int.reduceLT, Int.reduceEq, Int.reduceToNat, reduceCtorEq, z0, q0]
    exact ⟨_, rfl⟩
  obtain ⟨y0a, L0, y0c⟩ := y0 (by omega) (by omega)
  have M0 := LenF_mono (n' := big) (m' := big) (by decide) (by decide) _ L0
  have P0 : x0.length ≤ 1048576 ∧ AllU (LenR 1048576 1048576 fdTally) x0 := by simpa only [LenF] using L0
  obtain ⟨ux, C1, C2, cS, cI⟩ := core_TalliesRows ⟨_, g0⟩ L0
  obtain ⟨v0, c0, d0, r0, o0, n0'⟩ := run_toTallyS 56 g0 P0.1 P0.2
  obtain ⟨t0, h0, s0, e0, a0, u0, w0, f0, m0⟩ := own_call (h := ([] : Heap)) (args := [(.sl cl0 4 ct0)]) (by simp only [pureDAs, mapO, pureDA_pur g0]) r0 o0 n0'
  have b0 := own_ids a0 w0
  obtain ⟨qsw0, zsw0, ysw0⟩ := OwnF_pure (.sub fdTally) 6 (by decide) a0
  have xsw0 := pureDA_of a0 zsw0
  obtain ⟨w, eS, gw⟩ := cS ysw0
  have eW := call_specB (h := h0) (args := [t0]) (by simp only [pureDAs, mapO, pureDA_int, pureDA_bool, pureDA_str, pureDA_agg, pureD_intv, pureD_boolv, pureD_strv, Option.map_some, zsw0, xsw0]) eS
  obtain ⟨hd, hdE⟩ : ∃ hb : Heap, hb = h0.map deadB := ⟨_, rfl⟩
  have mD : hd.length = h0.length := by rw [hdE]; simp
  rw [← hdE] at eW
  try simp only [oneOf] at eW
  obtain ⟨v1, c1, d1, r1, o1, n1'⟩ := run_toTallyS 56 g0 P0.1 P0.2
  obtain ⟨t1, h1, s1, e1, a1, u1, w1, f1, m1⟩ := own_call (h := hd) (args := [(.sl cl0 4 ct0)]) (by simp only [pureDAs, mapO, pureDA_pur g0]) r1 o1 n1'
  have b1 := own_ids a1 w1
  obtain ⟨qgx0, zgx0, ygx0⟩ := OwnF_pure (.sub fdTally) 6 (by decide) a1
  have xgx0 := pureDA_of a1 zgx0
  obtain ⟨v2, c2, d2, r2, o2, n2'⟩ := cI ygx0
  obtain ⟨t2, h2, s2, e2, a2, u2, w2, f2, m2⟩ := own_call (h := h1) (args := [t1]) (by simp only [pureDAs, mapO, pureDA_int, pureDA_bool, pureDA_str, pureDA_agg, pureD_intv, pureD_boolv, pureD_strv, Option.map_some, zgx0, xgx0]) r2 o2 n2'
  have b2 := own_ids a2 w2
  have o1x := OwnF_frame _ a1 (fun j hj => f2 j (OwnF_lt _ a1 j hj))
  obtain ⟨qgagR, zgagR, ygagR⟩ := OwnF_pure (.sub fdValueS) 6 (by decide) a2
  have xgagR := pureDA_of a2 zgagR
  have Ega := call_bool (h := h2) (args := [t2, w]) (by simp only [pureDAs, mapO, zgagR, xgagR, pureDA_pur gw]) (run_eqValueSS 57 ygagR gw C1)
  obtain ⟨v3, c3, d3, r3, o3, n3'⟩ := run_toTallyS 56 g0 P0.1 P0.2
  obtain ⟨t3, h3, s3, e3, a3, u3, w3, f3, m3⟩ := own_call (h := h2) (args := [(.sl cl0 4 ct0)]) (by simp only [pureDAs, mapO, pureDA_pur g0]) r3 o3 n3'
  have b3 := own_ids a3 w3
  have o2x := OwnF_frame _ o1x (fun j hj => f3 j (OwnF_lt _ o1x j hj))
  have o3x := OwnF_frame _ a2 (fun j hj => f3 j (OwnF_lt _ a2 j hj))
  obtain ⟨qA0x0, zA0x0, yA0x0⟩ := OwnF_pure (.sub fdTally) 6 (by decide) o2x
  have xA0x0 := pureDA_of o2x zA0x0
  obtain ⟨qB0y0, zB0y0, yB0y0⟩ := OwnF_pure (.sub fdTally) 6 (by decide) a3
  have xB0y0 := pureDA_of a3 zB0y0
  have EA0 := call_bool (h := h3) (args := [t1, t3]) (by simp only [pureDAs, mapO, pureDA_int, pureDA_bool, pureDA_str, pureDA_agg, pureD_intv, pureD_boolv, pureD_strv, Option.map_some, zA0x0, xA0x0, zB0y0, xB0y0]) (run_eqTallyS 56 yA0x0 yB0y0 M0)
  obtain ⟨h4, zmx0, e4, a4, k4, z4x, f4', m4⟩ := run_markTallyS 57 o2x u1 M0 (k := (1 : Int)) (by omega) (by omega)
  have f4 : ∀ j, j < h3.length → j ∉ s1 → h4[j]? = h3[j]? := fun j _ hj => f4' j hj
  have o4x := OwnF_frame _ o3x (fun j hj => f4 j (by have z := b2 j hj; first | omega | (have := OwnF_lt _ o3x j hj; omega)) (fun hm => by have z1 := b2 j hj; have z2 := b1 j hm; omega))
  have K0 : (((1 : Int) + cntF (.sub fdTally) (.sub x0)) < 0) = False := eq_false (by omega)
  obtain ⟨qgbgR, zgbgR, ygbgR⟩ := OwnF_pure (.sub fdValueS) 6 (by decide) o4x
  have xgbgR := pureDA_of o4x zgbgR
  have Egb := call_bool (h := h4) (args := [t2, w]) (by simp only [pureDAs, mapO, zgbgR, xgbgR, pureDA_pur gw]) (run_eqValueSS 57 ygbgR gw C1)
  obtain ⟨h5, zG, e5, a5, k5, z5x, f5', m5⟩ := run_markValueSS 57 o4x u2 C1 (k := 1) (by omega) (by omega)
  have f5 : ∀ j, j < h4.length → j ∉ s2 → h5[j]? = h4[j]? := fun j _ hj => f5' j hj
  have o5x := OwnF_frame _ a4 (fun j hj => f5 j (by have z := b1 j hj; first | omega | (have := OwnF_lt _ a4 j hj; omega)) (fun hm => by have z1 := b1 j hj; have z2 := b2 j hm; omega))
  have K1 : (((1 : Int) + cntF (.sub fdValueS) (.sub ux)) < 0) = False := eq_false (by omega)
  obtain ⟨qhagR, zhagR, yhagR⟩ := OwnF_pure (.sub fdValueS) 6 (by decide) a5
  have xhagR := pureDA_of a5 zhagR
  have Eha := call_int (h := h5) (args := [t2, .int .i64 1]) (by simp only [pureDAs, mapO, pureDA_int, pureDA_bool, pureDA_str, pureDA_agg, pureD_intv, pureD_boolv, pureD_strv, Option.map_some, zhagR, xhagR]) (run_heldValueSS 57 yhagR k5 (by omega) (by omega) z5x)
  obtain ⟨v6, c6, d6, r6, o6, n6'⟩ := run_toTallyS 56 g0 P0.1 P0.2
  obtain ⟨t6, h6, s6, e6, a6, u6, w6, f6, m6⟩ := own_call (h := h5) (args := [(.sl cl0 4 ct0)]) (by simp only [pureDAs, mapO, pureDA_pur g0]) r6 o6 n6'
  have b6 := own_ids a6 w6
  have o6x := OwnF_frame _ a5 (fun j hj => f6 j (OwnF_lt _ a5 j hj))
  obtain ⟨qkh0, zkh0, ykh0⟩ := OwnF_pure (.sub fdTally) 6 (by decide) a6
  have xkh0 := pureDA_of a6 zkh0
  obtain ⟨v7, c7, d7, r7, o7, n7'⟩ := cI ykh0
  obtain ⟨t7, h7, s7, e7, a7, u7, w7, f7, m7⟩ := own_call (h := h6) (args := [t6]) (by simp only [pureDAs, mapO, pureDA_int, pureDA_bool, pureDA_str, pureDA_agg, pureD_intv, pureD_boolv, pureD_strv, Option.map_some, zkh0, xkh0]) r7 o7 n7'
  have b7 := own_ids a7 w7
  have o7x := OwnF_frame _ o6x (fun j hj => f7 j (OwnF_lt _ o6x j hj))
  have o8x := OwnF_frame _ a6 (fun j hj => f7 j (OwnF_lt _ a6 j hj))
  obtain ⟨qgckR, zgckR, ygckR⟩ := OwnF_pure (.sub fdValueS) 6 (by decide) a7
  have xgckR := pureDA_of a7 zgckR
  have Egc := call_bool (h := h7) (args := [t7, w]) (by simp only [pureDAs, mapO, zgckR, xgckR, pureDA_pur gw]) (run_eqValueSS 57 ygckR gw C1)
  obtain ⟨qhbgR, zhbgR, yhbgR⟩ := OwnF_pure (.sub fdValueS) 6 (by decide) o7x
  have xhbgR := pureDA_of o7x zhbgR
  have Ehb := call_int (h := h7) (args := [t2, .int .i64 1]) (by simp only [pureDAs, mapO, pureDA_int, pureDA_bool, pureDA_str, pureDA_agg, pureD_intv, pureD_boolv, pureD_strv, Option.map_some, zhbgR, xhbgR]) (run_heldValueSS 57 yhbgR k5 (by omega) (by omega) z5x)
  simp -implicitDefEqProofs (disch := omega) only [go_sem, Nat.reduceBEq, Nat.reduceAdd, Nat.reduceSub, Nat.reduceMul, Nat.reduceLeDiff, Nat.reduceEqDiff, Nat.reduceLT, Int.reduceNeg, Int.reduceAdd, Int.reduceSub, Int.reduceMul, Int.reduceLE, Int.reduceLT, Int.reduceEq, Int.reduceToNat, reduceCtorEq, z0, q0, K0, K1, e0, eW, e1, e2, Ega, e3, EA0, e4, Egb, e5, Eha, e6, e7, Egc, Ehb]
  exact ⟨_, rfl⟩
end Go.Proofs.Ytfbjbkkcilhgjaa.PE
/- Arguments of any plain kind, as they are read: values of the evaluator. -/
set_option linter.unusedVariables false
set_option linter.unusedSimpArgs false
namespace Go.Proofs.Ytfbjbkkcilhgjaa.PE
open Go.RowKit

mutual
def tyF (P : Program) : Nat → TypeId → Fd → Bool
  | 0, _, _ => false
  | n + 1, t, .int k => match P.underlying t with
    | some (.int k') => decide (k' = k)
    | _ => false
  | n + 1, t, .bool => match P.underlying t with
    | some .bool => true
    | _ => false
  | n + 1, t, .str => match P.underlying t with
    | some .string => true
    | _ => false
  | n + 1, t, .sub fs => match P.underlying t with
    | some (.slice e) => decide (P.cellsOf e = fs.length) && decide (0 < fs.length) && tyR P n e fs
    | _ => false
def tyR (P : Program) : Nat → TypeId → List Fd → Bool
  | 0, _, _ => false
  | n + 1, t, fs => match P.underlying t with
    | some (.struct flds) => decide (P.cellsOf t = fs.length) && tyS P n flds.toList 0 fs
    | _ => match fs with
      | [f] => tyF P n t f
      | _ => false
def tyS (P : Program) : Nat → List Field → Nat → List Fd → Bool
  | 0, _, _, _ => false
  | n + 1, [], _, fs => fs.isEmpty
  | n + 1, fl :: r, off, fs => decide (fl.offset = off) && tyR P n fl.type (fs.take (P.cellsOf fl.type)) && decide (P.cellsOf fl.type ≤ fs.length) && tyS P n r (off + P.cellsOf fl.type) (fs.drop (P.cellsOf fl.type))
end

def B63 : Nat := 9223372036854775807
section
variable {H : Type} {enc : TypeId × Value → H} {P : Program} {w : World} {base : Nat} {spare : Nat → Bool} {held : Bool}

/-- Cells and what they are. -/
def Got (w : World) (fs : List Fd) (cs : List Value) : Prop := ∃ (ps : List V) (us : List U), PurR fs ps us ∧ LenR B63 B63 fs us ∧ ps.length = cs.length ∧ ∀ (i : Nat) (y : V), ps[i]? = some y → ∃ u, cs[i]? = some u ∧ Rep w (fun b => b < w.heap.size) u y
theorem Got.one {f : Fd} {v : Value} {p : V} {u : U} (h1 : PurF f p u) (h2 : LenF B63 B63 f u) (h3 : Rep w (fun b => b < w.heap.size) v p) : Got w [f] [v] := by
  refine ⟨[p], [u], by simp only [PurR]; exact ⟨p, [], u, [], rfl, rfl, h1, rfl, rfl⟩, by simp only [LenR]; exact ⟨h2, trivial⟩, rfl, fun i y hy => ?_⟩
  cases i with
  | zero => simp at hy; subst hy; exact ⟨v, rfl, h3⟩
  | succ i => simp at hy
theorem PurR_len : ∀ {fs : List Fd} {ps : List V} {us : List U}, PurR fs ps us → ps.length = fs.length ∧ us.length = fs.length
  | [], _, _, h => by simp only [PurR] at h; rw [h.1, h.2]; exact ⟨rfl, rfl⟩
  | f :: fs, _, _, h => by
    simp only [PurR] at h
    obtain ⟨v, c', u, x', rfl, rfl, _, h2⟩ := h
    have := PurR_len h2
    simp [this.1, this.2]
theorem PurR_app : ∀ {f1 f2 : List Fd} {p1 p2 : List V} {u1 u2 : List U}, PurR f1 p1 u1 → PurR f2 p2 u2 → PurR (f1 ++ f2) (p1 ++ p2) (u1 ++ u2)
  | [], _, _, _, _, _, h, h2 => by simp only [PurR] at h; rw [h.1, h.2]; exact h2
  | f :: f1, f2, _, p2, _, u2, h, h2 => by
    simp only [PurR] at h
    obtain ⟨v, c', u, x', rfl, rfl, h3, h4⟩ := h
    show PurR (f :: (f1 ++ f2)) _ _
    simp only [PurR]
    exact ⟨v, c' ++ p2, u, x' ++ u2, rfl, rfl, h3, PurR_app h4 h2⟩
theorem LenR_app {n m : Nat} : ∀ {f1 f2 : List Fd} {u1 u2 : List U}, u1.length = f1.length → LenR n m f1 u1 → LenR n m f2 u2 → LenR n m (f1 ++ f2) (u1 ++ u2)
  | [], _, u1, _, hl, _, h2 => by
    have : u1 = [] := List.eq_nil_of_length_eq_zero hl
    subst this
    exact h2
  | f :: f1, f2, u :: u1, u2, hl, h, h2 => by
    show LenR n m (f :: (f1 ++ f2)) (u :: (u1 ++ u2))
    simp only [LenR] at h ⊢
    exact ⟨h.1, LenR_app (by simpa using hl) h.2 h2⟩
  | _ :: _, _, [], _, hl, _, _ => by simp at hl
theorem Got.app {f1 f2 : List Fd} {c1 c2 : List Value} (h1 : Got w f1 c1) (h2 : Got w f2 c2) : Got w (f1 ++ f2) (c1 ++ c2) := by
  obtain ⟨p1, u1, a1, a2, a3, a4⟩ := h1
  obtain ⟨p2, u2, b1, b2, b3, b4⟩ := h2
  refine ⟨p1 ++ p2, u1 ++ u2, PurR_app a1 b1, LenR_app (PurR_len a1).2 a2 b2, by simp [a3, b3], fun i y hy => ?_⟩
  rcases Nat.lt_or_ge i p1.length with hi | hi
  · rw [List.getElem?_append_left hi] at hy
    obtain ⟨u, hu, hr⟩ := a4 i y hy
    exact ⟨u, by rw [List.getElem?_append_left (by omega)]; exact hu, hr⟩
  · rw [List.getElem?_append_right hi] at hy
    obtain ⟨u, hu, hr⟩ := b4 _ y hy
    exact ⟨u, by rw [List.getElem?_append_right (by omega), ← a3]; exact hu, hr⟩

theorem plain_addr {a : Addr} {v : Value} (h : w.cell? a = some v) : ∃ g o, a = ⟨g, o, none⟩ ∧ g < w.heap.size := by
  obtain ⟨g, o, sp⟩ := a
  unfold World.cell? at h
  have hg : g < w.heap.size := by
    rcases Nat.lt_or_ge g w.heap.size with h1 | h1
    · exact h1
    · rw [Array.getElem?_eq_none h1] at h; cases sp <;> simp at h
  cases sp with
  | none => exact ⟨g, o, rfl, hg⟩
  | some s => simp at h; split at h <;> cases h

/-- A slice out of its elements. -/
theorem got_slice {fs : List Fd} {a : Addr} {len cap : Nat} (hpos : 0 < fs.length) (hl : len ≤ cap) (hm : cap ≤ maxLen) (hx : ∀ i, i < len → ∃ cs', w.cells? base (a.add (i * fs.length)) fs.length = some cs' ∧ Got w fs cs') :
    Got w [.sub fs] [.slice (some a) len cap] := by
  have hx' : ∀ i, i < len → ∃ q : List V × List U × List Value, w.cells? base (a.add (i * fs.length)) fs.length = some q.2.2 ∧ PurR fs q.1 q.2.1 ∧ LenR B63 B63 fs q.2.1 ∧ q.1.length = q.2.2.length ∧ ∀ (j : Nat) (y : V), q.1[j]? = some y → ∃ u, q.2.2[j]? = some u ∧ Rep w (fun b => b < w.heap.size) u y := by
    intro i hi
    obtain ⟨cs', h1, ps, us, h2, h3, h4, h5⟩ := hx i hi
    exact ⟨(ps, us, cs'), h1, h2, h3, h4, h5⟩
  obtain ⟨q, hq⟩ := Go.Deep.choose_lt hx'
  have hzip : ∀ (n : Nat), n ≤ len → Zip2 (PurR fs) ((List.range n).map fun i => (q i).1) ((List.range n).map fun i => (q i).2.1) ∧ AllU (LenR B63 B63 fs) ((List.range n).map fun i => (q i).2.1) := by
    have z2 : ∀ {l1 : List (List V)} {l2 : List (List U)} {c : List V} {x : List U}, Zip2 (PurR fs) l1 l2 → PurR fs c x → Zip2 (PurR fs) (l1 ++ [c]) (l2 ++ [x]) := by
      intro l1
      induction l1 with
      | nil => intro l2 c x h hc; cases l2 with
        | nil => exact ⟨hc, trivial⟩
        | cons b bs => exact h.elim
      | cons a l1 ih => intro l2 c x h hc; cases l2 with
        | nil => exact h.elim
        | cons b bs => exact ⟨h.1, ih h.2 hc⟩
    have a2 : ∀ {l2 : List (List U)} {x : List U}, AllU (LenR B63 B63 fs) l2 → LenR B63 B63 fs x → AllU (LenR B63 B63 fs) (l2 ++ [x]) := by
      intro l2
      induction l2 with
      | nil => intro x _ hx; exact ⟨hx, trivial⟩
      | cons b bs ih => intro x h hx; exact ⟨h.1, ih h.2 hx⟩
    intro n
    induction n with
    | zero => intro _; exact ⟨trivial, trivial⟩
    | succ n ih =>
      intro hn
      obtain ⟨i1, i2⟩ := ih (by omega)
      obtain ⟨_, b1, b2, _⟩ := hq n (by omega)
      rw [List.range_succ, List.map_append, List.map_append]
      exact ⟨z2 i1 b1, a2 i2 b2⟩
  obtain ⟨z1, z2⟩ := hzip len (Nat.le_refl _)
  have hml : maxLen = 9223372036854775807 := by decide
  refine Got.one (p := .sl false fs.length ((List.range len).map fun i => (q i).1)) (u := .sub ((List.range len).map fun i => (q i).2.1)) ?_ ?_ ?_
  · simp only [PurF]
    exact ⟨false, _, _, rfl, rfl, z1⟩
  · simp only [LenF, List.length_map, List.length_range]
    exact ⟨by unfold B63; omega, z2⟩
  · have hlen : ∀ j x, ((List.range len).map fun i => (q i).1)[j]? = some x → j < len ∧ x = (q j).1 := by
      intro j x hx
      rw [List.getElem?_map] at hx
      obtain ⟨k, hk, rfl⟩ := Option.map_eq_some_iff.1 hx
      have hj : j < len := by
        have := (List.getElem?_eq_some_iff.1 hk).1
        simpa using this
      rw [List.getElem?_range hj] at hk
      injection hk with hk
      subst hk
      exact ⟨hj, rfl⟩
    have hcell : ∀ (j c : Nat) (y : V), j < len → (q j).1[c]? = some y → ∃ u, (q j).2.2[c]? = some u ∧ w.cell? ((a.add (j * fs.length)).add c) = some u ∧ Rep w (fun b => b < w.heap.size) u y := by
      intro j c y hj hy
      obtain ⟨h1, h2, h3, h4, h5⟩ := hq j hj
      obtain ⟨_, h6, h7⟩ := World.cells?_some h1
      obtain ⟨u, hu, hr⟩ := h5 c y hy
      have hc : c < fs.length := by
        have := (List.getElem?_eq_some_iff.1 hu).1
        omega
      exact ⟨u, hu, (h7 c hc).trans hu, hr⟩
    refine Rep.sl (some a) len cap false _ fs.length (fun j c => ((q j).2.2[c]?).getD undef) (by simp) hl (fun e => by cases e) hpos (fun x hx => ?_) (fun hn => ?_) (fun j c x y hx hy => ?_)
    · obtain ⟨j, hj⟩ := List.getElem?_of_mem hx
      obtain ⟨h1, rfl⟩ := hlen j x hj
      exact (PurR_len (hq j h1).2.1).1
    · have h0 := (PurR_len (hq 0 hn).2.1).1
      have hy0 : (q 0).1[0]? = some (q 0).1[0] := List.getElem?_eq_getElem (by omega)
      obtain ⟨u0, _, c0, _⟩ := hcell 0 0 _ hn hy0
      rw [Nat.zero_mul] at c0
      have ha : (a.add 0).add 0 = a := by simp [Addr.add]
      rw [ha] at c0
      obtain ⟨g, o, rfl, hg⟩ := plain_addr c0
      refine ⟨g, o, rfl, hg, fun j c x y hx hy => ?_⟩
      obtain ⟨h1, rfl⟩ := hlen j x hx
      obtain ⟨u, hu, hc, _⟩ := hcell j c y h1 hy
      rw [add0, add0] at hc
      rw [hc, hu]
      rfl
    · obtain ⟨h1, rfl⟩ := hlen j x hx
      obtain ⟨u, hu, _, hr⟩ := hcell j c y h1 hy
      show Rep w _ (((q j).2.2[c]?).getD undef) y
      rw [hu]
      exact hr

mutual
theorem gotF : ∀ (n : Nat) {t : TypeId} {f : Fd} {fuel : Nat} {cs : List Value} {x : DataW H × List MemPlace}, tyF P n t f = true → DataW.trod enc P w base spare held fuel t cs = some x → Got w [f] cs
  | 0, _, _, _, _, _, ht, _ => by simp [tyF] at ht
  | n + 1, t, .int k, fuel, cs, x, ht, h => by
    simp only [tyF] at ht
    split at ht
    · rename_i k' hu
      simp only [decide_eq_true_eq] at ht
      subst ht
      obtain ⟨m, rfl, _, _⟩ := DataW.trod_int hu h
      exact Got.one (p := .int k' m) (u := .int m) (by simp only [PurF]; exact ⟨m, rfl, rfl⟩) (by simp [LenF]) (.int _ _)
    · cases ht
  | n + 1, t, .bool, fuel, cs, x, ht, h => by
    simp only [tyF] at ht
    split at ht
    · rename_i hu
      obtain ⟨m, rfl, _⟩ := DataW.trod_bool hu h
      exact Got.one (p := .bool m) (u := .bool m) (by simp only [PurF]; exact ⟨m, rfl, rfl⟩) (by simp [LenF]) (.bool _)
    · cases ht
  | n + 1, t, .str, fuel, cs, x, ht, h => by
    simp only [tyF] at ht
    split at ht
    · rename_i hu
      obtain ⟨m, rfl, _, hm⟩ := DataW.trod_string hu h
      have hml : maxLen = 9223372036854775807 := by decide
      exact Got.one (p := .str m) (u := .str m) (by simp only [PurF]; exact ⟨m, rfl, rfl⟩) (by simp only [LenF]; unfold B63; omega) (.str _)
    · cases ht
  | n + 1, t, .sub fs, fuel, cs, x, ht, h => by
    simp only [tyF] at ht
    split at ht
    · rename_i e hu
      simp only [Bool.and_eq_true, decide_eq_true_eq] at ht
      obtain ⟨⟨hc, hpos⟩, hr⟩ := ht
      rcases Go.Deep.open_slice hu h with ⟨rfl, _⟩ | ⟨a, len, cap, m, k, D, Pl, rfl, hb, hl, hm, hmm, _, hx⟩
      · exact Got.one (p := .sl true fs.length []) (u := .sub []) (by rw [PurF]; exact ⟨true, [], [], rfl, rfl, trivial⟩) (by simp only [LenF]; exact ⟨Nat.zero_le _, trivial⟩) (rep_empty hpos (fun _ => rfl))
      · refine got_slice (base := base) hpos hl hm (fun i hi => ?_)
        obtain ⟨cs', h1, h2⟩ := hx i (by rw [hmm]; split <;> omega)
        rw [hc] at h1
        exact ⟨cs', h1, gotR n hr h2⟩
    · cases ht
theorem gotR : ∀ (n : Nat) {t : TypeId} {fs : List Fd} {fuel : Nat} {cs : List Value} {x : DataW H × List MemPlace}, tyR P n t fs = true → DataW.trod enc P w base spare held fuel t cs = some x → Got w fs cs
  | 0, _, _, _, _, _, ht, _ => by simp [tyR] at ht
  | n + 1, t, fs, fuel, cs, x, ht, h => by
    simp only [tyR] at ht
    split at ht
    · rename_i flds hu
      simp only [Bool.and_eq_true, decide_eq_true_eq] at ht
      obtain ⟨xs, k, _, _, hcl, hxl, hf⟩ := DataW.trod_struct hu h
      refine gotS n (cs := cs) (off := 0) (fuel := k) ht.2 (by omega) (fun i fl hi => ?_)
      have hlt : i < xs.length := by
        have := (List.getElem?_eq_some_iff.1 hi).1
        simp at this
        omega
      rw [Array.getElem?_toList] at hi
      exact ⟨xs[i], by rw [hf i fl hi, List.getElem?_eq_getElem hlt]⟩
    · split at ht
      · rename_i f
        exact gotF n ht h
      · cases ht
theorem gotS : ∀ (n : Nat) {flds : List Field} {off : Nat} {fs : List Fd} {fuel : Nat} {cs : List Value}, tyS P n flds off fs = true → cs.length = off + fs.length → (∀ (i : Nat) (fl : Field), flds[i]? = some fl → ∃ x, DataW.trod enc P w base spare held fuel fl.type ((cs.drop fl.offset).take (P.cellsOf fl.type)) = some x) → Got w fs (cs.drop off)
  | 0, _, _, _, _, _, ht, _, _ => by simp [tyS] at ht
  | n + 1, [], off, fs, fuel, cs, ht, hl, _ => by
    simp only [tyS, List.isEmpty_iff] at ht
    subst ht
    rw [List.drop_of_length_le (by simp at hl; omega)]
    exact ⟨[], [], by simp [PurR], by simp [LenR], rfl, fun i y hy => by simp at hy⟩
  | n + 1, fl :: r, off, fs, fuel, cs, ht, hl, hx => by
    simp only [tyS, Bool.and_eq_true, decide_eq_true_eq] at ht
    obtain ⟨⟨⟨ho, h1⟩, hle⟩, h2⟩ := ht
    obtain ⟨x, hx0⟩ := hx 0 fl rfl
    rw [ho] at hx0
    have g1 := gotR n h1 hx0
    have g2 := gotS n (cs := cs) (off := off + P.cellsOf fl.type) h2 (by rw [List.length_drop]; omega) (fun i f hi => hx (i + 1) f (by simpa using hi))
    have g := g1.app g2
    rw [List.take_append_drop] at g
    rw [← List.drop_drop, List.take_append_drop] at g
    exact g
end
/-- An argument of a slice's type. -/
theorem got_arg {t : TypeId} {fs : List Fd} {v : Value} {d : DataW H} {ps : List MemPlace} (n : Nat) (ht : tyF P n t (.sub fs) = true) (h : DataW.Trod enc P w base spare held t v d ps) (hv : v.cells = #[v]) :
    ∃ p xs, Rep w (fun b => b < w.heap.size) v p ∧ PurF (.sub fs) p (.sub xs) ∧ LenF B63 B63 (.sub fs) (.sub xs) := by
  obtain ⟨fuel, h⟩ := h
  obtain ⟨ps, us, h1, h2, h3, h4⟩ := gotF n ht h
  simp only [PurR] at h1
  obtain ⟨p, _, u, _, rfl, rfl, g, rfl, rfl⟩ := h1
  simp only [LenR] at h2
  obtain ⟨u', hu, hr⟩ := h4 0 p rfl
  rw [hv] at hu
  simp at hu
  subst hu
  have g' := g
  simp only [PurF] at g'
  obtain ⟨_, _, xs, _, rfl, _⟩ := g'
  exact ⟨p, xs, hr, g, h2.1⟩
end
end Go.Proofs.Ytfbjbkkcilhgjaa.PE
