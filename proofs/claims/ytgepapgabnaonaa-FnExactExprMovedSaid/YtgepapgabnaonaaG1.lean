/- Texts of this claim, one behind the other: Px3, Px4, Pwc, Px5, Px6, Pm2, Pm3, Pn2, Pn3, Pr5. -/
import Derived.Test.YtgepapgabnaonaaG0
import Derived.Deep.Slices
import Derived.ChangeArms
/- The kind of an expression, the reference's; both are the same. -/
set_option linter.unusedSimpArgs false
set_option linter.unusedVariables false
set_option maxHeartbeats 4000000
namespace Go.Proofs.Ytgepapgabnaonaa.PE
open Go.RowKit

def StepPost (x : Option (List Int)) (X : Option (V × Heap)) : Prop := match x with
  | some l => ∃ stm', X = some (.tup [.ref 0 stm' 0 l.length false, .bool true], [.rows stm' 1 (l.map intC)])
  | none => ∃ stm' len' cont', X = some (.tup [.ref 0 stm' 0 len' false, .bool false], [.rows stm' 1 cont'])
theorem two_of (st : List Int) (h : 2 ≤ st.length) : ∃ s a b, st = s ++ [a, b] := by
  refine ⟨st.take (st.length - 2), st.getD (st.length - 2) 0, st.getD (st.length - 1) 0, ?_⟩
  have h1 : st = st.take (st.length - 2) ++ st.drop (st.length - 2) := (List.take_append_drop _ _).symm
  have h2 : st.drop (st.length - 2) = [st.getD (st.length - 2) 0, st.getD (st.length - 1) 0] := by
    rw [List.drop_eq_getElem_cons (by omega), show st.length - 2 + 1 = st.length - 1 by omega, List.drop_eq_getElem_cons (by omega), show st.length - 1 + 1 = st.length by omega, List.drop_length]
    simp [List.getD_eq_getElem?_getD, List.getElem?_eq_getElem (show st.length - 2 < st.length by omega), List.getElem?_eq_getElem (show st.length - 1 < st.length by omega)]
  rw [← h2]; exact h1
theorem one_of (st : List Int) (h : 1 ≤ st.length) : ∃ s a, st = s ++ [a] := by
  refine ⟨st.take (st.length - 1), st.getD (st.length - 1) 0, ?_⟩
  have h1 : st = st.take (st.length - 1) ++ st.drop (st.length - 1) := (List.take_append_drop _ _).symm
  have h2 : st.drop (st.length - 1) = [st.getD (st.length - 1) 0] := by
    rw [List.drop_eq_getElem_cons (by omega), show st.length - 1 + 1 = st.length by omega, List.drop_length]
    simp [List.getD_eq_getElem?_getD, List.getElem?_eq_getElem (show st.length - 1 < st.length by omega)]
  rw [← h2]; exact h1

theorem at_map_end {α β : Type} (f : α → β) (l : List α) (r : List β) : (l.map f ++ r)[l.length]? = r[0]? := by rw [List.getElem?_append_right (by simp), List.length_map, Nat.sub_self]
theorem at_map_end_add {α β : Type} (f : α → β) (l : List α) (r : List β) (k : Nat) : (l.map f ++ r)[l.length + k]? = r[k]? := by rw [List.getElem?_append_right (by simp), List.length_map]; congr 1; omega
theorem take_map_end {α β : Type} (f : α → β) (l : List α) (r : List β) : (l.map f ++ r).take l.length = l.map f := by rw [List.take_append_of_le_length (by simp), List.take_of_length_le (by simp)]
theorem pre1 (n : Nat) : ((n : Int) + 1 - 1) = (n : Int) := by omega
theorem pre2 (n : Nat) : ((n : Int) + 2 - 1) = ((n + 1 : Nat) : Int) := by omega
theorem pre3 (n : Nat) : ((n : Int) + 2 - 2) = (n : Int) := by omega
theorem nn_lt (l : List Int) : ((l.length : Int) < 0) = False := eq_false (by omega)
theorem stp1 (cs : List Col) (st : List Int) (n : Int) (v : Val) : stpI cs st ⟨1, n, v⟩ = if n = 0 ∧ v.ok = true ∧ ¬ v.kind = 0 then some (st ++ [v.kind]) else none := by
  by_cases h1 : n = 0 <;> by_cases h2 : v.ok = true <;> by_cases h3 : v.kind = 0 <;> simp [stpI, Prt.tells, Prt.takes, kindOf, nn_lt, h1, h2, h3]
theorem stp2 (cs : List Col) (st : List Int) (n : Int) (v : Val) : stpI cs st ⟨2, n, v⟩ = if (0 ≤ n ∧ n ≤ (cs.length : Int) - 1) ∧ v = Val.zero then some (st ++ [(cs.getD n.toNat ⟨0, false⟩).kind]) else none := by
  by_cases h1 : 0 ≤ n ∧ n ≤ (cs.length : Int) - 1 <;> by_cases h2 : v = Val.zero <;> simp [stpI, Prt.tells, Prt.takes, kindOf, nn_lt, h1, h2]
theorem two_lt (s : List Int) (a b : Int) : (((s ++ [a, b]).length : Int) < 2) = False := eq_false (by simp; omega)
theorem one_lt (s : List Int) (a : Int) : (((s ++ [a]).length : Int) < 1) = False := eq_false (by simp; omega)
theorem two_drop (s : List Int) (a b : Int) : (s ++ [a, b]).drop ((s ++ [a, b]).length - 2) = [a, b] := by simp
theorem two_take (s : List Int) (a b : Int) : (s ++ [a, b]).take ((s ++ [a, b]).length - 2) = s := by simp
theorem one_drop (s : List Int) (a : Int) : (s ++ [a]).drop ((s ++ [a]).length - 1) = [a] := by simp
theorem one_take (s : List Int) (a : Int) : (s ++ [a]).take ((s ++ [a]).length - 1) = s := by simp
theorem stp3 (cs : List Col) (s : List Int) (a b : Int) (n : Int) (v : Val) : stpI cs (s ++ [a, b]) ⟨3, n, v⟩ = if (n = 0 ∧ v = Val.zero) ∧ a = 1 ∧ b = 1 then some (s ++ [1]) else none := by
  unfold stpI Prt.takes kindOf
  simp only [two_lt, two_drop, two_take, reduceIte, Int.reduceEq, Int.reduceToNat, Prt.tells]
  by_cases h1 : n = 0 <;> by_cases h2 : v = Val.zero <;> by_cases h3 : a = 1 <;> by_cases h4 : b = 1 <;> simp [h1, h2, h3, h4]
theorem stp5 (cs : List Col) (s : List Int) (a b : Int) (k n : Int) (v : Val) (hk : k = 5 ∨ k = 6) : stpI cs (s ++ [a, b]) ⟨k, n, v⟩ = if (n = 0 ∧ v = Val.zero) ∧ a = 3 ∧ b = 3 then some (s ++ [3]) else none := by
  unfold stpI Prt.takes kindOf
  rcases hk with rfl | rfl
  all_goals
    simp only [two_lt, two_drop, two_take, reduceIte, Int.reduceEq, Int.reduceToNat, Prt.tells]
    by_cases h1 : n = 0 <;> by_cases h2 : v = Val.zero <;> by_cases h3 : a = 3 <;> by_cases h4 : b = 3 <;> simp [h1, h2, h3, h4]
theorem stp4 (cs : List Col) (s : List Int) (a b : Int) (n : Int) (v : Val) : stpI cs (s ++ [a, b]) ⟨4, n, v⟩ = if ((1 ≤ n ∧ n ≤ 4) ∧ v = Val.zero) ∧ a = b then some (s ++ [3]) else none := by
  unfold stpI Prt.takes kindOf
  simp only [two_lt, two_drop, two_take, reduceIte, Int.reduceEq, Int.reduceToNat, Prt.tells]
  by_cases h1 : 1 ≤ n ∧ n ≤ 4 <;> by_cases h2 : v = Val.zero <;> by_cases h3 : a = b <;> simp [h1, h2, h3]
theorem stp7 (cs : List Col) (s : List Int) (a : Int) (n : Int) (v : Val) : stpI cs (s ++ [a]) ⟨7, n, v⟩ = if (n = 0 ∧ v = Val.zero) ∧ a = 3 then some (s ++ [3]) else none := by
  unfold stpI Prt.takes kindOf
  simp only [one_lt, one_drop, one_take, reduceIte, Int.reduceEq, Int.reduceToNat, Prt.tells]
  by_cases h1 : n = 0 <;> by_cases h2 : v = Val.zero <;> by_cases h3 : a = 3 <;> simp [h1, h2, h3]
theorem stp8 (cs : List Col) (s : List Int) (a : Int) (n : Int) (v : Val) : stpI cs (s ++ [a]) ⟨8, n, v⟩ = if n = 0 ∧ v = Val.zero then some (s ++ [3]) else none := by
  unfold stpI Prt.takes kindOf
  simp only [one_lt, one_drop, one_take, reduceIte, Int.reduceEq, Int.reduceToNat, Prt.tells]
  by_cases h1 : n = 0 <;> by_cases h2 : v = Val.zero <;> simp [h1, h2]
theorem stp_short (cs : List Col) (st : List Int) (p : Prt) (h : (st.length : Int) < p.takes) : stpI cs st p = none := by simp [stpI, h]
theorem stp_not (cs : List Col) (st : List Int) (p : Prt) (h : p.tells cs.length = false) : stpI cs st p = none := by simp [stpI, h]

-- find97
theorem step1R (d : Nat) (c : Bool) (cs : List Col) (st : List Int) (stm : Nat) (pz : Int) (pvk pvn : Int) (pvq : ByteArray) (hs : st.length ≤ 1000) (hv : pvq.size < 1099511627776) :
    StepPost (stpI cs st ⟨1, pz, (⟨pvk, pvn, pvq⟩ : Val)⟩) (callS (runD tab noExt (d + 4)) [.rows stm 1 (st.map intC)] 97 [.sl c 2 (cs.map Col.cells), .ref 0 stm 0 st.length false, .agg [.int .i64 1, .int .i64 pz, .int .i64 pvk, .int .i64 pvn, .str pvq]] false) := by
  rw [callS_eq, runD_eq find97 _ _ _ (by simp)]
  have hs1 : st.length + 1 < 4294967296 := by omega
  simp -implicitDefEqProofs (disch := omega) only [go_sem, Nat.reduceBEq, Nat.reduceAdd, Nat.reduceSub, Nat.reduceMul, Nat.reduceLeDiff, Nat.reduceEqDiff, Nat.reduceLT, Int.reduceNeg, Int.reduceAdd, Int.reduceSub, Int.reduceMul, Int.reduceLE, Int.reduceLT, Int.reduceEq, Int.reduceToNat, reduceCtorEq, run_specValueOk]
  repeat' ((first | rw [GuardI_ndec] | rw [CondC_ndec] | rw [GuardQ_ndec] | rw [GuardI_dec] | rw [CondC_dec] | rw [GuardQ_dec] | rw [GuardI_nby] | rw [CondC_nby] | rw [GuardQ_nby] | rw [GuardQ_by] | rw [GuardI_by] | rw [CondC_by]) <;> split <;> simp -implicitDefEqProofs (disch := omega) only [go_sem, Nat.reduceBEq, Nat.reduceAdd, Nat.reduceSub, Nat.reduceMul, Nat.reduceLeDiff, Nat.reduceEqDiff, Nat.reduceLT, Int.reduceNeg, Int.reduceAdd, Int.reduceSub, Int.reduceMul, Int.reduceLE, Int.reduceLT, Int.reduceEq, Int.reduceToNat, reduceCtorEq, run_specValueOk, hs1, *])
  all_goals (rw [stp1]; split <;> simp_all [StepPost, intC])
theorem step2R (d : Nat) (c : Bool) (cs : List Col) (st : List Int) (stm : Nat) (pz : Int) (pvk pvn : Int) (pvq : ByteArray) (hs : st.length ≤ 1000) (hc : cs.length < 1099511627776) :
    StepPost (stpI cs st ⟨2, pz, (⟨pvk, pvn, pvq⟩ : Val)⟩) (callS (runD tab noExt (d + 4)) [.rows stm 1 (st.map intC)] 97 [.sl c 2 (cs.map Col.cells), .ref 0 stm 0 st.length false, .agg [.int .i64 2, .int .i64 pz, .int .i64 pvk, .int .i64 pvn, .str pvq]] false) := by
  rw [callS_eq, runD_eq find97 _ _ _ (by simp)]
  have hs1 : st.length + 1 < 4294967296 := by omega
  by_cases hr : 0 ≤ pz ∧ pz ≤ (cs.length : Int) - 1
  · have hat := at_getD (⟨0, false⟩ : Col) (show pz.toNat < cs.length by omega)
    have hr0 := hr.1
    simp -implicitDefEqProofs (disch := omega) only [go_sem, Nat.reduceBEq, Nat.reduceAdd, Nat.reduceSub, Nat.reduceMul, Nat.reduceLeDiff, Nat.reduceEqDiff, Nat.reduceLT, Int.reduceNeg, Int.reduceAdd, Int.reduceSub, Int.reduceMul, Int.reduceLE, Int.reduceLT, Int.reduceEq, Int.reduceToNat, reduceCtorEq, run_l1In, IntWalk.i64_in]
    repeat' ((first | rw [GuardI_ndec] | rw [CondC_ndec] | rw [GuardQ_ndec] | rw [GuardI_dec] | rw [CondC_dec] | rw [GuardQ_dec] | rw [GuardI_nby] | rw [CondC_nby] | rw [GuardQ_nby] | rw [GuardQ_by] | rw [GuardI_by] | rw [CondC_by]) <;> split <;> simp -implicitDefEqProofs (disch := omega) only [go_sem, Nat.reduceBEq, Nat.reduceAdd, Nat.reduceSub, Nat.reduceMul, Nat.reduceLeDiff, Nat.reduceEqDiff, Nat.reduceLT, Int.reduceNeg, Int.reduceAdd, Int.reduceSub, Int.reduceMul, Int.reduceLE, Int.reduceLT, Int.reduceEq, Int.reduceToNat, reduceCtorEq, run_l1In, IntWalk.i64_in, hat, hs1, Col.cells, hr0, *])
    all_goals (clear hat; rw [stp2]; split <;> simp_all [StepPost, intC, Val.zero, Val.mk.injEq])
  · simp -implicitDefEqProofs (disch := omega) only [go_sem, Nat.reduceBEq, Nat.reduceAdd, Nat.reduceSub, Nat.reduceMul, Nat.reduceLeDiff, Nat.reduceEqDiff, Nat.reduceLT, Int.reduceNeg, Int.reduceAdd, Int.reduceSub, Int.reduceMul, Int.reduceLE, Int.reduceLT, Int.reduceEq, Int.reduceToNat, reduceCtorEq, run_l1In, IntWalk.i64_in, hr]
    repeat' ((first | rw [GuardI_ndec] | rw [CondC_ndec] | rw [GuardQ_ndec] | rw [GuardI_dec] | rw [CondC_dec] | rw [GuardQ_dec] | rw [GuardI_nby] | rw [CondC_nby] | rw [GuardQ_nby] | rw [GuardQ_by] | rw [GuardI_by] | rw [CondC_by]) <;> split <;> simp -implicitDefEqProofs (disch := omega) only [go_sem, Nat.reduceBEq, Nat.reduceAdd, Nat.reduceSub, Nat.reduceMul, Nat.reduceLeDiff, Nat.reduceEqDiff, Nat.reduceLT, Int.reduceNeg, Int.reduceAdd, Int.reduceSub, Int.reduceMul, Int.reduceLE, Int.reduceLT, Int.reduceEq, Int.reduceToNat, reduceCtorEq, run_l1In, IntWalk.i64_in, hr, *])
    all_goals (rw [stp2]; split <;> simp_all [StepPost, intC, Val.zero, Val.mk.injEq])
theorem step3R (d : Nat) (c : Bool) (cs : List Col) (s : List Int) (a b : Int) (stm : Nat) (pz : Int) (pvk pvn : Int) (pvq : ByteArray) (hs : s.length ≤ 1000) :
    StepPost (stpI cs (s ++ [a, b]) ⟨3, pz, (⟨pvk, pvn, pvq⟩ : Val)⟩) (callS (runD tab noExt (d + 4)) [.rows stm 1 (s.map intC ++ [[.int .i64 a], [.int .i64 b]])] 97 [.sl c 2 (cs.map Col.cells), .ref 0 stm 0 (s.length + 2) false, .agg [.int .i64 (3), .int .i64 pz, .int .i64 pvk, .int .i64 pvn, .str pvq]] false) := by
  rw [callS_eq, runD_eq find97 _ _ _ (by simp)]
  have hs2 : s.length + 1 < 4294967296 := by omega
  have hs3 : (1 : Int) < (s.length : Int) + 2 := by omega
  have hs4 : (0 : Int) ≤ (s.length : Int) + 1 := by omega
  have hs5 : ((s.length : Int) < 0) = False := eq_false (by omega)
  have hs7 : ((s.length : Int) + 1).toNat = s.length + 1 := by omega
  have hs8 : (s.length : Int) ≤ (s.length : Int) + 2 := by omega
  have hs9 : (s.length = s.length + 2) = False := eq_false (by omega)
  skip
  simp -implicitDefEqProofs (disch := omega) only [go_sem, Nat.reduceBEq, Nat.reduceAdd, Nat.reduceSub, Nat.reduceMul, Nat.reduceLeDiff, Nat.reduceEqDiff, Nat.reduceLT, Int.reduceNeg, Int.reduceAdd, Int.reduceSub, Int.reduceMul, Int.reduceLE, Int.reduceLT, Int.reduceEq, Int.reduceToNat, reduceCtorEq, IntWalk.i64_in]
  repeat' ((first | rw [GuardI_ndec] | rw [CondC_ndec] | rw [GuardQ_ndec] | rw [GuardI_dec] | rw [CondC_dec] | rw [GuardQ_dec] | rw [GuardI_nby] | rw [CondC_nby] | rw [GuardQ_nby] | rw [GuardQ_by] | rw [GuardI_by] | rw [CondC_by]) <;> split <;> simp -implicitDefEqProofs (disch := omega) only [go_sem, Nat.reduceBEq, Nat.reduceAdd, Nat.reduceSub, Nat.reduceMul, Nat.reduceLeDiff, Nat.reduceEqDiff, Nat.reduceLT, Int.reduceNeg, Int.reduceAdd, Int.reduceSub, Int.reduceMul, Int.reduceLE, Int.reduceLT, Int.reduceEq, Int.reduceToNat, reduceCtorEq, IntWalk.i64_in, hs2, hs3, hs4, hs5, hs7, hs8, hs9, pre2, pre3, at_map_end, at_map_end_add, take_map_end, *])
  all_goals (rw [stp3]; split <;> simp_all [StepPost, intC, Val.zero, Val.mk.injEq])
theorem step4R (d : Nat) (c : Bool) (cs : List Col) (s : List Int) (a b : Int) (stm : Nat) (pz : Int) (pvk pvn : Int) (pvq : ByteArray) (hs : s.length ≤ 1000) :
    StepPost (stpI cs (s ++ [a, b]) ⟨4, pz, (⟨pvk, pvn, pvq⟩ : Val)⟩) (callS (runD tab noExt (d + 4)) [.rows stm 1 (s.map intC ++ [[.int .i64 a], [.int .i64 b]])] 97 [.sl c 2 (cs.map Col.cells), .ref 0 stm 0 (s.length + 2) false, .agg [.int .i64 (4), .int .i64 pz, .int .i64 pvk, .int .i64 pvn, .str pvq]] false) := by
  rw [callS_eq, runD_eq find97 _ _ _ (by simp)]
  have hs2 : s.length + 1 < 4294967296 := by omega
  have hs3 : (1 : Int) < (s.length : Int) + 2 := by omega
  have hs4 : (0 : Int) ≤ (s.length : Int) + 1 := by omega
  have hs5 : ((s.length : Int) < 0) = False := eq_false (by omega)
  have hs7 : ((s.length : Int) + 1).toNat = s.length + 1 := by omega
  have hs8 : (s.length : Int) ≤ (s.length : Int) + 2 := by omega
  have hs9 : (s.length = s.length + 2) = False := eq_false (by omega)
  skip
  simp -implicitDefEqProofs (disch := omega) only [go_sem, Nat.reduceBEq, Nat.reduceAdd, Nat.reduceSub, Nat.reduceMul, Nat.reduceLeDiff, Nat.reduceEqDiff, Nat.reduceLT, Int.reduceNeg, Int.reduceAdd, Int.reduceSub, Int.reduceMul, Int.reduceLE, Int.reduceLT, Int.reduceEq, Int.reduceToNat, reduceCtorEq, IntWalk.i64_in, run_l1In, evC_draw, evD97x0, E97x0]
  repeat' ((first | rw [GuardI_ndec] | rw [CondC_ndec] | rw [GuardQ_ndec] | rw [GuardI_dec] | rw [CondC_dec] | rw [GuardQ_dec] | rw [GuardI_nby] | rw [CondC_nby] | rw [GuardQ_nby] | rw [GuardQ_by] | rw [GuardI_by] | rw [CondC_by]) <;> split <;> simp -implicitDefEqProofs (disch := omega) only [go_sem, Nat.reduceBEq, Nat.reduceAdd, Nat.reduceSub, Nat.reduceMul, Nat.reduceLeDiff, Nat.reduceEqDiff, Nat.reduceLT, Int.reduceNeg, Int.reduceAdd, Int.reduceSub, Int.reduceMul, Int.reduceLE, Int.reduceLT, Int.reduceEq, Int.reduceToNat, reduceCtorEq, IntWalk.i64_in, hs2, hs3, hs4, hs5, hs7, hs8, hs9, pre2, pre3, at_map_end, at_map_end_add, take_map_end, run_l1In, evC_draw, evD97x0, E97x0, *])
  all_goals (rw [stp4]; split <;> simp_all [StepPost, intC, Val.zero, Val.mk.injEq])
theorem step5R (d : Nat) (c : Bool) (cs : List Col) (s : List Int) (a b : Int) (stm : Nat) (pz : Int) (pvk pvn : Int) (pvq : ByteArray) (hs : s.length ≤ 1000) :
    StepPost (stpI cs (s ++ [a, b]) ⟨5, pz, (⟨pvk, pvn, pvq⟩ : Val)⟩) (callS (runD tab noExt (d + 4)) [.rows stm 1 (s.map intC ++ [[.int .i64 a], [.int .i64 b]])] 97 [.sl c 2 (cs.map Col.cells), .ref 0 stm 0 (s.length + 2) false, .agg [.int .i64 (5), .int .i64 pz, .int .i64 pvk, .int .i64 pvn, .str pvq]] false) := by
  rw [callS_eq, runD_eq find97 _ _ _ (by simp)]
  have hs2 : s.length + 1 < 4294967296 := by omega
  have hs3 : (1 : Int) < (s.length : Int) + 2 := by omega
  have hs4 : (0 : Int) ≤ (s.length : Int) + 1 := by omega
  have hs5 : ((s.length : Int) < 0) = False := eq_false (by omega)
  have hs7 : ((s.length : Int) + 1).toNat = s.length + 1 := by omega
  have hs8 : (s.length : Int) ≤ (s.length : Int) + 2 := by omega
  have hs9 : (s.length = s.length + 2) = False := eq_false (by omega)
  skip
  simp -implicitDefEqProofs (disch := omega) only [go_sem, Nat.reduceBEq, Nat.reduceAdd, Nat.reduceSub, Nat.reduceMul, Nat.reduceLeDiff, Nat.reduceEqDiff, Nat.reduceLT, Int.reduceNeg, Int.reduceAdd, Int.reduceSub, Int.reduceMul, Int.reduceLE, Int.reduceLT, Int.reduceEq, Int.reduceToNat, reduceCtorEq, IntWalk.i64_in]
  repeat' ((first | rw [GuardI_ndec] | rw [CondC_ndec] | rw [GuardQ_ndec] | rw [GuardI_dec] | rw [CondC_dec] | rw [GuardQ_dec] | rw [GuardI_nby] | rw [CondC_nby] | rw [GuardQ_nby] | rw [GuardQ_by] | rw [GuardI_by] | rw [CondC_by]) <;> split <;> simp -implicitDefEqProofs (disch := omega) only [go_sem, Nat.reduceBEq, Nat.reduceAdd, Nat.reduceSub, Nat.reduceMul, Nat.reduceLeDiff, Nat.reduceEqDiff, Nat.reduceLT, Int.reduceNeg, Int.reduceAdd, Int.reduceSub, Int.reduceMul, Int.reduceLE, Int.reduceLT, Int.reduceEq, Int.reduceToNat, reduceCtorEq, IntWalk.i64_in, hs2, hs3, hs4, hs5, hs7, hs8, hs9, pre2, pre3, at_map_end, at_map_end_add, take_map_end, *])
  all_goals (rw [stp5 _ _ _ _ _ _ _ (.inl rfl)]; split <;> simp_all [StepPost, intC, Val.zero, Val.mk.injEq])
theorem step6R (d : Nat) (c : Bool) (cs : List Col) (s : List Int) (a b : Int) (stm : Nat) (pz : Int) (pvk pvn : Int) (pvq : ByteArray) (hs : s.length ≤ 1000) :
    StepPost (stpI cs (s ++ [a, b]) ⟨6, pz, (⟨pvk, pvn, pvq⟩ : Val)⟩) (callS (runD tab noExt (d + 4)) [.rows stm 1 (s.map intC ++ [[.int .i64 a], [.int .i64 b]])] 97 [.sl c 2 (cs.map Col.cells), .ref 0 stm 0 (s.length + 2) false, .agg [.int .i64 (6), .int .i64 pz, .int .i64 pvk, .int .i64 pvn, .str pvq]] false) := by
  rw [callS_eq, runD_eq find97 _ _ _ (by simp)]
  have hs2 : s.length + 1 < 4294967296 := by omega
  have hs3 : (1 : Int) < (s.length : Int) + 2 := by omega
  have hs4 : (0 : Int) ≤ (s.length : Int) + 1 := by omega
  have hs5 : ((s.length : Int) < 0) = False := eq_false (by omega)
  have hs7 : ((s.length : Int) + 1).toNat = s.length + 1 := by omega
  have hs8 : (s.length : Int) ≤ (s.length : Int) + 2 := by omega
  have hs9 : (s.length = s.length + 2) = False := eq_false (by omega)
  skip
  simp -implicitDefEqProofs (disch := omega) only [go_sem, Nat.reduceBEq, Nat.reduceAdd, Nat.reduceSub, Nat.reduceMul, Nat.reduceLeDiff, Nat.reduceEqDiff, Nat.reduceLT, Int.reduceNeg, Int.reduceAdd, Int.reduceSub, Int.reduceMul, Int.reduceLE, Int.reduceLT, Int.reduceEq, Int.reduceToNat, reduceCtorEq, IntWalk.i64_in]
  repeat' ((first | rw [GuardI_ndec] | rw [CondC_ndec] | rw [GuardQ_ndec] | rw [GuardI_dec] | rw [CondC_dec] | rw [GuardQ_dec] | rw [GuardI_nby] | rw [CondC_nby] | rw [GuardQ_nby] | rw [GuardQ_by] | rw [GuardI_by] | rw [CondC_by]) <;> split <;> simp -implicitDefEqProofs (disch := omega) only [go_sem, Nat.reduceBEq, Nat.reduceAdd, Nat.reduceSub, Nat.reduceMul, Nat.reduceLeDiff, Nat.reduceEqDiff, Nat.reduceLT, Int.reduceNeg, Int.reduceAdd, Int.reduceSub, Int.reduceMul, Int.reduceLE, Int.reduceLT, Int.reduceEq, Int.reduceToNat, reduceCtorEq, IntWalk.i64_in, hs2, hs3, hs4, hs5, hs7, hs8, hs9, pre2, pre3, at_map_end, at_map_end_add, take_map_end, *])
  all_goals (rw [stp5 _ _ _ _ _ _ _ (.inr rfl)]; split <;> simp_all [StepPost, intC, Val.zero, Val.mk.injEq])
theorem step7R (d : Nat) (c : Bool) (cs : List Col) (s : List Int) (a : Int) (stm : Nat) (pz : Int) (pvk pvn : Int) (pvq : ByteArray) (hs : s.length ≤ 1000) :
    StepPost (stpI cs (s ++ [a]) ⟨7, pz, (⟨pvk, pvn, pvq⟩ : Val)⟩) (callS (runD tab noExt (d + 4)) [.rows stm 1 (s.map intC ++ [[.int .i64 a]])] 97 [.sl c 2 (cs.map Col.cells), .ref 0 stm 0 (s.length + 1) false, .agg [.int .i64 7, .int .i64 pz, .int .i64 pvk, .int .i64 pvn, .str pvq]] false) := by
  rw [callS_eq, runD_eq find97 _ _ _ (by simp)]
  have hs2 : s.length + 1 < 4294967296 := by omega
  have hs3 : (0 : Int) < (s.length : Int) + 1 := by omega
  have hs5 : ((s.length : Int) < 0) = False := eq_false (by omega)
  have hs8 : (s.length : Int) ≤ (s.length : Int) + 1 := by omega
  have hs9 : (s.length = s.length + 1) = False := eq_false (by omega)
  simp -implicitDefEqProofs (disch := omega) only [go_sem, Nat.reduceBEq, Nat.reduceAdd, Nat.reduceSub, Nat.reduceMul, Nat.reduceLeDiff, Nat.reduceEqDiff, Nat.reduceLT, Int.reduceNeg, Int.reduceAdd, Int.reduceSub, Int.reduceMul, Int.reduceLE, Int.reduceLT, Int.reduceEq, Int.reduceToNat, reduceCtorEq, IntWalk.i64_in, evC_draw, evD97x1, E97x1]
  repeat' ((first | rw [GuardI_ndec] | rw [CondC_ndec] | rw [GuardQ_ndec] | rw [GuardI_dec] | rw [CondC_dec] | rw [GuardQ_dec] | rw [GuardI_nby] | rw [CondC_nby] | rw [GuardQ_nby] | rw [GuardQ_by] | rw [GuardI_by] | rw [CondC_by]) <;> split <;> simp -implicitDefEqProofs (disch := omega) only [go_sem, Nat.reduceBEq, Nat.reduceAdd, Nat.reduceSub, Nat.reduceMul, Nat.reduceLeDiff, Nat.reduceEqDiff, Nat.reduceLT, Int.reduceNeg, Int.reduceAdd, Int.reduceSub, Int.reduceMul, Int.reduceLE, Int.reduceLT, Int.reduceEq, Int.reduceToNat, reduceCtorEq, IntWalk.i64_in, hs2, hs3, hs5, hs8, hs9, pre1, at_map_end, at_map_end_add, take_map_end, evC_draw, evD97x1, E97x1, *])
  all_goals (rw [stp7]; split <;> simp_all [StepPost, intC, Val.zero, Val.mk.injEq])
theorem step8R (d : Nat) (c : Bool) (cs : List Col) (s : List Int) (a : Int) (stm : Nat) (pz : Int) (pvk pvn : Int) (pvq : ByteArray) (hs : s.length ≤ 1000) :
    StepPost (stpI cs (s ++ [a]) ⟨8, pz, (⟨pvk, pvn, pvq⟩ : Val)⟩) (callS (runD tab noExt (d + 4)) [.rows stm 1 (s.map intC ++ [[.int .i64 a]])] 97 [.sl c 2 (cs.map Col.cells), .ref 0 stm 0 (s.length + 1) false, .agg [.int .i64 8, .int .i64 pz, .int .i64 pvk, .int .i64 pvn, .str pvq]] false) := by
  rw [callS_eq, runD_eq find97 _ _ _ (by simp)]
  have hs2 : s.length + 1 < 4294967296 := by omega
  have hs3 : (0 : Int) < (s.length : Int) + 1 := by omega
  have hs5 : ((s.length : Int) < 0) = False := eq_false (by omega)
  have hs8 : (s.length : Int) ≤ (s.length : Int) + 1 := by omega
  have hs9 : (s.length = s.length + 1) = False := eq_false (by omega)
  simp -implicitDefEqProofs (disch := omega) only [go_sem, Nat.reduceBEq, Nat.reduceAdd, Nat.reduceSub, Nat.reduceMul, Nat.reduceLeDiff, Nat.reduceEqDiff, Nat.reduceLT, Int.reduceNeg, Int.reduceAdd, Int.reduceSub, Int.reduceMul, Int.reduceLE, Int.reduceLT, Int.reduceEq, Int.reduceToNat, reduceCtorEq, IntWalk.i64_in]
  repeat' ((first | rw [GuardI_ndec] | rw [CondC_ndec] | rw [GuardQ_ndec] | rw [GuardI_dec] | rw [CondC_dec] | rw [GuardQ_dec] | rw [GuardI_nby] | rw [CondC_nby] | rw [GuardQ_nby] | rw [GuardQ_by] | rw [GuardI_by] | rw [CondC_by]) <;> split <;> simp -implicitDefEqProofs (disch := omega) only [go_sem, Nat.reduceBEq, Nat.reduceAdd, Nat.reduceSub, Nat.reduceMul, Nat.reduceLeDiff, Nat.reduceEqDiff, Nat.reduceLT, Int.reduceNeg, Int.reduceAdd, Int.reduceSub, Int.reduceMul, Int.reduceLE, Int.reduceLT, Int.reduceEq, Int.reduceToNat, reduceCtorEq, IntWalk.i64_in, hs2, hs3, hs5, hs8, hs9, pre1, at_map_end, at_map_end_add, take_map_end, *])
  all_goals (rw [stp8]; split <;> simp_all [StepPost, intC, Val.zero, Val.mk.injEq])
theorem stepS3x0R (d : Nat) (c : Bool) (cs : List Col) (a : Int) (stm : Nat) (pz : Int) (pvk pvn : Int) (pvq : ByteArray) :
    StepPost (stpI cs [] ⟨3, pz, (⟨pvk, pvn, pvq⟩ : Val)⟩) (callS (runD tab noExt (d + 4)) [.rows stm 1 []] 97 [.sl c 2 (cs.map Col.cells), .ref 0 stm 0 0 false, .agg [.int .i64 3, .int .i64 pz, .int .i64 pvk, .int .i64 pvn, .str pvq]] false) := by
  rw [callS_eq, runD_eq find97 _ _ _ (by simp), stp_short cs [] ⟨3, pz, (⟨pvk, pvn, pvq⟩ : Val)⟩ (by simp [Prt.takes])]
  simp -implicitDefEqProofs (disch := omega) only [go_sem, Nat.reduceBEq, Nat.reduceAdd, Nat.reduceSub, Nat.reduceMul, Nat.reduceLeDiff, Nat.reduceEqDiff, Nat.reduceLT, Int.reduceNeg, Int.reduceAdd, Int.reduceSub, Int.reduceMul, Int.reduceLE, Int.reduceLT, Int.reduceEq, Int.reduceToNat, reduceCtorEq, gt_iff_lt, IntWalk.i64_in, evC_draw, evD97x0, E97x0]
  repeat' ((first | rw [GuardI_ndec] | rw [CondC_ndec] | rw [GuardQ_ndec] | rw [GuardI_dec] | rw [CondC_dec] | rw [GuardQ_dec] | rw [GuardI_nby] | rw [CondC_nby] | rw [GuardQ_nby] | rw [GuardQ_by] | rw [GuardI_by] | rw [CondC_by]) <;> split <;> simp -implicitDefEqProofs (disch := omega) only [go_sem, Nat.reduceBEq, Nat.reduceAdd, Nat.reduceSub, Nat.reduceMul, Nat.reduceLeDiff, Nat.reduceEqDiff, Nat.reduceLT, Int.reduceNeg, Int.reduceAdd, Int.reduceSub, Int.reduceMul, Int.reduceLE, Int.reduceLT, Int.reduceEq, Int.reduceToNat, reduceCtorEq, gt_iff_lt, IntWalk.i64_in, evC_draw, evD97x0, E97x0, Int.toNat_zero, List.take_zero, *])
  all_goals exact ⟨_, _, _, rfl⟩
theorem stepS3x1R (d : Nat) (c : Bool) (cs : List Col) (a : Int) (stm : Nat) (pz : Int) (pvk pvn : Int) (pvq : ByteArray) :
    StepPost (stpI cs [a] ⟨3, pz, (⟨pvk, pvn, pvq⟩ : Val)⟩) (callS (runD tab noExt (d + 4)) [.rows stm 1 [[.int .i64 a]]] 97 [.sl c 2 (cs.map Col.cells), .ref 0 stm 0 1 false, .agg [.int .i64 3, .int .i64 pz, .int .i64 pvk, .int .i64 pvn, .str pvq]] false) := by
  rw [callS_eq, runD_eq find97 _ _ _ (by simp), stp_short cs [a] ⟨3, pz, (⟨pvk, pvn, pvq⟩ : Val)⟩ (by simp [Prt.takes])]
  simp -implicitDefEqProofs (disch := omega) only [go_sem, Nat.reduceBEq, Nat.reduceAdd, Nat.reduceSub, Nat.reduceMul, Nat.reduceLeDiff, Nat.reduceEqDiff, Nat.reduceLT, Int.reduceNeg, Int.reduceAdd, Int.reduceSub, Int.reduceMul, Int.reduceLE, Int.reduceLT, Int.reduceEq, Int.reduceToNat, reduceCtorEq, gt_iff_lt, IntWalk.i64_in, evC_draw, evD97x0, E97x0]
  repeat' ((first | rw [GuardI_ndec] | rw [CondC_ndec] | rw [GuardQ_ndec] | rw [GuardI_dec] | rw [CondC_dec] | rw [GuardQ_dec] | rw [GuardI_nby] | rw [CondC_nby] | rw [GuardQ_nby] | rw [GuardQ_by] | rw [GuardI_by] | rw [CondC_by]) <;> split <;> simp -implicitDefEqProofs (disch := omega) only [go_sem, Nat.reduceBEq, Nat.reduceAdd, Nat.reduceSub, Nat.reduceMul, Nat.reduceLeDiff, Nat.reduceEqDiff, Nat.reduceLT, Int.reduceNeg, Int.reduceAdd, Int.reduceSub, Int.reduceMul, Int.reduceLE, Int.reduceLT, Int.reduceEq, Int.reduceToNat, reduceCtorEq, gt_iff_lt, IntWalk.i64_in, evC_draw, evD97x0, E97x0, Int.toNat_zero, List.take_zero, *])
  all_goals exact ⟨_, _, _, rfl⟩
theorem stepS4x0R (d : Nat) (c : Bool) (cs : List Col) (a : Int) (stm : Nat) (pz : Int) (pvk pvn : Int) (pvq : ByteArray) :
    StepPost (stpI cs [] ⟨4, pz, (⟨pvk, pvn, pvq⟩ : Val)⟩) (callS (runD tab noExt (d + 4)) [.rows stm 1 []] 97 [.sl c 2 (cs.map Col.cells), .ref 0 stm 0 0 false, .agg [.int .i64 4, .int .i64 pz, .int .i64 pvk, .int .i64 pvn, .str pvq]] false) := by
  rw [callS_eq, runD_eq find97 _ _ _ (by simp), stp_short cs [] ⟨4, pz, (⟨pvk, pvn, pvq⟩ : Val)⟩ (by simp [Prt.takes])]
  simp -implicitDefEqProofs (disch := omega) only [go_sem, Nat.reduceBEq, Nat.reduceAdd, Nat.reduceSub, Nat.reduceMul, Nat.reduceLeDiff, Nat.reduceEqDiff, Nat.reduceLT, Int.reduceNeg, Int.reduceAdd, Int.reduceSub, Int.reduceMul, Int.reduceLE, Int.reduceLT, Int.reduceEq, Int.reduceToNat, reduceCtorEq, gt_iff_lt, IntWalk.i64_in, evC_draw, evD97x0, E97x0]
  repeat' ((first | rw [GuardI_ndec] | rw [CondC_ndec] | rw [GuardQ_ndec] | rw [GuardI_dec] | rw [CondC_dec] | rw [GuardQ_dec] | rw [GuardI_nby] | rw [CondC_nby] | rw [GuardQ_nby] | rw [GuardQ_by] | rw [GuardI_by] | rw [CondC_by]) <;> split <;> simp -implicitDefEqProofs (disch := omega) only [go_sem, Nat.reduceBEq, Nat.reduceAdd, Nat.reduceSub, Nat.reduceMul, Nat.reduceLeDiff, Nat.reduceEqDiff, Nat.reduceLT, Int.reduceNeg, Int.reduceAdd, Int.reduceSub, Int.reduceMul, Int.reduceLE, Int.reduceLT, Int.reduceEq, Int.reduceToNat, reduceCtorEq, gt_iff_lt, IntWalk.i64_in, evC_draw, evD97x0, E97x0, Int.toNat_zero, List.take_zero, *])
  all_goals exact ⟨_, _, _, rfl⟩
theorem stepS4x1R (d : Nat) (c : Bool) (cs : List Col) (a : Int) (stm : Nat) (pz : Int) (pvk pvn : Int) (pvq : ByteArray) :
    StepPost (stpI cs [a] ⟨4, pz, (⟨pvk, pvn, pvq⟩ : Val)⟩) (callS (runD tab noExt (d + 4)) [.rows stm 1 [[.int .i64 a]]] 97 [.sl c 2 (cs.map Col.cells), .ref 0 stm 0 1 false, .agg [.int .i64 4, .int .i64 pz, .int .i64 pvk, .int .i64 pvn, .str pvq]] false) := by
  rw [callS_eq, runD_eq find97 _ _ _ (by simp), stp_short cs [a] ⟨4, pz, (⟨pvk, pvn, pvq⟩ : Val)⟩ (by simp [Prt.takes])]
  simp -implicitDefEqProofs (disch := omega) only [go_sem, Nat.reduceBEq, Nat.reduceAdd, Nat.reduceSub, Nat.reduceMul, Nat.reduceLeDiff, Nat.reduceEqDiff, Nat.reduceLT, Int.reduceNeg, Int.reduceAdd, Int.reduceSub, Int.reduceMul, Int.reduceLE, Int.reduceLT, Int.reduceEq, Int.reduceToNat, reduceCtorEq, gt_iff_lt, IntWalk.i64_in, evC_draw, evD97x0, E97x0]
  repeat' ((first | rw [GuardI_ndec] | rw [CondC_ndec] | rw [GuardQ_ndec] | rw [GuardI_dec] | rw [CondC_dec] | rw [GuardQ_dec] | rw [GuardI_nby] | rw [CondC_nby] | rw [GuardQ_nby] | rw [GuardQ_by] | rw [GuardI_by] | rw [CondC_by]) <;> split <;> simp -implicitDefEqProofs (disch := omega) only [go_sem, Nat.reduceBEq, Nat.reduceAdd, Nat.reduceSub, Nat.reduceMul, Nat.reduceLeDiff, Nat.reduceEqDiff, Nat.reduceLT, Int.reduceNeg, Int.reduceAdd, Int.reduceSub, Int.reduceMul, Int.reduceLE, Int.reduceLT, Int.reduceEq, Int.reduceToNat, reduceCtorEq, gt_iff_lt, IntWalk.i64_in, evC_draw, evD97x0, E97x0, Int.toNat_zero, List.take_zero, *])
  all_goals exact ⟨_, _, _, rfl⟩
theorem stepS5x0R (d : Nat) (c : Bool) (cs : List Col) (a : Int) (stm : Nat) (pz : Int) (pvk pvn : Int) (pvq : ByteArray) :
    StepPost (stpI cs [] ⟨5, pz, (⟨pvk, pvn, pvq⟩ : Val)⟩) (callS (runD tab noExt (d + 4)) [.rows stm 1 []] 97 [.sl c 2 (cs.map Col.cells), .ref 0 stm 0 0 false, .agg [.int .i64 5, .int .i64 pz, .int .i64 pvk, .int .i64 pvn, .str pvq]] false) := by
  rw [callS_eq, runD_eq find97 _ _ _ (by simp), stp_short cs [] ⟨5, pz, (⟨pvk, pvn, pvq⟩ : Val)⟩ (by simp [Prt.takes])]
  simp -implicitDefEqProofs (disch := omega) only [go_sem, Nat.reduceBEq, Nat.reduceAdd, Nat.reduceSub, Nat.reduceMul, Nat.reduceLeDiff, Nat.reduceEqDiff, Nat.reduceLT, Int.reduceNeg, Int.reduceAdd, Int.reduceSub, Int.reduceMul, Int.reduceLE, Int.reduceLT, Int.reduceEq, Int.reduceToNat, reduceCtorEq, gt_iff_lt, IntWalk.i64_in, evC_draw, evD97x0, E97x0]
  repeat' ((first | rw [GuardI_ndec] | rw [CondC_ndec] | rw [GuardQ_ndec] | rw [GuardI_dec] | rw [CondC_dec] | rw [GuardQ_dec] | rw [GuardI_nby] | rw [CondC_nby] | rw [GuardQ_nby] | rw [GuardQ_by] | rw [GuardI_by] | rw [CondC_by]) <;> split <;> simp -implicitDefEqProofs (disch := omega) only [go_sem, Nat.reduceBEq, Nat.reduceAdd, Nat.reduceSub, Nat.reduceMul, Nat.reduceLeDiff, Nat.reduceEqDiff, Nat.reduceLT, Int.reduceNeg, Int.reduceAdd, Int.reduceSub, Int.reduceMul, Int.reduceLE, Int.reduceLT, Int.reduceEq, Int.reduceToNat, reduceCtorEq, gt_iff_lt, IntWalk.i64_in, evC_draw, evD97x0, E97x0, Int.toNat_zero, List.take_zero, *])
  all_goals exact ⟨_, _, _, rfl⟩
theorem stepS5x1R (d : Nat) (c : Bool) (cs : List Col) (a : Int) (stm : Nat) (pz : Int) (pvk pvn : Int) (pvq : ByteArray) :
    StepPost (stpI cs [a] ⟨5, pz, (⟨pvk, pvn, pvq⟩ : Val)⟩) (callS (runD tab noExt (d + 4)) [.rows stm 1 [[.int .i64 a]]] 97 [.sl c 2 (cs.map Col.cells), .ref 0 stm 0 1 false, .agg [.int .i64 5, .int .i64 pz, .int .i64 pvk, .int .i64 pvn, .str pvq]] false) := by
  rw [callS_eq, runD_eq find97 _ _ _ (by simp), stp_short cs [a] ⟨5, pz, (⟨pvk, pvn, pvq⟩ : Val)⟩ (by simp [Prt.takes])]
  simp -implicitDefEqProofs (disch := omega) only [go_sem, Nat.reduceBEq, Nat.reduceAdd, Nat.reduceSub, Nat.reduceMul, Nat.reduceLeDiff, Nat.reduceEqDiff, Nat.reduceLT, Int.reduceNeg, Int.reduceAdd, Int.reduceSub, Int.reduceMul, Int.reduceLE, Int.reduceLT, Int.reduceEq, Int.reduceToNat, reduceCtorEq, gt_iff_lt, IntWalk.i64_in, evC_draw, evD97x0, E97x0]
  repeat' ((first | rw [GuardI_ndec] | rw [CondC_ndec] | rw [GuardQ_ndec] | rw [GuardI_dec] | rw [CondC_dec] | rw [GuardQ_dec] | rw [GuardI_nby] | rw [CondC_nby] | rw [GuardQ_nby] | rw [GuardQ_by] | rw [GuardI_by] | rw [CondC_by]) <;> split <;> simp -implicitDefEqProofs (disch := omega) only [go_sem, Nat.reduceBEq, Nat.reduceAdd, Nat.reduceSub, Nat.reduceMul, Nat.reduceLeDiff, Nat.reduceEqDiff, Nat.reduceLT, Int.reduceNeg, Int.reduceAdd, Int.reduceSub, Int.reduceMul, Int.reduceLE, Int.reduceLT, Int.reduceEq, Int.reduceToNat, reduceCtorEq, gt_iff_lt, IntWalk.i64_in, evC_draw, evD97x0, E97x0, Int.toNat_zero, List.take_zero, *])
  all_goals exact ⟨_, _, _, rfl⟩
theorem stepS6x0R (d : Nat) (c : Bool) (cs : List Col) (a : Int) (stm : Nat) (pz : Int) (pvk pvn : Int) (pvq : ByteArray) :
    StepPost (stpI cs [] ⟨6, pz, (⟨pvk, pvn, pvq⟩ : Val)⟩) (callS (runD tab noExt (d + 4)) [.rows stm 1 []] 97 [.sl c 2 (cs.map Col.cells), .ref 0 stm 0 0 false, .agg [.int .i64 6, .int .i64 pz, .int .i64 pvk, .int .i64 pvn, .str pvq]] false) := by
  rw [callS_eq, runD_eq find97 _ _ _ (by simp), stp_short cs [] ⟨6, pz, (⟨pvk, pvn, pvq⟩ : Val)⟩ (by simp [Prt.takes])]
  simp -implicitDefEqProofs (disch := omega) only [go_sem, Nat.reduceBEq, Nat.reduceAdd, Nat.reduceSub, Nat.reduceMul, Nat.reduceLeDiff, Nat.reduceEqDiff, Nat.reduceLT, Int.reduceNeg, Int.reduceAdd, Int.reduceSub, Int.reduceMul, Int.reduceLE, Int.reduceLT, Int.reduceEq, Int.reduceToNat, reduceCtorEq, gt_iff_lt, IntWalk.i64_in, evC_draw, evD97x0, E97x0]
  repeat' ((first | rw [GuardI_ndec] | rw [CondC_ndec] | rw [GuardQ_ndec] | rw [GuardI_dec] | rw [CondC_dec] | rw [GuardQ_dec] | rw [GuardI_nby] | rw [CondC_nby] | rw [GuardQ_nby] | rw [GuardQ_by] | rw [GuardI_by] | rw [CondC_by]) <;> split <;> simp -implicitDefEqProofs (disch := omega) only [go_sem, Nat.reduceBEq, Nat.reduceAdd, Nat.reduceSub, Nat.reduceMul, Nat.reduceLeDiff, Nat.reduceEqDiff, Nat.reduceLT, Int.reduceNeg, Int.reduceAdd, Int.reduceSub, Int.reduceMul, Int.reduceLE, Int.reduceLT, Int.reduceEq, Int.reduceToNat, reduceCtorEq, gt_iff_lt, IntWalk.i64_in, evC_draw, evD97x0, E97x0, Int.toNat_zero, List.take_zero, *])
  all_goals exact ⟨_, _, _, rfl⟩
theorem stepS6x1R (d : Nat) (c : Bool) (cs : List Col) (a : Int) (stm : Nat) (pz : Int) (pvk pvn : Int) (pvq : ByteArray) :
    StepPost (stpI cs [a] ⟨6, pz, (⟨pvk, pvn, pvq⟩ : Val)⟩) (callS (runD tab noExt (d + 4)) [.rows stm 1 [[.int .i64 a]]] 97 [.sl c 2 (cs.map Col.cells), .ref 0 stm 0 1 false, .agg [.int .i64 6, .int .i64 pz, .int .i64 pvk, .int .i64 pvn, .str pvq]] false) := by
  rw [callS_eq, runD_eq find97 _ _ _ (by simp), stp_short cs [a] ⟨6, pz, (⟨pvk, pvn, pvq⟩ : Val)⟩ (by simp [Prt.takes])]
  simp -implicitDefEqProofs (disch := omega) only [go_sem, Nat.reduceBEq, Nat.reduceAdd, Nat.reduceSub, Nat.reduceMul, Nat.reduceLeDiff, Nat.reduceEqDiff, Nat.reduceLT, Int.reduceNeg, Int.reduceAdd, Int.reduceSub, Int.reduceMul, Int.reduceLE, Int.reduceLT, Int.reduceEq, Int.reduceToNat, reduceCtorEq, gt_iff_lt, IntWalk.i64_in, evC_draw, evD97x0, E97x0]
  repeat' ((first | rw [GuardI_ndec] | rw [CondC_ndec] | rw [GuardQ_ndec] | rw [GuardI_dec] | rw [CondC_dec] | rw [GuardQ_dec] | rw [GuardI_nby] | rw [CondC_nby] | rw [GuardQ_nby] | rw [GuardQ_by] | rw [GuardI_by] | rw [CondC_by]) <;> split <;> simp -implicitDefEqProofs (disch := omega) only [go_sem, Nat.reduceBEq, Nat.reduceAdd, Nat.reduceSub, Nat.reduceMul, Nat.reduceLeDiff, Nat.reduceEqDiff, Nat.reduceLT, Int.reduceNeg, Int.reduceAdd, Int.reduceSub, Int.reduceMul, Int.reduceLE, Int.reduceLT, Int.reduceEq, Int.reduceToNat, reduceCtorEq, gt_iff_lt, IntWalk.i64_in, evC_draw, evD97x0, E97x0, Int.toNat_zero, List.take_zero, *])
  all_goals exact ⟨_, _, _, rfl⟩
theorem stepS7x0R (d : Nat) (c : Bool) (cs : List Col) (stm : Nat) (pz : Int) (pvk pvn : Int) (pvq : ByteArray) :
    StepPost (stpI cs [] ⟨7, pz, (⟨pvk, pvn, pvq⟩ : Val)⟩) (callS (runD tab noExt (d + 4)) [.rows stm 1 []] 97 [.sl c 2 (cs.map Col.cells), .ref 0 stm 0 0 false, .agg [.int .i64 7, .int .i64 pz, .int .i64 pvk, .int .i64 pvn, .str pvq]] false) := by
  rw [callS_eq, runD_eq find97 _ _ _ (by simp), stp_short cs [] ⟨7, pz, (⟨pvk, pvn, pvq⟩ : Val)⟩ (by simp [Prt.takes])]
  simp -implicitDefEqProofs (disch := omega) only [go_sem, Nat.reduceBEq, Nat.reduceAdd, Nat.reduceSub, Nat.reduceMul, Nat.reduceLeDiff, Nat.reduceEqDiff, Nat.reduceLT, Int.reduceNeg, Int.reduceAdd, Int.reduceSub, Int.reduceMul, Int.reduceLE, Int.reduceLT, Int.reduceEq, Int.reduceToNat, reduceCtorEq, gt_iff_lt, IntWalk.i64_in, evC_draw, evD97x1, E97x1]
  repeat' ((first | rw [GuardI_ndec] | rw [CondC_ndec] | rw [GuardQ_ndec] | rw [GuardI_dec] | rw [CondC_dec] | rw [GuardQ_dec] | rw [GuardI_nby] | rw [CondC_nby] | rw [GuardQ_nby] | rw [GuardQ_by] | rw [GuardI_by] | rw [CondC_by]) <;> split <;> simp -implicitDefEqProofs (disch := omega) only [go_sem, Nat.reduceBEq, Nat.reduceAdd, Nat.reduceSub, Nat.reduceMul, Nat.reduceLeDiff, Nat.reduceEqDiff, Nat.reduceLT, Int.reduceNeg, Int.reduceAdd, Int.reduceSub, Int.reduceMul, Int.reduceLE, Int.reduceLT, Int.reduceEq, Int.reduceToNat, reduceCtorEq, gt_iff_lt, IntWalk.i64_in, evC_draw, evD97x1, E97x1, Int.toNat_zero, List.take_zero, *])
  all_goals exact ⟨_, _, _, rfl⟩
theorem stepS8x0R (d : Nat) (c : Bool) (cs : List Col) (stm : Nat) (pz : Int) (pvk pvn : Int) (pvq : ByteArray) :
    StepPost (stpI cs [] ⟨8, pz, (⟨pvk, pvn, pvq⟩ : Val)⟩) (callS (runD tab noExt (d + 4)) [.rows stm 1 []] 97 [.sl c 2 (cs.map Col.cells), .ref 0 stm 0 0 false, .agg [.int .i64 8, .int .i64 pz, .int .i64 pvk, .int .i64 pvn, .str pvq]] false) := by
  rw [callS_eq, runD_eq find97 _ _ _ (by simp), stp_short cs [] ⟨8, pz, (⟨pvk, pvn, pvq⟩ : Val)⟩ (by simp [Prt.takes])]
  simp -implicitDefEqProofs (disch := omega) only [go_sem, Nat.reduceBEq, Nat.reduceAdd, Nat.reduceSub, Nat.reduceMul, Nat.reduceLeDiff, Nat.reduceEqDiff, Nat.reduceLT, Int.reduceNeg, Int.reduceAdd, Int.reduceSub, Int.reduceMul, Int.reduceLE, Int.reduceLT, Int.reduceEq, Int.reduceToNat, reduceCtorEq, gt_iff_lt, IntWalk.i64_in, evC_draw, evD97x1, E97x1]
  repeat' ((first | rw [GuardI_ndec] | rw [CondC_ndec] | rw [GuardQ_ndec] | rw [GuardI_dec] | rw [CondC_dec] | rw [GuardQ_dec] | rw [GuardI_nby] | rw [CondC_nby] | rw [GuardQ_nby] | rw [GuardQ_by] | rw [GuardI_by] | rw [CondC_by]) <;> split <;> simp -implicitDefEqProofs (disch := omega) only [go_sem, Nat.reduceBEq, Nat.reduceAdd, Nat.reduceSub, Nat.reduceMul, Nat.reduceLeDiff, Nat.reduceEqDiff, Nat.reduceLT, Int.reduceNeg, Int.reduceAdd, Int.reduceSub, Int.reduceMul, Int.reduceLE, Int.reduceLT, Int.reduceEq, Int.reduceToNat, reduceCtorEq, gt_iff_lt, IntWalk.i64_in, evC_draw, evD97x1, E97x1, Int.toNat_zero, List.take_zero, *])
  all_goals exact ⟨_, _, _, rfl⟩
theorem stepNR (d : Nat) (c : Bool) (cs : List Col) (st : List Int) (stm : Nat) (py pz : Int) (pvk pvn : Int) (pvq : ByteArray) (h : py ≠ 1 ∧ py ≠ 2 ∧ py ≠ 3 ∧ py ≠ 4 ∧ py ≠ 5 ∧ py ≠ 6 ∧ py ≠ 7 ∧ py ≠ 8) :
    StepPost (stpI cs st ⟨py, pz, (⟨pvk, pvn, pvq⟩ : Val)⟩) (callS (runD tab noExt (d + 4)) [.rows stm 1 (st.map intC)] 97 [.sl c 2 (cs.map Col.cells), .ref 0 stm 0 st.length false, .agg [.int .i64 py, .int .i64 pz, .int .i64 pvk, .int .i64 pvn, .str pvq]] false) := by
  obtain ⟨h1, h2, h3, h4, h5, h6, h7, h8⟩ := h
  rw [callS_eq, runD_eq find97 _ _ _ (by simp), stp_not cs st ⟨py, pz, (⟨pvk, pvn, pvq⟩ : Val)⟩ (by simp [Prt.tells, *])]
  simp -implicitDefEqProofs (disch := omega) only [go_sem, Nat.reduceBEq, Nat.reduceAdd, Nat.reduceSub, Nat.reduceMul, Nat.reduceLeDiff, Nat.reduceEqDiff, Nat.reduceLT, Int.reduceNeg, Int.reduceAdd, Int.reduceSub, Int.reduceMul, Int.reduceLE, Int.reduceLT, Int.reduceEq, Int.reduceToNat, reduceCtorEq, gt_iff_lt, IntWalk.i64_in, h1, h2, h3, h4, h5, h6, h7, h8]
  repeat' ((first | rw [GuardI_ndec] | rw [CondC_ndec] | rw [GuardQ_ndec] | rw [GuardI_dec] | rw [CondC_dec] | rw [GuardQ_dec] | rw [GuardI_nby] | rw [CondC_nby] | rw [GuardQ_nby] | rw [GuardQ_by] | rw [GuardI_by] | rw [CondC_by]) <;> split <;> simp -implicitDefEqProofs (disch := omega) only [go_sem, Nat.reduceBEq, Nat.reduceAdd, Nat.reduceSub, Nat.reduceMul, Nat.reduceLeDiff, Nat.reduceEqDiff, Nat.reduceLT, Int.reduceNeg, Int.reduceAdd, Int.reduceSub, Int.reduceMul, Int.reduceLE, Int.reduceLT, Int.reduceEq, Int.reduceToNat, reduceCtorEq, IntWalk.i64_in, *])
  all_goals exact ⟨_, _, _, rfl⟩

theorem step_kindR (d : Nat) (c : Bool) (cs : List Col) (st : List Int) (stm : Nat) (p : Prt) (hc : cs.length < 1099511627776) (hs : st.length ≤ 1000) (hv : p.v.s.size < 1099511627776) :
    StepPost (stpI cs st p) (callS (runD tab noExt (d + 4)) [.rows stm 1 (st.map intC)] 97 [.sl c 2 (cs.map Col.cells), .ref 0 stm 0 st.length false, .agg [.int .i64 p.kind, .int .i64 p.n, .int .i64 p.v.kind, .int .i64 p.v.n, .str p.v.s]] false) := by
  obtain ⟨k, n, ⟨vk, vn, vs⟩⟩ := p
  dsimp only at hv ⊢
  have e2 : ∀ (s : List Int) (a b : Int), (s ++ [a, b]).map intC = s.map intC ++ [[.int .i64 a], [.int .i64 b]] := fun s a b => by simp [intC]
  have l2 : ∀ (s : List Int) (a b : Int), (s ++ [a, b]).length = s.length + 2 := fun s a b => by simp
  have e1 : ∀ (s : List Int) (a : Int), (s ++ [a]).map intC = s.map intC ++ [[.int .i64 a]] := fun s a => by simp [intC]
  have l1 : ∀ (s : List Int) (a : Int), (s ++ [a]).length = s.length + 1 := fun s a => by simp
  have cases2 : (∃ s a b, st = s ++ [a, b]) ∨ st = [] ∨ ∃ a, st = [a] := by
    match st with
    | [] => exact .inr (.inl rfl)
    | [a] => exact .inr (.inr ⟨a, rfl⟩)
    | a :: b :: r => exact .inl (two_of _ (by simp))
  have cases1 : (∃ s a, st = s ++ [a]) ∨ st = [] := by
    match st with
    | [] => exact .inr rfl
    | a :: r => exact .inl (one_of _ (by simp))
  by_cases k1 : k = 1
  · subst k1; exact step1R d c cs st stm n vk vn vs hs hv
  by_cases k2 : k = 2
  · subst k2; exact step2R d c cs st stm n vk vn vs hs hc
  by_cases k3 : k = 3
  · subst k3
    rcases cases2 with ⟨s, a, b, rfl⟩ | rfl | ⟨a, rfl⟩
    · rw [e2, l2]; exact step3R d c cs s a b stm n vk vn vs (by simp at hs; omega)
    · exact stepS3x0R d c cs 0 stm n vk vn vs
    · exact stepS3x1R d c cs a stm n vk vn vs
  by_cases k4 : k = 4
  · subst k4
    rcases cases2 with ⟨s, a, b, rfl⟩ | rfl | ⟨a, rfl⟩
    · rw [e2, l2]; exact step4R d c cs s a b stm n vk vn vs (by simp at hs; omega)
    · exact stepS4x0R d c cs 0 stm n vk vn vs
    · exact stepS4x1R d c cs a stm n vk vn vs
  by_cases k5 : k = 5
  · subst k5
    rcases cases2 with ⟨s, a, b, rfl⟩ | rfl | ⟨a, rfl⟩
    · rw [e2, l2]; exact step5R d c cs s a b stm n vk vn vs (by simp at hs; omega)
    · exact stepS5x0R d c cs 0 stm n vk vn vs
    · exact stepS5x1R d c cs a stm n vk vn vs
  by_cases k6 : k = 6
  · subst k6
    rcases cases2 with ⟨s, a, b, rfl⟩ | rfl | ⟨a, rfl⟩
    · rw [e2, l2]; exact step6R d c cs s a b stm n vk vn vs (by simp at hs; omega)
    · exact stepS6x0R d c cs 0 stm n vk vn vs
    · exact stepS6x1R d c cs a stm n vk vn vs
  by_cases k7 : k = 7
  · subst k7
    rcases cases1 with ⟨s, a, rfl⟩ | rfl
    · rw [e1, l1]; exact step7R d c cs s a stm n vk vn vs (by simp at hs; omega)
    · exact stepS7x0R d c cs stm n vk vn vs
  by_cases k8 : k = 8
  · subst k8
    rcases cases1 with ⟨s, a, rfl⟩ | rfl
    · rw [e1, l1]; exact step8R d c cs s a stm n vk vn vs (by simp at hs; omega)
    · exact stepS8x0R d c cs stm n vk vn vs
  exact stepNR d c cs st stm k n vk vn vs ⟨k1, k2, k3, k4, k5, k6, k7, k8⟩
end Go.Proofs.Ytgepapgabnaonaa.PE
/- The kind of an expression, the reference's: the same. -/
set_option linter.unusedSimpArgs false
set_option linter.unusedVariables false
set_option maxHeartbeats 4000000
namespace Go.Proofs.Ytgepapgabnaonaa.PE
open Go.RowKit

def ShortP (ps : List Prt) : Prop := ∀ p ∈ ps, p.v.s.size < 1099511627776
def LoopPostR (x : Option (List Int)) (Y : Out) : Prop := match x with
  | some l => ∃ stm', Y = some (.exit 0, [(5, .ref 0 stm' 0 l.length false), (6, .bool true)], [.rows stm' 1 (l.map intC)])
  | none => ∃ w h', Y = some (.exit 0, [(5, w), (6, .bool false)], h')
theorem loop_kindR (d : Nat) (c c' : Bool) (cs : List Col) (ps : List Prt) (hc : cs.length < 1099511627776) (hp : ps.length ≤ 1000) (hsp : ShortP ps) : ∀ (rest : List Prt) (i : Nat), ps.drop i = rest → i ≤ ps.length → ∀ (K stm : Nat) (st : List Int), rest.length ≤ K → st.length ≤ i →
    LoopPostR (runStp (stpI cs) st rest) (LoopS (runD tab noExt (d + 4)) (drawI (runD tab noExt (d + 4))) [0, 1, 5, 6, 7] [5, 6] L44x0 1 K [(0, .sl c 2 (cs.map Col.cells)), (1, .sl c' 5 (ps.map Prt.cells)), (5, .ref 0 stm 0 st.length false), (6, .bool true), (7, .int .i64 (i : Int))] [.rows stm 1 (st.map intC)]) := by
  refine drop_to ps (fun i rest => ∀ (K stm : Nat) (st : List Int), rest.length ≤ K → st.length ≤ i → LoopPostR (runStp (stpI cs) st rest) (LoopS (runD tab noExt (d + 4)) (drawI (runD tab noExt (d + 4))) [0, 1, 5, 6, 7] [5, 6] L44x0 1 K [(0, .sl c 2 (cs.map Col.cells)), (1, .sl c' 5 (ps.map Prt.cells)), (5, .ref 0 stm 0 st.length false), (6, .bool true), (7, .int .i64 (i : Int))] [.rows stm 1 (st.map intC)])) ?_ ?_
  · intro K stm st hK hst
    rw [LoopS_eq]
    simp -implicitDefEqProofs only [go_sem, Nat.reduceBEq, Nat.reduceAdd, Nat.reduceSub, Nat.reduceMul, Nat.reduceLeDiff, Nat.reduceEqDiff, Nat.reduceLT, Int.reduceNeg, Int.reduceAdd, Int.reduceSub, Int.reduceMul, Int.reduceLE, Int.reduceLT, Int.reduceEq, Int.reduceToNat, reduceCtorEq, evL44x0, B44x0, Int.lt_irrefl, runStp]
    exact ⟨stm, rfl⟩
  · intro i x r hi hx ih K stm st hK hst
    have hi' : (i : Int) < ps.length := by omega
    obtain ⟨K, rfl⟩ : ∃ K', K = K' + 1 := ⟨K - 1, by simp at hK; omega⟩
    have hstep := step_kindR d c cs st stm x hc (by omega) (hsp x (List.mem_of_getElem? hx))
    rw [LoopS_eq]
    simp -implicitDefEqProofs (disch := first | omega | assumption) only [go_sem, Nat.reduceBEq, Nat.reduceAdd, Nat.reduceSub, Nat.reduceMul, Nat.reduceLeDiff, Nat.reduceEqDiff, Nat.reduceLT, Int.reduceNeg, Int.reduceAdd, Int.reduceSub, Int.reduceMul, Int.reduceLE, Int.reduceLT, Int.reduceEq, Int.reduceToNat, reduceCtorEq, evL44x0, B44x0, hi', hx, Prt.cells]
    generalize hS : callS (runD tab noExt _) _ 97 _ false = X at hstep ⊢
    cases hr : stpI cs st x with
    | none =>
      have e : runStp (stpI cs) st (x :: r) = none := by simp [runStp, hr]
      rw [hr] at hstep
      obtain ⟨stm', len', cont', rfl⟩ := hstep
      rw [e]
      simp -implicitDefEqProofs (disch := omega) only [go_sem, Nat.reduceBEq, Nat.reduceAdd, Nat.reduceSub, Nat.reduceMul, Nat.reduceLeDiff, Nat.reduceEqDiff, Nat.reduceLT, Int.reduceNeg, Int.reduceAdd, Int.reduceSub, Int.reduceMul, Int.reduceLE, Int.reduceLT, Int.reduceEq, Int.reduceToNat, reduceCtorEq, IntWalk.i64_in]
      rw [LoopS_eq]
      by_cases hlt : (i : Int) + 1 < ps.length
      · simp -implicitDefEqProofs (disch := omega) only [go_sem, Nat.reduceBEq, Nat.reduceAdd, Nat.reduceSub, Nat.reduceMul, Nat.reduceLeDiff, Nat.reduceEqDiff, Nat.reduceLT, Int.reduceNeg, Int.reduceAdd, Int.reduceSub, Int.reduceMul, Int.reduceLE, Int.reduceLT, Int.reduceEq, Int.reduceToNat, reduceCtorEq, evL44x0, B44x0, hlt]
        exact ⟨_, _, rfl⟩
      · simp -implicitDefEqProofs (disch := omega) only [go_sem, Nat.reduceBEq, Nat.reduceAdd, Nat.reduceSub, Nat.reduceMul, Nat.reduceLeDiff, Nat.reduceEqDiff, Nat.reduceLT, Int.reduceNeg, Int.reduceAdd, Int.reduceSub, Int.reduceMul, Int.reduceLE, Int.reduceLT, Int.reduceEq, Int.reduceToNat, reduceCtorEq, evL44x0, B44x0, hlt]
        exact ⟨_, _, rfl⟩
    | some l =>
      have e : runStp (stpI cs) st (x :: r) = runStp (stpI cs) l r := by simp [runStp, hr]
      rw [hr] at hstep
      obtain ⟨stm', rfl⟩ := hstep
      rw [e]
      have hl := stpI_len hr
      have ih' := ih K stm' l (by simp at hK; omega) (by omega)
      simp only [Int.natCast_add, Int.natCast_one] at ih'
      simp -implicitDefEqProofs (disch := omega) only [go_sem, Nat.reduceBEq, Nat.reduceAdd, Nat.reduceSub, Nat.reduceMul, Nat.reduceLeDiff, Nat.reduceEqDiff, Nat.reduceLT, Int.reduceNeg, Int.reduceAdd, Int.reduceSub, Int.reduceMul, Int.reduceLE, Int.reduceLT, Int.reduceEq, Int.reduceToNat, reduceCtorEq, IntWalk.i64_in]
      exact ih'
-- find44
theorem run_exprKindR (d : Nat) (c c' : Bool) (cs : List Col) (ps : List Prt) (hc : cs.length < 1099511627776) (hsp : ShortP ps) : retP (runD tab noExt (d + 5)) 44 [.sl c 2 (cs.map Col.cells), .sl c' 5 (ps.map Prt.cells)] = some [.int .i64 (exprKind cs ps)] := by
  rw [retP, runD_eq find44 _ _ _ (by simp)]
  by_cases h1 : colsOk cs = true
  · by_cases h2 : (12 : Int) < ps.length
    · simp -implicitDefEqProofs (disch := first | omega | assumption) only [go_sem, Nat.reduceBEq, Nat.reduceAdd, Nat.reduceSub, Nat.reduceMul, Nat.reduceLeDiff, Nat.reduceEqDiff, Nat.reduceLT, Int.reduceNeg, Int.reduceAdd, Int.reduceSub, Int.reduceMul, Int.reduceLE, Int.reduceLT, Int.reduceEq, Int.reduceToNat, reduceCtorEq, run_colsOk, h1, h2]
      simp [exprKind, h1, h2]
    · have hl := loop_kindR d c c' cs ps hc (by omega) hsp ps 0 rfl (Nat.zero_le _) 1099511627775 0 [] (by omega) (Nat.zero_le _)
      simp only [List.length_nil, List.map_nil, Int.natCast_zero] at hl
      simp -implicitDefEqProofs (disch := first | omega | assumption) only [go_sem, Nat.reduceBEq, Nat.reduceAdd, Nat.reduceSub, Nat.reduceMul, Nat.reduceLeDiff, Nat.reduceEqDiff, Nat.reduceLT, Int.reduceNeg, Int.reduceAdd, Int.reduceSub, Int.reduceMul, Int.reduceLE, Int.reduceLT, Int.reduceEq, Int.reduceToNat, reduceCtorEq, run_colsOk, h1, h2]
      generalize hY : LoopS _ _ _ _ _ _ _ _ _ = Y at hl ⊢
      cases hr : runStp (stpI cs) [] ps with
      | none =>
        rw [hr] at hl
        obtain ⟨w, h', rfl⟩ := hl
        simp -implicitDefEqProofs only [go_sem, Nat.reduceBEq, Nat.reduceAdd, Nat.reduceSub, Nat.reduceMul, Nat.reduceLeDiff, Nat.reduceEqDiff, Nat.reduceLT, Int.reduceNeg, Int.reduceAdd, Int.reduceSub, Int.reduceMul, Int.reduceLE, Int.reduceLT, Int.reduceEq, Int.reduceToNat, reduceCtorEq]
        simp [exprKind, h1, h2, hr]
      | some l =>
        rw [hr] at hl
        obtain ⟨stm, rfl⟩ := hl
        match l, hr with
        | [], hr =>
          simp -implicitDefEqProofs only [go_sem, Nat.reduceBEq, Nat.reduceAdd, Nat.reduceSub, Nat.reduceMul, Nat.reduceLeDiff, Nat.reduceEqDiff, Nat.reduceLT, Int.reduceNeg, Int.reduceAdd, Int.reduceSub, Int.reduceMul, Int.reduceLE, Int.reduceLT, Int.reduceEq, Int.reduceToNat, reduceCtorEq]
          simp [exprKind, h1, h2, hr]
        | [k], hr =>
          simp -implicitDefEqProofs only [go_sem, Nat.reduceBEq, Nat.reduceAdd, Nat.reduceSub, Nat.reduceMul, Nat.reduceLeDiff, Nat.reduceEqDiff, Nat.reduceLT, Int.reduceNeg, Int.reduceAdd, Int.reduceSub, Int.reduceMul, Int.reduceLE, Int.reduceLT, Int.reduceEq, Int.reduceToNat, reduceCtorEq, intC, Int.toNat_zero]
          simp [exprKind, h1, h2, hr]
        | a :: b :: r, hr =>
          have h3 : ((r.length : Int) + 2 = 1) = False := eq_false (by omega)
          simp -implicitDefEqProofs only [go_sem, Nat.reduceBEq, Nat.reduceAdd, Nat.reduceSub, Nat.reduceMul, Nat.reduceLeDiff, Nat.reduceEqDiff, Nat.reduceLT, Int.reduceNeg, Int.reduceAdd, Int.reduceSub, Int.reduceMul, Int.reduceLE, Int.reduceLT, Int.reduceEq, Int.reduceToNat, reduceCtorEq, List.length_cons, h3]
          simp [exprKind, h1, h2, hr]
  · simp -implicitDefEqProofs (disch := first | omega | assumption) only [go_sem, Nat.reduceBEq, Nat.reduceAdd, Nat.reduceSub, Nat.reduceMul, Nat.reduceLeDiff, Nat.reduceEqDiff, Nat.reduceLT, Int.reduceNeg, Int.reduceAdd, Int.reduceSub, Int.reduceMul, Int.reduceLE, Int.reduceLT, Int.reduceEq, Int.reduceToNat, reduceCtorEq, run_colsOk, h1]
    simp [exprKind, h1]
end Go.Proofs.Ytgepapgabnaonaa.PE
/- Comparisons and truths: what they come to. -/
set_option linter.unusedSimpArgs false
set_option linter.unusedVariables false
set_option maxHeartbeats 4000000
namespace Go.Proofs.Ytgepapgabnaonaa.PE
open Go.RowKit

def cmpT (kd c : Int) : Bool := if kd = 1 then decide (c = 0) else if kd = 2 then !decide (c = 0) else if kd = 3 then decide (c < 0) else decide (c ≤ 0)
def cmpV (kd : Int) (a b : Val) : Int :=
  if 1 ≤ kd ∧ kd ≤ 4 then (if a.ok then (if b.ok then (if a.kind = 0 then 2 else if b.kind = 0 then 2 else if a.kind = b.kind then (if cmpT kd (a.cmp b) then 1 else 0) else -1) else -1) else -1) else -1
theorem cmpV_in (kd : Int) (a b : Val) : -1 ≤ cmpV kd a b ∧ cmpV kd a b ≤ 2 := by
  unfold cmpV
  repeat' split
  all_goals omega
theorem run_truthIf (d : Nat) (b : Bool) : retP (runD tab noExt (d + 1)) 164 [.bool b] = some [.int .i64 (if b then 1 else 0)] := by
  rw [retP, runD_eq find164 _ _ _ (by simp)]
  simp -implicitDefEqProofs (disch := omega) only [go_sem, Nat.reduceBEq, Nat.reduceAdd, Nat.reduceSub, Nat.reduceMul, Nat.reduceLeDiff, Nat.reduceEqDiff, Nat.reduceLT, Int.reduceNeg, Int.reduceAdd, Int.reduceSub, Int.reduceMul, Int.reduceLE, Int.reduceLT, Int.reduceEq, Int.reduceToNat, reduceCtorEq]
  repeat' ((first | rw [GuardI_ndec] | rw [CondC_ndec] | rw [GuardQ_ndec] | rw [GuardI_dec] | rw [CondC_dec] | rw [GuardQ_dec] | rw [GuardI_nby] | rw [CondC_nby] | rw [GuardQ_nby] | rw [GuardQ_by] | rw [GuardI_by] | rw [CondC_by]) <;> split <;> simp -implicitDefEqProofs (disch := omega) only [go_sem, Nat.reduceBEq, Nat.reduceAdd, Nat.reduceSub, Nat.reduceMul, Nat.reduceLeDiff, Nat.reduceEqDiff, Nat.reduceLT, Int.reduceNeg, Int.reduceAdd, Int.reduceSub, Int.reduceMul, Int.reduceLE, Int.reduceLT, Int.reduceEq, Int.reduceToNat, reduceCtorEq, *])
  all_goals simp_all
theorem run_l2Bool (d : Nat) (b : Bool) : retP (runD tab noExt (d + 1)) 168 [.bool b] = some [.int .i64 (if b then 1 else 0)] := by
  rw [retP, runD_eq find168 _ _ _ (by simp)]
  simp -implicitDefEqProofs (disch := omega) only [go_sem, Nat.reduceBEq, Nat.reduceAdd, Nat.reduceSub, Nat.reduceMul, Nat.reduceLeDiff, Nat.reduceEqDiff, Nat.reduceLT, Int.reduceNeg, Int.reduceAdd, Int.reduceSub, Int.reduceMul, Int.reduceLE, Int.reduceLT, Int.reduceEq, Int.reduceToNat, reduceCtorEq]
  repeat' ((first | rw [GuardI_ndec] | rw [CondC_ndec] | rw [GuardQ_ndec] | rw [GuardI_dec] | rw [CondC_dec] | rw [GuardQ_dec] | rw [GuardI_nby] | rw [CondC_nby] | rw [GuardQ_nby] | rw [GuardQ_by] | rw [GuardI_by] | rw [CondC_by]) <;> split <;> simp -implicitDefEqProofs (disch := omega) only [go_sem, Nat.reduceBEq, Nat.reduceAdd, Nat.reduceSub, Nat.reduceMul, Nat.reduceLeDiff, Nat.reduceEqDiff, Nat.reduceLT, Int.reduceNeg, Int.reduceAdd, Int.reduceSub, Int.reduceMul, Int.reduceLE, Int.reduceLT, Int.reduceEq, Int.reduceToNat, reduceCtorEq, *])
  all_goals simp_all
theorem ord_ok' {a b : Val} (h : a.ok = true) (h' : b.ok = true) : a.ord b = a.cmp b := by simp [Val.ord, h, h']
theorem run_CompareR (d : Nat) (kd : Int) (ak an : Int) (aq : ByteArray) (bk bn : Int) (bq : ByteArray) (h1 : aq.size < 1099511627776) (h2 : bq.size < 1099511627776) : retP (runD tab noExt (d + 5)) 150 [.int .i64 kd, .agg [.int .i64 ak, .int .i64 an, .str aq], .agg [.int .i64 bk, .int .i64 bn, .str bq]] = some [.int .i64 (cmpV kd (⟨ak, an, aq⟩ : Val) (⟨bk, bn, bq⟩ : Val))] := by
  rw [retP, runD_eq find150 _ _ _ (by simp)]
  simp -implicitDefEqProofs (disch := omega) only [go_sem, Nat.reduceBEq, Nat.reduceAdd, Nat.reduceSub, Nat.reduceMul, Nat.reduceLeDiff, Nat.reduceEqDiff, Nat.reduceLT, Int.reduceNeg, Int.reduceAdd, Int.reduceSub, Int.reduceMul, Int.reduceLE, Int.reduceLT, Int.reduceEq, Int.reduceToNat, reduceCtorEq, run_l1In, run_specValueOk, run_ValueOrder, run_l2Bool]
  repeat' ((first | rw [GuardI_ndec] | rw [CondC_ndec] | rw [GuardQ_ndec] | rw [GuardI_dec] | rw [CondC_dec] | rw [GuardQ_dec] | rw [GuardI_nby] | rw [CondC_nby] | rw [GuardQ_nby] | rw [GuardQ_by] | rw [GuardI_by] | rw [CondC_by]) <;> split <;> simp -implicitDefEqProofs (disch := omega) only [go_sem, Nat.reduceBEq, Nat.reduceAdd, Nat.reduceSub, Nat.reduceMul, Nat.reduceLeDiff, Nat.reduceEqDiff, Nat.reduceLT, Int.reduceNeg, Int.reduceAdd, Int.reduceSub, Int.reduceMul, Int.reduceLE, Int.reduceLT, Int.reduceEq, Int.reduceToNat, reduceCtorEq, run_l1In, run_specValueOk, run_ValueOrder, run_l2Bool, *])
  all_goals (first | (simp only [cmpV, cmpT, ord_ok', reduceIte, if_true, if_false, Bool.false_eq_true, *]; done) | (simp_all [cmpV, cmpT, ord_ok']; done) | (simp_all [cmpV, cmpT, ord_ok']; grind))
theorem run_CompareI (d : Nat) (kd : Int) (ak an : Int) (aq : ByteArray) (bk bn : Int) (bq : ByteArray) : retP (runD tab noExt (d + 5)) 159 [.int .i64 kd, .agg [.int .i64 ak, .int .i64 an, .str aq], .agg [.int .i64 bk, .int .i64 bn, .str bq]] = some [.int .i64 (cmpV kd (⟨ak, an, aq⟩ : Val) (⟨bk, bn, bq⟩ : Val))] := by
  rw [retP, runD_eq find159 _ _ _ (by simp)]
  simp -implicitDefEqProofs (disch := omega) only [go_sem, Nat.reduceBEq, Nat.reduceAdd, Nat.reduceSub, Nat.reduceMul, Nat.reduceLeDiff, Nat.reduceEqDiff, Nat.reduceLT, Int.reduceNeg, Int.reduceAdd, Int.reduceSub, Int.reduceMul, Int.reduceLE, Int.reduceLT, Int.reduceEq, Int.reduceToNat, reduceCtorEq, run_between, run_ok, run_order, run_truthIf]
  repeat' ((first | rw [GuardI_ndec] | rw [CondC_ndec] | rw [GuardQ_ndec] | rw [GuardI_dec] | rw [CondC_dec] | rw [GuardQ_dec] | rw [GuardI_nby] | rw [CondC_nby] | rw [GuardQ_nby] | rw [GuardQ_by] | rw [GuardI_by] | rw [CondC_by]) <;> split <;> simp -implicitDefEqProofs (disch := omega) only [go_sem, Nat.reduceBEq, Nat.reduceAdd, Nat.reduceSub, Nat.reduceMul, Nat.reduceLeDiff, Nat.reduceEqDiff, Nat.reduceLT, Int.reduceNeg, Int.reduceAdd, Int.reduceSub, Int.reduceMul, Int.reduceLE, Int.reduceLT, Int.reduceEq, Int.reduceToNat, reduceCtorEq, run_between, run_ok, run_order, run_truthIf, *])
  all_goals (first | (simp only [cmpV, cmpT, reduceIte, if_true, if_false, Bool.false_eq_true, *]; done) | (simp_all [cmpV, cmpT]; done) | (simp_all [cmpV, cmpT]; grind) | grind [cmpV, cmpT])

def truthOk (n : Int) : Bool := decide (0 ≤ n ∧ n ≤ 2)
def foldT (a b alone : Int) : Int := if truthOk a then (if truthOk b then (if a = alone then alone else if b = alone then alone else if a = 2 then 2 else if b = 2 then 2 else 1 - alone) else -1) else -1
def notT (a : Int) : Int := if a = 0 then 1 else if a = 1 then 0 else if a = 2 then 2 else -1
def truthV (v : Val) : Int := if v.ok then (if v.kind = 0 then 2 else if v.kind = 3 then v.n else -1) else -1
def valT (t : Int) : Val := if 0 ≤ t ∧ t ≤ 1 then ⟨3, t, ⟨#[]⟩⟩ else Val.zero
theorem run_truthOk (d : Nat) (n : Int) : retP (runD tab noExt (d + 2)) 180 [.int .i64 n] = some [.bool (truthOk n)] := by
  rw [retP, runD_eq find180 _ _ _ (by simp)]
  simp -implicitDefEqProofs (disch := omega) only [go_sem, Nat.reduceBEq, Nat.reduceAdd, Nat.reduceSub, Nat.reduceMul, Nat.reduceLeDiff, Nat.reduceEqDiff, Nat.reduceLT, Int.reduceNeg, Int.reduceAdd, Int.reduceSub, Int.reduceMul, Int.reduceLE, Int.reduceLT, Int.reduceEq, Int.reduceToNat, reduceCtorEq, run_between]
  repeat' ((first | rw [GuardI_ndec] | rw [CondC_ndec] | rw [GuardQ_ndec] | rw [GuardI_dec] | rw [CondC_dec] | rw [GuardQ_dec] | rw [GuardI_nby] | rw [CondC_nby] | rw [GuardQ_nby] | rw [GuardQ_by] | rw [GuardI_by] | rw [CondC_by]) <;> split <;> simp -implicitDefEqProofs (disch := omega) only [go_sem, Nat.reduceBEq, Nat.reduceAdd, Nat.reduceSub, Nat.reduceMul, Nat.reduceLeDiff, Nat.reduceEqDiff, Nat.reduceLT, Int.reduceNeg, Int.reduceAdd, Int.reduceSub, Int.reduceMul, Int.reduceLE, Int.reduceLT, Int.reduceEq, Int.reduceToNat, reduceCtorEq, run_between, *])
  all_goals (first | (simp only [truthOk, reduceIte, if_true, if_false, Bool.false_eq_true, *]; done) | (simp_all [truthOk]; done) | (simp_all [truthOk]; omega) | (simp_all [truthOk]; grind) | grind [truthOk])
theorem run_fold (d : Nat) (a b c : Int) (hc : 0 ≤ c) (hc' : c ≤ 1) : retP (runD tab noExt (d + 3)) 173 [.int .i64 a, .int .i64 b, .int .i64 c] = some [.int .i64 (foldT a b c)] := by
  rw [retP, runD_eq find173 _ _ _ (by simp)]
  simp -implicitDefEqProofs (disch := omega) only [go_sem, Nat.reduceBEq, Nat.reduceAdd, Nat.reduceSub, Nat.reduceMul, Nat.reduceLeDiff, Nat.reduceEqDiff, Nat.reduceLT, Int.reduceNeg, Int.reduceAdd, Int.reduceSub, Int.reduceMul, Int.reduceLE, Int.reduceLT, Int.reduceEq, Int.reduceToNat, reduceCtorEq, run_truthOk, IntWalk.i64_in]
  repeat' ((first | rw [GuardI_ndec] | rw [CondC_ndec] | rw [GuardQ_ndec] | rw [GuardI_dec] | rw [CondC_dec] | rw [GuardQ_dec] | rw [GuardI_nby] | rw [CondC_nby] | rw [GuardQ_nby] | rw [GuardQ_by] | rw [GuardI_by] | rw [CondC_by]) <;> split <;> simp -implicitDefEqProofs (disch := omega) only [go_sem, Nat.reduceBEq, Nat.reduceAdd, Nat.reduceSub, Nat.reduceMul, Nat.reduceLeDiff, Nat.reduceEqDiff, Nat.reduceLT, Int.reduceNeg, Int.reduceAdd, Int.reduceSub, Int.reduceMul, Int.reduceLE, Int.reduceLT, Int.reduceEq, Int.reduceToNat, reduceCtorEq, run_truthOk, IntWalk.i64_in, *])
  all_goals (first | (simp only [foldT, reduceIte, if_true, if_false, Bool.false_eq_true, *]; done) | (simp_all [foldT]; done) | (simp_all [foldT]; omega) | (simp_all [foldT]; grind) | grind [foldT])
theorem run_AndOf (d : Nat) (a b : Int) : retP (runD tab noExt (d + 4)) 160 [.int .i64 a, .int .i64 b] = some [.int .i64 (foldT a b 0)] := by
  rw [retP, runD_eq find160 _ _ _ (by simp)]
  simp -implicitDefEqProofs (disch := omega) only [go_sem, Nat.reduceBEq, Nat.reduceAdd, Nat.reduceSub, Nat.reduceMul, Nat.reduceLeDiff, Nat.reduceEqDiff, Nat.reduceLT, Int.reduceNeg, Int.reduceAdd, Int.reduceSub, Int.reduceMul, Int.reduceLE, Int.reduceLT, Int.reduceEq, Int.reduceToNat, reduceCtorEq, run_fold]
  repeat' ((first | rw [GuardI_ndec] | rw [CondC_ndec] | rw [GuardQ_ndec] | rw [GuardI_dec] | rw [CondC_dec] | rw [GuardQ_dec] | rw [GuardI_nby] | rw [CondC_nby] | rw [GuardQ_nby] | rw [GuardQ_by] | rw [GuardI_by] | rw [CondC_by]) <;> split <;> simp -implicitDefEqProofs (disch := omega) only [go_sem, Nat.reduceBEq, Nat.reduceAdd, Nat.reduceSub, Nat.reduceMul, Nat.reduceLeDiff, Nat.reduceEqDiff, Nat.reduceLT, Int.reduceNeg, Int.reduceAdd, Int.reduceSub, Int.reduceMul, Int.reduceLE, Int.reduceLT, Int.reduceEq, Int.reduceToNat, reduceCtorEq, run_fold, *])
  all_goals simp_all
theorem run_OrOf (d : Nat) (a b : Int) : retP (runD tab noExt (d + 4)) 162 [.int .i64 a, .int .i64 b] = some [.int .i64 (foldT a b 1)] := by
  rw [retP, runD_eq find162 _ _ _ (by simp)]
  simp -implicitDefEqProofs (disch := omega) only [go_sem, Nat.reduceBEq, Nat.reduceAdd, Nat.reduceSub, Nat.reduceMul, Nat.reduceLeDiff, Nat.reduceEqDiff, Nat.reduceLT, Int.reduceNeg, Int.reduceAdd, Int.reduceSub, Int.reduceMul, Int.reduceLE, Int.reduceLT, Int.reduceEq, Int.reduceToNat, reduceCtorEq, run_fold]
  repeat' ((first | rw [GuardI_ndec] | rw [CondC_ndec] | rw [GuardQ_ndec] | rw [GuardI_dec] | rw [CondC_dec] | rw [GuardQ_dec] | rw [GuardI_nby] | rw [CondC_nby] | rw [GuardQ_nby] | rw [GuardQ_by] | rw [GuardI_by] | rw [CondC_by]) <;> split <;> simp -implicitDefEqProofs (disch := omega) only [go_sem, Nat.reduceBEq, Nat.reduceAdd, Nat.reduceSub, Nat.reduceMul, Nat.reduceLeDiff, Nat.reduceEqDiff, Nat.reduceLT, Int.reduceNeg, Int.reduceAdd, Int.reduceSub, Int.reduceMul, Int.reduceLE, Int.reduceLT, Int.reduceEq, Int.reduceToNat, reduceCtorEq, run_fold, *])
  all_goals simp_all
theorem run_NotOf (d : Nat) (a : Int) : retP (runD tab noExt (d + 1)) 163 [.int .i64 a] = some [.int .i64 (notT a)] := by
  rw [retP, runD_eq find163 _ _ _ (by simp)]
  simp -implicitDefEqProofs (disch := omega) only [go_sem, Nat.reduceBEq, Nat.reduceAdd, Nat.reduceSub, Nat.reduceMul, Nat.reduceLeDiff, Nat.reduceEqDiff, Nat.reduceLT, Int.reduceNeg, Int.reduceAdd, Int.reduceSub, Int.reduceMul, Int.reduceLE, Int.reduceLT, Int.reduceEq, Int.reduceToNat, reduceCtorEq]
  repeat' ((first | rw [GuardI_ndec] | rw [CondC_ndec] | rw [GuardQ_ndec] | rw [GuardI_dec] | rw [CondC_dec] | rw [GuardQ_dec] | rw [GuardI_nby] | rw [CondC_nby] | rw [GuardQ_nby] | rw [GuardQ_by] | rw [GuardI_by] | rw [CondC_by]) <;> split <;> simp -implicitDefEqProofs (disch := omega) only [go_sem, Nat.reduceBEq, Nat.reduceAdd, Nat.reduceSub, Nat.reduceMul, Nat.reduceLeDiff, Nat.reduceEqDiff, Nat.reduceLT, Int.reduceNeg, Int.reduceAdd, Int.reduceSub, Int.reduceMul, Int.reduceLE, Int.reduceLT, Int.reduceEq, Int.reduceToNat, reduceCtorEq, *])
  all_goals (first | (simp only [notT, reduceIte, if_true, if_false, Bool.false_eq_true, *]; done) | (simp_all [notT]; done) | (simp_all [notT]; omega) | (simp_all [notT]; grind) | grind [notT])
theorem run_TruthOf (d : Nat) (ak an : Int) (aq : ByteArray) : retP (runD tab noExt (d + 4)) 161 [.agg [.int .i64 ak, .int .i64 an, .str aq]] = some [.int .i64 (truthV (⟨ak, an, aq⟩ : Val))] := by
  rw [retP, runD_eq find161 _ _ _ (by simp)]
  simp -implicitDefEqProofs (disch := omega) only [go_sem, Nat.reduceBEq, Nat.reduceAdd, Nat.reduceSub, Nat.reduceMul, Nat.reduceLeDiff, Nat.reduceEqDiff, Nat.reduceLT, Int.reduceNeg, Int.reduceAdd, Int.reduceSub, Int.reduceMul, Int.reduceLE, Int.reduceLT, Int.reduceEq, Int.reduceToNat, reduceCtorEq, run_ok]
  repeat' ((first | rw [GuardI_ndec] | rw [CondC_ndec] | rw [GuardQ_ndec] | rw [GuardI_dec] | rw [CondC_dec] | rw [GuardQ_dec] | rw [GuardI_nby] | rw [CondC_nby] | rw [GuardQ_nby] | rw [GuardQ_by] | rw [GuardI_by] | rw [CondC_by]) <;> split <;> simp -implicitDefEqProofs (disch := omega) only [go_sem, Nat.reduceBEq, Nat.reduceAdd, Nat.reduceSub, Nat.reduceMul, Nat.reduceLeDiff, Nat.reduceEqDiff, Nat.reduceLT, Int.reduceNeg, Int.reduceAdd, Int.reduceSub, Int.reduceMul, Int.reduceLE, Int.reduceLT, Int.reduceEq, Int.reduceToNat, reduceCtorEq, run_ok, *])
  all_goals (first | (simp only [truthV, reduceIte, if_true, if_false, Bool.false_eq_true, *]; done) | (simp_all [truthV]; done) | (simp_all [truthV]; omega) | (simp_all [truthV]; grind) | grind [truthV])
theorem run_ValueOf (d : Nat) (t : Int) : retP (runD tab noExt (d + 2)) 138 [.int .i64 t] = some [.agg (Val.cells (valT t))] := by
  rw [retP, runD_eq find138 _ _ _ (by simp)]
  simp -implicitDefEqProofs (disch := omega) only [go_sem, Nat.reduceBEq, Nat.reduceAdd, Nat.reduceSub, Nat.reduceMul, Nat.reduceLeDiff, Nat.reduceEqDiff, Nat.reduceLT, Int.reduceNeg, Int.reduceAdd, Int.reduceSub, Int.reduceMul, Int.reduceLE, Int.reduceLT, Int.reduceEq, Int.reduceToNat, reduceCtorEq, run_between]
  repeat' ((first | rw [GuardI_ndec] | rw [CondC_ndec] | rw [GuardQ_ndec] | rw [GuardI_dec] | rw [CondC_dec] | rw [GuardQ_dec] | rw [GuardI_nby] | rw [CondC_nby] | rw [GuardQ_nby] | rw [GuardQ_by] | rw [GuardI_by] | rw [CondC_by]) <;> split <;> simp -implicitDefEqProofs (disch := omega) only [go_sem, Nat.reduceBEq, Nat.reduceAdd, Nat.reduceSub, Nat.reduceMul, Nat.reduceLeDiff, Nat.reduceEqDiff, Nat.reduceLT, Int.reduceNeg, Int.reduceAdd, Int.reduceSub, Int.reduceMul, Int.reduceLE, Int.reduceLT, Int.reduceEq, Int.reduceToNat, reduceCtorEq, run_between, *])
  all_goals (first | (simp only [valT, Val.cells, Val.zero, reduceIte, if_true, if_false, Bool.false_eq_true, *]; done) | (simp_all [valT, Val.cells, Val.zero]; done) | (simp_all [valT, Val.cells, Val.zero]; omega) | (simp_all [valT, Val.cells, Val.zero]; grind) | grind [valT, Val.cells, Val.zero])
end Go.Proofs.Ytgepapgabnaonaa.PE
/- What a part puts down, the program's. -/
set_option linter.unusedSimpArgs false
set_option linter.unusedVariables false
set_option maxHeartbeats 4000000
namespace Go.Proofs.Ytgepapgabnaonaa.PE
open Go.RowKit

def addV (a b : Val) : Val := if a.kind = 0 then Val.zero else if b.kind = 0 then Val.zero else if Val.ok ⟨1, IntKind.i64.wrap (a.n + b.n), ⟨#[]⟩⟩ then ⟨1, IntKind.i64.wrap (a.n + b.n), ⟨#[]⟩⟩ else Val.zero
def val2 (k n : Int) (a b : Val) : Val := if k = 3 then addV a b else if k = 4 then valT (cmpV n a b) else if k = 5 then valT (foldT (truthV a) (truthV b) 0) else valT (foldT (truthV a) (truthV b) 1)
def val1 (k : Int) (a : Val) : Val := if k = 7 then valT (notT (truthV a)) else valT (if a.kind = 0 then 1 else 0)
def val0 (k n : Int) (v : Val) (row : List Val) : Val := if k = 1 then v else row.getD n.toNat Val.zero

-- find129
theorem run_val2 (d : Nat) (py pz : Int) (pvk pvn : Int) (pvq : ByteArray) (c c' : Bool) (row : List (List V)) (a b : Val) (h : py = 3 ∨ py = 4 ∨ py = 5 ∨ py = 6) :
    retP (runD tab noExt (d + 6)) 129 [.agg [.int .i64 py, .int .i64 pz, .int .i64 pvk, .int .i64 pvn, .str pvq], .sl c 3 row, .sl c' 3 [Val.cells a, Val.cells b]] = some [.agg (Val.cells (val2 py pz a b))] := by
  rw [retP, runD_eq find129 _ _ _ (by simp)]
  rcases h with rfl | rfl | rfl | rfl
  · simp -implicitDefEqProofs (disch := omega) only [go_sem, Nat.reduceBEq, Nat.reduceAdd, Nat.reduceSub, Nat.reduceMul, Nat.reduceLeDiff, Nat.reduceEqDiff, Nat.reduceLT, Int.reduceNeg, Int.reduceAdd, Int.reduceSub, Int.reduceMul, Int.reduceLE, Int.reduceLT, Int.reduceEq, Int.reduceToNat, reduceCtorEq, evC_draw, evD129x0, E129x0, Val.cells, Int.toNat_zero, Int.toNat_one, run_ok, List.getLast?_cons_cons]
    repeat' ((first | rw [GuardI_ndec] | rw [CondC_ndec] | rw [GuardQ_ndec] | rw [GuardI_dec] | rw [CondC_dec] | rw [GuardQ_dec] | rw [GuardI_nby] | rw [CondC_nby] | rw [GuardQ_nby] | rw [GuardQ_by] | rw [GuardI_by] | rw [CondC_by]) <;> split <;> simp -implicitDefEqProofs (disch := omega) only [go_sem, Nat.reduceBEq, Nat.reduceAdd, Nat.reduceSub, Nat.reduceMul, Nat.reduceLeDiff, Nat.reduceEqDiff, Nat.reduceLT, Int.reduceNeg, Int.reduceAdd, Int.reduceSub, Int.reduceMul, Int.reduceLE, Int.reduceLT, Int.reduceEq, Int.reduceToNat, reduceCtorEq, run_ok, Val.cells, *])
    all_goals (simp_all [val2, addV, Val.zero, Val.cells])
  · simp -implicitDefEqProofs (disch := omega) only [go_sem, Nat.reduceBEq, Nat.reduceAdd, Nat.reduceSub, Nat.reduceMul, Nat.reduceLeDiff, Nat.reduceEqDiff, Nat.reduceLT, Int.reduceNeg, Int.reduceAdd, Int.reduceSub, Int.reduceMul, Int.reduceLE, Int.reduceLT, Int.reduceEq, Int.reduceToNat, reduceCtorEq, evC_draw, evD129x1, E129x1, Val.cells, Int.toNat_zero, Int.toNat_one, run_CompareI, Val.eta, run_ValueOf]
    simp [val2]
  · simp -implicitDefEqProofs (disch := omega) only [go_sem, Nat.reduceBEq, Nat.reduceAdd, Nat.reduceSub, Nat.reduceMul, Nat.reduceLeDiff, Nat.reduceEqDiff, Nat.reduceLT, Int.reduceNeg, Int.reduceAdd, Int.reduceSub, Int.reduceMul, Int.reduceLE, Int.reduceLT, Int.reduceEq, Int.reduceToNat, reduceCtorEq, evC_draw, evD129x2, E129x2, Val.cells, Int.toNat_zero, Int.toNat_one, run_TruthOf, run_AndOf, Val.eta, run_ValueOf]
    simp [val2]
  · simp -implicitDefEqProofs (disch := omega) only [go_sem, Nat.reduceBEq, Nat.reduceAdd, Nat.reduceSub, Nat.reduceMul, Nat.reduceLeDiff, Nat.reduceEqDiff, Nat.reduceLT, Int.reduceNeg, Int.reduceAdd, Int.reduceSub, Int.reduceMul, Int.reduceLE, Int.reduceLT, Int.reduceEq, Int.reduceToNat, reduceCtorEq, evC_draw, evD129x3, E129x3, Val.cells, Int.toNat_zero, Int.toNat_one, run_TruthOf, run_OrOf, Val.eta, run_ValueOf]
    simp [val2]
theorem run_val1 (d : Nat) (py pz : Int) (pvk pvn : Int) (pvq : ByteArray) (c c' : Bool) (row : List (List V)) (a : Val) (h : py = 7 ∨ py = 8) :
    retP (runD tab noExt (d + 6)) 129 [.agg [.int .i64 py, .int .i64 pz, .int .i64 pvk, .int .i64 pvn, .str pvq], .sl c 3 row, .sl c' 3 [Val.cells a]] = some [.agg (Val.cells (val1 py a))] := by
  rw [retP, runD_eq find129 _ _ _ (by simp)]
  rcases h with rfl | rfl
  · simp -implicitDefEqProofs (disch := omega) only [go_sem, Nat.reduceBEq, Nat.reduceAdd, Nat.reduceSub, Nat.reduceMul, Nat.reduceLeDiff, Nat.reduceEqDiff, Nat.reduceLT, Int.reduceNeg, Int.reduceAdd, Int.reduceSub, Int.reduceMul, Int.reduceLE, Int.reduceLT, Int.reduceEq, Int.reduceToNat, reduceCtorEq, Val.cells, Int.toNat_zero, run_TruthOf, run_NotOf, Val.eta, run_ValueOf]
    simp [val1]
  · simp -implicitDefEqProofs (disch := omega) only [go_sem, Nat.reduceBEq, Nat.reduceAdd, Nat.reduceSub, Nat.reduceMul, Nat.reduceLeDiff, Nat.reduceEqDiff, Nat.reduceLT, Int.reduceNeg, Int.reduceAdd, Int.reduceSub, Int.reduceMul, Int.reduceLE, Int.reduceLT, Int.reduceEq, Int.reduceToNat, reduceCtorEq, Val.cells, Int.toNat_zero, run_truthIf, Val.eta, run_ValueOf]
    simp [val1]
theorem run_val0 (d : Nat) (py pz : Int) (pvk pvn : Int) (pvq : ByteArray) (c c' : Bool) (row : List Val) (ins : List (List V)) (h : py = 1 ∨ py = 2 ∧ 0 ≤ pz ∧ pz < row.length) :
    retP (runD tab noExt (d + 6)) 129 [.agg [.int .i64 py, .int .i64 pz, .int .i64 pvk, .int .i64 pvn, .str pvq], .sl c 3 (row.map Val.cells), .sl c' 3 ins] = some [.agg (Val.cells (val0 py pz (⟨pvk, pvn, pvq⟩ : Val) row))] := by
  rw [retP, runD_eq find129 _ _ _ (by simp)]
  rcases h with rfl | ⟨rfl, h1, h2⟩
  · simp -implicitDefEqProofs (disch := omega) only [go_sem, Nat.reduceBEq, Nat.reduceAdd, Nat.reduceSub, Nat.reduceMul, Nat.reduceLeDiff, Nat.reduceEqDiff, Nat.reduceLT, Int.reduceNeg, Int.reduceAdd, Int.reduceSub, Int.reduceMul, Int.reduceLE, Int.reduceLT, Int.reduceEq, Int.reduceToNat, reduceCtorEq]
    simp [val0, Val.cells]
  · have hat : row[pz.toNat]? = some (row.getD pz.toNat Val.zero) := at_getD _ (by omega)
    simp -implicitDefEqProofs (disch := omega) only [go_sem, Nat.reduceBEq, Nat.reduceAdd, Nat.reduceSub, Nat.reduceMul, Nat.reduceLeDiff, Nat.reduceEqDiff, Nat.reduceLT, Int.reduceNeg, Int.reduceAdd, Int.reduceSub, Int.reduceMul, Int.reduceLE, Int.reduceLT, Int.reduceEq, Int.reduceToNat, reduceCtorEq, hat, h1, Val.cells]
    simp [val0]

theorem takes_in' (p : Prt) : 0 ≤ p.takes ∧ p.takes ≤ 2 := by
  unfold Prt.takes
  repeat' split
  all_goals omega
/-- What stands behind a part, of values. -/
def evS (row : List Val) (st : List Val) (p : Prt) : Option (List Val) :=
  if p.kind = 3 ∨ p.kind = 4 ∨ p.kind = 5 ∨ p.kind = 6 then (if 2 ≤ st.length then some (st.take (st.length - 2) ++ [val2 p.kind p.n (st.getD (st.length - 2) Val.zero) (st.getD (st.length - 1) Val.zero)]) else none)
  else if p.kind = 7 ∨ p.kind = 8 then (if 1 ≤ st.length then some (st.take (st.length - 1) ++ [val1 p.kind (st.getD (st.length - 1) Val.zero)]) else none)
  else if p.kind = 1 ∨ p.kind = 2 ∧ 0 ≤ p.n ∧ p.n < row.length then some (st ++ [val0 p.kind p.n p.v row]) else none
theorem drop_two {α : Type} (l : List α) (z : α) (h : 2 ≤ l.length) : l.drop (l.length - 2) = [l.getD (l.length - 2) z, l.getD (l.length - 1) z] := by
  rw [List.drop_eq_getElem_cons (by omega), show l.length - 2 + 1 = l.length - 1 by omega, List.drop_eq_getElem_cons (by omega), show l.length - 1 + 1 = l.length by omega, List.drop_length]
  simp [List.getD_eq_getElem?_getD, List.getElem?_eq_getElem (show l.length - 2 < l.length by omega), List.getElem?_eq_getElem (show l.length - 1 < l.length by omega)]
theorem drop_one {α : Type} (l : List α) (z : α) (h : 1 ≤ l.length) : l.drop (l.length - 1) = [l.getD (l.length - 1) z] := by
  rw [List.drop_eq_getElem_cons (by omega), show l.length - 1 + 1 = l.length by omega, List.drop_length]
  simp [List.getD_eq_getElem?_getD, List.getElem?_eq_getElem (show l.length - 1 < l.length by omega)]
/-- One part on a stack. -/
theorem run_valS (d : Nat) (c : Bool) (row : List Val) (st l : List Val) (p : Prt) (h : evS row st p = some l) :
    p.takes.toNat ≤ st.length ∧ ∃ v, l = st.take (st.length - p.takes.toNat) ++ [v] ∧
      retP (runD tab noExt (d + 6)) 129 [.agg [.int .i64 p.kind, .int .i64 p.n, .int .i64 p.v.kind, .int .i64 p.v.n, .str p.v.s], .sl c 3 (row.map Val.cells), .sl false 3 ((st.map Val.cells).drop (st.length - p.takes.toNat))] = some [.agg (Val.cells v)] := by
  unfold evS at h
  split at h
  · rename_i hk
    split at h
    · rename_i hl
      injection h with h
      have ht : p.takes = 2 := by unfold Prt.takes; rcases hk with hk | hk | hk | hk <;> simp [hk]
      rw [ht]
      refine ⟨hl, _, h.symm, ?_⟩
      rw [← List.map_drop, show st.length - (2 : Int).toNat = st.length - 2 from rfl, drop_two st Val.zero hl]
      exact run_val2 d p.kind p.n p.v.kind p.v.n p.v.s c false _ _ _ hk
    · cases h
  · split at h
    · rename_i hk
      split at h
      · rename_i hl
        injection h with h
        have ht : p.takes = 1 := by unfold Prt.takes; rcases hk with hk | hk <;> simp [hk]
        rw [ht]
        refine ⟨hl, _, h.symm, ?_⟩
        rw [← List.map_drop, show st.length - (1 : Int).toNat = st.length - 1 from rfl, drop_one st Val.zero hl]
        exact run_val1 d p.kind p.n p.v.kind p.v.n p.v.s c false _ _ hk
      · cases h
    · split at h
      · rename_i hk
        injection h with h
        have ht : p.takes = 0 := by unfold Prt.takes; rcases hk with hk | ⟨hk, _⟩ <;> simp [hk]
        rw [ht]
        refine ⟨Nat.zero_le _, val0 p.kind p.n p.v row, ?_, run_val0 d p.kind p.n p.v.kind p.v.n p.v.s c false row _ hk⟩
        rw [← h]
        simp
      · cases h

theorem loop_exprV (d : Nat) (c c' : Bool) (row : List Val) (ps : List Prt) (hp : ps.length ≤ 1000) : ∀ (rest : List Prt) (i : Nat), ps.drop i = rest → i ≤ ps.length → ∀ (K stm : Nat) (st l : List Val), rest.length ≤ K → st.length ≤ i → runStp (evS row) st rest = some l →
    ∃ stm', LoopS (runD tab noExt (d + 6)) (drawI (runD tab noExt (d + 6))) [0, 4, 5, 10, 11, 12] [4, 5] L74x0 2 K [(0, .sl c 3 (row.map Val.cells)), (4, .ptr 0 0 0 0), (5, .ref 1 stm 0 st.length false), (10, .sl c' 5 (ps.map Prt.cells)), (11, .int .i64 (ps.length : Int)), (12, .int .i64 (i : Int))] [.box [.int .i64 0, .int .i64 0, .str ⟨#[]⟩], .rows stm 3 (st.map Val.cells)] =
      (some (.exit 0, [(4, .ptr 0 0 0 0), (5, .ref 1 stm' 0 l.length false)], [.box [.int .i64 0, .int .i64 0, .str ⟨#[]⟩], .rows stm' 3 (l.map Val.cells)]) : Out) := by
  refine drop_to ps (fun i rest => ∀ (K stm : Nat) (st l : List Val), rest.length ≤ K → st.length ≤ i → runStp (evS row) st rest = some l →
    ∃ stm', LoopS (runD tab noExt (d + 6)) (drawI (runD tab noExt (d + 6))) [0, 4, 5, 10, 11, 12] [4, 5] L74x0 2 K [(0, .sl c 3 (row.map Val.cells)), (4, .ptr 0 0 0 0), (5, .ref 1 stm 0 st.length false), (10, .sl c' 5 (ps.map Prt.cells)), (11, .int .i64 (ps.length : Int)), (12, .int .i64 (i : Int))] [.box [.int .i64 0, .int .i64 0, .str ⟨#[]⟩], .rows stm 3 (st.map Val.cells)] =
      (some (.exit 0, [(4, .ptr 0 0 0 0), (5, .ref 1 stm' 0 l.length false)], [.box [.int .i64 0, .int .i64 0, .str ⟨#[]⟩], .rows stm' 3 (l.map Val.cells)]) : Out)) ?_ ?_
  · intro K stm st l hK hst hr
    simp only [runStp, Option.some.injEq] at hr
    subst hr
    rw [LoopS_eq]
    simp -implicitDefEqProofs only [go_sem, Nat.reduceBEq, Nat.reduceAdd, Nat.reduceSub, Nat.reduceMul, Nat.reduceLeDiff, Nat.reduceEqDiff, Nat.reduceLT, Int.reduceNeg, Int.reduceAdd, Int.reduceSub, Int.reduceMul, Int.reduceLE, Int.reduceLT, Int.reduceEq, Int.reduceToNat, reduceCtorEq, evL74x0, B74x0, Int.lt_irrefl]
    exact ⟨stm, rfl⟩
  · intro i x r hi hx ih K stm st l hK hst hr
    have hi' : (i : Int) < ps.length := by omega
    obtain ⟨K, rfl⟩ : ∃ K', K = K' + 1 := ⟨K - 1, by simp at hK; omega⟩
    obtain ⟨t1, t2⟩ := takes_in' x
    simp only [runStp] at hr
    split at hr
    · rename_i st' hs
      obtain ⟨h1, v, h2, hval⟩ := run_valS d c row st st' x hs
      have hd : (st.length : Int) - x.takes = ((st.length - x.takes.toNat : Nat) : Int) := by omega
      have hle : ((st.length - x.takes.toNat : Nat) : Int) ≤ (st.length : Int) := by omega
      have htk : ((st.map Val.cells).drop (st.length - x.takes.toNat)).take (st.length - (st.length - x.takes.toNat)) = (st.map Val.cells).drop (st.length - x.takes.toNat) := List.take_of_length_le (by simp)
      generalize hAe : st.length - x.takes.toNat = A at *
      have hA : A ≤ st.length := by omega
      have h3 : A + 1 < 4294967296 := by omega
      have h4 : st.length + 1 < 4294967296 := by omega
      have hlen : st'.length = A + 1 := by rw [h2]; simp; omega
      have hmap : st'.map Val.cells = (st.map Val.cells).take A ++ [Val.cells v] := by rw [h2]; simp [List.map_take]
      obtain ⟨stm', ih'⟩ := ih K (stm + 1) st' l (by simp at hK; omega) (by omega) hr
      rw [hlen, hmap] at ih'
      simp only [Int.natCast_add, Int.natCast_one, Val.cells] at ih' hval
      refine ⟨stm', ?_⟩
      by_cases hAl : A = st.length
      · have hAl' : (A = st.length) = True := eq_true hAl
        have htk2 : (st.map Val.cells).take A = st.map Val.cells := List.take_of_length_le (by simp; omega)
        rw [htk2] at ih'
        rw [← ih', LoopS_eq]
        simp -implicitDefEqProofs (disch := first | omega | assumption) only [go_sem, Nat.reduceBEq, Nat.reduceAdd, Nat.reduceSub, Nat.reduceMul, Nat.reduceLeDiff, Nat.reduceEqDiff, Nat.reduceLT, Int.reduceNeg, Int.reduceAdd, Int.reduceSub, Int.reduceMul, Int.reduceLE, Int.reduceLT, Int.reduceEq, Int.reduceToNat, reduceCtorEq, evL74x0, B74x0, evC_draw, evD74x0, E74x0, evC_draw, evD74x1, E74x1, hi', hx, Prt.cells, run_takes, Val.eta, Prt.eta, IntWalk.i64_in, hd, hle, htk, hval, Val.cells, h3, hAl', if_true, if_false]
      · have hAl' : (A = st.length) = False := eq_false hAl
        rw [← ih', LoopS_eq]
        simp -implicitDefEqProofs (disch := first | omega | assumption) only [go_sem, Nat.reduceBEq, Nat.reduceAdd, Nat.reduceSub, Nat.reduceMul, Nat.reduceLeDiff, Nat.reduceEqDiff, Nat.reduceLT, Int.reduceNeg, Int.reduceAdd, Int.reduceSub, Int.reduceMul, Int.reduceLE, Int.reduceLT, Int.reduceEq, Int.reduceToNat, reduceCtorEq, evL74x0, B74x0, evC_draw, evD74x0, E74x0, evC_draw, evD74x1, E74x1, hi', hx, Prt.cells, run_takes, Val.eta, Prt.eta, IntWalk.i64_in, hd, hle, htk, hval, Val.cells, h3, hAl', if_true, if_false]
    · cases hr
end Go.Proofs.Ytgepapgabnaonaa.PE
/- The value of an expression, the program's. -/
set_option linter.unusedSimpArgs false
set_option linter.unusedVariables false
set_option maxHeartbeats 4000000
namespace Go.Proofs.Ytgepapgabnaonaa.PE
open Go.RowKit

-- find74
theorem run_exprV (d : Nat) (c c' : Bool) (row : List Val) (ps : List Prt) (v : Val) (l : List Val) (hp : ps.length ≤ 1000) (h : runStp (evS row) [] ps = some (v :: l)) : retP (runD tab noExt (d + 7)) 74 [.sl c 3 (row.map Val.cells), .sl c' 5 (ps.map Prt.cells)] = some [.agg (Val.cells v)] := by
  rw [retP, runD_eq find74 _ _ _ (by simp)]
  obtain ⟨stm', hl⟩ := loop_exprV d c c' row ps hp ps 0 rfl (Nat.zero_le _) 1099511627775 0 [] (v :: l) (by omega) (Nat.zero_le _) h
  simp only [List.length_nil, List.map_nil, Int.natCast_zero] at hl
  have h0 : (0 : Nat) < (v :: l).length := by simp
  simp -implicitDefEqProofs (disch := omega) only [go_sem, Nat.reduceBEq, Nat.reduceAdd, Nat.reduceSub, Nat.reduceMul, Nat.reduceLeDiff, Nat.reduceEqDiff, Nat.reduceLT, Int.reduceNeg, Int.reduceAdd, Int.reduceSub, Int.reduceMul, Int.reduceLE, Int.reduceLT, Int.reduceEq, Int.reduceToNat, reduceCtorEq]
  rw [hl]
  simp -implicitDefEqProofs (disch := omega) only [go_sem, Nat.reduceBEq, Nat.reduceAdd, Nat.reduceSub, Nat.reduceMul, Nat.reduceLeDiff, Nat.reduceEqDiff, Nat.reduceLT, Int.reduceNeg, Int.reduceAdd, Int.reduceSub, Int.reduceMul, Int.reduceLE, Int.reduceLT, Int.reduceEq, Int.reduceToNat, reduceCtorEq, Int.toNat_zero, Val.cells, Nat.zero_lt_succ]

/-- Kinds that can be put down are values that can be. -/
theorem evS_of {cs : List Col} {row : List Val} (hrow : row.length = cs.length) {p : Prt} {ks ks' : List Int} {st : List Val} (hl : st.length = ks.length) (h : stpI cs ks p = some ks') : ∃ st', evS row st p = some st' ∧ st'.length = ks'.length := by
  unfold stpI at h
  split at h
  · rename_i ht
    split at h
    · cases h
    · rename_i hle
      split at h
      · injection h with h
        have hlen := congrArg List.length h
        simp only [List.length_append, List.length_take, List.length_singleton] at hlen
        have hin := takes_in p
        by_cases hk2 : p.kind = 3 ∨ p.kind = 4 ∨ p.kind = 5 ∨ p.kind = 6
        · have htk : p.takes = 2 := by unfold Prt.takes; rcases hk2 with hk | hk | hk | hk <;> simp [hk]
          rw [htk] at hle hlen
          have : 2 ≤ st.length := by omega
          refine ⟨_, by unfold evS; rw [if_pos hk2, if_pos this], ?_⟩
          simp
          simp at hlen
          omega
        · by_cases hk1 : p.kind = 7 ∨ p.kind = 8
          · have htk : p.takes = 1 := by unfold Prt.takes; rcases hk1 with hk | hk <;> simp [hk]
            rw [htk] at hle hlen
            have : 1 ≤ st.length := by omega
            refine ⟨_, by unfold evS; rw [if_neg hk2, if_pos hk1, if_pos this], ?_⟩
            simp
            simp at hlen
            omega
          · have htk : p.takes = 0 := by unfold Prt.takes; grind
            rw [htk] at hle hlen
            have hk0 : p.kind = 1 ∨ p.kind = 2 ∧ 0 ≤ p.n ∧ p.n < row.length := by
              by_cases k1 : p.kind = 1
              · exact .inl k1
              · by_cases k2 : p.kind = 2
                · obtain ⟨g1, g2⟩ := tells_col ht k2
                  exact .inr ⟨k2, g1, by omega⟩
                · exfalso
                  unfold Prt.tells at ht
                  grind
            refine ⟨_, by unfold evS; rw [if_neg hk2, if_neg hk1, if_pos hk0], ?_⟩
            simp
            simp at hlen
            omega
      · cases h
  · cases h
theorem run_evS {cs : List Col} {row : List Val} (hrow : row.length = cs.length) : ∀ {ps : List Prt} {ks ks' : List Int} {st : List Val}, st.length = ks.length → runStp (stpI cs) ks ps = some ks' → ∃ st', runStp (evS row) st ps = some st' ∧ st'.length = ks'.length
  | [], ks, ks', st, hl, h => by
    simp only [runStp, Option.some.injEq] at h
    subst h
    exact ⟨st, rfl, hl⟩
  | p :: ps, ks, ks', st, hl, h => by
    simp only [runStp] at h
    split at h
    · rename_i k1 hk
      obtain ⟨s1, h1, h2⟩ := evS_of hrow hl hk
      obtain ⟨s2, h3, h4⟩ := run_evS hrow h2 h
      exact ⟨s2, by simp only [runStp, h1]; exact h3, h4⟩
    · cases h
def evExpr (row : List Val) (ps : List Prt) : Val := match runStp (evS row) [] ps with
  | some (v :: _) => v
  | _ => Val.zero
def exprVal (cs : List Col) (row : List Val) (ps : List Prt) : Val := if exprKind cs ps < 0 then Val.zero else if fitsRow cs row then evExpr row ps else Val.zero
theorem exprKind_spec {cs : List Col} {ps : List Prt} (h : ¬ exprKind cs ps < 0) : colsOk cs = true ∧ ps.length ≤ 12 ∧ ∃ k, runStp (stpI cs) [] ps = some [k] ∧ exprKind cs ps = k := by
  unfold exprKind at h ⊢
  split at h
  · rename_i h1
    split at h
    · simp at h
    · rename_i h2
      split at h
      · rename_i k hk
        refine ⟨h1, by omega, k, hk, ?_⟩
        simp [h1, h2, hk]
      · simp at h
  · simp at h
theorem fits_eq {cs : List Col} {row : List Val} (h : fitsRow cs row = true) : row.length = cs.length := by
  simp only [fitsRow, Bool.and_eq_true, decide_eq_true_eq] at h
  exact h.1.2
-- find21
theorem run_exprValueI (d : Nat) (c c' c2 : Bool) (cs : List Col) (row : List Val) (ps : List Prt) (hc : cs.length < 1099511627776) (hs : row.length < 1099511627776) :
    retP (runD tab noExt (d + 9)) 21 [.sl c 2 (cs.map Col.cells), .sl c2 3 (row.map Val.cells), .sl c' 5 (ps.map Prt.cells)] = some [.agg (Val.cells (exprVal cs row ps))] := by
  rw [retP, runD_eq find21 _ _ _ (by simp)]
  by_cases h1 : exprKind cs ps < 0
  · simp -implicitDefEqProofs (disch := first | omega | assumption) only [go_sem, Nat.reduceBEq, Nat.reduceAdd, Nat.reduceSub, Nat.reduceMul, Nat.reduceLeDiff, Nat.reduceEqDiff, Nat.reduceLT, Int.reduceNeg, Int.reduceAdd, Int.reduceSub, Int.reduceMul, Int.reduceLE, Int.reduceLT, Int.reduceEq, Int.reduceToNat, reduceCtorEq, run_exprKindI, h1]
    simp [exprVal, h1, Val.cells, Val.zero]
  · by_cases h2 : fitsRow cs row = true
    · obtain ⟨g1, g2, k, g3, g4⟩ := exprKind_spec h1
      obtain ⟨st, g5, g6⟩ := run_evS (row := row) (fits_eq h2) (st := []) rfl g3
      match st, g5, g6 with
      | v :: l, g5, g6 =>
        have hv := run_exprV (d + 1) c2 c' row ps v l (by omega) g5
        simp -implicitDefEqProofs (disch := first | omega | assumption) only [go_sem, Nat.reduceBEq, Nat.reduceAdd, Nat.reduceSub, Nat.reduceMul, Nat.reduceLeDiff, Nat.reduceEqDiff, Nat.reduceLT, Int.reduceNeg, Int.reduceAdd, Int.reduceSub, Int.reduceMul, Int.reduceLE, Int.reduceLT, Int.reduceEq, Int.reduceToNat, reduceCtorEq, run_exprKindI, run_fitsI, h1, h2, hv, Val.cells]
        simp [exprVal, h1, h2, evExpr, g5]
    · simp -implicitDefEqProofs (disch := first | omega | assumption) only [go_sem, Nat.reduceBEq, Nat.reduceAdd, Nat.reduceSub, Nat.reduceMul, Nat.reduceLeDiff, Nat.reduceEqDiff, Nat.reduceLT, Int.reduceNeg, Int.reduceAdd, Int.reduceSub, Int.reduceMul, Int.reduceLE, Int.reduceLT, Int.reduceEq, Int.reduceToNat, reduceCtorEq, run_exprKindI, run_fitsI, h1, h2]
      simp [exprVal, h1, h2, Val.cells, Val.zero]
end Go.Proofs.Ytgepapgabnaonaa.PE
/- Moved expressions: what is computed. -/
set_option linter.unusedSimpArgs false
set_option linter.unusedVariables false
set_option maxHeartbeats 4000000
namespace Go.Proofs.Ytgepapgabnaonaa.PE
open Go.RowKit

theorem loop_sameParts (d : Nat) (c c' : Bool) (a b : List Prt) (hs : a.length < 1099511627776) (hlen : a.length = b.length) (K : Nat) (hK : (a.zip b).length ≤ K) : LoopS (runD tab noExt d) (drawI (runD tab noExt d)) [0, 1, 5] [4] L17x0 ([] : Heap).length K [(0, .sl c 5 (a.map Prt.cells)), (1, .sl c' 5 (b.map Prt.cells)), (5, .int .i64 0)] [] = if (a.zip b).all (fun p => decide (p.1 = p.2)) then (some (.exit 0, [(4, .undef)], []) : Out) else (some (.ret, [(4, .bool false)], []) : Out) := by
  have key := LoopS_all (run := (runD tab noExt d)) (draw := drawI (runD tab noExt d)) (live := [0, 1, 5]) (out := [4]) (c := L17x0) (n0 := ([] : Heap).length) (a.zip b) (fun p => decide (p.1 = p.2)) (fun (i : Nat) => [(0, .sl c 5 (a.map Prt.cells)), (1, .sl c' 5 (b.map Prt.cells)), (5, .int .i64 i)]) [] (some (.exit 0, [(4, .undef)], []) : Out) (some (.ret, [(4, .bool false)], []) : Out) (fun K => ?_) (fun (i : Nat) (x : Prt × Prt) K hi hx => ?_) K hK
  · simp only [Int.natCast_zero] at key
    exact key
  · rw [LoopS_eq]
    simp -implicitDefEqProofs only [go_sem, Nat.reduceBEq, Nat.reduceAdd, Nat.reduceSub, Nat.reduceMul, Nat.reduceLeDiff, Nat.reduceEqDiff, Nat.reduceLT, Int.reduceNeg, Int.reduceAdd, Int.reduceSub, Int.reduceMul, Int.reduceLE, Int.reduceLT, Int.reduceEq, Int.reduceToNat, reduceCtorEq, evL17x0, B17x0, Int.lt_irrefl, List.length_zip, hlen, Nat.min_self, evC_draw, evD17x0, E17x0, Prt.cells]
  · obtain ⟨g1, g2⟩ := List.getElem?_zip_eq_some.1 hx; rw [List.length_zip, hlen, Nat.min_self] at hi; obtain ⟨⟨k1, n1, a1, b1, s1⟩, ⟨k2, n2, a2, b2, s2⟩⟩ := x
    rw [LoopS_eq]
    simp -implicitDefEqProofs (disch := omega) only [go_sem, Nat.reduceBEq, Nat.reduceAdd, Nat.reduceSub, Nat.reduceMul, Nat.reduceLeDiff, Nat.reduceEqDiff, Nat.reduceLT, Int.reduceNeg, Int.reduceAdd, Int.reduceSub, Int.reduceMul, Int.reduceLE, Int.reduceLT, Int.reduceEq, Int.reduceToNat, reduceCtorEq, evL17x0, B17x0, hi, hx, IntWalk.i64_in, List.length_zip, hlen, Nat.min_self, evC_draw, evD17x0, E17x0, Prt.cells, *]
    repeat' ((first | rw [GuardI_ndec] | rw [CondC_ndec] | rw [GuardQ_ndec] | rw [GuardI_dec] | rw [CondC_dec] | rw [GuardQ_dec] | rw [GuardI_nby] | rw [CondC_nby] | rw [GuardQ_nby] | rw [GuardQ_by] | rw [GuardI_by] | rw [CondC_by]) <;> split <;> simp -implicitDefEqProofs (disch := omega) only [go_sem, Nat.reduceBEq, Nat.reduceAdd, Nat.reduceSub, Nat.reduceMul, Nat.reduceLeDiff, Nat.reduceEqDiff, Nat.reduceLT, Int.reduceNeg, Int.reduceAdd, Int.reduceSub, Int.reduceMul, Int.reduceLE, Int.reduceLT, Int.reduceEq, Int.reduceToNat, reduceCtorEq, hi, hx, IntWalk.i64_in, List.length_zip, hlen, Nat.min_self, evC_draw, evD17x0, E17x0, Prt.cells, *, *])
    all_goals first | rfl | (simp_all [Prt.mk.injEq, Val.mk.injEq]; done) | (simp_all [Prt.mk.injEq, Val.mk.injEq]; omega)
theorem zip_sameP {α : Type} [DecidableEq α] : ∀ (a b : List α), a.length = b.length → ((a.zip b).all fun p => decide (p.1 = p.2)) = decide (a = b)
  | [], [], _ => by simp
  | x :: a, y :: b, h => by
    have := zip_sameP a b (by simpa using h)
    simp only [List.zip_cons_cons, List.all_cons, this]
    by_cases h1 : x = y <;> by_cases h2 : a = b <;> simp [h1, h2]
  | [], _ :: _, h => by simp at h
  | _ :: _, [], h => by simp at h
-- find17
theorem run_sameParts (d : Nat) (c c' : Bool) (a b : List Prt) (hs : a.length < 1099511627776) : retP (runD tab noExt (d + 1)) 17 [.sl c 5 (a.map Prt.cells), .sl c' 5 (b.map Prt.cells)] = some [.bool (decide (a = b))] := by
  rw [retP, runD_eq find17 _ _ _ (by simp)]
  by_cases hlen : a.length = b.length
  · have hl := loop_sameParts d c c' a b hs hlen 1099511627775 (by simp; omega)
    simp -implicitDefEqProofs only [go_sem, Nat.reduceBEq, Nat.reduceAdd, Nat.reduceSub, Nat.reduceMul, Nat.reduceLeDiff, Nat.reduceEqDiff, Nat.reduceLT, Int.reduceNeg, Int.reduceAdd, Int.reduceSub, Int.reduceMul, Int.reduceLE, Int.reduceLT, Int.reduceEq, Int.reduceToNat, reduceCtorEq, hlen] at hl ⊢
    rw [hl, zip_sameP a b hlen]
    by_cases h : a = b <;> simp -implicitDefEqProofs only [go_sem, Nat.reduceBEq, Nat.reduceAdd, Nat.reduceSub, Nat.reduceMul, Nat.reduceLeDiff, Nat.reduceEqDiff, Nat.reduceLT, Int.reduceNeg, Int.reduceAdd, Int.reduceSub, Int.reduceMul, Int.reduceLE, Int.reduceLT, Int.reduceEq, Int.reduceToNat, reduceCtorEq, h]
  · have h1 : ((a.length : Int) = b.length) = False := eq_false (by omega)
    have h2 : ¬ a = b := fun e => hlen (by rw [e])
    simp -implicitDefEqProofs only [go_sem, Nat.reduceBEq, Nat.reduceAdd, Nat.reduceSub, Nat.reduceMul, Nat.reduceLeDiff, Nat.reduceEqDiff, Nat.reduceLT, Int.reduceNeg, Int.reduceAdd, Int.reduceSub, Int.reduceMul, Int.reduceLE, Int.reduceLT, Int.reduceEq, Int.reduceToNat, reduceCtorEq, h1, h2]
def mvd (to : List Int) (p : Prt) : Prt := if p.kind = 2 then ⟨p.kind, to.getD p.n.toNat 0, p.v⟩ else p
def placeOk (x : Int) : Bool := decide (0 ≤ x ∧ x ≤ 3)
def moved (cs : List Col) (ps : List Prt) (to : List Int) : List Prt := if exprKind cs ps < 0 then [] else if to.length = cs.length then (if to.all placeOk then ps.map (mvd to) else []) else []
def mixM (to : List Int) (i : Nat) (ps : List Prt) : List (List V) := (ps.take i).map (fun p => (mvd to p).cells) ++ (ps.drop i).map Prt.cells
theorem mix_len (to : List Int) (i : Nat) (ps : List Prt) : (mixM to i ps).length = ps.length := by simp [mixM]; omega
theorem mix_at {to : List Int} {i : Nat} {ps : List Prt} {x : Prt} (h : ps[i]? = some x) : (mixM to i ps)[i]? = some [.int .i64 x.kind, .int .i64 x.n, .int .i64 x.v.kind, .int .i64 x.v.n, .str x.v.s] := by
  have hi := (List.getElem?_eq_some_iff.1 h).1
  unfold mixM
  rw [List.getElem?_append_right (by simp; omega)]
  simp only [List.length_map, List.length_take, Nat.min_eq_left (Nat.le_of_lt hi), Nat.sub_self, List.getElem?_map, List.getElem?_drop, Nat.add_zero, h, Option.map_some, Prt.cells]
theorem mix_set {to : List Int} {i : Nat} {ps : List Prt} {x : Prt} (h : ps[i]? = some x) : (mixM to i ps).set i (mvd to x).cells = mixM to (i + 1) ps := by
  obtain ⟨hi, hx⟩ := List.getElem?_eq_some_iff.1 h
  unfold mixM
  rw [List.set_append_right _ _ (by simp; omega)]
  simp only [List.length_map, List.length_take, Nat.min_eq_left (Nat.le_of_lt hi), Nat.sub_self]
  rw [List.drop_eq_getElem_cons hi, hx, List.map_cons, List.set_cons_zero, List.take_add_one, h]
  simp
theorem mix_same {to : List Int} {i : Nat} {ps : List Prt} {x : Prt} (h : ps[i]? = some x) (hk : ¬ x.kind = 2) : mixM to (i + 1) ps = mixM to i ps := by
  obtain ⟨hi, hx⟩ := List.getElem?_eq_some_iff.1 h
  have e : mvd to x = x := by unfold mvd; rw [if_neg hk]
  unfold mixM
  rw [List.drop_eq_getElem_cons hi, hx, List.map_cons, List.take_add_one, h]
  simp [e]
theorem mix_zero (to : List Int) (ps : List Prt) : mixM to 0 ps = ps.map Prt.cells := by simp [mixM]
theorem mix_all (to : List Int) (ps : List Prt) : mixM to ps.length ps = (ps.map (mvd to)).map Prt.cells := by simp [mixM]
theorem mvd_cells {to : List Int} {x : Prt} (hk : x.kind = 2) : (mvd to x).cells = [.int .i64 2, .int .i64 (to.getD x.n.toNat 0), .int .i64 x.v.kind, .int .i64 x.v.n, .str x.v.s] := by
  unfold mvd
  rw [if_pos hk, hk]
  rfl
def Places (to : List Int) (ps : List Prt) : Prop := ∀ p ∈ ps, p.kind = 2 → 0 ≤ p.n ∧ p.n < to.length
theorem loop_exprMoved (d : Nat) (c : Bool) (to : List Int) (ps : List Prt) (hp : ps.length < 4294967296) (ht : Places to ps) (K : Nat) (hK : (ps).length ≤ K) (b0 : Unit) (hb0 : (fun (i : Nat) (b : Unit) => True) 0 b0) : LoopS (runD tab noExt d) (drawI (runD tab noExt d)) [1, 5, 10, 11, 12] [5] L69x0 ([.rows 0 5 (mixM to (0) ps)] : Heap).length K [(1, .sl c 1 (to.map intC)), (5, .ref 0 0 0 ps.length true), (10, .ref 0 0 0 ps.length true), (11, .int .i64 (ps.length : Int)), (12, .int .i64 (0 : Nat))] [.rows 0 5 (mixM to (0) ps)] = (some (.exit 0, [(5, .ref 0 0 0 ps.length true)], [.rows 0 5 (mixM to ((ps).length) ps)]) : Out) ∧ (fun (i : Nat) (b : Unit) => True) (ps).length ((ps).foldl (fun b _ => b) b0) := by
  have key := LoopS_foldI (run := (runD tab noExt d)) (draw := drawI (runD tab noExt d)) (live := [1, 5, 10, 11, 12]) (out := [5]) (c := L69x0) (n0 := ([.rows 0 5 (mixM to (0) ps)] : Heap).length) (ps) (fun b _ => b) (fun (i : Nat) (b : Unit) => True) (fun (i : Nat) (b : Unit) => [(1, .sl c 1 (to.map intC)), (5, .ref 0 0 0 ps.length true), (10, .ref 0 0 0 ps.length true), (11, .int .i64 (ps.length : Int)), (12, .int .i64 (i : Nat))]) (fun (i : Nat) (b : Unit) => [.rows 0 5 (mixM to (i) ps)]) (fun b => (some (.exit 0, [(5, .ref 0 0 0 ps.length true)], [.rows 0 5 (mixM to ((ps).length) ps)]) : Out)) (fun b K hb => ?_) (fun (i : Nat) (x : Prt) b K hi hx hb => ?_) K hK b0 hb0
  · simp only [Int.natCast_zero] at key
    exact key
  · rw [LoopS_eq]
    simp -implicitDefEqProofs only [go_sem, Nat.reduceBEq, Nat.reduceAdd, Nat.reduceSub, Nat.reduceMul, Nat.reduceLeDiff, Nat.reduceEqDiff, Nat.reduceLT, Int.reduceNeg, Int.reduceAdd, Int.reduceSub, Int.reduceMul, Int.reduceLE, Int.reduceLT, Int.reduceEq, Int.reduceToNat, reduceCtorEq, evL69x0, B69x0, Int.lt_irrefl]
  · have hat := mix_at (to := to) hx; have hi2 : i < ps.length := (by omega); by_cases e1 : x.kind = 2 <;> (first | (have hset := mix_same (to := to) hx e1) | (have hset := mix_set (to := to) hx; rw [mvd_cells e1] at hset; obtain ⟨hn0, hn1⟩ := ht x (List.mem_of_getElem? hx) e1; have hto := at_getD (0 : Int) (show x.n.toNat < to.length by omega)))
    all_goals
      refine ⟨?_, ?_⟩
      · trivial
      · rw [LoopS_eq]
        simp -implicitDefEqProofs (disch := first | omega | assumption) only [go_sem, Nat.reduceBEq, Nat.reduceAdd, Nat.reduceSub, Nat.reduceMul, Nat.reduceLeDiff, Nat.reduceEqDiff, Nat.reduceLT, Int.reduceNeg, Int.reduceAdd, Int.reduceSub, Int.reduceMul, Int.reduceLE, Int.reduceLT, Int.reduceEq, Int.reduceToNat, reduceCtorEq, evL69x0, B69x0, hi, hx, IntWalk.i64_in, List.map_append, List.foldl_cons, hat, hi2, mix_len, e1, intC, hset]
        (first | done | simp -implicitDefEqProofs (disch := first | omega | assumption) only [go_sem, Nat.reduceBEq, Nat.reduceAdd, Nat.reduceSub, Nat.reduceMul, Nat.reduceLeDiff, Nat.reduceEqDiff, Nat.reduceLT, Int.reduceNeg, Int.reduceAdd, Int.reduceSub, Int.reduceMul, Int.reduceLE, Int.reduceLT, Int.reduceEq, Int.reduceToNat, reduceCtorEq, intC, IntWalk.i64_in, *])
theorem clipkPrt (d : Nat) (l : List (List V)) (n : Nat) (hn : n = l.length) : callX (runD tab noExt (d + 1)) [.rows 0 5 l] 2 155 [.ref 0 0 0 n false] = some (.ref 0 0 0 n true, [.rows 0 5 l]) := by
  subst hn
  simp only [callX, callK]
  rw [runD_eq find155 _ _ _ (by simp)]
  simp -implicitDefEqProofs (disch := omega) only [go_sem, Nat.reduceBEq, Nat.reduceAdd, Nat.reduceSub, Nat.reduceMul, Nat.reduceLeDiff, Nat.reduceEqDiff, Nat.reduceLT, Int.reduceNeg, Int.reduceAdd, Int.reduceSub, Int.reduceMul, Int.reduceLE, Int.reduceLT, Int.reduceEq, Int.reduceToNat, reduceCtorEq, List.take_length, Bool.true_or, resOk]
theorem runcPrt (d : Nat) (c : Bool) (l : List (List V)) (h0 : 0 < l.length) (hl : l.length < 4294967296) : runD tab noExt (d + 2) 123 [.sl c 5 l] [] = some ([.ref 0 0 0 l.length true], [.rows 0 5 l]) := by
  rw [runD_eq find123 _ _ _ (by simp)]
  match l, h0, hl with
  | [], h0, _ => exact absurd h0 (by decide)
  | x :: r, _, hl =>
    have h0 : ((r.length : Int) + 1 = 0) = False := eq_false (by omega)
    have h1 : r.length + 1 < 4294967296 := by simpa using hl
    have hc := clipkPrt d (x :: r) (r.length + 1) (by simp)
    simp -implicitDefEqProofs (disch := omega) only [go_sem, Nat.reduceBEq, Nat.reduceAdd, Nat.reduceSub, Nat.reduceMul, Nat.reduceLeDiff, Nat.reduceEqDiff, Nat.reduceLT, Int.reduceNeg, Int.reduceAdd, Int.reduceSub, Int.reduceMul, Int.reduceLE, Int.reduceLT, Int.reduceEq, Int.reduceToNat, reduceCtorEq, List.length_cons, h0, h1, hc]
theorem runnPrt (d : Nat) (c : Bool) : runD tab noExt (d + 2) 123 [.sl c 5 []] [] = some ([.sl true 5 []], []) := by
  rw [runD_eq find123 _ _ _ (by simp)]
  simp -implicitDefEqProofs (disch := omega) only [go_sem, Nat.reduceBEq, Nat.reduceAdd, Nat.reduceSub, Nat.reduceMul, Nat.reduceLeDiff, Nat.reduceEqDiff, Nat.reduceLT, Int.reduceNeg, Int.reduceAdd, Int.reduceSub, Int.reduceMul, Int.reduceLE, Int.reduceLT, Int.reduceEq, Int.reduceToNat, reduceCtorEq]
theorem clonePrt (d : Nat) (c : Bool) (l : List (List V)) (hl : l.length < 4294967296) : retP (runD tab noExt (d + 2)) 123 [.sl c 5 l] = some [.sl true 5 l] := by
  match l, hl with
  | [], _ => rw [retP, runnPrt]; rfl
  | x :: r, hl =>
    rw [retP, runcPrt d c (x :: r) (by simp) hl]
    simp -implicitDefEqProofs only [go_sem, Nat.reduceBEq, Nat.reduceAdd, Nat.reduceSub, Nat.reduceMul, Nat.reduceLeDiff, Nat.reduceEqDiff, Nat.reduceLT, Int.reduceNeg, Int.reduceAdd, Int.reduceSub, Int.reduceMul, Int.reduceLE, Int.reduceLT, Int.reduceEq, Int.reduceToNat, reduceCtorEq, List.take_length]
theorem clonexPrt (d : Nat) (h : Heap) (c : Bool) (l : List (List V)) (h0 : 0 < l.length) (hl : l.length < 4294967296) (hf : l.all (fun x => x.all freshC) = true) : callX (runD tab noExt (d + 2)) h 0 123 [.sl c 5 l] = some (.ref h.length 0 0 l.length true, h ++ [.rows 0 5 l]) := by
  simp only [callX, callO, pureDAs, mapO, pureDA, pureD, deepest, runcPrt d c l h0 hl, BackO, List.all_cons, List.all_nil, scalarA, scalar, freshA, freshC, Bool.false_eq_true, Bool.false_and, Bool.and_self, if_false, if_true, List.map_cons, List.map_nil, oneOf, shA, shC, Nat.zero_add, movedH, clean, hf, shB]
theorem clonenPrt (d : Nat) (h : Heap) (c : Bool) : callX (runD tab noExt (d + 2)) h 0 123 [.sl c 5 []] = some (.sl true 5 [], h) := by
  simp only [callX, callO, pureDAs, mapO, pureDA, pureD, deepest, runnPrt d c, BackO, List.all_cons, List.all_nil, scalarA, scalar, freshA, freshC, isNil, Bool.false_eq_true, Bool.false_and, Bool.and_self, if_false, if_true, List.map_cons, List.map_nil, oneOf, shA, shC, movedH, List.append_nil]

theorem prt_fresh (ps : List Prt) : (ps.map Prt.cells).all (fun x => x.all freshC) = true := by
  rw [List.all_map, List.all_eq_true]
  intro p _
  rfl
-- find69
theorem own_exprMoved (d : Nat) (c c' : Bool) (to : List Int) (ps : List Prt) (h0 : 0 < ps.length) (hl : ps.length < 4294967296) (ht : Places to ps) : runD tab noExt (d + 3) 69 [.sl c 5 (ps.map Prt.cells), .sl c' 1 (to.map intC)] [] = some ([.ref 0 0 0 ps.length true], [.rows 0 5 ((ps.map (mvd to)).map Prt.cells)]) := by
  rw [runD_eq find69 _ _ _ (by simp)]
  have hk := clonexPrt d [] c (ps.map Prt.cells) (by simpa using h0) (by simpa using hl) (prt_fresh ps)
  simp only [List.length_map, List.length_nil, List.nil_append] at hk
  have hlp := (loop_exprMoved (d + 2) c' to ps hl ht 1099511627775 (by omega) () trivial).1
  simp only [mix_zero, mix_all, Int.natCast_zero, List.length_cons, List.length_nil, Nat.zero_add] at hlp
  simp -implicitDefEqProofs (disch := omega) only [go_sem, Nat.reduceBEq, Nat.reduceAdd, Nat.reduceSub, Nat.reduceMul, Nat.reduceLeDiff, Nat.reduceEqDiff, Nat.reduceLT, Int.reduceNeg, Int.reduceAdd, Int.reduceSub, Int.reduceMul, Int.reduceLE, Int.reduceLT, Int.reduceEq, Int.reduceToNat, reduceCtorEq, hk]
  rw [hlp]
  simp -implicitDefEqProofs (disch := omega) only [go_sem, Nat.reduceBEq, Nat.reduceAdd, Nat.reduceSub, Nat.reduceMul, Nat.reduceLeDiff, Nat.reduceEqDiff, Nat.reduceLT, Int.reduceNeg, Int.reduceAdd, Int.reduceSub, Int.reduceMul, Int.reduceLE, Int.reduceLT, Int.reduceEq, Int.reduceToNat, reduceCtorEq]
theorem run_exprMoved (d : Nat) (c c' : Bool) (to : List Int) (ps : List Prt) (h0 : 0 < ps.length) (hl : ps.length < 4294967296) (ht : Places to ps) : retP (runD tab noExt (d + 3)) 69 [.sl c 5 (ps.map Prt.cells), .sl c' 1 (to.map intC)] = some [.sl true 5 ((ps.map (mvd to)).map Prt.cells)] := by
  rw [retP, own_exprMoved d c c' to ps h0 hl ht]
  have e : List.take ps.length ((ps.map (mvd to)).map Prt.cells) = (ps.map (mvd to)).map Prt.cells := List.take_of_length_le (by simp)
  simp -implicitDefEqProofs (disch := omega) only [go_sem, Nat.reduceBEq, Nat.reduceAdd, Nat.reduceSub, Nat.reduceMul, Nat.reduceLeDiff, Nat.reduceEqDiff, Nat.reduceLT, Int.reduceNeg, Int.reduceAdd, Int.reduceSub, Int.reduceMul, Int.reduceLE, Int.reduceLT, Int.reduceEq, Int.reduceToNat, reduceCtorEq, e]
theorem stp_tellsM {cs : List Col} : ∀ {ps : List Prt} {ks ks' : List Int}, runStp (stpI cs) ks ps = some ks' → ∀ p ∈ ps, p.tells cs.length = true
  | [], _, _, _ => fun p h => by cases h
  | q :: ps, ks, ks', h => by
    simp only [runStp] at h
    split at h
    · rename_i k1 hk
      intro p hp
      rcases List.mem_cons.1 hp with rfl | hp
      · unfold stpI at hk
        split at hk
        · assumption
        · cases hk
      · exact stp_tellsM h p hp
    · cases h
theorem kind_places {cs : List Col} {ps : List Prt} (h : ¬ exprKind cs ps < 0) {to : List Int} (hl : to.length = cs.length) : Places to ps ∧ 0 < ps.length ∧ ps.length ≤ 12 := by
  obtain ⟨g1, g2, k, g3, g4⟩ := exprKind_spec h
  refine ⟨fun p hp hk => ?_, ?_, g2⟩
  · have ht := stp_tellsM g3 p hp
    unfold Prt.tells at ht
    rw [if_neg (by omega), if_pos hk] at ht
    split at ht
    · rw [hl]; omega
    · cases ht
  · refine Nat.pos_of_ne_zero (fun h0 => ?_)
    have := List.eq_nil_of_length_eq_zero h0
    subst this
    simp [runStp] at g3
end Go.Proofs.Ytgepapgabnaonaa.PE
/- Moved expressions: the two functions. -/
set_option linter.unusedSimpArgs false
set_option linter.unusedVariables false
set_option maxHeartbeats 4000000
namespace Go.Proofs.Ytgepapgabnaonaa.PE
open Go.RowKit

-- find67
theorem clo_place (d : Nat) (x : Int) : callS (runD tab noExt (d + 2)) [] 67 [.int .i64 x] false = some (.bool (!placeOk x), []) := by
  rw [callS_eq, runD_eq find67 _ _ _ (by simp)]
  simp -implicitDefEqProofs (disch := omega) only [go_sem, Nat.reduceBEq, Nat.reduceAdd, Nat.reduceSub, Nat.reduceMul, Nat.reduceLeDiff, Nat.reduceEqDiff, Nat.reduceLT, Int.reduceNeg, Int.reduceAdd, Int.reduceSub, Int.reduceMul, Int.reduceLE, Int.reduceLT, Int.reduceEq, Int.reduceToNat, reduceCtorEq, run_between, placeOk]
theorem any_place (to : List Int) : (to.any fun x => !placeOk x) = !(to.all placeOk) := by
  induction to with
  | nil => rfl
  | cons x r ih => rw [List.any_cons, List.all_cons, ih, Bool.not_and]
-- find16
theorem own_ExprMovedI (d : Nat) (c c' c2 : Bool) (cs : List Col) (ps : List Prt) (to : List Int) (hc : cs.length < 1099511627776) (ht : to.length < 1099511627776) :
    (moved cs ps to ≠ [] ∧ runD tab noExt (d + 7) 16 [.sl c 2 (cs.map Col.cells), .sl c' 5 (ps.map Prt.cells), .sl c2 1 (to.map intC)] [] = some ([.ref 0 0 0 ps.length true], [.rows 0 5 ((moved cs ps to).map Prt.cells)])) ∨
    (moved cs ps to = [] ∧ runD tab noExt (d + 7) 16 [.sl c 2 (cs.map Col.cells), .sl c' 5 (ps.map Prt.cells), .sl c2 1 (to.map intC)] [] = some ([.sl true 5 []], [])) := by
  rw [runD_eq find16 _ _ _ (by simp)]
  have hk := run_exprKindI d c c' cs ps hc
  have hcon := conInt (d + 4) [] c2 67 [] to (fun x => !placeOk x) ht rfl rfl (fun x _ => clo_place (d + 2) x)
  rw [any_place] at hcon
  unfold moved
  by_cases h1 : exprKind cs ps < 0
  · refine .inr ?_
    simp -implicitDefEqProofs (disch := omega) only [go_sem, Nat.reduceBEq, Nat.reduceAdd, Nat.reduceSub, Nat.reduceMul, Nat.reduceLeDiff, Nat.reduceEqDiff, Nat.reduceLT, Int.reduceNeg, Int.reduceAdd, Int.reduceSub, Int.reduceMul, Int.reduceLE, Int.reduceLT, Int.reduceEq, Int.reduceToNat, reduceCtorEq, hk, h1, if_true]
  · by_cases h2 : to.length = cs.length
    · have h3 : ((to.length : Int) = cs.length) = True := eq_true (by omega)
      obtain ⟨k1, k2, k3⟩ := kind_places h1 h2
      have hm := own_exprMoved (d + 3) c' c2 to ps k2 (by omega) k1
      have hx : callX (runD tab noExt (d + 3 + 3)) [] 0 69 [.sl c' 5 (ps.map Prt.cells), .sl c2 1 (to.map intC)] = some (.ref 0 0 0 ps.length true, [.rows 0 5 ((ps.map (mvd to)).map Prt.cells)]) := by
        simp only [callX, callO, pureDAs, mapO, pureDA, pureD, deepest, hm, BackO, List.all_cons, List.all_nil, scalarA, scalar, freshA, freshC, Bool.false_eq_true, Bool.false_and, Bool.and_self, if_false, if_true, List.map_cons, List.map_nil, oneOf, shA, shC, Nat.zero_add, movedH, clean, prt_fresh, shB, List.length_nil, List.nil_append]
      cases h4 : to.all placeOk
      · rw [h4] at hcon
        refine .inr ?_
        simp -implicitDefEqProofs (disch := omega) only [go_sem, Nat.reduceBEq, Nat.reduceAdd, Nat.reduceSub, Nat.reduceMul, Nat.reduceLeDiff, Nat.reduceEqDiff, Nat.reduceLT, Int.reduceNeg, Int.reduceAdd, Int.reduceSub, Int.reduceMul, Int.reduceLE, Int.reduceLT, Int.reduceEq, Int.reduceToNat, reduceCtorEq, hk, h1, h2, h3, hcon, if_true, if_false, Bool.false_eq_true, Bool.not_false]
      · rw [h4] at hcon
        refine .inl ⟨?_, ?_⟩
        · rw [if_neg h1, if_pos h2, if_pos rfl]
          intro e
          rw [List.map_eq_nil_iff] at e
          subst e
          exact absurd k2 (by decide)
        · simp -implicitDefEqProofs (disch := omega) only [go_sem, Nat.reduceBEq, Nat.reduceAdd, Nat.reduceSub, Nat.reduceMul, Nat.reduceLeDiff, Nat.reduceEqDiff, Nat.reduceLT, Int.reduceNeg, Int.reduceAdd, Int.reduceSub, Int.reduceMul, Int.reduceLE, Int.reduceLT, Int.reduceEq, Int.reduceToNat, reduceCtorEq, hk, h1, h2, h3, hcon, hx, if_true, if_false, Bool.false_eq_true, Bool.not_true]
    · have h3 : ((to.length : Int) = cs.length) = False := eq_false (by omega)
      refine .inr ?_
      simp -implicitDefEqProofs (disch := omega) only [go_sem, Nat.reduceBEq, Nat.reduceAdd, Nat.reduceSub, Nat.reduceMul, Nat.reduceLeDiff, Nat.reduceEqDiff, Nat.reduceLT, Int.reduceNeg, Int.reduceAdd, Int.reduceSub, Int.reduceMul, Int.reduceLE, Int.reduceLT, Int.reduceEq, Int.reduceToNat, reduceCtorEq, hk, h1, h2, h3, if_true, if_false]
theorem run_ExprMovedI (d : Nat) (c c' c2 : Bool) (cs : List Col) (ps : List Prt) (to : List Int) (hc : cs.length < 1099511627776) (ht : to.length < 1099511627776) :
    retP (runD tab noExt (d + 7)) 16 [.sl c 2 (cs.map Col.cells), .sl c' 5 (ps.map Prt.cells), .sl c2 1 (to.map intC)] = some [.sl true 5 ((moved cs ps to).map Prt.cells)] := by
  rcases own_ExprMovedI d c c' c2 cs ps to hc ht with ⟨h1, h2⟩ | ⟨h1, h2⟩
  · have hl : ((moved cs ps to).map Prt.cells).length ≤ ps.length := by
      unfold moved
      split
      · simp
      · split
        · split <;> simp
        · simp
    rw [retP, h2]
    simp -implicitDefEqProofs only [go_sem, Nat.reduceBEq, Nat.reduceAdd, Nat.reduceSub, Nat.reduceMul, Nat.reduceLeDiff, Nat.reduceEqDiff, Nat.reduceLT, Int.reduceNeg, Int.reduceAdd, Int.reduceSub, Int.reduceMul, Int.reduceLE, Int.reduceLT, Int.reduceEq, Int.reduceToNat, reduceCtorEq, List.take_of_length_le hl]
  · rw [retP, h2, h1]
    simp -implicitDefEqProofs only [go_sem, Nat.reduceBEq, Nat.reduceAdd, Nat.reduceSub, Nat.reduceMul, Nat.reduceLeDiff, Nat.reduceEqDiff, Nat.reduceLT, Int.reduceNeg, Int.reduceAdd, Int.reduceSub, Int.reduceMul, Int.reduceLE, Int.reduceLT, Int.reduceEq, Int.reduceToNat, reduceCtorEq]
theorem loop_placeS (d : Nat) (c' c2 : Bool) (ps : List Prt) (to : List Int) (ht : to.length < 1099511627776) :
    LoopS (runD tab noExt (d + 1)) (drawI (runD tab noExt (d + 1))) [1, 2, 7, 8] [1, 2, 6, 7] L18x0 2 1099511627775 [(1, .sl c' 5 (ps.map Prt.cells)), (2, .sl c2 1 (to.map intC)), (7, .ref 1 0 0 0 false), (8, .int .i64 0)] [.rows 0 5 [], .rows 0 5 []] =
      if to.all placeOk then (some (.exit 0, [(1, .sl c' 5 (ps.map Prt.cells)), (2, .sl c2 1 (to.map intC)), (6, .undef), (7, .ref 1 0 0 0 false)], [.rows 0 5 [], .rows 0 5 []]) : Out)
      else (some (.ret, [(1, .sl c' 5 (ps.map Prt.cells)), (2, .sl c2 1 (to.map intC)), (6, .ref 2 0 0 0 false), (7, .ref 1 0 0 0 false)], [.rows 0 5 [], .rows 0 5 [], .rows 0 5 []]) : Out) := by
  have key := LoopS_all (run := runD tab noExt (d + 1)) (draw := drawI (runD tab noExt (d + 1))) (live := [1, 2, 7, 8]) (out := [1, 2, 6, 7]) (c := L18x0) (n0 := 2) to placeOk (fun (i : Nat) => [(1, .sl c' 5 (ps.map Prt.cells)), (2, .sl c2 1 (to.map intC)), (7, .ref 1 0 0 0 false), (8, .int .i64 (i : Int))]) [.rows 0 5 [], .rows 0 5 []]
    (some (.exit 0, [(1, .sl c' 5 (ps.map Prt.cells)), (2, .sl c2 1 (to.map intC)), (6, .undef), (7, .ref 1 0 0 0 false)], [.rows 0 5 [], .rows 0 5 []]))
    (some (.ret, [(1, .sl c' 5 (ps.map Prt.cells)), (2, .sl c2 1 (to.map intC)), (6, .ref 2 0 0 0 false), (7, .ref 1 0 0 0 false)], [.rows 0 5 [], .rows 0 5 [], .rows 0 5 []])) (fun K => ?_) (fun (i : Nat) x K hi hx => ?_) 1099511627775 (by omega)
  · simp only [Int.natCast_zero] at key
    exact key
  · rw [LoopS_eq]
    simp -implicitDefEqProofs only [go_sem, Nat.reduceBEq, Nat.reduceAdd, Nat.reduceSub, Nat.reduceMul, Nat.reduceLeDiff, Nat.reduceEqDiff, Nat.reduceLT, Int.reduceNeg, Int.reduceAdd, Int.reduceSub, Int.reduceMul, Int.reduceLE, Int.reduceLT, Int.reduceEq, Int.reduceToNat, reduceCtorEq, evL18x0, B18x0, Int.lt_irrefl]
  · rw [LoopS_eq]
    cases hp : placeOk x
    · have hp1 : ¬ (0 ≤ x ∧ x ≤ 3) := by simpa [placeOk] using hp
      simp -implicitDefEqProofs (disch := omega) only [go_sem, Nat.reduceBEq, Nat.reduceAdd, Nat.reduceSub, Nat.reduceMul, Nat.reduceLeDiff, Nat.reduceEqDiff, Nat.reduceLT, Int.reduceNeg, Int.reduceAdd, Int.reduceSub, Int.reduceMul, Int.reduceLE, Int.reduceLT, Int.reduceEq, Int.reduceToNat, reduceCtorEq, evL18x0, B18x0, hi, hx, intC, run_l1In, hp1, decide_false, IntWalk.i64_in]
    · have hp1 : (0 ≤ x ∧ x ≤ 3) = True := eq_true (by simpa [placeOk] using hp)
      simp -implicitDefEqProofs (disch := omega) only [go_sem, Nat.reduceBEq, Nat.reduceAdd, Nat.reduceSub, Nat.reduceMul, Nat.reduceLeDiff, Nat.reduceEqDiff, Nat.reduceLT, Int.reduceNeg, Int.reduceAdd, Int.reduceSub, Int.reduceMul, Int.reduceLE, Int.reduceLT, Int.reduceEq, Int.reduceToNat, reduceCtorEq, evL18x0, B18x0, hi, hx, intC, run_l1In, hp1, decide_true, IntWalk.i64_in]
theorem loop_movS (d : Nat) (c' c2 : Bool) (to : List Int) (ps : List Prt) (hp : ps.length < 4294967296) (ht : Places to ps) (K : Nat) (hK : (ps).length ≤ K) (b0 : List Prt) (hb0 : (fun (i : Nat) (b : List Prt) => b.length = i) 0 b0) : LoopS (runD tab noExt d) (drawI (runD tab noExt d)) [1, 2, 7, 9] [7] L18x1 ([.rows 0 5 [], .rows (b0).length 5 ((b0).map Prt.cells)] : Heap).length K [(1, .sl c' 5 (ps.map Prt.cells)), (2, .sl c2 1 (to.map intC)), (7, .ref 1 (b0).length 0 (b0).length false), (9, .int .i64 (0 : Nat))] [.rows 0 5 [], .rows (b0).length 5 ((b0).map Prt.cells)] = (some (.exit 2, [(7, .ref 1 (((ps).foldl (fun b x => b ++ [mvd to x]) b0)).length 0 (((ps).foldl (fun b x => b ++ [mvd to x]) b0)).length false)], [.rows 0 5 [], .rows (((ps).foldl (fun b x => b ++ [mvd to x]) b0)).length 5 ((((ps).foldl (fun b x => b ++ [mvd to x]) b0)).map Prt.cells)]) : Out) ∧ (fun (i : Nat) (b : List Prt) => b.length = i) (ps).length ((ps).foldl (fun b x => b ++ [mvd to x]) b0) := by
  have key := LoopS_foldI (run := (runD tab noExt d)) (draw := drawI (runD tab noExt d)) (live := [1, 2, 7, 9]) (out := [7]) (c := L18x1) (n0 := ([.rows 0 5 [], .rows (b0).length 5 ((b0).map Prt.cells)] : Heap).length) (ps) (fun b x => b ++ [mvd to x]) (fun (i : Nat) (b : List Prt) => b.length = i) (fun (i : Nat) (b : List Prt) => [(1, .sl c' 5 (ps.map Prt.cells)), (2, .sl c2 1 (to.map intC)), (7, .ref 1 (b).length 0 (b).length false), (9, .int .i64 (i : Nat))]) (fun (i : Nat) (b : List Prt) => [.rows 0 5 [], .rows (b).length 5 ((b).map Prt.cells)]) (fun b => (some (.exit 2, [(7, .ref 1 (b).length 0 (b).length false)], [.rows 0 5 [], .rows (b).length 5 ((b).map Prt.cells)]) : Out)) (fun b K hb => ?_) (fun (i : Nat) (x : Prt) b K hi hx hb => ?_) K hK b0 hb0
  · simp only [Int.natCast_zero] at key
    exact key
  · rw [LoopS_eq]
    simp -implicitDefEqProofs only [go_sem, Nat.reduceBEq, Nat.reduceAdd, Nat.reduceSub, Nat.reduceMul, Nat.reduceLeDiff, Nat.reduceEqDiff, Nat.reduceLT, Int.reduceNeg, Int.reduceAdd, Int.reduceSub, Int.reduceMul, Int.reduceLE, Int.reduceLT, Int.reduceEq, Int.reduceToNat, reduceCtorEq, evL18x1, B18x1, Int.lt_irrefl]
  · have hsm : b.length + 1 < 4294967296 := (by omega); have hsm2 : i + 1 < 4294967296 := (by omega); by_cases e1 : x.kind = 2 <;> (first | (have hmv : mvd to x = x := (by unfold mvd; rw [if_neg e1])) | (have hmv : mvd to x = ⟨2, to.getD x.n.toNat 0, x.v⟩ := (by unfold mvd; rw [if_pos e1, e1]); obtain ⟨hn0, hn1⟩ := ht x (List.mem_of_getElem? hx) e1; have hto := at_getD (0 : Int) (show x.n.toNat < to.length by omega)))
    all_goals
      refine ⟨?_, ?_⟩
      · simp [hb]
      · rw [LoopS_eq]
        simp -implicitDefEqProofs (disch := first | omega | assumption) only [go_sem, Nat.reduceBEq, Nat.reduceAdd, Nat.reduceSub, Nat.reduceMul, Nat.reduceLeDiff, Nat.reduceEqDiff, Nat.reduceLT, Int.reduceNeg, Int.reduceAdd, Int.reduceSub, Int.reduceMul, Int.reduceLE, Int.reduceLT, Int.reduceEq, Int.reduceToNat, reduceCtorEq, evL18x1, B18x1, hi, hx, IntWalk.i64_in, List.map_append, List.foldl_cons, Prt.cells, e1, hsm]
        (simp -implicitDefEqProofs (disch := first | omega | assumption) only [go_sem, Nat.reduceBEq, Nat.reduceAdd, Nat.reduceSub, Nat.reduceMul, Nat.reduceLeDiff, Nat.reduceEqDiff, Nat.reduceLT, Int.reduceNeg, Int.reduceAdd, Int.reduceSub, Int.reduceMul, Int.reduceLE, Int.reduceLT, Int.reduceEq, Int.reduceToNat, reduceCtorEq, hmv, List.map_append, List.map_cons, List.map_nil, Prt.cells, intC, IntWalk.i64_in, *])
theorem foldl_snocM {α β : Type} (g : α → β) : ∀ (l : List α) (b : List β), l.foldl (fun b x => b ++ [g x]) b = b ++ l.map g
  | [], b => by simp
  | x :: r, b => by simp [foldl_snocM g r]
-- find18
theorem run_ExprMovedS (d : Nat) (c c' c2 : Bool) (cs : List Col) (ps : List Prt) (to : List Int) (hc : cs.length < 1099511627776) (ht : to.length < 1099511627776) (hsp : ShortP ps) :
    retP (runD tab noExt (d + 6)) 18 [.sl c 2 (cs.map Col.cells), .sl c' 5 (ps.map Prt.cells), .sl c2 1 (to.map intC)] = some [.sl false 5 ((moved cs ps to).map Prt.cells)] := by
  rw [retP, runD_eq find18 _ _ _ (by simp)]
  have hk := run_exprKindR d c c' cs ps hc hsp
  have hl0 := loop_placeS (d + 4) c' c2 ps to ht
  unfold moved
  by_cases h1 : exprKind cs ps < 0
  · simp -implicitDefEqProofs (disch := omega) only [go_sem, Nat.reduceBEq, Nat.reduceAdd, Nat.reduceSub, Nat.reduceMul, Nat.reduceLeDiff, Nat.reduceEqDiff, Nat.reduceLT, Int.reduceNeg, Int.reduceAdd, Int.reduceSub, Int.reduceMul, Int.reduceLE, Int.reduceLT, Int.reduceEq, Int.reduceToNat, reduceCtorEq, hk, h1, if_true]
  · by_cases h2 : to.length = cs.length
    · have h3 : ((to.length : Int) = cs.length) = True := eq_true (by omega)
      obtain ⟨k1, k2, k3⟩ := kind_places h1 h2
      cases h4 : to.all placeOk
      · rw [h4, if_neg (by decide)] at hl0
        simp -implicitDefEqProofs (disch := omega) only [go_sem, Nat.reduceBEq, Nat.reduceAdd, Nat.reduceSub, Nat.reduceMul, Nat.reduceLeDiff, Nat.reduceEqDiff, Nat.reduceLT, Int.reduceNeg, Int.reduceAdd, Int.reduceSub, Int.reduceMul, Int.reduceLE, Int.reduceLT, Int.reduceEq, Int.reduceToNat, reduceCtorEq, hk, h1, h2, h3, hl0, if_true, if_false, Bool.false_eq_true]
      · rw [h4, if_pos rfl] at hl0
        have hl1 := (loop_movS (d + 5) c' c2 to ps (by omega) k1 1099511627775 (by omega) [] rfl).1
        simp only [foldl_snocM, List.nil_append, List.length_nil, List.map_nil, Int.natCast_zero, List.length_cons, List.length_map, Nat.zero_add] at hl1
        have e : List.take ps.length ((ps.map (mvd to)).map Prt.cells) = (ps.map (mvd to)).map Prt.cells := List.take_of_length_le (by simp)
        simp -implicitDefEqProofs (disch := omega) only [go_sem, Nat.reduceBEq, Nat.reduceAdd, Nat.reduceSub, Nat.reduceMul, Nat.reduceLeDiff, Nat.reduceEqDiff, Nat.reduceLT, Int.reduceNeg, Int.reduceAdd, Int.reduceSub, Int.reduceMul, Int.reduceLE, Int.reduceLT, Int.reduceEq, Int.reduceToNat, reduceCtorEq, hk, h1, h2, h3, hl0, if_true, if_false]
        try simp -implicitDefEqProofs only [go_sem, Nat.reduceBEq, Nat.reduceAdd, Nat.reduceSub, Nat.reduceMul, Nat.reduceLeDiff, Nat.reduceEqDiff, Nat.reduceLT, Int.reduceNeg, Int.reduceAdd, Int.reduceSub, Int.reduceMul, Int.reduceLE, Int.reduceLT, Int.reduceEq, Int.reduceToNat, reduceCtorEq] at hl1
        rw [hl1]
        simp -implicitDefEqProofs (disch := omega) only [go_sem, Nat.reduceBEq, Nat.reduceAdd, Nat.reduceSub, Nat.reduceMul, Nat.reduceLeDiff, Nat.reduceEqDiff, Nat.reduceLT, Int.reduceNeg, Int.reduceAdd, Int.reduceSub, Int.reduceMul, Int.reduceLE, Int.reduceLT, Int.reduceEq, Int.reduceToNat, reduceCtorEq, e]
    · have h3 : ((to.length : Int) = cs.length) = False := eq_false (by omega)
      simp -implicitDefEqProofs (disch := omega) only [go_sem, Nat.reduceBEq, Nat.reduceAdd, Nat.reduceSub, Nat.reduceMul, Nat.reduceLeDiff, Nat.reduceEqDiff, Nat.reduceLT, Int.reduceNeg, Int.reduceAdd, Int.reduceSub, Int.reduceMul, Int.reduceLE, Int.reduceLT, Int.reduceEq, Int.reduceToNat, reduceCtorEq, hk, h1, h2, h3, if_true, if_false]
end Go.Proofs.Ytgepapgabnaonaa.PE
/- Moved expressions: what both functions come to, of trees. -/
set_option linter.unusedVariables false
set_option linter.unusedSimpArgs false
set_option maxHeartbeats 4000000
namespace Go.Proofs.Ytgepapgabnaonaa.PE
open Go.RowKit

def prtU (p : Prt) : List U := [.int p.kind, .int p.n, .int p.v.kind, .int p.v.n, .str p.v.s]
theorem prts_ofU {l1 : List (List V)} {l2 : List (List U)} (h : Zip2 (PurR fdPart) l1 l2) : ∃ ps : List Prt, l1 = ps.map Prt.cells ∧ l2 = ps.map prtU :=
  typ_of (fun c x hr => by obtain ⟨a, b, d, e, s, rfl, rfl⟩ := purR_Part hr; exact ⟨⟨a, b, ⟨d, e, s⟩⟩, rfl, rfl⟩) h
theorem prtU_inj {a b : Prt} (h : prtU a = prtU b) : a = b := by
  obtain ⟨a1, a2, ⟨a3, a4, a5⟩⟩ := a
  obtain ⟨b1, b2, ⟨b3, b4, b5⟩⟩ := b
  simp only [prtU, List.cons.injEq, U.int.injEq, U.str.injEq, and_true] at h
  obtain ⟨rfl, rfl, rfl, rfl, rfl⟩ := h
  rfl
theorem prt_pur (p : Prt) : PurR fdPart p.cells (prtU p) := purR_mk_Part p.kind p.n p.v.kind p.v.n p.v.s
theorem prt_own (h : Heap) (p : Prt) : OwnR h fdPart p.cells (prtU p) [] := ownR_mk_Part h p.kind p.n p.v.kind p.v.n p.v.s
theorem moved_len (cs : List Col) (ps : List Prt) (to : List Int) : (moved cs ps to).length ≤ ps.length ∧ (moved cs ps to ≠ [] → (moved cs ps to).length = ps.length) ∧ ∀ p ∈ moved cs ps to, ∃ q ∈ ps, p.v = q.v := by
  have key : ∀ p ∈ ps.map (mvd to), ∃ q ∈ ps, p.v = q.v := by
    intro p hp
    obtain ⟨q, hq, rfl⟩ := List.mem_map.1 hp
    refine ⟨q, hq, ?_⟩
    unfold mvd
    split <;> rfl
  unfold moved
  split
  · simp
  · split
    · split
      · exact ⟨by simp, fun _ => by simp, key⟩
      · simp
    · simp
theorem core_ExprMoved {x0 x1 x2 : List (List U)} (h0 : ∃ p, PurF (.sub fdColumn) p (.sub x0)) (L0 : LenF 1048576 1048576 (.sub fdColumn) (.sub x0)) (h1 : ∃ p, PurF (.sub fdPart) p (.sub x1)) (L1 : LenF 1048576 1048576 (.sub fdPart) (.sub x1)) (h2 : ∃ p, PurF (.sub fdInt) p (.sub x2)) (L2 : LenF 1048576 1048576 (.sub fdInt) (.sub x2)) :
    ∃ ux, LenF big big (.sub fdPart) (.sub ux) ∧ (cntF (.sub fdPart) (.sub ux) : Int) ≤ 2305843009213693952 ∧
      (∀ {q0 q1 q2 : V}, PurF (.sub fdColumn) q0 (.sub x0) → PurF (.sub fdPart) q1 (.sub x1) → PurF (.sub fdInt) q2 (.sub x2) → ∃ w, retP (runD tab noExt 60) 18 [q0, q1, q2] = some [w] ∧ PurF (.sub fdPart) w (.sub ux)) ∧
      (∀ {q0 q1 q2 : V}, PurF (.sub fdColumn) q0 (.sub x0) → PurF (.sub fdPart) q1 (.sub x1) → PurF (.sub fdInt) q2 (.sub x2) → ∃ v hc ids, runD tab noExt 60 16 [q0, q1, q2] [] = some ([v], hc) ∧ OwnF hc (.sub fdPart) v (.sub ux) ids ∧ ids.Nodup) := by
  obtain ⟨p0, g0⟩ := h0
  obtain ⟨p1, g1⟩ := h1
  obtain ⟨p2, g2⟩ := h2
  obtain ⟨_, _, _, z0⟩ := purS_Column g0
  obtain ⟨_, _, _, z1⟩ := purS_Part g1
  obtain ⟨_, _, _, z2⟩ := purS_Int g2
  obtain ⟨cs, rfl, rfl⟩ := colsU_of z0
  obtain ⟨ps, rfl, rfl⟩ := prts_ofU z1
  obtain ⟨to, rfl, rfl⟩ := intsU_of z2
  simp only [LenF, List.length_map] at L0 L1 L2
  obtain ⟨m1, m2, m3⟩ := moved_len cs ps to
  have hsp : ShortP ps := by
    intro p hp
    obtain ⟨i, hi⟩ := List.getElem?_of_mem hp
    have := AllU_at L1.2 (map_at prtU hi)
    simp only [fdPart, prtU, LenR, LenF, true_and, and_true] at this
    omega
  have each : ∀ {q0 q1 q2 : V}, PurF (.sub fdColumn) q0 (.sub (cs.map colU)) → PurF (.sub fdPart) q1 (.sub (ps.map prtU)) → PurF (.sub fdInt) q2 (.sub (to.map intU)) → ∃ c c' c2, q0 = .sl c 2 (cs.map Col.cells) ∧ q1 = .sl c' 5 (ps.map Prt.cells) ∧ q2 = .sl c2 1 (to.map intC) := by
    intro q0 q1 q2 k0 k1 k2
    obtain ⟨c, _, rfl, y0⟩ := purS_Column k0
    obtain ⟨c', _, rfl, y1⟩ := purS_Part k1
    obtain ⟨c2, _, rfl, y2⟩ := purS_Int k2
    obtain ⟨cs', rfl, e0⟩ := colsU_of y0
    obtain ⟨ps', rfl, e1⟩ := prts_ofU y1
    obtain ⟨to', rfl, e2⟩ := intsU_of y2
    obtain rfl := map_inj (fun _ _ => colU_inj) e0
    obtain rfl := map_inj (fun _ _ => prtU_inj) e1
    obtain rfl := map_inj (fun _ _ => intU_inj) e2
    exact ⟨c, c', c2, rfl, rfl, rfl⟩
  refine ⟨(moved cs ps to).map prtU, ?_, ?_, fun k0 k1 k2 => ?_, fun k0 k1 k2 => ?_⟩
  · simp only [LenF, List.length_map]
    refine ⟨by unfold big; omega, ?_⟩
    have : ∀ ls : List Prt, (∀ p ∈ ls, p.v.s.size ≤ 1048576) → AllU (LenR big big fdPart) (ls.map prtU) := by
      intro ls
      induction ls with
      | nil => intro _; trivial
      | cons p ls ih =>
        intro h
        refine ⟨?_, ih (fun q hq => h q (List.mem_cons_of_mem _ hq))⟩
        have := h p List.mem_cons_self
        simp only [fdPart, prtU, LenR, LenF, big, true_and, and_true]
        omega
    refine this _ (fun p hp => ?_)
    obtain ⟨q, hq, e⟩ := m3 p hp
    rw [e]
    obtain ⟨i, hi⟩ := List.getElem?_of_mem hq
    have := AllU_at L1.2 (map_at prtU hi)
    simp only [fdPart, prtU, LenR, LenF, true_and, and_true] at this
    omega
  · have : sumU (cntR fdPart) ((moved cs ps to).map prtU) ≤ 5 * ((moved cs ps to).map prtU).length := by
      generalize moved cs ps to = ls
      induction ls with
      | nil => simp [sumU]
      | cons p ls ih =>
        have e : cntR fdPart (prtU p) = 5 := rfl
        simp only [List.map_cons, sumU, e, List.length_cons]
        omega
    simp only [cntF]
    rw [List.length_map] at this
    omega
  · obtain ⟨c, c', c2, rfl, rfl, rfl⟩ := each k0 k1 k2
    have := run_ExprMovedS 54 c c' c2 cs ps to (by omega) (by omega) hsp
    exact ⟨_, this, pur_map prt_pur _ 5 rfl _⟩
  · obtain ⟨c, c', c2, rfl, rfl, rfl⟩ := each k0 k1 k2
    rcases own_ExprMovedI 53 c c' c2 cs ps to (by omega) (by omega) with ⟨e1, e2⟩ | ⟨e1, e2⟩
    · exact ⟨_, _, [0], e2, own_row rfl _ (m2 e1).symm rfl (prt_own _), by simp⟩
    · rw [e1]
      exact ⟨_, _, [], e2, own_nil rfl, List.nodup_nil⟩
end Go.Proofs.Ytgepapgabnaonaa.PE
/- The exact statement of FnExactExprMoved. -/
set_option linter.unusedVariables false
set_option linter.unusedSimpArgs false
set_option maxHeartbeats 8000000
namespace Go.Proofs.Ytgepapgabnaonaa.PE
open Go.RowKit

-- find4
theorem law_FnExactExprMoved {p0 : V} {x0 : List (List U)} {p1 : V} {x1 : List (List U)} {p2 : V} {x2 : List (List U)} (g0 : PurF (.sub fdColumn) p0 (.sub x0)) (B0 : LenF 9223372036854775807 9223372036854775807 (.sub fdColumn) (.sub x0)) (g1 : PurF (.sub fdPart) p1 (.sub x1)) (B1 : LenF 9223372036854775807 9223372036854775807 (.sub fdPart) (.sub x1)) (g2 : PurF (.sub fdInt) p2 (.sub x2)) (B2 : LenF 9223372036854775807 9223372036854775807 (.sub fdInt) (.sub x2))  : ∃ d h1, runD tab noExt d 4 [p0, p1, p2] [] = some ([.bool true], h1) := by
  refine ⟨61, ?_⟩
  rw [runD_eq find4 _ _ _ (by simp)]
  obtain ⟨cl0, ct0, rfl, hz0⟩ := purS_Column g0
  have hl0 := Zip2_len hz0
  obtain ⟨cl1, ct1, rfl, hz1⟩ := purS_Part g1
  have hl1 := Zip2_len hz1
  obtain ⟨cl2, ct2, rfl, hz2⟩ := purS_Int g2
  have hl2 := Zip2_len hz2
  by_cases q2 : (1048576 : Int) < ct2.length
  · simp -implicitDefEqProofs (disch := omega) only [go_sem, Nat.reduceBEq, Nat.reduceAdd, Nat.reduceSub, Nat.reduceMul, Nat.reduceLeDiff, Nat.reduceEqDiff, Nat.reduceLT, Int.reduceNeg, Int.reduceAdd, Int.reduceSub, Int.reduceMul, Int.reduceLE, Int.reduceLT, Int.reduceEq, Int.reduceToNat, reduceCtorEq, q2]
    exact ⟨_, rfl⟩
  have z0 := run_szColumnS 59 (1048576) g0 B0 (by omega) (by omega)
  have y0 := szF_spec (N := 1048576) (.sub fdColumn) (.sub x0) (1048576) (by decide) (by omega)
  generalize szF (.sub fdColumn) (.sub x0) (1048576) = l0 at z0 y0
  by_cases q0 : l0 < 0
  · simp -implicitDefEqProofs (disch := omega) only [go_sem, Nat.reduceBEq, Nat.reduceAdd, Nat.reduceSub, Nat.reduceMul, Nat.reduceLeDiff, Nat.reduceEqDiff, Nat.reduceLT, Int.reduceNeg, Int.reduceAdd, Int.reduceSub, Int.reduceMul, Int.reduceLE, Int.reduceLT, Int.reduceEq, Int.reduceToNat, reduceCtorEq, q2, z0, q0]
    exact ⟨_, rfl⟩
  obtain ⟨y0a, L0, y0c⟩ := y0 (by omega) (by omega)
  have z1 := run_szPartS 57 (l0) g1 B1 (by omega) (by omega)
  have y1 := szF_spec (N := 1048576) (.sub fdPart) (.sub x1) (l0) (by decide) (by omega)
  generalize szF (.sub fdPart) (.sub x1) (l0) = l1 at z1 y1
  by_cases q1 : l1 < 0
  · simp -implicitDefEqProofs (disch := omega) only [go_sem, Nat.reduceBEq, Nat.reduceAdd, Nat.reduceSub, Nat.reduceMul, Nat.reduceLeDiff, Nat.reduceEqDiff, Nat.reduceLT, Int.reduceNeg, Int.reduceAdd, Int.reduceSub, Int.reduceMul, Int.reduceLE, Int.reduceLT, Int.reduceEq, Int.reduceToNat, reduceCtorEq, q2, z0, q0, z1, q1]
    exact ⟨_, rfl⟩
  obtain ⟨y1a, L1, y1c⟩ := y1 (by omega) (by omega)
  have L2 : LenF 1048576 1048576 (.sub fdInt) (.sub x2) := by
    simp only [LenF]
    exact ⟨by omega, all_flat (by simp [fdInt]) _⟩
  have y2c : (cntF (.sub fdInt) (.sub x2) : Int) ≤ 16 * 1048576 := by simp only [cntF, fdInt]; have := sum_one (f := .int .i64) (fun u => by cases u <;> rfl) x2; omega
  have M0 := LenF_mono (n' := big) (m' := big) (by decide) (by decide) _ L0
  have P0 : x0.length ≤ 1048576 ∧ AllU (LenR 1048576 1048576 fdColumn) x0 := by simpa only [LenF] using L0
  have M1 := LenF_mono (n' := big) (m' := big) (by decide) (by decide) _ L1
  have P1 : x1.length ≤ 1048576 ∧ AllU (LenR 1048576 1048576 fdPart) x1 := by simpa only [LenF] using L1
  have M2 := LenF_mono (n' := big) (m' := big) (by decide) (by decide) _ L2
  have P2 : x2.length ≤ 1048576 ∧ AllU (LenR 1048576 1048576 fdInt) x2 := by simpa only [LenF] using L2
  obtain ⟨ux, C1, C2, cS, cI⟩ := core_ExprMoved ⟨_, g0⟩ L0 ⟨_, g1⟩ L1 ⟨_, g2⟩ L2
  obtain ⟨v0, c0, d0, r0, o0, n0'⟩ := run_toColumnS 58 g0 P0.1 P0.2
  obtain ⟨t0, h0, s0, e0, a0, u0, w0, f0, m0⟩ := own_call (h := ([] : Heap)) (args := [(.sl cl0 2 ct0)]) (by simp only [pureDAs, mapO, pureDA_pur g0]) r0 o0 n0'
  have b0 := own_ids a0 w0
  obtain ⟨v1, c1, d1, r1, o1, n1'⟩ := run_toPartS 57 g1 P1.1 P1.2
  obtain ⟨t1, h1, s1, e1, a1, u1, w1, f1, m1⟩ := own_call (h := h0) (args := [(.sl cl1 5 ct1)]) (by simp only [pureDAs, mapO, pureDA_pur g1]) r1 o1 n1'
  have b1 := own_ids a1 w1
  have o1x := OwnF_frame _ a0 (fun j hj => f1 j (OwnF_lt _ a0 j hj))
  obtain ⟨v2, c2, d2, r2, o2, n2'⟩ := run_toIntS 59 g2 P2.1 P2.2
  obtain ⟨t2, h2, s2, e2, a2, u2, w2, f2, m2⟩ := own_call (h := h1) (args := [(.sl cl2 1 ct2)]) (by simp only [pureDAs, mapO, pureDA_pur g2]) r2 o2 n2'
  have b2 := own_ids a2 w2
  have o2x := OwnF_frame _ o1x (fun j hj => f2 j (OwnF_lt _ o1x j hj))
  have o3x := OwnF_frame _ a1 (fun j hj => f2 j (OwnF_lt _ a1 j hj))
  obtain ⟨qs0, xs0, ys0⟩ := pureDA_own o2x (by decide)
  obtain ⟨qs1, xs1, ys1⟩ := pureDA_own o3x (by decide)
  obtain ⟨qs2, xs2, ys2⟩ := pureDA_own a2 (by decide)
  obtain ⟨w, eS, gw⟩ := cS ys0 ys1 ys2
  obtain ⟨hd, eW⟩ := call_spec (h := h2) (args := [t0, t1, t2]) (by simp only [pureDAs, mapO, xs0, xs1, xs2, pureDA_int, pureDA_bool, pureDA_str]) eS
  try simp only [oneOf] at eW
  obtain ⟨v3, c3, d3, r3, o3, n3'⟩ := run_toColumnS 58 g0 P0.1 P0.2
  obtain ⟨t3, h3, s3, e3, a3, u3, w3, f3, m3⟩ := own_call (h := hd) (args := [(.sl cl0 2 ct0)]) (by simp only [pureDAs, mapO, pureDA_pur g0]) r3 o3 n3'
  have b3 := own_ids a3 w3
  obtain ⟨v4, c4, d4, r4, o4, n4'⟩ := run_toPartS 57 g1 P1.1 P1.2
  obtain ⟨t4, h4, s4, e4, a4, u4, w4, f4, m4⟩ := own_call (h := h3) (args := [(.sl cl1 5 ct1)]) (by simp only [pureDAs, mapO, pureDA_pur g1]) r4 o4 n4'
  have b4 := own_ids a4 w4
  have o4x := OwnF_frame _ a3 (fun j hj => f4 j (OwnF_lt _ a3 j hj))
  obtain ⟨v5, c5, d5, r5, o5, n5'⟩ := run_toIntS 59 g2 P2.1 P2.2
  obtain ⟨t5, h5, s5, e5, a5, u5, w5, f5, m5⟩ := own_call (h := h4) (args := [(.sl cl2 1 ct2)]) (by simp only [pureDAs, mapO, pureDA_pur g2]) r5 o5 n5'
  have b5 := own_ids a5 w5
  have o5x := OwnF_frame _ o4x (fun j hj => f5 j (OwnF_lt _ o4x j hj))
  have o6x := OwnF_frame _ a4 (fun j hj => f5 j (OwnF_lt _ a4 j hj))
  obtain ⟨qg3, xg3, yg3⟩ := pureDA_own o5x (by decide)
  obtain ⟨qg4, xg4, yg4⟩ := pureDA_own o6x (by decide)
  obtain ⟨qg5, xg5, yg5⟩ := pureDA_own a5 (by decide)
  obtain ⟨v6, c6, d6, r6, o6, n6'⟩ := cI yg3 yg4 yg5
  obtain ⟨t6, h6, s6, e6, a6, u6, w6, f6, m6⟩ := own_call (h := h5) (args := [t3, t4, t5]) (by simp only [pureDAs, mapO, xg3, xg4, xg5, pureDA_int, pureDA_bool, pureDA_str]) r6 o6 n6'
  have b6 := own_ids a6 w6
  have o7x := OwnF_frame _ o5x (fun j hj => f6 j (OwnF_lt _ o5x j hj))
  have o8x := OwnF_frame _ o6x (fun j hj => f6 j (OwnF_lt _ o6x j hj))
  have o9x := OwnF_frame _ a5 (fun j hj => f6 j (OwnF_lt _ a5 j hj))
  obtain ⟨qG1, xG1, yG1⟩ := pureDA_own a6 (by decide)
  have EG1 := call_bool (h := h6) (args := [t6, w]) (by simp only [pureDAs, mapO, xG1, pureDA_pur gw]) (run_eqPartS 57 yG1 gw C1)
  obtain ⟨v7, c7, d7, r7, o7, n7'⟩ := run_toColumnS 58 g0 P0.1 P0.2
  obtain ⟨t7, h7, s7, e7, a7, u7, w7, f7, m7⟩ := own_call (h := h6) (args := [(.sl cl0 2 ct0)]) (by simp only [pureDAs, mapO, pureDA_pur g0]) r7 o7 n7'
  have b7 := own_ids a7 w7
  have o10x := OwnF_frame _ o7x (fun j hj => f7 j (OwnF_lt _ o7x j hj))
  have o11x := OwnF_frame _ o8x (fun j hj => f7 j (OwnF_lt _ o8x j hj))
  have o12x := OwnF_frame _ o9x (fun j hj => f7 j (OwnF_lt _ o9x j hj))
  have o13x := OwnF_frame _ a6 (fun j hj => f7 j (OwnF_lt _ a6 j hj))
  obtain ⟨qA0, xA0, yA0⟩ := pureDA_own o10x (by decide)
  obtain ⟨qB0, xB0, yB0⟩ := pureDA_own a7 (by decide)
  have EA0 := call_bool (h := h7) (args := [t3, t7]) (by simp only [pureDAs, mapO, xA0, xB0]) (run_eqColumnS 58 yA0 yB0 M0)
  obtain ⟨v8, c8, d8, r8, o8, n8'⟩ := run_toPartS 57 g1 P1.1 P1.2
  obtain ⟨t8, h8, s8, e8, a8, u8, w8, f8, m8⟩ := own_call (h := h7) (args := [(.sl cl1 5 ct1)]) (by simp only [pureDAs, mapO, pureDA_pur g1]) r8 o8 n8'
  have b8 := own_ids a8 w8
  have o14x := OwnF_frame _ o10x (fun j hj => f8 j (OwnF_lt _ o10x j hj))
  have o15x := OwnF_frame _ o11x (fun j hj => f8 j (OwnF_lt _ o11x j hj))
  have o16x := OwnF_frame _ o12x (fun j hj => f8 j (OwnF_lt _ o12x j hj))
  have o17x := OwnF_frame _ o13x (fun j hj => f8 j (OwnF_lt _ o13x j hj))
  obtain ⟨qA1, xA1, yA1⟩ := pureDA_own o15x (by decide)
  obtain ⟨qB1, xB1, yB1⟩ := pureDA_own a8 (by decide)
  have EA1 := call_bool (h := h8) (args := [t4, t8]) (by simp only [pureDAs, mapO, xA1, xB1]) (run_eqPartS 57 yA1 yB1 M1)
  obtain ⟨v9, c9, d9, r9, o9, n9'⟩ := run_toIntS 59 g2 P2.1 P2.2
  obtain ⟨t9, h9, s9, e9, a9, u9, w9, f9, m9⟩ := own_call (h := h8) (args := [(.sl cl2 1 ct2)]) (by simp only [pureDAs, mapO, pureDA_pur g2]) r9 o9 n9'
  have b9 := own_ids a9 w9
  have o18x := OwnF_frame _ o14x (fun j hj => f9 j (OwnF_lt _ o14x j hj))
  have o19x := OwnF_frame _ o15x (fun j hj => f9 j (OwnF_lt _ o15x j hj))
  have o20x := OwnF_frame _ o16x (fun j hj => f9 j (OwnF_lt _ o16x j hj))
  have o21x := OwnF_frame _ o17x (fun j hj => f9 j (OwnF_lt _ o17x j hj))
  obtain ⟨qA2, xA2, yA2⟩ := pureDA_own o20x (by decide)
  obtain ⟨qB2, xB2, yB2⟩ := pureDA_own a9 (by decide)
  have EA2 := call_bool (h := h9) (args := [t5, t9]) (by simp only [pureDAs, mapO, xA2, xB2]) (run_eqIntS 59 yA2 yB2 M2)
  obtain ⟨h10, z0x, e10, a10, k10, z10, f10, m10⟩ := run_markColumnS 59 o18x u3 M0 (k := (1 : Int)) (by omega) (by omega)
  have o22x := OwnF_frame _ o19x (fun j hj => f10 j (fun hm => by have z1 := b4 j hj; have z2 := b3 j hm; omega))
  have o23x := OwnF_frame _ o20x (fun j hj => f10 j (fun hm => by have z1 := b5 j hj; have z2 := b3 j hm; omega))
  have o24x := OwnF_frame _ o21x (fun j hj => f10 j (fun hm => by have z1 := b6 j hj; have z2 := b3 j hm; omega))
  obtain ⟨h11, z1x, e11, a11, k11, z11, f11, m11⟩ := run_markPartS 58 o22x u4 M1 (k := ((1 : Int) + cntF (.sub fdColumn) (.sub x0))) (by omega) (by omega)
  have o25x := OwnF_frame _ a10 (fun j hj => f11 j (fun hm => by have z1 := b3 j hj; have z2 := b4 j hm; omega))
  have o26x := OwnF_frame _ o23x (fun j hj => f11 j (fun hm => by have z1 := b5 j hj; have z2 := b4 j hm; omega))
  have o27x := OwnF_frame _ o24x (fun j hj => f11 j (fun hm => by have z1 := b6 j hj; have z2 := b4 j hm; omega))
  obtain ⟨h12, z2x, e12, a12, k12, z12, f12, m12⟩ := run_markIntS 59 o26x u5 M2 (k := (((1 : Int) + cntF (.sub fdColumn) (.sub x0)) + cntF (.sub fdPart) (.sub x1))) (by omega) (by omega)
  have o28x := OwnF_frame _ o25x (fun j hj => f12 j (fun hm => by have z1 := b3 j hj; have z2 := b5 j hm; omega))
  have o29x := OwnF_frame _ a11 (fun j hj => f12 j (fun hm => by have z1 := b4 j hj; have z2 := b5 j hm; omega))
  have o30x := OwnF_frame _ o27x (fun j hj => f12 j (fun hm => by have z1 := b6 j hj; have z2 := b5 j hm; omega))
  have K0 : (((((1 : Int) + cntF (.sub fdColumn) (.sub x0)) + cntF (.sub fdPart) (.sub x1)) + cntF (.sub fdInt) (.sub x2)) < 0) = False := eq_false (by omega)
  obtain ⟨qG2, xG2, yG2⟩ := pureDA_own o30x (by decide)
  have EG2 := call_bool (h := h12) (args := [t6, w]) (by simp only [pureDAs, mapO, xG2, pureDA_pur gw]) (run_eqPartS 57 yG2 gw C1)
  obtain ⟨h13, zG, e13, a13, k13, z13, f13, m13⟩ := run_markPartS 58 o30x u6 C1 (k := 1) (by omega) (by omega)
  have o31x := OwnF_frame _ o28x (fun j hj => f13 j (fun hm => by have z1 := b3 j hj; have z2 := b6 j hm; omega))
  have o32x := OwnF_frame _ o29x (fun j hj => f13 j (fun hm => by have z1 := b4 j hj; have z2 := b6 j hm; omega))
  have o33x := OwnF_frame _ a12 (fun j hj => f13 j (fun hm => by have z1 := b5 j hj; have z2 := b6 j hm; omega))
  have K1 : ((1 : Int) + cntF (.sub fdPart) (.sub ux) < 0) = False := eq_false (by omega)
  obtain ⟨qH1, xH1, yH1⟩ := pureDA_own a13 (by decide)
  have EH1 := call_int (h := h13) (args := [t6, .int .i64 1]) (by simp only [pureDAs, mapO, xH1, pureDA_int]) (run_heldPartS 58 yH1 k13 (by omega) (by omega) z13)
  obtain ⟨v14, c14, d14, r14, o14, n14'⟩ := run_toColumnS 58 g0 P0.1 P0.2
  obtain ⟨t14, h14, s14, e14, a14, u14, w14, f14, m14⟩ := own_call (h := h13) (args := [(.sl cl0 2 ct0)]) (by simp only [pureDAs, mapO, pureDA_pur g0]) r14 o14 n14'
  have b14 := own_ids a14 w14
  have o34x := OwnF_frame _ a13 (fun j hj => f14 j (OwnF_lt _ a13 j hj))
  obtain ⟨v15, c15, d15, r15, o15, n15'⟩ := run_toPartS 57 g1 P1.1 P1.2
  obtain ⟨t15, h15, s15, e15, a15, u15, w15, f15, m15⟩ := own_call (h := h14) (args := [(.sl cl1 5 ct1)]) (by simp only [pureDAs, mapO, pureDA_pur g1]) r15 o15 n15'
  have b15 := own_ids a15 w15
  have o35x := OwnF_frame _ o34x (fun j hj => f15 j (OwnF_lt _ o34x j hj))
  have o36x := OwnF_frame _ a14 (fun j hj => f15 j (OwnF_lt _ a14 j hj))
  obtain ⟨v16, c16, d16, r16, o16, n16'⟩ := run_toIntS 59 g2 P2.1 P2.2
  obtain ⟨t16, h16, s16, e16, a16, u16, w16, f16, m16⟩ := own_call (h := h15) (args := [(.sl cl2 1 ct2)]) (by simp only [pureDAs, mapO, pureDA_pur g2]) r16 o16 n16'
  have b16 := own_ids a16 w16
  have o37x := OwnF_frame _ o35x (fun j hj => f16 j (OwnF_lt _ o35x j hj))
  have o38x := OwnF_frame _ o36x (fun j hj => f16 j (OwnF_lt _ o36x j hj))
  have o39x := OwnF_frame _ a15 (fun j hj => f16 j (OwnF_lt _ a15 j hj))
  obtain ⟨qk14, xk14, yk14⟩ := pureDA_own o38x (by decide)
  obtain ⟨qk15, xk15, yk15⟩ := pureDA_own o39x (by decide)
  obtain ⟨qk16, xk16, yk16⟩ := pureDA_own a16 (by decide)
  obtain ⟨v17, c17, d17, r17, o17, n17'⟩ := cI yk14 yk15 yk16
  obtain ⟨t17, h17, s17, e17, a17, u17, w17, f17, m17⟩ := own_call (h := h16) (args := [t14, t15, t16]) (by simp only [pureDAs, mapO, xk14, xk15, xk16, pureDA_int, pureDA_bool, pureDA_str]) r17 o17 n17'
  have b17 := own_ids a17 w17
  have o40x := OwnF_frame _ o37x (fun j hj => f17 j (OwnF_lt _ o37x j hj))
  have o41x := OwnF_frame _ o38x (fun j hj => f17 j (OwnF_lt _ o38x j hj))
  have o42x := OwnF_frame _ o39x (fun j hj => f17 j (OwnF_lt _ o39x j hj))
  have o43x := OwnF_frame _ a16 (fun j hj => f17 j (OwnF_lt _ a16 j hj))
  obtain ⟨qG3, xG3, yG3⟩ := pureDA_own a17 (by decide)
  have EG3 := call_bool (h := h17) (args := [t17, w]) (by simp only [pureDAs, mapO, xG3, pureDA_pur gw]) (run_eqPartS 57 yG3 gw C1)
  obtain ⟨qH2, xH2, yH2⟩ := pureDA_own o40x (by decide)
  have EH2 := call_int (h := h17) (args := [t6, .int .i64 1]) (by simp only [pureDAs, mapO, xH2, pureDA_int]) (run_heldPartS 58 yH2 k13 (by omega) (by omega) z13)
  simp -implicitDefEqProofs (disch := omega) only [go_sem, Nat.reduceBEq, Nat.reduceAdd, Nat.reduceSub, Nat.reduceMul, Nat.reduceLeDiff, Nat.reduceEqDiff, Nat.reduceLT, Int.reduceNeg, Int.reduceAdd, Int.reduceSub, Int.reduceMul, Int.reduceLE, Int.reduceLT, Int.reduceEq, Int.reduceToNat, reduceCtorEq, q2, z0, q0, z1, q1, K0, K1, e0, e1, e2, eW, e3, e4, e5, e6, EG1, e7, EA0, e8, EA1, e9, EA2, e10, e11, e12, EG2, e13, EH1, e14, e15, e16, e17, EG3, EH2]
  exact ⟨_, rfl⟩
end Go.Proofs.Ytgepapgabnaonaa.PE
/- Arguments of any plain kind, as they are read: values of the evaluator. -/
set_option linter.unusedVariables false
set_option linter.unusedSimpArgs false
namespace Go.Proofs.Ytgepapgabnaonaa.PE
open Go.RowKit

mutual
def tyF (P : Program) : Nat → TypeId → Fd → Bool
  | 0, _, _ => false
  | n + 1, t, .int k => match P.underlying t with
    | some (.int k') => decide (k' = k)
    | _ => false
  | n + 1, t, .bool => match P.underlying t with
    | some .bool => true
    | _ => false
  | n + 1, t, .str => match P.underlying t with
    | some .string => true
    | _ => false
  | n + 1, t, .sub fs => match P.underlying t with
    | some (.slice e) => decide (P.cellsOf e = fs.length) && decide (0 < fs.length) && tyR P n e fs
    | _ => false
def tyR (P : Program) : Nat → TypeId → List Fd → Bool
  | 0, _, _ => false
  | n + 1, t, fs => match P.underlying t with
    | some (.struct flds) => decide (P.cellsOf t = fs.length) && tyS P n flds.toList 0 fs
    | _ => match fs with
      | [f] => tyF P n t f
      | _ => false
def tyS (P : Program) : Nat → List Field → Nat → List Fd → Bool
  | 0, _, _, _ => false
  | n + 1, [], _, fs => fs.isEmpty
  | n + 1, fl :: r, off, fs => decide (fl.offset = off) && tyR P n fl.type (fs.take (P.cellsOf fl.type)) && decide (P.cellsOf fl.type ≤ fs.length) && tyS P n r (off + P.cellsOf fl.type) (fs.drop (P.cellsOf fl.type))
end

def B63 : Nat := 9223372036854775807
section
variable {H : Type} {enc : TypeId × Value → H} {P : Program} {w : World} {base : Nat} {spare : Nat → Bool} {held : Bool}

/-- Cells and what they are. -/
def Got (w : World) (fs : List Fd) (cs : List Value) : Prop := ∃ (ps : List V) (us : List U), PurR fs ps us ∧ LenR B63 B63 fs us ∧ ps.length = cs.length ∧ ∀ (i : Nat) (y : V), ps[i]? = some y → ∃ u, cs[i]? = some u ∧ Rep w (fun b => b < w.heap.size) u y
theorem Got.one {f : Fd} {v : Value} {p : V} {u : U} (h1 : PurF f p u) (h2 : LenF B63 B63 f u) (h3 : Rep w (fun b => b < w.heap.size) v p) : Got w [f] [v] := by
  refine ⟨[p], [u], by simp only [PurR]; exact ⟨p, [], u, [], rfl, rfl, h1, rfl, rfl⟩, by simp only [LenR]; exact ⟨h2, trivial⟩, rfl, fun i y hy => ?_⟩
  cases i with
  | zero => simp at hy; subst hy; exact ⟨v, rfl, h3⟩
  | succ i => simp at hy
theorem PurR_len : ∀ {fs : List Fd} {ps : List V} {us : List U}, PurR fs ps us → ps.length = fs.length ∧ us.length = fs.length
  | [], _, _, h => by simp only [PurR] at h; rw [h.1, h.2]; exact ⟨rfl, rfl⟩
  | f :: fs, _, _, h => by
    simp only [PurR] at h
    obtain ⟨v, c', u, x', rfl, rfl, _, h2⟩ := h
    have := PurR_len h2
    simp [this.1, this.2]
theorem PurR_app : ∀ {f1 f2 : List Fd} {p1 p2 : List V} {u1 u2 : List U}, PurR f1 p1 u1 → PurR f2 p2 u2 → PurR (f1 ++ f2) (p1 ++ p2) (u1 ++ u2)
  | [], _, _, _, _, _, h, h2 => by simp only [PurR] at h; rw [h.1, h.2]; exact h2
  | f :: f1, f2, _, p2, _, u2, h, h2 => by
    simp only [PurR] at h
    obtain ⟨v, c', u, x', rfl, rfl, h3, h4⟩ := h
    show PurR (f :: (f1 ++ f2)) _ _
    simp only [PurR]
    exact ⟨v, c' ++ p2, u, x' ++ u2, rfl, rfl, h3, PurR_app h4 h2⟩
theorem LenR_app {n m : Nat} : ∀ {f1 f2 : List Fd} {u1 u2 : List U}, u1.length = f1.length → LenR n m f1 u1 → LenR n m f2 u2 → LenR n m (f1 ++ f2) (u1 ++ u2)
  | [], _, u1, _, hl, _, h2 => by
    have : u1 = [] := List.eq_nil_of_length_eq_zero hl
    subst this
    exact h2
  | f :: f1, f2, u :: u1, u2, hl, h, h2 => by
    show LenR n m (f :: (f1 ++ f2)) (u :: (u1 ++ u2))
    simp only [LenR] at h ⊢
    exact ⟨h.1, LenR_app (by simpa using hl) h.2 h2⟩
  | _ :: _, _, [], _, hl, _, _ => by simp at hl
theorem Got.app {f1 f2 : List Fd} {c1 c2 : List Value} (h1 : Got w f1 c1) (h2 : Got w f2 c2) : Got w (f1 ++ f2) (c1 ++ c2) := by
  obtain ⟨p1, u1, a1, a2, a3, a4⟩ := h1
  obtain ⟨p2, u2, b1, b2, b3, b4⟩ := h2
  refine ⟨p1 ++ p2, u1 ++ u2, PurR_app a1 b1, LenR_app (PurR_len a1).2 a2 b2, by simp [a3, b3], fun i y hy => ?_⟩
  rcases Nat.lt_or_ge i p1.length with hi | hi
  · rw [List.getElem?_append_left hi] at hy
    obtain ⟨u, hu, hr⟩ := a4 i y hy
    exact ⟨u, by rw [List.getElem?_append_left (by omega)]; exact hu, hr⟩
  · rw [List.getElem?_append_right hi] at hy
    obtain ⟨u, hu, hr⟩ := b4 _ y hy
    exact ⟨u, by rw [List.getElem?_append_right (by omega), ← a3]; exact hu, hr⟩

theorem plain_addr {a : Addr} {v : Value} (h : w.cell? a = some v) : ∃ g o, a = ⟨g, o, none⟩ ∧ g < w.heap.size := by
  obtain ⟨g, o, sp⟩ := a
  unfold World.cell? at h
  have hg : g < w.heap.size := by
    rcases Nat.lt_or_ge g w.heap.size with h1 | h1
    · exact h1
    · rw [Array.getElem?_eq_none h1] at h; cases sp <;> simp at h
  cases sp with
  | none => exact ⟨g, o, rfl, hg⟩
  | some s => simp at h; split at h <;> cases h

/-- A slice out of its elements. -/
theorem got_slice {fs : List Fd} {a : Addr} {len cap : Nat} (hpos : 0 < fs.length) (hl : len ≤ cap) (hm : cap ≤ maxLen) (hx : ∀ i, i < len → ∃ cs', w.cells? base (a.add (i * fs.length)) fs.length = some cs' ∧ Got w fs cs') :
    Got w [.sub fs] [.slice (some a) len cap] := by
  have hx' : ∀ i, i < len → ∃ q : List V × List U × List Value, w.cells? base (a.add (i * fs.length)) fs.length = some q.2.2 ∧ PurR fs q.1 q.2.1 ∧ LenR B63 B63 fs q.2.1 ∧ q.1.length = q.2.2.length ∧ ∀ (j : Nat) (y : V), q.1[j]? = some y → ∃ u, q.2.2[j]? = some u ∧ Rep w (fun b => b < w.heap.size) u y := by
    intro i hi
    obtain ⟨cs', h1, ps, us, h2, h3, h4, h5⟩ := hx i hi
    exact ⟨(ps, us, cs'), h1, h2, h3, h4, h5⟩
  obtain ⟨q, hq⟩ := Go.Deep.choose_lt hx'
  have hzip : ∀ (n : Nat), n ≤ len → Zip2 (PurR fs) ((List.range n).map fun i => (q i).1) ((List.range n).map fun i => (q i).2.1) ∧ AllU (LenR B63 B63 fs) ((List.range n).map fun i => (q i).2.1) := by
    have z2 : ∀ {l1 : List (List V)} {l2 : List (List U)} {c : List V} {x : List U}, Zip2 (PurR fs) l1 l2 → PurR fs c x → Zip2 (PurR fs) (l1 ++ [c]) (l2 ++ [x]) := by
      intro l1
      induction l1 with
      | nil => intro l2 c x h hc; cases l2 with
        | nil => exact ⟨hc, trivial⟩
        | cons b bs => exact h.elim
      | cons a l1 ih => intro l2 c x h hc; cases l2 with
        | nil => exact h.elim
        | cons b bs => exact ⟨h.1, ih h.2 hc⟩
    have a2 : ∀ {l2 : List (List U)} {x : List U}, AllU (LenR B63 B63 fs) l2 → LenR B63 B63 fs x → AllU (LenR B63 B63 fs) (l2 ++ [x]) := by
      intro l2
      induction l2 with
      | nil => intro x _ hx; exact ⟨hx, trivial⟩
      | cons b bs ih => intro x h hx; exact ⟨h.1, ih h.2 hx⟩
    intro n
    induction n with
    | zero => intro _; exact ⟨trivial, trivial⟩
    | succ n ih =>
      intro hn
      obtain ⟨i1, i2⟩ := ih (by omega)
      obtain ⟨_, b1, b2, _⟩ := hq n (by omega)
      rw [List.range_succ, List.map_append, List.map_append]
      exact ⟨z2 i1 b1, a2 i2 b2⟩
  obtain ⟨z1, z2⟩ := hzip len (Nat.le_refl _)
  have hml : maxLen = 9223372036854775807 := by decide
  refine Got.one (p := .sl false fs.length ((List.range len).map fun i => (q i).1)) (u := .sub ((List.range len).map fun i => (q i).2.1)) ?_ ?_ ?_
  · simp only [PurF]
    exact ⟨false, _, _, rfl, rfl, z1⟩
  · simp only [LenF, List.length_map, List.length_range]
    exact ⟨by unfold B63; omega, z2⟩
  · have hlen : ∀ j x, ((List.range len).map fun i => (q i).1)[j]? = some x → j < len ∧ x = (q j).1 := by
      intro j x hx
      rw [List.getElem?_map] at hx
      obtain ⟨k, hk, rfl⟩ := Option.map_eq_some_iff.1 hx
      have hj : j < len := by
        have := (List.getElem?_eq_some_iff.1 hk).1
        simpa using this
      rw [List.getElem?_range hj] at hk
      injection hk with hk
      subst hk
      exact ⟨hj, rfl⟩
    have hcell : ∀ (j c : Nat) (y : V), j < len → (q j).1[c]? = some y → ∃ u, (q j).2.2[c]? = some u ∧ w.cell? ((a.add (j * fs.length)).add c) = some u ∧ Rep w (fun b => b < w.heap.size) u y := by
      intro j c y hj hy
      obtain ⟨h1, h2, h3, h4, h5⟩ := hq j hj
      obtain ⟨_, h6, h7⟩ := World.cells?_some h1
      obtain ⟨u, hu, hr⟩ := h5 c y hy
      have hc : c < fs.length := by
        have := (List.getElem?_eq_some_iff.1 hu).1
        omega
      exact ⟨u, hu, (h7 c hc).trans hu, hr⟩
    refine Rep.sl (some a) len cap false _ fs.length (fun j c => ((q j).2.2[c]?).getD undef) (by simp) hl (fun e => by cases e) hpos (fun x hx => ?_) (fun hn => ?_) (fun j c x y hx hy => ?_)
    · obtain ⟨j, hj⟩ := List.getElem?_of_mem hx
      obtain ⟨h1, rfl⟩ := hlen j x hj
      exact (PurR_len (hq j h1).2.1).1
    · have h0 := (PurR_len (hq 0 hn).2.1).1
      have hy0 : (q 0).1[0]? = some (q 0).1[0] := List.getElem?_eq_getElem (by omega)
      obtain ⟨u0, _, c0, _⟩ := hcell 0 0 _ hn hy0
      rw [Nat.zero_mul] at c0
      have ha : (a.add 0).add 0 = a := by simp [Addr.add]
      rw [ha] at c0
      obtain ⟨g, o, rfl, hg⟩ := plain_addr c0
      refine ⟨g, o, rfl, hg, fun j c x y hx hy => ?_⟩
      obtain ⟨h1, rfl⟩ := hlen j x hx
      obtain ⟨u, hu, hc, _⟩ := hcell j c y h1 hy
      rw [add0, add0] at hc
      rw [hc, hu]
      rfl
    · obtain ⟨h1, rfl⟩ := hlen j x hx
      obtain ⟨u, hu, _, hr⟩ := hcell j c y h1 hy
      show Rep w _ (((q j).2.2[c]?).getD undef) y
      rw [hu]
      exact hr

mutual
theorem gotF : ∀ (n : Nat) {t : TypeId} {f : Fd} {fuel : Nat} {cs : List Value} {x : DataW H × List MemPlace}, tyF P n t f = true → DataW.trod enc P w base spare held fuel t cs = some x → Got w [f] cs
  | 0, _, _, _, _, _, ht, _ => by simp [tyF] at ht
  | n + 1, t, .int k, fuel, cs, x, ht, h => by
    simp only [tyF] at ht
    split at ht
    · rename_i k' hu
      simp only [decide_eq_true_eq] at ht
      subst ht
      obtain ⟨m, rfl, _, _⟩ := DataW.trod_int hu h
      exact Got.one (p := .int k' m) (u := .int m) (by simp only [PurF]; exact ⟨m, rfl, rfl⟩) (by simp [LenF]) (.int _ _)
    · cases ht
  | n + 1, t, .bool, fuel, cs, x, ht, h => by
    simp only [tyF] at ht
    split at ht
    · rename_i hu
      obtain ⟨m, rfl, _⟩ := DataW.trod_bool hu h
      exact Got.one (p := .bool m) (u := .bool m) (by simp only [PurF]; exact ⟨m, rfl, rfl⟩) (by simp [LenF]) (.bool _)
    · cases ht
  | n + 1, t, .str, fuel, cs, x, ht, h => by
    simp only [tyF] at ht
    split at ht
    · rename_i hu
      obtain ⟨m, rfl, _, hm⟩ := DataW.trod_string hu h
      have hml : maxLen = 9223372036854775807 := by decide
      exact Got.one (p := .str m) (u := .str m) (by simp only [PurF]; exact ⟨m, rfl, rfl⟩) (by simp only [LenF]; unfold B63; omega) (.str _)
    · cases ht
  | n + 1, t, .sub fs, fuel, cs, x, ht, h => by
    simp only [tyF] at ht
    split at ht
    · rename_i e hu
      simp only [Bool.and_eq_true, decide_eq_true_eq] at ht
      obtain ⟨⟨hc, hpos⟩, hr⟩ := ht
      rcases Go.Deep.open_slice hu h with ⟨rfl, _⟩ | ⟨a, len, cap, m, k, D, Pl, rfl, hb, hl, hm, hmm, _, hx⟩
      · exact Got.one (p := .sl true fs.length []) (u := .sub []) (by rw [PurF]; exact ⟨true, [], [], rfl, rfl, trivial⟩) (by simp only [LenF]; exact ⟨Nat.zero_le _, trivial⟩) (rep_empty hpos (fun _ => rfl))
      · refine got_slice (base := base) hpos hl hm (fun i hi => ?_)
        obtain ⟨cs', h1, h2⟩ := hx i (by rw [hmm]; split <;> omega)
        rw [hc] at h1
        exact ⟨cs', h1, gotR n hr h2⟩
    · cases ht
theorem gotR : ∀ (n : Nat) {t : TypeId} {fs : List Fd} {fuel : Nat} {cs : List Value} {x : DataW H × List MemPlace}, tyR P n t fs = true → DataW.trod enc P w base spare held fuel t cs = some x → Got w fs cs
  | 0, _, _, _, _, _, ht, _ => by simp [tyR] at ht
  | n + 1, t, fs, fuel, cs, x, ht, h => by
    simp only [tyR] at ht
    split at ht
    · rename_i flds hu
      simp only [Bool.and_eq_true, decide_eq_true_eq] at ht
      obtain ⟨xs, k, _, _, hcl, hxl, hf⟩ := DataW.trod_struct hu h
      refine gotS n (cs := cs) (off := 0) (fuel := k) ht.2 (by omega) (fun i fl hi => ?_)
      have hlt : i < xs.length := by
        have := (List.getElem?_eq_some_iff.1 hi).1
        simp at this
        omega
      rw [Array.getElem?_toList] at hi
      exact ⟨xs[i], by rw [hf i fl hi, List.getElem?_eq_getElem hlt]⟩
    · split at ht
      · rename_i f
        exact gotF n ht h
      · cases ht
theorem gotS : ∀ (n : Nat) {flds : List Field} {off : Nat} {fs : List Fd} {fuel : Nat} {cs : List Value}, tyS P n flds off fs = true → cs.length = off + fs.length → (∀ (i : Nat) (fl : Field), flds[i]? = some fl → ∃ x, DataW.trod enc P w base spare held fuel fl.type ((cs.drop fl.offset).take (P.cellsOf fl.type)) = some x) → Got w fs (cs.drop off)
  | 0, _, _, _, _, _, ht, _, _ => by simp [tyS] at ht
  | n + 1, [], off, fs, fuel, cs, ht, hl, _ => by
    simp only [tyS, List.isEmpty_iff] at ht
    subst ht
    rw [List.drop_of_length_le (by simp at hl; omega)]
    exact ⟨[], [], by simp [PurR], by simp [LenR], rfl, fun i y hy => by simp at hy⟩
  | n + 1, fl :: r, off, fs, fuel, cs, ht, hl, hx => by
    simp only [tyS, Bool.and_eq_true, decide_eq_true_eq] at ht
    obtain ⟨⟨⟨ho, h1⟩, hle⟩, h2⟩ := ht
    obtain ⟨x, hx0⟩ := hx 0 fl rfl
    rw [ho] at hx0
    have g1 := gotR n h1 hx0
    have g2 := gotS n (cs := cs) (off := off + P.cellsOf fl.type) h2 (by rw [List.length_drop]; omega) (fun i f hi => hx (i + 1) f (by simpa using hi))
    have g := g1.app g2
    rw [List.take_append_drop] at g
    rw [← List.drop_drop, List.take_append_drop] at g
    exact g
end
/-- An argument of a slice's type. -/
theorem got_arg {t : TypeId} {fs : List Fd} {v : Value} {d : DataW H} {ps : List MemPlace} (n : Nat) (ht : tyF P n t (.sub fs) = true) (h : DataW.Trod enc P w base spare held t v d ps) (hv : v.cells = #[v]) :
    ∃ p xs, Rep w (fun b => b < w.heap.size) v p ∧ PurF (.sub fs) p (.sub xs) ∧ LenF B63 B63 (.sub fs) (.sub xs) := by
  obtain ⟨fuel, h⟩ := h
  obtain ⟨ps, us, h1, h2, h3, h4⟩ := gotF n ht h
  simp only [PurR] at h1
  obtain ⟨p, _, u, _, rfl, rfl, g, rfl, rfl⟩ := h1
  simp only [LenR] at h2
  obtain ⟨u', hu, hr⟩ := h4 0 p rfl
  rw [hv] at hu
  simp at hu
  subst hu
  have g' := g
  simp only [PurF] at g'
  obtain ⟨_, _, xs, _, rfl, _⟩ := g'
  exact ⟨p, xs, hr, g, h2.1⟩
end
end Go.Proofs.Ytgepapgabnaonaa.PE
