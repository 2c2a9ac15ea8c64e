/- What is found of an expression where columns are none: the reference's; and that it holds. -/
import Derived.Test.YtgepapgabnaonaaPza
set_option linter.unusedSimpArgs false
set_option linter.unusedVariables false
set_option maxHeartbeats 4000000
namespace Go.Proofs.Ytgepapgabnaonaa.PE
open Go.RowKit

theorem two_ofG {α : Type} (z : α) (st : List α) (h : 2 ≤ st.length) : st = st.take (st.length - 2) ++ [st.getD (st.length - 2) z, st.getD (st.length - 1) z] := by
  have h1 : st = st.take (st.length - 2) ++ st.drop (st.length - 2) := (List.take_append_drop _ _).symm
  rw [drop_two st z h] at h1
  exact h1
theorem one_ofG {α : Type} (z : α) (st : List α) (h : 1 ≤ st.length) : st = st.take (st.length - 1) ++ [st.getD (st.length - 1) z] := by
  have h1 : st = st.take (st.length - 1) ++ st.drop (st.length - 1) := (List.take_append_drop _ _).symm
  rw [drop_one st z h] at h1
  exact h1
theorem subst2 (n : Nat) : ((n : Int) + 2 - 2) = (n : Int) := by omega
theorem next3 (d : Nat) (fr : Int) (s : List Fct) (a b : Fct) (stm : Nat) (pz : Int) (pvk pvn : Int) (pvq : ByteArray) (hs : s.length ≤ 1000) :
    callS (runD tab noExt (d + 1)) [.rows stm 3 (s.map Fct.cells ++ [Fct.cells a, Fct.cells b])] 91 [.ref 0 stm 0 (s.length + 2) false, .agg [.int .i64 3, .int .i64 pz, .int .i64 pvk, .int .i64 pvn, .str pvq], .int .i64 fr] true =
      some (.ref 0 (stm + 1) 0 (s.length + 1) false, [.rows (stm + 1) 3 (s.map Fct.cells ++ [Fct.cells (fct2 3 a b)])]) := by
  rw [callS_eq, runD_eq find91 _ _ _ (by simp)]
  have hs2 : s.length + 1 < 4294967296 := by omega
  have hs4 : (0 : Int) ≤ (s.length : Int) + 1 := by omega
  have hs5 : ((s.length : Int) < 0) = False := eq_false (by omega)
  have hs7 : ((s.length : Int) + 1).toNat = s.length + 1 := by omega
  have hs8 : (s.length : Int) ≤ (s.length : Int) + 2 := by omega
  have hs9 : (s.length = s.length + 2) = False := eq_false (by omega)
  have q1 : s.length < s.length + 2 := by omega
  have q2 : s.length + 1 < s.length + 2 := by omega
  obtain ⟨a1, a2, a3⟩ := a
  obtain ⟨b1, b2, b3⟩ := b
  cases a1
  · cases b1
    · simp -implicitDefEqProofs (disch := omega) only [go_sem, Nat.sub_zero, List.drop_zero, eq_self, Option.getD_none, Option.getD_some, Option.isSome_none, Option.isSome_some, Option.isNone_none, Option.isNone_some, Bool.or_false, Bool.false_or, Bool.and_false, Bool.false_and, Int.le_refl, Nat.le_refl, List.length_map, List.getElem?_map, Int.natCast_add, Int.natCast_one, List.append_assoc, List.length_append, Nat.add_assoc, and_self, and_true, true_and, and_false, false_and, or_true, true_or, or_false, false_or, not_true_eq_false, not_false_eq_true, Int.cast_ofNat_Int, Int.natCast_nonneg, Int.toNat_natCast, ne_eq, not_true_eq_false, not_false_eq_true, Nat.reduceBEq, Nat.reduceAdd, Nat.reduceSub, Nat.reduceMul, Nat.reduceLeDiff, Nat.reduceEqDiff, Nat.reduceLT, Int.reduceNeg, Int.reduceAdd, Int.reduceSub, Int.reduceMul, Int.reduceLE, Int.reduceLT, Int.reduceEq, Int.reduceToNat, reduceCtorEq, evC_draw, evD91x0, E91x0, Fct.cells, IntWalk.i64_in, hs2, hs4, hs5, hs7, hs8, hs9, q1, q2, pre2, pre3, at_map_end, at_map_end_add, take_map_end]
      simp [fct2]
    · simp -implicitDefEqProofs (disch := omega) only [go_sem, Nat.sub_zero, List.drop_zero, eq_self, Option.getD_none, Option.getD_some, Option.isSome_none, Option.isSome_some, Option.isNone_none, Option.isNone_some, Bool.or_false, Bool.false_or, Bool.and_false, Bool.false_and, Int.le_refl, Nat.le_refl, List.length_map, List.getElem?_map, Int.natCast_add, Int.natCast_one, List.append_assoc, List.length_append, Nat.add_assoc, and_self, and_true, true_and, and_false, false_and, or_true, true_or, or_false, false_or, not_true_eq_false, not_false_eq_true, Int.cast_ofNat_Int, Int.natCast_nonneg, Int.toNat_natCast, ne_eq, not_true_eq_false, not_false_eq_true, Nat.reduceBEq, Nat.reduceAdd, Nat.reduceSub, Nat.reduceMul, Nat.reduceLeDiff, Nat.reduceEqDiff, Nat.reduceLT, Int.reduceNeg, Int.reduceAdd, Int.reduceSub, Int.reduceMul, Int.reduceLE, Int.reduceLT, Int.reduceEq, Int.reduceToNat, reduceCtorEq, evC_draw, evD91x0, E91x0, Fct.cells, IntWalk.i64_in, hs2, hs4, hs5, hs7, hs8, hs9, q1, q2, pre2, pre3, at_map_end, at_map_end_add, take_map_end]
      simp [fct2]
  · simp -implicitDefEqProofs (disch := omega) only [go_sem, Nat.sub_zero, List.drop_zero, eq_self, Option.getD_none, Option.getD_some, Option.isSome_none, Option.isSome_some, Option.isNone_none, Option.isNone_some, Bool.or_false, Bool.false_or, Bool.and_false, Bool.false_and, Int.le_refl, Nat.le_refl, List.length_map, List.getElem?_map, Int.natCast_add, Int.natCast_one, List.append_assoc, List.length_append, Nat.add_assoc, and_self, and_true, true_and, and_false, false_and, or_true, true_or, or_false, false_or, not_true_eq_false, not_false_eq_true, Int.cast_ofNat_Int, Int.natCast_nonneg, Int.toNat_natCast, ne_eq, not_true_eq_false, not_false_eq_true, Nat.reduceBEq, Nat.reduceAdd, Nat.reduceSub, Nat.reduceMul, Nat.reduceLeDiff, Nat.reduceEqDiff, Nat.reduceLT, Int.reduceNeg, Int.reduceAdd, Int.reduceSub, Int.reduceMul, Int.reduceLE, Int.reduceLT, Int.reduceEq, Int.reduceToNat, reduceCtorEq, evC_draw, evD91x0, E91x0, Fct.cells, IntWalk.i64_in, hs2, hs4, hs5, hs7, hs8, hs9, q1, q2, pre2, pre3, at_map_end, at_map_end_add, take_map_end]
    simp [fct2]
theorem next4 (d : Nat) (fr : Int) (s : List Fct) (a b : Fct) (stm : Nat) (pz : Int) (pvk pvn : Int) (pvq : ByteArray) (hs : s.length ≤ 1000) :
    callS (runD tab noExt (d + 1)) [.rows stm 3 (s.map Fct.cells ++ [Fct.cells a, Fct.cells b])] 91 [.ref 0 stm 0 (s.length + 2) false, .agg [.int .i64 4, .int .i64 pz, .int .i64 pvk, .int .i64 pvn, .str pvq], .int .i64 fr] true =
      some (.ref 0 (stm + 1) 0 (s.length + 1) false, [.rows (stm + 1) 3 (s.map Fct.cells ++ [Fct.cells (fct2 4 a b)])]) := by
  rw [callS_eq, runD_eq find91 _ _ _ (by simp)]
  have hs2 : s.length + 1 < 4294967296 := by omega
  have hs4 : (0 : Int) ≤ (s.length : Int) + 1 := by omega
  have hs5 : ((s.length : Int) < 0) = False := eq_false (by omega)
  have hs7 : ((s.length : Int) + 1).toNat = s.length + 1 := by omega
  have hs8 : (s.length : Int) ≤ (s.length : Int) + 2 := by omega
  have hs9 : (s.length = s.length + 2) = False := eq_false (by omega)
  have q1 : s.length < s.length + 2 := by omega
  have q2 : s.length + 1 < s.length + 2 := by omega
  obtain ⟨a1, a2, a3⟩ := a
  obtain ⟨b1, b2, b3⟩ := b
  cases a1
  · cases b1
    · simp -implicitDefEqProofs (disch := omega) only [go_sem, Nat.sub_zero, List.drop_zero, eq_self, Option.getD_none, Option.getD_some, Option.isSome_none, Option.isSome_some, Option.isNone_none, Option.isNone_some, Bool.or_false, Bool.false_or, Bool.and_false, Bool.false_and, Int.le_refl, Nat.le_refl, List.length_map, List.getElem?_map, Int.natCast_add, Int.natCast_one, List.append_assoc, List.length_append, Nat.add_assoc, and_self, and_true, true_and, and_false, false_and, or_true, true_or, or_false, false_or, not_true_eq_false, not_false_eq_true, Int.cast_ofNat_Int, Int.natCast_nonneg, Int.toNat_natCast, ne_eq, not_true_eq_false, not_false_eq_true, Nat.reduceBEq, Nat.reduceAdd, Nat.reduceSub, Nat.reduceMul, Nat.reduceLeDiff, Nat.reduceEqDiff, Nat.reduceLT, Int.reduceNeg, Int.reduceAdd, Int.reduceSub, Int.reduceMul, Int.reduceLE, Int.reduceLT, Int.reduceEq, Int.reduceToNat, reduceCtorEq, evC_draw, evD91x0, E91x0, Fct.cells, IntWalk.i64_in, hs2, hs4, hs5, hs7, hs8, hs9, q1, q2, pre2, pre3, at_map_end, at_map_end_add, take_map_end]
      simp [fct2]
    · simp -implicitDefEqProofs (disch := omega) only [go_sem, Nat.sub_zero, List.drop_zero, eq_self, Option.getD_none, Option.getD_some, Option.isSome_none, Option.isSome_some, Option.isNone_none, Option.isNone_some, Bool.or_false, Bool.false_or, Bool.and_false, Bool.false_and, Int.le_refl, Nat.le_refl, List.length_map, List.getElem?_map, Int.natCast_add, Int.natCast_one, List.append_assoc, List.length_append, Nat.add_assoc, and_self, and_true, true_and, and_false, false_and, or_true, true_or, or_false, false_or, not_true_eq_false, not_false_eq_true, Int.cast_ofNat_Int, Int.natCast_nonneg, Int.toNat_natCast, ne_eq, not_true_eq_false, not_false_eq_true, Nat.reduceBEq, Nat.reduceAdd, Nat.reduceSub, Nat.reduceMul, Nat.reduceLeDiff, Nat.reduceEqDiff, Nat.reduceLT, Int.reduceNeg, Int.reduceAdd, Int.reduceSub, Int.reduceMul, Int.reduceLE, Int.reduceLT, Int.reduceEq, Int.reduceToNat, reduceCtorEq, evC_draw, evD91x0, E91x0, Fct.cells, IntWalk.i64_in, hs2, hs4, hs5, hs7, hs8, hs9, q1, q2, pre2, pre3, at_map_end, at_map_end_add, take_map_end]
      simp [fct2]
  · simp -implicitDefEqProofs (disch := omega) only [go_sem, Nat.sub_zero, List.drop_zero, eq_self, Option.getD_none, Option.getD_some, Option.isSome_none, Option.isSome_some, Option.isNone_none, Option.isNone_some, Bool.or_false, Bool.false_or, Bool.and_false, Bool.false_and, Int.le_refl, Nat.le_refl, List.length_map, List.getElem?_map, Int.natCast_add, Int.natCast_one, List.append_assoc, List.length_append, Nat.add_assoc, and_self, and_true, true_and, and_false, false_and, or_true, true_or, or_false, false_or, not_true_eq_false, not_false_eq_true, Int.cast_ofNat_Int, Int.natCast_nonneg, Int.toNat_natCast, ne_eq, not_true_eq_false, not_false_eq_true, Nat.reduceBEq, Nat.reduceAdd, Nat.reduceSub, Nat.reduceMul, Nat.reduceLeDiff, Nat.reduceEqDiff, Nat.reduceLT, Int.reduceNeg, Int.reduceAdd, Int.reduceSub, Int.reduceMul, Int.reduceLE, Int.reduceLT, Int.reduceEq, Int.reduceToNat, reduceCtorEq, evC_draw, evD91x0, E91x0, Fct.cells, IntWalk.i64_in, hs2, hs4, hs5, hs7, hs8, hs9, q1, q2, pre2, pre3, at_map_end, at_map_end_add, take_map_end]
    simp [fct2]
theorem next5 (d : Nat) (fr : Int) (s : List Fct) (a b : Fct) (stm : Nat) (pz : Int) (pvk pvn : Int) (pvq : ByteArray) (hs : s.length ≤ 1000) :
    callS (runD tab noExt (d + 1)) [.rows stm 3 (s.map Fct.cells ++ [Fct.cells a, Fct.cells b])] 91 [.ref 0 stm 0 (s.length + 2) false, .agg [.int .i64 5, .int .i64 pz, .int .i64 pvk, .int .i64 pvn, .str pvq], .int .i64 fr] true =
      some (.ref 0 (stm + 1) 0 (s.length + 1) false, [.rows (stm + 1) 3 (s.map Fct.cells ++ [Fct.cells (fct2 5 a b)])]) := by
  rw [callS_eq, runD_eq find91 _ _ _ (by simp)]
  have hs2 : s.length + 1 < 4294967296 := by omega
  have hs4 : (0 : Int) ≤ (s.length : Int) + 1 := by omega
  have hs5 : ((s.length : Int) < 0) = False := eq_false (by omega)
  have hs7 : ((s.length : Int) + 1).toNat = s.length + 1 := by omega
  have hs8 : (s.length : Int) ≤ (s.length : Int) + 2 := by omega
  have hs9 : (s.length = s.length + 2) = False := eq_false (by omega)
  have q1 : s.length < s.length + 2 := by omega
  have q2 : s.length + 1 < s.length + 2 := by omega
  obtain ⟨a1, a2, a3⟩ := a
  obtain ⟨b1, b2, b3⟩ := b
  cases a2
  · cases a3
    · cases b2
      · simp -implicitDefEqProofs (disch := omega) only [go_sem, Nat.sub_zero, List.drop_zero, eq_self, Option.getD_none, Option.getD_some, Option.isSome_none, Option.isSome_some, Option.isNone_none, Option.isNone_some, Bool.or_false, Bool.false_or, Bool.and_false, Bool.false_and, Int.le_refl, Nat.le_refl, List.length_map, List.getElem?_map, Int.natCast_add, Int.natCast_one, List.append_assoc, List.length_append, Nat.add_assoc, and_self, and_true, true_and, and_false, false_and, or_true, true_or, or_false, false_or, not_true_eq_false, not_false_eq_true, Int.cast_ofNat_Int, Int.natCast_nonneg, Int.toNat_natCast, ne_eq, not_true_eq_false, not_false_eq_true, Nat.reduceBEq, Nat.reduceAdd, Nat.reduceSub, Nat.reduceMul, Nat.reduceLeDiff, Nat.reduceEqDiff, Nat.reduceLT, Int.reduceNeg, Int.reduceAdd, Int.reduceSub, Int.reduceMul, Int.reduceLE, Int.reduceLT, Int.reduceEq, Int.reduceToNat, reduceCtorEq, evC_draw, evD91x1, E91x1, evC_draw, evD91x2, E91x2, Fct.cells, IntWalk.i64_in, hs2, hs4, hs5, hs7, hs8, hs9, q1, q2, pre2, pre3, at_map_end, at_map_end_add, take_map_end]
        simp [fct2]
      · simp -implicitDefEqProofs (disch := omega) only [go_sem, Nat.sub_zero, List.drop_zero, eq_self, Option.getD_none, Option.getD_some, Option.isSome_none, Option.isSome_some, Option.isNone_none, Option.isNone_some, Bool.or_false, Bool.false_or, Bool.and_false, Bool.false_and, Int.le_refl, Nat.le_refl, List.length_map, List.getElem?_map, Int.natCast_add, Int.natCast_one, List.append_assoc, List.length_append, Nat.add_assoc, and_self, and_true, true_and, and_false, false_and, or_true, true_or, or_false, false_or, not_true_eq_false, not_false_eq_true, Int.cast_ofNat_Int, Int.natCast_nonneg, Int.toNat_natCast, ne_eq, not_true_eq_false, not_false_eq_true, Nat.reduceBEq, Nat.reduceAdd, Nat.reduceSub, Nat.reduceMul, Nat.reduceLeDiff, Nat.reduceEqDiff, Nat.reduceLT, Int.reduceNeg, Int.reduceAdd, Int.reduceSub, Int.reduceMul, Int.reduceLE, Int.reduceLT, Int.reduceEq, Int.reduceToNat, reduceCtorEq, evC_draw, evD91x1, E91x1, evC_draw, evD91x2, E91x2, Fct.cells, IntWalk.i64_in, hs2, hs4, hs5, hs7, hs8, hs9, q1, q2, pre2, pre3, at_map_end, at_map_end_add, take_map_end]
        simp [fct2]
    · cases b2
      · simp -implicitDefEqProofs (disch := omega) only [go_sem, Nat.sub_zero, List.drop_zero, eq_self, Option.getD_none, Option.getD_some, Option.isSome_none, Option.isSome_some, Option.isNone_none, Option.isNone_some, Bool.or_false, Bool.false_or, Bool.and_false, Bool.false_and, Int.le_refl, Nat.le_refl, List.length_map, List.getElem?_map, Int.natCast_add, Int.natCast_one, List.append_assoc, List.length_append, Nat.add_assoc, and_self, and_true, true_and, and_false, false_and, or_true, true_or, or_false, false_or, not_true_eq_false, not_false_eq_true, Int.cast_ofNat_Int, Int.natCast_nonneg, Int.toNat_natCast, ne_eq, not_true_eq_false, not_false_eq_true, Nat.reduceBEq, Nat.reduceAdd, Nat.reduceSub, Nat.reduceMul, Nat.reduceLeDiff, Nat.reduceEqDiff, Nat.reduceLT, Int.reduceNeg, Int.reduceAdd, Int.reduceSub, Int.reduceMul, Int.reduceLE, Int.reduceLT, Int.reduceEq, Int.reduceToNat, reduceCtorEq, evC_draw, evD91x1, E91x1, evC_draw, evD91x2, E91x2, Fct.cells, IntWalk.i64_in, hs2, hs4, hs5, hs7, hs8, hs9, q1, q2, pre2, pre3, at_map_end, at_map_end_add, take_map_end]
        simp [fct2]
      · simp -implicitDefEqProofs (disch := omega) only [go_sem, Nat.sub_zero, List.drop_zero, eq_self, Option.getD_none, Option.getD_some, Option.isSome_none, Option.isSome_some, Option.isNone_none, Option.isNone_some, Bool.or_false, Bool.false_or, Bool.and_false, Bool.false_and, Int.le_refl, Nat.le_refl, List.length_map, List.getElem?_map, Int.natCast_add, Int.natCast_one, List.append_assoc, List.length_append, Nat.add_assoc, and_self, and_true, true_and, and_false, false_and, or_true, true_or, or_false, false_or, not_true_eq_false, not_false_eq_true, Int.cast_ofNat_Int, Int.natCast_nonneg, Int.toNat_natCast, ne_eq, not_true_eq_false, not_false_eq_true, Nat.reduceBEq, Nat.reduceAdd, Nat.reduceSub, Nat.reduceMul, Nat.reduceLeDiff, Nat.reduceEqDiff, Nat.reduceLT, Int.reduceNeg, Int.reduceAdd, Int.reduceSub, Int.reduceMul, Int.reduceLE, Int.reduceLT, Int.reduceEq, Int.reduceToNat, reduceCtorEq, evC_draw, evD91x1, E91x1, evC_draw, evD91x2, E91x2, Fct.cells, IntWalk.i64_in, hs2, hs4, hs5, hs7, hs8, hs9, q1, q2, pre2, pre3, at_map_end, at_map_end_add, take_map_end]
        simp [fct2]
  · cases a3
    · simp -implicitDefEqProofs (disch := omega) only [go_sem, Nat.sub_zero, List.drop_zero, eq_self, Option.getD_none, Option.getD_some, Option.isSome_none, Option.isSome_some, Option.isNone_none, Option.isNone_some, Bool.or_false, Bool.false_or, Bool.and_false, Bool.false_and, Int.le_refl, Nat.le_refl, List.length_map, List.getElem?_map, Int.natCast_add, Int.natCast_one, List.append_assoc, List.length_append, Nat.add_assoc, and_self, and_true, true_and, and_false, false_and, or_true, true_or, or_false, false_or, not_true_eq_false, not_false_eq_true, Int.cast_ofNat_Int, Int.natCast_nonneg, Int.toNat_natCast, ne_eq, not_true_eq_false, not_false_eq_true, Nat.reduceBEq, Nat.reduceAdd, Nat.reduceSub, Nat.reduceMul, Nat.reduceLeDiff, Nat.reduceEqDiff, Nat.reduceLT, Int.reduceNeg, Int.reduceAdd, Int.reduceSub, Int.reduceMul, Int.reduceLE, Int.reduceLT, Int.reduceEq, Int.reduceToNat, reduceCtorEq, evC_draw, evD91x1, E91x1, evC_draw, evD91x2, E91x2, Fct.cells, IntWalk.i64_in, hs2, hs4, hs5, hs7, hs8, hs9, q1, q2, pre2, pre3, at_map_end, at_map_end_add, take_map_end]
      simp [fct2]
    · simp -implicitDefEqProofs (disch := omega) only [go_sem, Nat.sub_zero, List.drop_zero, eq_self, Option.getD_none, Option.getD_some, Option.isSome_none, Option.isSome_some, Option.isNone_none, Option.isNone_some, Bool.or_false, Bool.false_or, Bool.and_false, Bool.false_and, Int.le_refl, Nat.le_refl, List.length_map, List.getElem?_map, Int.natCast_add, Int.natCast_one, List.append_assoc, List.length_append, Nat.add_assoc, and_self, and_true, true_and, and_false, false_and, or_true, true_or, or_false, false_or, not_true_eq_false, not_false_eq_true, Int.cast_ofNat_Int, Int.natCast_nonneg, Int.toNat_natCast, ne_eq, not_true_eq_false, not_false_eq_true, Nat.reduceBEq, Nat.reduceAdd, Nat.reduceSub, Nat.reduceMul, Nat.reduceLeDiff, Nat.reduceEqDiff, Nat.reduceLT, Int.reduceNeg, Int.reduceAdd, Int.reduceSub, Int.reduceMul, Int.reduceLE, Int.reduceLT, Int.reduceEq, Int.reduceToNat, reduceCtorEq, evC_draw, evD91x1, E91x1, evC_draw, evD91x2, E91x2, Fct.cells, IntWalk.i64_in, hs2, hs4, hs5, hs7, hs8, hs9, q1, q2, pre2, pre3, at_map_end, at_map_end_add, take_map_end]
      simp [fct2]
theorem next6 (d : Nat) (fr : Int) (s : List Fct) (a b : Fct) (stm : Nat) (pz : Int) (pvk pvn : Int) (pvq : ByteArray) (hs : s.length ≤ 1000) :
    callS (runD tab noExt (d + 1)) [.rows stm 3 (s.map Fct.cells ++ [Fct.cells a, Fct.cells b])] 91 [.ref 0 stm 0 (s.length + 2) false, .agg [.int .i64 6, .int .i64 pz, .int .i64 pvk, .int .i64 pvn, .str pvq], .int .i64 fr] true =
      some (.ref 0 (stm + 1) 0 (s.length + 1) false, [.rows (stm + 1) 3 (s.map Fct.cells ++ [Fct.cells (fct2 6 a b)])]) := by
  rw [callS_eq, runD_eq find91 _ _ _ (by simp)]
  have hs2 : s.length + 1 < 4294967296 := by omega
  have hs4 : (0 : Int) ≤ (s.length : Int) + 1 := by omega
  have hs5 : ((s.length : Int) < 0) = False := eq_false (by omega)
  have hs7 : ((s.length : Int) + 1).toNat = s.length + 1 := by omega
  have hs8 : (s.length : Int) ≤ (s.length : Int) + 2 := by omega
  have hs9 : (s.length = s.length + 2) = False := eq_false (by omega)
  have q1 : s.length < s.length + 2 := by omega
  have q2 : s.length + 1 < s.length + 2 := by omega
  obtain ⟨a1, a2, a3⟩ := a
  obtain ⟨b1, b2, b3⟩ := b
  cases a2
  · cases a3
    · simp -implicitDefEqProofs (disch := omega) only [go_sem, Nat.sub_zero, List.drop_zero, eq_self, Option.getD_none, Option.getD_some, Option.isSome_none, Option.isSome_some, Option.isNone_none, Option.isNone_some, Bool.or_false, Bool.false_or, Bool.and_false, Bool.false_and, Int.le_refl, Nat.le_refl, List.length_map, List.getElem?_map, Int.natCast_add, Int.natCast_one, List.append_assoc, List.length_append, Nat.add_assoc, and_self, and_true, true_and, and_false, false_and, or_true, true_or, or_false, false_or, not_true_eq_false, not_false_eq_true, Int.cast_ofNat_Int, Int.natCast_nonneg, Int.toNat_natCast, ne_eq, not_true_eq_false, not_false_eq_true, Nat.reduceBEq, Nat.reduceAdd, Nat.reduceSub, Nat.reduceMul, Nat.reduceLeDiff, Nat.reduceEqDiff, Nat.reduceLT, Int.reduceNeg, Int.reduceAdd, Int.reduceSub, Int.reduceMul, Int.reduceLE, Int.reduceLT, Int.reduceEq, Int.reduceToNat, reduceCtorEq, evC_draw, evD91x3, E91x3, evC_draw, evD91x4, E91x4, Fct.cells, IntWalk.i64_in, hs2, hs4, hs5, hs7, hs8, hs9, q1, q2, pre2, pre3, at_map_end, at_map_end_add, take_map_end]
      simp [fct2]
    · simp -implicitDefEqProofs (disch := omega) only [go_sem, Nat.sub_zero, List.drop_zero, eq_self, Option.getD_none, Option.getD_some, Option.isSome_none, Option.isSome_some, Option.isNone_none, Option.isNone_some, Bool.or_false, Bool.false_or, Bool.and_false, Bool.false_and, Int.le_refl, Nat.le_refl, List.length_map, List.getElem?_map, Int.natCast_add, Int.natCast_one, List.append_assoc, List.length_append, Nat.add_assoc, and_self, and_true, true_and, and_false, false_and, or_true, true_or, or_false, false_or, not_true_eq_false, not_false_eq_true, Int.cast_ofNat_Int, Int.natCast_nonneg, Int.toNat_natCast, ne_eq, not_true_eq_false, not_false_eq_true, Nat.reduceBEq, Nat.reduceAdd, Nat.reduceSub, Nat.reduceMul, Nat.reduceLeDiff, Nat.reduceEqDiff, Nat.reduceLT, Int.reduceNeg, Int.reduceAdd, Int.reduceSub, Int.reduceMul, Int.reduceLE, Int.reduceLT, Int.reduceEq, Int.reduceToNat, reduceCtorEq, evC_draw, evD91x3, E91x3, evC_draw, evD91x4, E91x4, Fct.cells, IntWalk.i64_in, hs2, hs4, hs5, hs7, hs8, hs9, q1, q2, pre2, pre3, at_map_end, at_map_end_add, take_map_end]
      simp [fct2]
  · cases a3
    · cases b2
      · simp -implicitDefEqProofs (disch := omega) only [go_sem, Nat.sub_zero, List.drop_zero, eq_self, Option.getD_none, Option.getD_some, Option.isSome_none, Option.isSome_some, Option.isNone_none, Option.isNone_some, Bool.or_false, Bool.false_or, Bool.and_false, Bool.false_and, Int.le_refl, Nat.le_refl, List.length_map, List.getElem?_map, Int.natCast_add, Int.natCast_one, List.append_assoc, List.length_append, Nat.add_assoc, and_self, and_true, true_and, and_false, false_and, or_true, true_or, or_false, false_or, not_true_eq_false, not_false_eq_true, Int.cast_ofNat_Int, Int.natCast_nonneg, Int.toNat_natCast, ne_eq, not_true_eq_false, not_false_eq_true, Nat.reduceBEq, Nat.reduceAdd, Nat.reduceSub, Nat.reduceMul, Nat.reduceLeDiff, Nat.reduceEqDiff, Nat.reduceLT, Int.reduceNeg, Int.reduceAdd, Int.reduceSub, Int.reduceMul, Int.reduceLE, Int.reduceLT, Int.reduceEq, Int.reduceToNat, reduceCtorEq, evC_draw, evD91x3, E91x3, evC_draw, evD91x4, E91x4, Fct.cells, IntWalk.i64_in, hs2, hs4, hs5, hs7, hs8, hs9, q1, q2, pre2, pre3, at_map_end, at_map_end_add, take_map_end]
        simp [fct2]
      · simp -implicitDefEqProofs (disch := omega) only [go_sem, Nat.sub_zero, List.drop_zero, eq_self, Option.getD_none, Option.getD_some, Option.isSome_none, Option.isSome_some, Option.isNone_none, Option.isNone_some, Bool.or_false, Bool.false_or, Bool.and_false, Bool.false_and, Int.le_refl, Nat.le_refl, List.length_map, List.getElem?_map, Int.natCast_add, Int.natCast_one, List.append_assoc, List.length_append, Nat.add_assoc, and_self, and_true, true_and, and_false, false_and, or_true, true_or, or_false, false_or, not_true_eq_false, not_false_eq_true, Int.cast_ofNat_Int, Int.natCast_nonneg, Int.toNat_natCast, ne_eq, not_true_eq_false, not_false_eq_true, Nat.reduceBEq, Nat.reduceAdd, Nat.reduceSub, Nat.reduceMul, Nat.reduceLeDiff, Nat.reduceEqDiff, Nat.reduceLT, Int.reduceNeg, Int.reduceAdd, Int.reduceSub, Int.reduceMul, Int.reduceLE, Int.reduceLT, Int.reduceEq, Int.reduceToNat, reduceCtorEq, evC_draw, evD91x3, E91x3, evC_draw, evD91x4, E91x4, Fct.cells, IntWalk.i64_in, hs2, hs4, hs5, hs7, hs8, hs9, q1, q2, pre2, pre3, at_map_end, at_map_end_add, take_map_end]
        simp [fct2]
    · cases b2
      · simp -implicitDefEqProofs (disch := omega) only [go_sem, Nat.sub_zero, List.drop_zero, eq_self, Option.getD_none, Option.getD_some, Option.isSome_none, Option.isSome_some, Option.isNone_none, Option.isNone_some, Bool.or_false, Bool.false_or, Bool.and_false, Bool.false_and, Int.le_refl, Nat.le_refl, List.length_map, List.getElem?_map, Int.natCast_add, Int.natCast_one, List.append_assoc, List.length_append, Nat.add_assoc, and_self, and_true, true_and, and_false, false_and, or_true, true_or, or_false, false_or, not_true_eq_false, not_false_eq_true, Int.cast_ofNat_Int, Int.natCast_nonneg, Int.toNat_natCast, ne_eq, not_true_eq_false, not_false_eq_true, Nat.reduceBEq, Nat.reduceAdd, Nat.reduceSub, Nat.reduceMul, Nat.reduceLeDiff, Nat.reduceEqDiff, Nat.reduceLT, Int.reduceNeg, Int.reduceAdd, Int.reduceSub, Int.reduceMul, Int.reduceLE, Int.reduceLT, Int.reduceEq, Int.reduceToNat, reduceCtorEq, evC_draw, evD91x3, E91x3, evC_draw, evD91x4, E91x4, Fct.cells, IntWalk.i64_in, hs2, hs4, hs5, hs7, hs8, hs9, q1, q2, pre2, pre3, at_map_end, at_map_end_add, take_map_end]
        simp [fct2]
      · simp -implicitDefEqProofs (disch := omega) only [go_sem, Nat.sub_zero, List.drop_zero, eq_self, Option.getD_none, Option.getD_some, Option.isSome_none, Option.isSome_some, Option.isNone_none, Option.isNone_some, Bool.or_false, Bool.false_or, Bool.and_false, Bool.false_and, Int.le_refl, Nat.le_refl, List.length_map, List.getElem?_map, Int.natCast_add, Int.natCast_one, List.append_assoc, List.length_append, Nat.add_assoc, and_self, and_true, true_and, and_false, false_and, or_true, true_or, or_false, false_or, not_true_eq_false, not_false_eq_true, Int.cast_ofNat_Int, Int.natCast_nonneg, Int.toNat_natCast, ne_eq, not_true_eq_false, not_false_eq_true, Nat.reduceBEq, Nat.reduceAdd, Nat.reduceSub, Nat.reduceMul, Nat.reduceLeDiff, Nat.reduceEqDiff, Nat.reduceLT, Int.reduceNeg, Int.reduceAdd, Int.reduceSub, Int.reduceMul, Int.reduceLE, Int.reduceLT, Int.reduceEq, Int.reduceToNat, reduceCtorEq, evC_draw, evD91x3, E91x3, evC_draw, evD91x4, E91x4, Fct.cells, IntWalk.i64_in, hs2, hs4, hs5, hs7, hs8, hs9, q1, q2, pre2, pre3, at_map_end, at_map_end_add, take_map_end]
        simp [fct2]
theorem next2 (d : Nat) (fr : Int) (s : List Fct) (a b : Fct) (stm : Nat) (k pz : Int) (pvk pvn : Int) (pvq : ByteArray) (hs : s.length ≤ 1000) (hk : k = 3 ∨ k = 4 ∨ k = 5 ∨ k = 6) :
    callS (runD tab noExt (d + 1)) [.rows stm 3 (s.map Fct.cells ++ [Fct.cells a, Fct.cells b])] 91 [.ref 0 stm 0 (s.length + 2) false, .agg [.int .i64 k, .int .i64 pz, .int .i64 pvk, .int .i64 pvn, .str pvq], .int .i64 fr] true =
      some (.ref 0 (stm + 1) 0 (s.length + 1) false, [.rows (stm + 1) 3 (s.map Fct.cells ++ [Fct.cells (fct2 k a b)])]) := by
  rcases hk with rfl | rfl | rfl | rfl
  · exact next3 d fr s a b stm pz pvk pvn pvq hs
  · exact next4 d fr s a b stm pz pvk pvn pvq hs
  · exact next5 d fr s a b stm pz pvk pvn pvq hs
  · exact next6 d fr s a b stm pz pvk pvn pvq hs
theorem next1 (d : Nat) (fr : Int) (s : List Fct) (a : Fct) (stm : Nat) (k pz : Int) (pvk pvn : Int) (pvq : ByteArray) (hs : s.length ≤ 1000) (hk : k = 7 ∨ k = 8) :
    callS (runD tab noExt (d + 1)) [.rows stm 3 (s.map Fct.cells ++ [Fct.cells a])] 91 [.ref 0 stm 0 (s.length + 1) false, .agg [.int .i64 k, .int .i64 pz, .int .i64 pvk, .int .i64 pvn, .str pvq], .int .i64 fr] true =
      some (.ref 0 (stm + 1) 0 (s.length + 1) false, [.rows (stm + 1) 3 (s.map Fct.cells ++ [Fct.cells (fct1 k a)])]) := by
  rw [callS_eq, runD_eq find91 _ _ _ (by simp)]
  have hs2 : s.length + 1 < 4294967296 := by omega
  have hs5 : ((s.length : Int) < 0) = False := eq_false (by omega)
  have hs8 : (s.length : Int) ≤ (s.length : Int) + 1 := by omega
  have hs9 : (s.length = s.length + 1) = False := eq_false (by omega)
  have q1 : s.length < s.length + 1 := by omega
  obtain ⟨a1, a2, a3⟩ := a
  rcases hk with rfl | rfl
  · simp -implicitDefEqProofs (disch := omega) only [go_sem, Nat.sub_zero, List.drop_zero, eq_self, Option.getD_none, Option.getD_some, Option.isSome_none, Option.isSome_some, Option.isNone_none, Option.isNone_some, Bool.or_false, Bool.false_or, Bool.and_false, Bool.false_and, Int.le_refl, Nat.le_refl, List.length_map, List.getElem?_map, Int.natCast_add, Int.natCast_one, List.append_assoc, List.length_append, Nat.add_assoc, and_self, and_true, true_and, and_false, false_and, or_true, true_or, or_false, false_or, not_true_eq_false, not_false_eq_true, Int.cast_ofNat_Int, Int.natCast_nonneg, Int.toNat_natCast, ne_eq, not_true_eq_false, not_false_eq_true, Nat.reduceBEq, Nat.reduceAdd, Nat.reduceSub, Nat.reduceMul, Nat.reduceLeDiff, Nat.reduceEqDiff, Nat.reduceLT, Int.reduceNeg, Int.reduceAdd, Int.reduceSub, Int.reduceMul, Int.reduceLE, Int.reduceLT, Int.reduceEq, Int.reduceToNat, reduceCtorEq, evC_draw, evD91x5, E91x5, Fct.cells, IntWalk.i64_in, hs2, hs5, hs8, hs9, q1, pre1, at_map_end, at_map_end_add, take_map_end]
    rfl
  · simp -implicitDefEqProofs (disch := omega) only [go_sem, Nat.sub_zero, List.drop_zero, eq_self, Option.getD_none, Option.getD_some, Option.isSome_none, Option.isSome_some, Option.isNone_none, Option.isNone_some, Bool.or_false, Bool.false_or, Bool.and_false, Bool.false_and, Int.le_refl, Nat.le_refl, List.length_map, List.getElem?_map, Int.natCast_add, Int.natCast_one, List.append_assoc, List.length_append, Nat.add_assoc, and_self, and_true, true_and, and_false, false_and, or_true, true_or, or_false, false_or, not_true_eq_false, not_false_eq_true, Int.cast_ofNat_Int, Int.natCast_nonneg, Int.toNat_natCast, ne_eq, not_true_eq_false, not_false_eq_true, Nat.reduceBEq, Nat.reduceAdd, Nat.reduceSub, Nat.reduceMul, Nat.reduceLeDiff, Nat.reduceEqDiff, Nat.reduceLT, Int.reduceNeg, Int.reduceAdd, Int.reduceSub, Int.reduceMul, Int.reduceLE, Int.reduceLT, Int.reduceEq, Int.reduceToNat, reduceCtorEq, evC_draw, evD91x6, E91x6, Fct.cells, IntWalk.i64_in, hs2, hs5, hs8, hs9, q1, pre1, at_map_end, at_map_end_add, take_map_end]
    rfl
theorem next0 (d : Nat) (fr : Int) (s : List Fct) (stm : Nat) (k pz : Int) (pvk pvn : Int) (pvq : ByteArray) (hs : s.length ≤ 1000) (hk : k = 1 ∨ k = 2) (hok : k = 1 → Val.ok (⟨pvk, pvn, pvq⟩ : Val) = true) :
    callS (runD tab noExt (d + 1)) [.rows stm 3 (s.map Fct.cells)] 91 [.ref 0 stm 0 s.length false, .agg [.int .i64 k, .int .i64 pz, .int .i64 pvk, .int .i64 pvn, .str pvq], .int .i64 fr] true =
      some (.ref 0 (stm + 1) 0 (s.length + 1) false, [.rows (stm + 1) 3 (s.map Fct.cells ++ [Fct.cells (fct0 k pz (⟨pvk, pvn, pvq⟩ : Val) fr)])]) := by
  rw [callS_eq, runD_eq find91 _ _ _ (by simp)]
  have hs2 : s.length + 1 < 4294967296 := by omega
  rcases hk with rfl | rfl
  · have hv := hok rfl
    have e : fct0 1 pz (⟨pvk, pvn, pvq⟩ : Val) fr = ⟨false, decide (pvk = 3) && decide (pvn = 0), decide (pvk = 3) && decide (pvn = 1)⟩ := by
      unfold fct0
      rw [if_pos rfl]
      by_cases h3 : pvk = 3
      · subst h3
        simp [Val.ok] at hv
        simp [valT, Val.mk.injEq, hv]
      · have g : ∀ n, ¬ ((⟨pvk, pvn, pvq⟩ : Val) = (⟨3, n, ⟨#[]⟩⟩ : Val)) := fun n h => by injection h with h; exact h3 h
        simp [valT, h3]
    rw [e]
    simp -implicitDefEqProofs (disch := omega) only [go_sem, Nat.sub_zero, List.drop_zero, eq_self, Option.getD_none, Option.getD_some, Option.isSome_none, Option.isSome_some, Option.isNone_none, Option.isNone_some, Bool.or_false, Bool.false_or, Bool.and_false, Bool.false_and, Int.le_refl, Nat.le_refl, List.length_map, List.getElem?_map, Int.natCast_add, Int.natCast_one, List.append_assoc, List.length_append, Nat.add_assoc, and_self, and_true, true_and, and_false, false_and, or_true, true_or, or_false, false_or, not_true_eq_false, not_false_eq_true, Int.cast_ofNat_Int, Int.natCast_nonneg, Int.toNat_natCast, ne_eq, not_true_eq_false, not_false_eq_true, Nat.reduceBEq, Nat.reduceAdd, Nat.reduceSub, Nat.reduceMul, Nat.reduceLeDiff, Nat.reduceEqDiff, Nat.reduceLT, Int.reduceNeg, Int.reduceAdd, Int.reduceSub, Int.reduceMul, Int.reduceLE, Int.reduceLT, Int.reduceEq, Int.reduceToNat, reduceCtorEq, Fct.cells, IntWalk.i64_in, hs2]
    repeat' ((first | rw [GuardI_ndec] | rw [CondC_ndec] | rw [GuardQ_ndec] | rw [GuardI_dec] | rw [CondC_dec] | rw [GuardQ_dec] | rw [GuardI_nby] | rw [CondC_nby] | rw [GuardQ_nby] | rw [GuardQ_by] | rw [GuardI_by] | rw [CondC_by]) <;> split <;> simp -implicitDefEqProofs (disch := omega) only [go_sem, Nat.sub_zero, List.drop_zero, eq_self, Option.getD_none, Option.getD_some, Option.isSome_none, Option.isSome_some, Option.isNone_none, Option.isNone_some, Bool.or_false, Bool.false_or, Bool.and_false, Bool.false_and, Int.le_refl, Nat.le_refl, List.length_map, List.getElem?_map, Int.natCast_add, Int.natCast_one, List.append_assoc, List.length_append, Nat.add_assoc, and_self, and_true, true_and, and_false, false_and, or_true, true_or, or_false, false_or, not_true_eq_false, not_false_eq_true, Int.cast_ofNat_Int, Int.natCast_nonneg, Int.toNat_natCast, ne_eq, not_true_eq_false, not_false_eq_true, Nat.reduceBEq, Nat.reduceAdd, Nat.reduceSub, Nat.reduceMul, Nat.reduceLeDiff, Nat.reduceEqDiff, Nat.reduceLT, Int.reduceNeg, Int.reduceAdd, Int.reduceSub, Int.reduceMul, Int.reduceLE, Int.reduceLT, Int.reduceEq, Int.reduceToNat, reduceCtorEq, Fct.cells, IntWalk.i64_in, hs2, *])
    all_goals (simp_all)
  · by_cases h : fr ≤ pz
    · simp -implicitDefEqProofs (disch := omega) only [go_sem, Nat.sub_zero, List.drop_zero, eq_self, Option.getD_none, Option.getD_some, Option.isSome_none, Option.isSome_some, Option.isNone_none, Option.isNone_some, Bool.or_false, Bool.false_or, Bool.and_false, Bool.false_and, Int.le_refl, Nat.le_refl, List.length_map, List.getElem?_map, Int.natCast_add, Int.natCast_one, List.append_assoc, List.length_append, Nat.add_assoc, and_self, and_true, true_and, and_false, false_and, or_true, true_or, or_false, false_or, not_true_eq_false, not_false_eq_true, Int.cast_ofNat_Int, Int.natCast_nonneg, Int.toNat_natCast, ne_eq, not_true_eq_false, not_false_eq_true, Nat.reduceBEq, Nat.reduceAdd, Nat.reduceSub, Nat.reduceMul, Nat.reduceLeDiff, Nat.reduceEqDiff, Nat.reduceLT, Int.reduceNeg, Int.reduceAdd, Int.reduceSub, Int.reduceMul, Int.reduceLE, Int.reduceLT, Int.reduceEq, Int.reduceToNat, reduceCtorEq, Fct.cells, IntWalk.i64_in, hs2, h, fct0]
      try simp
    · simp -implicitDefEqProofs (disch := omega) only [go_sem, Nat.sub_zero, List.drop_zero, eq_self, Option.getD_none, Option.getD_some, Option.isSome_none, Option.isSome_some, Option.isNone_none, Option.isNone_some, Bool.or_false, Bool.false_or, Bool.and_false, Bool.false_and, Int.le_refl, Nat.le_refl, List.length_map, List.getElem?_map, Int.natCast_add, Int.natCast_one, List.append_assoc, List.length_append, Nat.add_assoc, and_self, and_true, true_and, and_false, false_and, or_true, true_or, or_false, false_or, not_true_eq_false, not_false_eq_true, Int.cast_ofNat_Int, Int.natCast_nonneg, Int.toNat_natCast, ne_eq, not_true_eq_false, not_false_eq_true, Nat.reduceBEq, Nat.reduceAdd, Nat.reduceSub, Nat.reduceMul, Nat.reduceLeDiff, Nat.reduceEqDiff, Nat.reduceLT, Int.reduceNeg, Int.reduceAdd, Int.reduceSub, Int.reduceMul, Int.reduceLE, Int.reduceLT, Int.reduceEq, Int.reduceToNat, reduceCtorEq, Fct.cells, IntWalk.i64_in, hs2, h, fct0]
      try simp
theorem step_rejR (d : Nat) (fr : Int) (st st' : List Fct) (stm : Nat) (p : Prt) (hs : st.length ≤ 1000) (hv : p.kind = 1 → p.v.ok = true) (h : fS fr st p = some st') :
    callS (runD tab noExt (d + 1)) [.rows stm 3 (st.map Fct.cells)] 91 [.ref 0 stm 0 st.length false, .agg [.int .i64 p.kind, .int .i64 p.n, .int .i64 p.v.kind, .int .i64 p.v.n, .str p.v.s], .int .i64 fr] true =
      some (.ref 0 (stm + 1) 0 st'.length false, [.rows (stm + 1) 3 (st'.map Fct.cells)]) := by
  unfold fS at h
  split at h
  · rename_i hk
    split at h
    · rename_i hl
      injection h with h
      subst h
      have e := two_ofG Fct.z st hl
      generalize st.take (st.length - 2) = s at *
      generalize st.getD (st.length - 2) Fct.z = a at *
      generalize st.getD (st.length - 1) Fct.z = b at *
      subst e
      have := next2 d fr s a b stm p.kind p.n p.v.kind p.v.n p.v.s (by simp at hs; omega) hk
      simpa using this
    · cases h
  · split at h
    · rename_i hk
      split at h
      · rename_i hl
        injection h with h
        subst h
        have e := one_ofG Fct.z st hl
        generalize st.take (st.length - 1) = s at *
        generalize st.getD (st.length - 1) Fct.z = a at *
        subst e
        have := next1 d fr s a stm p.kind p.n p.v.kind p.v.n p.v.s (by simp at hs; omega) hk
        simpa using this
      · cases h
    · split at h
      · rename_i hk
        injection h with h
        subst h
        have := next0 d fr st stm p.kind p.n p.v.kind p.v.n p.v.s hs hk hv
        simpa using this
      · cases h
theorem fS_len {fr : Int} {st st' : List Fct} {p : Prt} (h : fS fr st p = some st') : st'.length ≤ st.length + 1 := by
  unfold fS at h
  split at h
  · split at h
    · injection h with h; subst h; simp
    · cases h
  · split at h
    · split at h
      · injection h with h; subst h; simp
      · cases h
    · split at h
      · injection h with h; subst h; simp
      · cases h
theorem loop_rejR (d : Nat) (c' : Bool) (fr : Int) (ps : List Prt) (hp : ps.length ≤ 900) (hv : ∀ p ∈ ps, p.kind = 1 → p.v.ok = true) : ∀ (rest : List Prt) (i : Nat), ps.drop i = rest → i ≤ ps.length → ∀ (K stm : Nat) (st l : List Fct), rest.length ≤ K → st.length ≤ i → runStp (fS fr) st rest = some l →
    ∃ stm', LoopS (runD tab noExt (d + 1)) (drawI (runD tab noExt (d + 1))) [1, 2, 7, 8] [7] L40x0 1 K [(1, .sl c' 5 (ps.map Prt.cells)), (2, .int .i64 fr), (7, .ref 0 stm 0 st.length false), (8, .int .i64 (i : Int))] [.rows stm 3 (st.map Fct.cells)] =
      (some (.exit 0, [(7, .ref 0 stm' 0 l.length false)], [.rows stm' 3 (l.map Fct.cells)]) : Out) := by
  refine drop_to ps (fun i rest => ∀ (K stm : Nat) (st l : List Fct), rest.length ≤ K → st.length ≤ i → runStp (fS fr) st rest = some l →
    ∃ stm', LoopS (runD tab noExt (d + 1)) (drawI (runD tab noExt (d + 1))) [1, 2, 7, 8] [7] L40x0 1 K [(1, .sl c' 5 (ps.map Prt.cells)), (2, .int .i64 fr), (7, .ref 0 stm 0 st.length false), (8, .int .i64 (i : Int))] [.rows stm 3 (st.map Fct.cells)] =
      (some (.exit 0, [(7, .ref 0 stm' 0 l.length false)], [.rows stm' 3 (l.map Fct.cells)]) : Out)) ?_ ?_
  · intro K stm st l hK hst hr
    simp only [runStp, Option.some.injEq] at hr
    subst hr
    rw [LoopS_eq]
    simp -implicitDefEqProofs only [go_sem, Nat.sub_zero, List.drop_zero, eq_self, Option.getD_none, Option.getD_some, Option.isSome_none, Option.isSome_some, Option.isNone_none, Option.isNone_some, Bool.or_false, Bool.false_or, Bool.and_false, Bool.false_and, Int.le_refl, Nat.le_refl, List.length_map, List.getElem?_map, Int.natCast_add, Int.natCast_one, List.append_assoc, List.length_append, Nat.add_assoc, and_self, and_true, true_and, and_false, false_and, or_true, true_or, or_false, false_or, not_true_eq_false, not_false_eq_true, Int.cast_ofNat_Int, Int.natCast_nonneg, Int.toNat_natCast, ne_eq, not_true_eq_false, not_false_eq_true, Nat.reduceBEq, Nat.reduceAdd, Nat.reduceSub, Nat.reduceMul, Nat.reduceLeDiff, Nat.reduceEqDiff, Nat.reduceLT, Int.reduceNeg, Int.reduceAdd, Int.reduceSub, Int.reduceMul, Int.reduceLE, Int.reduceLT, Int.reduceEq, Int.reduceToNat, reduceCtorEq, evL40x0, B40x0, Int.lt_irrefl]
    exact ⟨stm, rfl⟩
  · intro i x r hi hx ih K stm st l hK hst hr
    have hi' : (i : Int) < ps.length := by omega
    obtain ⟨K, rfl⟩ : ∃ K', K = K' + 1 := ⟨K - 1, by simp at hK; omega⟩
    simp only [runStp] at hr
    split at hr
    · rename_i st' hs
      have hstep := step_rejR d fr st st' stm x (by omega) (hv x (List.mem_of_getElem? hx)) hs
      have hl := fS_len hs
      obtain ⟨stm', ih'⟩ := ih K (stm + 1) st' l (by simp at hK; omega) (by omega) hr
      simp only [Int.natCast_add, Int.natCast_one] at ih'
      refine ⟨stm', ?_⟩
      rw [← ih', LoopS_eq]
      simp -implicitDefEqProofs (disch := first | omega | assumption) only [go_sem, Nat.sub_zero, List.drop_zero, eq_self, Option.getD_none, Option.getD_some, Option.isSome_none, Option.isSome_some, Option.isNone_none, Option.isNone_some, Bool.or_false, Bool.false_or, Bool.and_false, Bool.false_and, Int.le_refl, Nat.le_refl, List.length_map, List.getElem?_map, Int.natCast_add, Int.natCast_one, List.append_assoc, List.length_append, Nat.add_assoc, and_self, and_true, true_and, and_false, false_and, or_true, true_or, or_false, false_or, not_true_eq_false, not_false_eq_true, Int.cast_ofNat_Int, Int.natCast_nonneg, Int.toNat_natCast, ne_eq, not_true_eq_false, not_false_eq_true, Nat.reduceBEq, Nat.reduceAdd, Nat.reduceSub, Nat.reduceMul, Nat.reduceLeDiff, Nat.reduceEqDiff, Nat.reduceLT, Int.reduceNeg, Int.reduceAdd, Int.reduceSub, Int.reduceMul, Int.reduceLE, Int.reduceLT, Int.reduceEq, Int.reduceToNat, reduceCtorEq, evL40x0, B40x0, hi', hx, Prt.cells, hstep, IntWalk.i64_in]
    · cases hr
theorem stp_tells {cs : List Col} : ∀ {ps : List Prt} {ks ks' : List Int}, runStp (stpI cs) ks ps = some ks' → ∀ p ∈ ps, p.tells cs.length = true
  | [], _, _, _ => fun p h => by cases h
  | q :: ps, ks, ks', h => by
    simp only [runStp] at h
    split at h
    · rename_i k1 hk
      intro p hp
      rcases List.mem_cons.1 hp with rfl | hp
      · unfold stpI at hk
        split at hk
        · assumption
        · cases hk
      · exact stp_tells h p hp
    · cases h
theorem tells_ok {n : Nat} {p : Prt} (h : p.tells n = true) (h1 : p.kind = 1) : p.v.ok = true := by
  unfold Prt.tells at h
  rw [if_pos h1] at h
  split at h
  · split at h
    · assumption
    · cases h
  · cases h
-- find40
theorem run_rejR (d : Nat) (c c' : Bool) (cs : List Col) (ps : List Prt) (fr : Int) (hc : cs.length < 1099511627776) (hsp : ShortP ps) :
    retP (runD tab noExt (d + 6)) 40 [.sl c 2 (cs.map Col.cells), .sl c' 5 (ps.map Prt.cells), .int .i64 fr] = some [.bool (rejects cs ps fr)] := by
  rw [retP, runD_eq find40 _ _ _ (by simp)]
  by_cases h1 : exprKind cs ps = 3
  · obtain ⟨g1, g2, k, g3, g4⟩ := exprKind_spec (cs := cs) (ps := ps) (by omega)
    obtain ⟨st, g5, g6⟩ := run_fSs fr (st := []) rfl g3
    have hv : ∀ p ∈ ps, p.kind = 1 → p.v.ok = true := fun p hp => tells_ok (stp_tells g3 p hp)
    match st, g5, g6 with
    | f :: l, g5, g6 =>
      obtain ⟨stm', hl⟩ := loop_rejR (d + 4) c' fr ps (by omega) hv ps 0 rfl (Nat.zero_le _) 1099511627775 0 [] (f :: l) (by omega) (Nat.zero_le _) g5
      simp only [List.length_nil, List.map_nil, Int.natCast_zero] at hl
      simp -implicitDefEqProofs (disch := first | omega | assumption) only [go_sem, Nat.sub_zero, List.drop_zero, eq_self, Option.getD_none, Option.getD_some, Option.isSome_none, Option.isSome_some, Option.isNone_none, Option.isNone_some, Bool.or_false, Bool.false_or, Bool.and_false, Bool.false_and, Int.le_refl, Nat.le_refl, List.length_map, List.getElem?_map, Int.natCast_add, Int.natCast_one, List.append_assoc, List.length_append, Nat.add_assoc, and_self, and_true, true_and, and_false, false_and, or_true, true_or, or_false, false_or, not_true_eq_false, not_false_eq_true, Int.cast_ofNat_Int, Int.natCast_nonneg, Int.toNat_natCast, ne_eq, not_true_eq_false, not_false_eq_true, Nat.reduceBEq, Nat.reduceAdd, Nat.reduceSub, Nat.reduceMul, Nat.reduceLeDiff, Nat.reduceEqDiff, Nat.reduceLT, Int.reduceNeg, Int.reduceAdd, Int.reduceSub, Int.reduceMul, Int.reduceLE, Int.reduceLT, Int.reduceEq, Int.reduceToNat, reduceCtorEq, run_exprKindR, h1]
      rw [hl]
      simp -implicitDefEqProofs (disch := omega) only [go_sem, Nat.sub_zero, List.drop_zero, eq_self, Option.getD_none, Option.getD_some, Option.isSome_none, Option.isSome_some, Option.isNone_none, Option.isNone_some, Bool.or_false, Bool.false_or, Bool.and_false, Bool.false_and, Int.le_refl, Nat.le_refl, List.length_map, List.getElem?_map, Int.natCast_add, Int.natCast_one, List.append_assoc, List.length_append, Nat.add_assoc, and_self, and_true, true_and, and_false, false_and, or_true, true_or, or_false, false_or, not_true_eq_false, not_false_eq_true, Int.cast_ofNat_Int, Int.natCast_nonneg, Int.toNat_natCast, ne_eq, not_true_eq_false, not_false_eq_true, Nat.reduceBEq, Nat.reduceAdd, Nat.reduceSub, Nat.reduceMul, Nat.reduceLeDiff, Nat.reduceEqDiff, Nat.reduceLT, Int.reduceNeg, Int.reduceAdd, Int.reduceSub, Int.reduceMul, Int.reduceLE, Int.reduceLT, Int.reduceEq, Int.reduceToNat, reduceCtorEq, Int.toNat_zero, Fct.cells, Nat.zero_lt_succ]
      simp [rejects, h1, factOf, g5]
  · simp -implicitDefEqProofs (disch := first | omega | assumption) only [go_sem, Nat.sub_zero, List.drop_zero, eq_self, Option.getD_none, Option.getD_some, Option.isSome_none, Option.isSome_some, Option.isNone_none, Option.isNone_some, Bool.or_false, Bool.false_or, Bool.and_false, Bool.false_and, Int.le_refl, Nat.le_refl, List.length_map, List.getElem?_map, Int.natCast_add, Int.natCast_one, List.append_assoc, List.length_append, Nat.add_assoc, and_self, and_true, true_and, and_false, false_and, or_true, true_or, or_false, false_or, not_true_eq_false, not_false_eq_true, Int.cast_ofNat_Int, Int.natCast_nonneg, Int.toNat_natCast, ne_eq, not_true_eq_false, not_false_eq_true, Nat.reduceBEq, Nat.reduceAdd, Nat.reduceSub, Nat.reduceMul, Nat.reduceLeDiff, Nat.reduceEqDiff, Nat.reduceLT, Int.reduceNeg, Int.reduceAdd, Int.reduceSub, Int.reduceMul, Int.reduceLE, Int.reduceLT, Int.reduceEq, Int.reduceToNat, reduceCtorEq, run_exprKindR, h1]
    simp [rejects, h1]

/-- What is found holds of the value. -/
def FV (f : Fct) (v : Val) : Prop := (f.no = true → v.kind = 0) ∧ (f.notT = true → v ≠ valT 1) ∧ (f.notF = true → v ≠ valT 0)
def FVs (fs : List Fct) (vs : List Val) : Prop := fs.length = vs.length ∧ ∀ (i : Nat) (f : Fct) (v : Val), fs[i]? = some f → vs[i]? = some v → FV f v
theorem FV.none {f : Fct} {v : Val} (h : v.kind = 0) : FV f v := by
  refine ⟨fun _ => h, fun _ e => ?_, fun _ e => ?_⟩
  · rw [e] at h; exact absurd h (by decide)
  · rw [e] at h; exact absurd h (by decide)
theorem FV.z (v : Val) : FV Fct.z v := ⟨fun h => (by cases h), fun h => (by cases h), fun h => (by cases h)⟩
theorem fvs_snoc {fs : List Fct} {vs : List Val} {f : Fct} {v : Val} (h : FVs fs vs) (n : Nat) (hv : FV f v) : FVs (fs.take n ++ [f]) (vs.take n ++ [v]) := by
  refine ⟨by simp [h.1], fun i a b ha hb => ?_⟩
  have hlen : (fs.take n).length = (vs.take n).length := by simp [h.1]
  rcases Nat.lt_trichotomy i (fs.take n).length with h3 | h3 | h3
  · rw [List.getElem?_append_left h3] at ha
    rw [List.getElem?_append_left (by omega)] at hb
    have hi : i < n := by simp at h3; omega
    rw [List.getElem?_take_of_lt hi] at ha hb
    exact h.2 i a b ha hb
  · subst h3
    rw [hlen] at hb
    simp at ha
    rw [List.getElem?_append_right (Nat.le_refl _)] at hb
    simp at hb
    subst ha hb
    exact hv
  · rw [List.getElem?_eq_none (by simp only [List.length_append, List.length_singleton]; omega)] at ha; cases ha
theorem fvs_at {fs : List Fct} {vs : List Val} (h : FVs fs vs) {i : Nat} (hi : i < fs.length) : FV (fs.getD i Fct.z) (vs.getD i Val.zero) := by
  have hi' : i < vs.length := by rw [← h.1]; exact hi
  exact h.2 i _ _ (at_getD Fct.z hi) (at_getD Val.zero hi')
theorem tys_at {ks : List Int} {st : List Val} (h : Tys ks st) {i : Nat} (hi : i < st.length) : TyOk (ks.getD i 0) (st.getD i Val.zero) := by
  have hi' : i < ks.length := by rw [h.1]; exact hi
  exact h.2 i _ _ (at_getD 0 hi') (at_getD Val.zero hi)
theorem valT_eq {t u : Int} (ht : t = 0 ∨ t = 1 ∨ t = 2) (hu : u = 0 ∨ u = 1) : valT t = valT u ↔ t = u := by
  rcases ht with rfl | rfl | rfl <;> rcases hu with rfl | rfl <;> decide +kernel
theorem valT_no {t : Int} (h : t ≠ 0) (h' : t ≠ 1) : (valT t).kind = 0 := by
  unfold valT
  rw [if_neg (by omega)]
  rfl
theorem fold_notT {a b : Int} (ha : a = 0 ∨ a = 1 ∨ a = 2) (hb : b = 0 ∨ b = 1 ∨ b = 2) : (a ≠ 1 ∨ b ≠ 1 → foldT a b 0 ≠ 1) ∧ (a ≠ 0 → b ≠ 0 → foldT a b 0 ≠ 0) ∧ (a ≠ 1 → b ≠ 1 → foldT a b 1 ≠ 1) ∧ (a ≠ 0 ∨ b ≠ 0 → foldT a b 1 ≠ 0) := by
  rcases ha with rfl | rfl | rfl <;> rcases hb with rfl | rfl | rfl <;> decide
theorem not_in {a : Int} (ha : a = 0 ∨ a = 1 ∨ a = 2) : (a ≠ 0 → notT a ≠ 1) ∧ (a ≠ 1 → notT a ≠ 0) ∧ (a = 2 → notT a = 2) := by
  rcases ha with rfl | rfl | rfl <;> decide
theorem cmp_none {kd : Int} {a b : Val} (h : a.kind = 0 ∨ b.kind = 0) : cmpV kd a b = 2 ∨ cmpV kd a b = -1 := by
  unfold cmpV
  rcases h with h | h
  · repeat' split
    all_goals first | exact .inl rfl | exact .inr rfl | exact absurd h (by assumption)
  · repeat' split
    all_goals first | exact .inl rfl | exact .inr rfl | exact absurd h (by assumption)
theorem truth_is {v : Val} (h : TyOk 3 v) : (v = valT 1 ↔ truthV v = 1) ∧ (v = valT 0 ↔ truthV v = 0) ∧ (v.kind = 0 ↔ truthV v = 2) := by
  obtain ⟨e, t⟩ := truth_of h
  generalize truthV v = x at *
  subst e
  rcases t with rfl | rfl | rfl <;> decide +kernel
theorem fv_two {k n : Int} {a b : Val} {f g : Fct} (hk : k = 3 ∨ k = 4 ∨ k = 5 ∨ k = 6) (h5 : k = 5 ∨ k = 6 → TyOk 3 a ∧ TyOk 3 b) (hf : FV f a) (hg : FV g b) : FV (fct2 k f g) (val2 k n a b) := by
  obtain ⟨f1, f2, f3⟩ := hf
  obtain ⟨g1, g2, g3⟩ := hg
  by_cases k34 : k = 3 ∨ k = 4
  · by_cases hn : (f.no || g.no) = true
    · have hz : a.kind = 0 ∨ b.kind = 0 := by
        rw [Bool.or_eq_true] at hn
        exact hn.imp f1 g1
      refine FV.none ?_
      unfold val2
      rcases k34 with rfl | rfl
      · rw [if_pos rfl]
        unfold addV
        rcases hz with hz | hz
        · repeat' split
          all_goals first | rfl | exact absurd hz (by assumption)
        · repeat' split
          all_goals first | rfl | exact absurd hz (by assumption)
      · rw [if_neg (by decide), if_pos rfl]
        rcases cmp_none (kd := n) hz with e | e <;> rw [e] <;> rfl
    · have : fct2 k f g = Fct.z := by
        have hn' : (f.no || g.no) = false := by simpa using hn
        unfold fct2
        rw [if_pos k34, hn']
        rfl
      rw [this]
      exact FV.z _
  · have k56 : k = 5 ∨ k = 6 := by omega
    obtain ⟨ta, tb⟩ := h5 k56
    obtain ⟨_, xa⟩ := truth_of ta
    obtain ⟨_, xb⟩ := truth_of tb
    obtain ⟨a1, a2, a3⟩ := truth_is ta
    obtain ⟨b1, b2, b3⟩ := truth_is tb
    rw [Ne, a1] at f2
    rw [Ne, a2] at f3
    rw [Ne, b1] at g2
    rw [Ne, b2] at g3
    obtain ⟨q1, q2, q3, q4⟩ := fold_notT xa xb
    have i0 := fold_in xa xb (c := 0) (.inl rfl)
    have i1 := fold_in xa xb (c := 1) (.inr rfl)
    unfold fct2 val2
    rcases k56 with rfl | rfl
    · simp only [reduceIte, Int.reduceEq, or_self, or_false, or_true]
      have r1 : (f.notT || g.notT) = true → foldT (truthV a) (truthV b) 0 ≠ 1 := fun h => by
        rw [Bool.or_eq_true] at h
        exact q1 (h.imp f2 g2)
      have r2 : (f.notF && g.notF) = true → foldT (truthV a) (truthV b) 0 ≠ 0 := fun h => by
        rw [Bool.and_eq_true] at h
        exact q2 (f3 h.1) (g3 h.2)
      refine ⟨fun h => ?_, fun h => ?_, fun h => ?_⟩
      · rw [Bool.and_eq_true] at h
        exact valT_no (r2 h.2) (r1 h.1)
      · rw [Ne, valT_eq i0 (.inr rfl)]; exact r1 h
      · rw [Ne, valT_eq i0 (.inl rfl)]; exact r2 h
    · simp only [reduceIte, Int.reduceEq, or_self, or_false, or_true]
      have r1 : (f.notT && g.notT) = true → foldT (truthV a) (truthV b) 1 ≠ 1 := fun h => by
        rw [Bool.and_eq_true] at h
        exact q3 (f2 h.1) (g2 h.2)
      have r2 : (f.notF || g.notF) = true → foldT (truthV a) (truthV b) 1 ≠ 0 := fun h => by
        rw [Bool.or_eq_true] at h
        exact q4 (h.imp f3 g3)
      refine ⟨fun h => ?_, fun h => ?_, fun h => ?_⟩
      · rw [Bool.and_eq_true] at h
        exact valT_no (r2 h.2) (r1 h.1)
      · rw [Ne, valT_eq i1 (.inr rfl)]; exact r1 h
      · rw [Ne, valT_eq i1 (.inl rfl)]; exact r2 h
theorem fv_one {k : Int} {a : Val} {f : Fct} (hk : k = 7 ∨ k = 8) (h7 : k = 7 → TyOk 3 a) (hf : FV f a) : FV (fct1 k f) (val1 k a) := by
  obtain ⟨f1, f2, f3⟩ := hf
  unfold fct1 val1
  rcases hk with rfl | rfl
  · have ta := h7 rfl
    obtain ⟨_, xa⟩ := truth_of ta
    obtain ⟨a1, a2, a3⟩ := truth_is ta
    rw [Ne, a1] at f2
    rw [Ne, a2] at f3
    rw [a3] at f1
    obtain ⟨q1, q2, q3⟩ := not_in xa
    have i0 : notT (truthV a) = 0 ∨ notT (truthV a) = 1 ∨ notT (truthV a) = 2 := by rcases xa with e | e | e <;> rw [e] <;> decide
    simp only [reduceIte]
    refine ⟨fun h => ?_, fun h => ?_, fun h => ?_⟩
    · rw [q3 (f1 h)]; rfl
    · rw [Ne, valT_eq i0 (.inr rfl)]; exact q1 (f3 h)
    · rw [Ne, valT_eq i0 (.inl rfl)]; exact q2 (f2 h)
  · simp only [Int.reduceEq, if_false]
    refine ⟨fun h => (by cases h), fun h => (by cases h), fun h => ?_⟩
    rw [if_pos (f1 h)]
    decide +kernel
theorem fv_step {cs : List Col} {row : List Val} {fr : Int} (hf : fitsRow cs row = true) (hfr : ∀ i : Nat, fr ≤ (i : Int) → i < row.length → (row.getD i Val.zero).kind = 0) {ks ks' : List Int} {fs fs' : List Fct} {st st' : List Val} {p : Prt}
    (ht : Tys ks st) (hv : FVs fs st) (h : stpI cs ks p = some ks') (h1 : fS fr fs p = some fs') (h2 : evS row st p = some st') : FVs fs' st' := by
  have hkinds : p.kind = 5 ∨ p.kind = 6 → 2 ≤ st.length → TyOk 3 (st.getD (st.length - 2) Val.zero) ∧ TyOk 3 (st.getD (st.length - 1) Val.zero) := by
    intro hk hl
    have t1 := tys_at ht (show st.length - 2 < st.length by omega)
    have t2 := tys_at ht (show st.length - 1 < st.length by omega)
    have htk : p.takes = 2 := by unfold Prt.takes; rcases hk with hk | hk <;> simp [hk]
    unfold stpI at h
    rw [htk, show (2 : Int).toNat = 2 from rfl, ht.1] at h
    have hd := drop_two ks 0 (by rw [ht.1]; exact hl)
    rw [ht.1] at hd
    rw [hd] at h
    split at h
    · split at h
      · cases h
      · split at h
        · rename_i hok
          have : (ks.getD (st.length - 2) 0 = 3) ∧ (ks.getD (st.length - 1) 0 = 3) := by
            unfold kindOf at hok
            rcases hk with hk | hk <;> simpa [hk] using hok
          rw [this.1] at t1
          rw [this.2] at t2
          exact ⟨t1, t2⟩
        · cases h
    · cases h
  have hkind1 : p.kind = 7 → 1 ≤ st.length → TyOk 3 (st.getD (st.length - 1) Val.zero) := by
    intro hk hl
    have t2 := tys_at ht (show st.length - 1 < st.length by omega)
    have htk : p.takes = 1 := by unfold Prt.takes; simp [hk]
    unfold stpI at h
    rw [htk, show (1 : Int).toNat = 1 from rfl, ht.1] at h
    have hd := drop_one ks 0 (by rw [ht.1]; exact hl)
    rw [ht.1] at hd
    rw [hd] at h
    split at h
    · split at h
      · cases h
      · split at h
        · rename_i hok
          have : ks.getD (st.length - 1) 0 = 3 := by
            unfold kindOf at hok
            simpa [hk] using hok
          rw [this] at t2
          exact t2
        · cases h
    · cases h
  unfold fS at h1
  unfold evS at h2
  by_cases hk2 : p.kind = 3 ∨ p.kind = 4 ∨ p.kind = 5 ∨ p.kind = 6
  · rw [if_pos hk2] at h1 h2
    split at h2
    · rename_i hl
      rw [if_pos (by rw [hv.1]; exact hl)] at h1
      injection h1 with h1
      injection h2 with h2
      subst h1 h2
      rw [hv.1]
      refine fvs_snoc hv _ (fv_two hk2 (fun hk => hkinds hk hl) (fvs_at hv (by rw [hv.1]; omega)) (fvs_at hv (by rw [hv.1]; omega)))
    · cases h2
  · rw [if_neg hk2] at h1 h2
    by_cases hk1 : p.kind = 7 ∨ p.kind = 8
    · rw [if_pos hk1] at h1 h2
      split at h2
      · rename_i hl
        rw [if_pos (by rw [hv.1]; exact hl)] at h1
        injection h1 with h1
        injection h2 with h2
        subst h1 h2
        rw [hv.1]
        exact fvs_snoc hv _ (fv_one hk1 (fun hk => hkind1 hk hl) (fvs_at hv (by rw [hv.1]; omega)))
      · cases h2
    · rw [if_neg hk1] at h1 h2
      split at h2
      · rename_i hk0
        rw [if_pos (hk0.imp id (·.1))] at h1
        injection h1 with h1
        injection h2 with h2
        subst h1 h2
        have key : FV (fct0 p.kind p.n p.v fr) (val0 p.kind p.n p.v row) := by
          unfold fct0 val0
          rcases hk0 with hk | ⟨hk, g1, g2⟩
          · simp only [hk, reduceIte]
            refine ⟨fun h => (by cases h), fun h e => ?_, fun h e => ?_⟩
            · simp only [decide_eq_true_eq] at h
              rw [h] at e
              exact absurd e (by decide +kernel)
            · simp only [decide_eq_true_eq] at h
              rw [h] at e
              exact absurd e (by decide +kernel)
          · simp only [hk, Int.reduceEq, if_false]
            by_cases hge : fr ≤ p.n
            · exact FV.none (hfr p.n.toNat (by omega) (by omega))
            · simp only [hge, decide_false]
              exact FV.z _
        have := fvs_snoc hv fs.length key
        rw [List.take_length, show st.take fs.length = st from by rw [hv.1, List.take_length]] at this
        exact this
      · cases h2
theorem fv_run {cs : List Col} {row : List Val} {fr : Int} (hf : fitsRow cs row = true) (hfr : ∀ i : Nat, fr ≤ (i : Int) → i < row.length → (row.getD i Val.zero).kind = 0) : ∀ {ps : List Prt} {ks ks' : List Int} {fs fs' : List Fct} {st st' : List Val},
    Tys ks st → FVs fs st → runStp (stpI cs) ks ps = some ks' → runStp (fS fr) fs ps = some fs' → runStp (evS row) st ps = some st' → FVs fs' st'
  | [], ks, ks', fs, fs', st, st', ht, hv, h, h1, h2 => by
    simp only [runStp, Option.some.injEq] at h h1 h2
    subst h h1 h2
    exact hv
  | p :: ps, ks, ks', fs, fs', st, st', ht, hv, h, h1, h2 => by
    simp only [runStp] at h h1 h2
    split at h
    · rename_i k1 hk
      split at h1
      · rename_i f1 hf1
        obtain ⟨s1, e1, e2⟩ := evS_ty hf ht hk
        rw [e1] at h2
        exact fv_run hf hfr e2 (fv_step hf hfr ht hv hk hf1 e1) h h1 h2
      · cases h1
    · cases h
def holds (cs : List Col) (row : List Val) (ps : List Prt) : Bool := if exprKind cs ps = 3 then (if fitsRow cs row then decide (evExpr row ps = valT 1) else false) else false
/-- What is seen not to hold does not hold. -/
theorem rejects_sound {cs : List Col} {row : List Val} {ps : List Prt} {fr : Int} (hr : rejects cs ps fr = true) (hfr : ∀ i : Nat, fr ≤ (i : Int) → i < row.length → (row.getD i Val.zero).kind = 0) : holds cs row ps = false := by
  unfold rejects at hr
  split at hr
  · rename_i hk
    unfold holds
    rw [if_pos hk]
    split
    · rename_i hf
      obtain ⟨g1, g2, k, g3, g4⟩ := exprKind_spec (cs := cs) (ps := ps) (by omega)
      obtain ⟨st, g5, g6⟩ := run_ty hf (st := []) (ks := []) ⟨rfl, fun i k v h => by simp at h⟩ g3
      obtain ⟨fs, g7, g8⟩ := run_fSs fr (st := []) rfl g3
      have hv := fv_run hf hfr (ks := []) (fs := []) (st := []) ⟨rfl, fun i k v h => by simp at h⟩ ⟨rfl, fun i k v h => by simp at h⟩ g3 g7 g5
      unfold factOf at hr
      unfold evExpr
      rw [g7] at hr
      rw [g5]
      match fs, st, hv, g8, hr with
      | f :: fs, v :: st, hv, _, hr =>
        have := (hv.2 0 f v rfl rfl).2.1 hr
        simpa using this
      | f :: fs, [], hv, _, _ => have := hv.1; simp at this
      | [], _, _, g8, _ => simp at g8
    · rfl
  · cases hr
end Go.Proofs.Ytgepapgabnaonaa.PE
