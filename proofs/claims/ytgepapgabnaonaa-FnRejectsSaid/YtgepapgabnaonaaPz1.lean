/- The law that what is asked for anyway adds nothing. -/
import Derived.Test.YtgepapgabnaonaaPx8
set_option linter.unusedSimpArgs false
set_option linter.unusedVariables false
set_option maxHeartbeats 4000000
namespace Go.Proofs.Ytgepapgabnaonaa.PE
open Go.RowKit

theorem Puts.short {cs : List Col} {kd : Int} {e : List Prt} (h : Puts cs kd e) : ShortP e := fun p hp => Nat.lt_of_le_of_lt (h.2 p hp) (by decide)
theorem withP_len (a b : List Prt) (k : Int) : (withP a b k).length ≤ a.length + b.length + 1 := by
  unfold withP
  split <;> simp <;> omega
theorem eq_vals (v w : Val) : eqCells [Sk.int, Sk.int, Sk.str] v.cells w.cells = some (decide (v = w)) := by
  obtain ⟨k, n, s⟩ := v
  obtain ⟨k', n', s'⟩ := w
  simp only [eqCells, Val.cells]
  simp [eqCell, Val.mk.injEq, Bool.and_assoc]
-- find7
theorem law_Absorb (l : List UInt8) (hl : l.length ≤ maxLen) : ∃ d h1, runD tab noExt d 7 [.sl false 1 (cellsOfBytes l)] [] = some ([.bool true], h1) := by
  refine ⟨12, ?_⟩
  rw [runD_eq find7 _ _ _ (by simp)]
  obtain ⟨cs, row, a, b, hd, hc, hco, hf, ha, hb, la, lb⟩ := run_drawTests 3 false l
  have hrl : row.length = cs.length := by simp only [fitsRow, Bool.and_eq_true, decide_eq_true_eq, beq_iff_eq] at hf; omega
  by_cases h1 : (1048576 : Int) < l.length
  · simp -implicitDefEqProofs only [go_sem, Nat.sub_zero, List.drop_zero, eq_self, Option.getD_none, Option.getD_some, Option.isSome_none, Option.isSome_some, Option.isNone_none, Option.isNone_some, Bool.or_false, Bool.false_or, Bool.and_false, Bool.false_and, Int.le_refl, Nat.le_refl, List.length_map, List.getElem?_map, Int.natCast_add, Int.natCast_one, List.append_assoc, List.length_append, Nat.add_assoc, and_self, and_true, true_and, and_false, false_and, or_true, true_or, or_false, false_or, not_true_eq_false, not_false_eq_true, Int.cast_ofNat_Int, Int.natCast_nonneg, Int.toNat_natCast, ne_eq, not_true_eq_false, not_false_eq_true, Nat.reduceBEq, Nat.reduceAdd, Nat.reduceSub, Nat.reduceMul, Nat.reduceLeDiff, Nat.reduceEqDiff, Nat.reduceLT, Int.reduceNeg, Int.reduceAdd, Int.reduceSub, Int.reduceMul, Int.reduceLE, Int.reduceLT, Int.reduceEq, Int.reduceToNat, reduceCtorEq, ofBytes_len, h1]
    exact ⟨_, rfl⟩
  · have hal := run_alive 6
    have sa := ha.short
    have l1 := withP_len a b 6
    have l2 := withP_len a (withP a b 6) 5
    have hab := absorb hf ha hb
    simp -implicitDefEqProofs (disch := first | omega | assumption) only [go_sem, Nat.sub_zero, List.drop_zero, eq_self, Option.getD_none, Option.getD_some, Option.isSome_none, Option.isSome_some, Option.isNone_none, Option.isNone_some, Bool.or_false, Bool.false_or, Bool.and_false, Bool.false_and, Int.le_refl, Nat.le_refl, List.length_map, List.getElem?_map, Int.natCast_add, Int.natCast_one, List.append_assoc, List.length_append, Nat.add_assoc, and_self, and_true, true_and, and_false, false_and, or_true, true_or, or_false, false_or, not_true_eq_false, not_false_eq_true, Int.cast_ofNat_Int, Int.natCast_nonneg, Int.toNat_natCast, ne_eq, not_true_eq_false, not_false_eq_true, Nat.reduceBEq, Nat.reduceAdd, Nat.reduceSub, Nat.reduceMul, Nat.reduceLeDiff, Nat.reduceEqDiff, Nat.reduceLT, Int.reduceNeg, Int.reduceAdd, Int.reduceSub, Int.reduceMul, Int.reduceLE, Int.reduceLT, Int.reduceEq, Int.reduceToNat, reduceCtorEq, ofBytes_len, h1, hd, run_exprKindI, run_exprKindR, run_withParts, run_exprValueI, hal]
    by_cases hg : (12 : Int) < (withP a (withP a b 6) 5).length
    · simp -implicitDefEqProofs (disch := first | omega | assumption) only [go_sem, Nat.sub_zero, List.drop_zero, eq_self, Option.getD_none, Option.getD_some, Option.isSome_none, Option.isSome_some, Option.isNone_none, Option.isNone_some, Bool.or_false, Bool.false_or, Bool.and_false, Bool.false_and, Int.le_refl, Nat.le_refl, List.length_map, List.getElem?_map, Int.natCast_add, Int.natCast_one, List.append_assoc, List.length_append, Nat.add_assoc, and_self, and_true, true_and, and_false, false_and, or_true, true_or, or_false, false_or, not_true_eq_false, not_false_eq_true, Int.cast_ofNat_Int, Int.natCast_nonneg, Int.toNat_natCast, ne_eq, not_true_eq_false, not_false_eq_true, Nat.reduceBEq, Nat.reduceAdd, Nat.reduceSub, Nat.reduceMul, Nat.reduceLeDiff, Nat.reduceEqDiff, Nat.reduceLT, Int.reduceNeg, Int.reduceAdd, Int.reduceSub, Int.reduceMul, Int.reduceLE, Int.reduceLT, Int.reduceEq, Int.reduceToNat, reduceCtorEq, hg, run_exprValueI, hal]
      exact ⟨_, rfl⟩
    · simp -implicitDefEqProofs (disch := first | omega | assumption) only [go_sem, Nat.sub_zero, List.drop_zero, eq_self, Option.getD_none, Option.getD_some, Option.isSome_none, Option.isSome_some, Option.isNone_none, Option.isNone_some, Bool.or_false, Bool.false_or, Bool.and_false, Bool.false_and, Int.le_refl, Nat.le_refl, List.length_map, List.getElem?_map, Int.natCast_add, Int.natCast_one, List.append_assoc, List.length_append, Nat.add_assoc, and_self, and_true, true_and, and_false, false_and, or_true, true_or, or_false, false_or, not_true_eq_false, not_false_eq_true, Int.cast_ofNat_Int, Int.natCast_nonneg, Int.toNat_natCast, ne_eq, not_true_eq_false, not_false_eq_true, Nat.reduceBEq, Nat.reduceAdd, Nat.reduceSub, Nat.reduceMul, Nat.reduceLeDiff, Nat.reduceEqDiff, Nat.reduceLT, Int.reduceNeg, Int.reduceAdd, Int.reduceSub, Int.reduceMul, Int.reduceLE, Int.reduceLT, Int.reduceEq, Int.reduceToNat, reduceCtorEq, hg, run_exprValueI, hal]
      simp -implicitDefEqProofs (disch := first | omega | assumption) only [go_sem, Nat.sub_zero, List.drop_zero, eq_self, Option.getD_none, Option.getD_some, Option.isSome_none, Option.isSome_some, Option.isNone_none, Option.isNone_some, Bool.or_false, Bool.false_or, Bool.and_false, Bool.false_and, Int.le_refl, Nat.le_refl, List.length_map, List.getElem?_map, Int.natCast_add, Int.natCast_one, List.append_assoc, List.length_append, Nat.add_assoc, and_self, and_true, true_and, and_false, false_and, or_true, true_or, or_false, false_or, not_true_eq_false, not_false_eq_true, Int.cast_ofNat_Int, Int.natCast_nonneg, Int.toNat_natCast, ne_eq, not_true_eq_false, not_false_eq_true, Nat.reduceBEq, Nat.reduceAdd, Nat.reduceSub, Nat.reduceMul, Nat.reduceLeDiff, Nat.reduceEqDiff, Nat.reduceLT, Int.reduceNeg, Int.reduceAdd, Int.reduceSub, Int.reduceMul, Int.reduceLE, Int.reduceLT, Int.reduceEq, Int.reduceToNat, reduceCtorEq, hab (by omega), hal, eq_vals, Option.map_some, decide_true]
      exact ⟨_, rfl⟩
end Go.Proofs.Ytgepapgabnaonaa.PE
