/- The laws of Morgan and of terms that are turned. -/
import Derived.Test.YtgepapgabnaonaaPz1
set_option linter.unusedSimpArgs false
set_option linter.unusedVariables false
set_option maxHeartbeats 4000000
namespace Go.Proofs.Ytgepapgabnaonaa.PE
open Go.RowKit

theorem withN_len (a : List Prt) : (withP a [] 7).length = a.length + 1 := by simp [withP]
theorem withT_len (a b : List Prt) (k : Int) (hk : 0 < k) : (withP a b k).length = a.length + b.length + 1 := by
  unfold withP
  rw [if_pos hk]
  simp only [List.length_append, List.length_cons, List.length_nil]
theorem morgan {cs : List Col} {row : List Val} {a b : List Prt} (k k' : Int) (hk : k = 5 ∧ k' = 6 ∨ k = 6 ∧ k' = 5) (hf : fitsRow cs row = true) (ha : Puts cs 3 a) (hb : Puts cs 3 b) (hl : a.length + b.length ≤ 9) : exprVal cs row (withP (withP a b k) [] 7) = exprVal cs row (withP (withP a [] 7) (withP b [] 7) k') := by
  obtain ⟨v, v1, v2⟩ := puts_val hf ha
  obtain ⟨w, w1, w2⟩ := puts_val hf hb
  have h1 : Has cs row 3 a v := ⟨ha, v1, v2⟩
  have h2 : Has cs row 3 b w := ⟨hb, w1, w2⟩
  obtain ⟨e1, t1⟩ := truth_of v1
  obtain ⟨e2, t2⟩ := truth_of w1
  rcases hk with ⟨rfl, rfl⟩ | ⟨rfl, rfl⟩
  · rw [(h1.and h2).not.val hf (by rw [withN_len, withT_len _ _ _ (by decide)]; omega) (by decide), (h1.not.or h2.not).val hf (by rw [withT_len _ _ _ (by decide), withN_len, withN_len]; omega) (by decide)]
    generalize truthV v = x at t1
    generalize truthV w = y at t2
    rcases t1 with rfl | rfl | rfl <;> rcases t2 with rfl | rfl | rfl <;> decide +kernel
  · rw [(h1.or h2).not.val hf (by rw [withN_len, withT_len _ _ _ (by decide)]; omega) (by decide), (h1.not.and h2.not).val hf (by rw [withT_len _ _ _ (by decide), withN_len, withN_len]; omega) (by decide)]
    generalize truthV v = x at t1
    generalize truthV w = y at t2
    rcases t1 with rfl | rfl | rfl <;> rcases t2 with rfl | rfl | rfl <;> decide +kernel
theorem turned {cs : List Col} {row : List Val} {a b : List Prt} (k : Int) (hk : k = 5 ∨ k = 6) (hf : fitsRow cs row = true) (ha : Puts cs 3 a) (hb : Puts cs 3 b) (hl : a.length + b.length ≤ 11) : exprVal cs row (withP a b k) = exprVal cs row (withP b a k) := by
  obtain ⟨v, v1, v2⟩ := puts_val hf ha
  obtain ⟨w, w1, w2⟩ := puts_val hf hb
  have h1 : Has cs row 3 a v := ⟨ha, v1, v2⟩
  have h2 : Has cs row 3 b w := ⟨hb, w1, w2⟩
  obtain ⟨e1, t1⟩ := truth_of v1
  obtain ⟨e2, t2⟩ := truth_of w1
  rcases hk with rfl | rfl
  · rw [(h1.and h2).val hf (by rw [withT_len _ _ _ (by decide)]; omega) (by decide), (h2.and h1).val hf (by rw [withT_len _ _ _ (by decide)]; omega) (by decide)]
    generalize truthV v = x at t1
    generalize truthV w = y at t2
    rcases t1 with rfl | rfl | rfl <;> rcases t2 with rfl | rfl | rfl <;> decide +kernel
  · rw [(h1.or h2).val hf (by rw [withT_len _ _ _ (by decide)]; omega) (by decide), (h2.or h1).val hf (by rw [withT_len _ _ _ (by decide)]; omega) (by decide)]
    generalize truthV v = x at t1
    generalize truthV w = y at t2
    rcases t1 with rfl | rfl | rfl <;> rcases t2 with rfl | rfl | rfl <;> decide +kernel
theorem notnot {cs : List Col} {row : List Val} {a : List Prt} (hf : fitsRow cs row = true) (ha : Puts cs 3 a) (hl : a.length ≤ 10) : exprVal cs row (withP (withP a [] 7) [] 7) = exprVal cs row a := by
  obtain ⟨v, v1, v2⟩ := puts_val hf ha
  have h1 : Has cs row 3 a v := ⟨ha, v1, v2⟩
  obtain ⟨e1, t1⟩ := truth_of v1
  rw [h1.not.not.val hf (by rw [withN_len, withN_len]; omega) (by decide), h1.val hf (by omega) (by decide)]
  conv => rhs; rw [e1]
  generalize truthV v = x at t1
  rcases t1 with rfl | rfl | rfl <;> decide +kernel
theorem run_withNone (d : Nat) (c c' : Bool) (a : List Prt) (k : Int) (ha : a.length ≤ 100000) : retP (runD tab noExt (d + 1)) 45 [.sl c 5 (a.map Prt.cells), .sl c' 5 [], .int .i64 k] = some [.sl false 5 ((withP a [] k).map Prt.cells)] := run_withParts d c c' a [] k ha (by simp)

-- find9
theorem law_Morgan (l : List UInt8) (hl : l.length ≤ maxLen) : ∃ d h1, runD tab noExt d 9 [.sl false 1 (cellsOfBytes l)] [] = some ([.bool true], h1) := by
  refine ⟨12, ?_⟩
  rw [runD_eq find9 _ _ _ (by simp)]
  obtain ⟨cs, row, a, b, hd, hc, hco, hf, ha, hb, la, lb⟩ := run_drawTests 3 false l
  have hrl : row.length = cs.length := by simp only [fitsRow, Bool.and_eq_true, decide_eq_true_eq, beq_iff_eq] at hf; omega
  by_cases h1 : (1048576 : Int) < l.length
  · simp only [go_sem, Nat.sub_zero, List.drop_zero, eq_self, Option.getD_none, Option.getD_some, Option.isSome_none, Option.isSome_some, Option.isNone_none, Option.isNone_some, Bool.or_false, Bool.false_or, Bool.and_false, Bool.false_and, Int.le_refl, Nat.le_refl, List.length_map, List.getElem?_map, Int.natCast_add, Int.natCast_one, List.append_assoc, List.length_append, Nat.add_assoc, and_self, and_true, true_and, and_false, false_and, or_true, true_or, or_false, false_or, not_true_eq_false, not_false_eq_true, Int.cast_ofNat_Int, Int.natCast_nonneg, Int.toNat_natCast, ne_eq, not_true_eq_false, not_false_eq_true, Nat.reduceBEq, Nat.reduceAdd, Nat.reduceSub, Nat.reduceMul, Nat.reduceLeDiff, Nat.reduceEqDiff, Nat.reduceLT, Int.reduceNeg, Int.reduceAdd, Int.reduceSub, Int.reduceMul, Int.reduceLE, Int.reduceLT, Int.reduceEq, Int.reduceToNat, reduceCtorEq, ofBytes_len, h1]
    exact ⟨_, rfl⟩
  · have hal := run_alive 6
    have sa := ha.short
    have sb := hb.short
    have n1 := withN_len a
    have n2 := withN_len b
    have l5 := withT_len a b 5 (by decide)
    have l6 := withT_len a b 6 (by decide)
    have m6 := withT_len (withP a [] 7) (withP b [] 7) 6 (by decide)
    have m5 := withT_len (withP a [] 7) (withP b [] 7) 5 (by decide)
    simp (disch := first | omega | assumption) only [go_sem, Nat.sub_zero, List.drop_zero, eq_self, Option.getD_none, Option.getD_some, Option.isSome_none, Option.isSome_some, Option.isNone_none, Option.isNone_some, Bool.or_false, Bool.false_or, Bool.and_false, Bool.false_and, Int.le_refl, Nat.le_refl, List.length_map, List.getElem?_map, Int.natCast_add, Int.natCast_one, List.append_assoc, List.length_append, Nat.add_assoc, and_self, and_true, true_and, and_false, false_and, or_true, true_or, or_false, false_or, not_true_eq_false, not_false_eq_true, Int.cast_ofNat_Int, Int.natCast_nonneg, Int.toNat_natCast, ne_eq, not_true_eq_false, not_false_eq_true, Nat.reduceBEq, Nat.reduceAdd, Nat.reduceSub, Nat.reduceMul, Nat.reduceLeDiff, Nat.reduceEqDiff, Nat.reduceLT, Int.reduceNeg, Int.reduceAdd, Int.reduceSub, Int.reduceMul, Int.reduceLE, Int.reduceLT, Int.reduceEq, Int.reduceToNat, reduceCtorEq, ofBytes_len, h1, hd, run_exprKindI, run_exprKindR, run_withParts, run_withNone, run_exprValueI, hal]
    by_cases hg : (12 : Int) < (withP (withP a [] 7) (withP b [] 7) 6).length
    · simp (disch := first | omega | assumption) only [go_sem, Nat.sub_zero, List.drop_zero, eq_self, Option.getD_none, Option.getD_some, Option.isSome_none, Option.isSome_some, Option.isNone_none, Option.isNone_some, Bool.or_false, Bool.false_or, Bool.and_false, Bool.false_and, Int.le_refl, Nat.le_refl, List.length_map, List.getElem?_map, Int.natCast_add, Int.natCast_one, List.append_assoc, List.length_append, Nat.add_assoc, and_self, and_true, true_and, and_false, false_and, or_true, true_or, or_false, false_or, not_true_eq_false, not_false_eq_true, Int.cast_ofNat_Int, Int.natCast_nonneg, Int.toNat_natCast, ne_eq, not_true_eq_false, not_false_eq_true, Nat.reduceBEq, Nat.reduceAdd, Nat.reduceSub, Nat.reduceMul, Nat.reduceLeDiff, Nat.reduceEqDiff, Nat.reduceLT, Int.reduceNeg, Int.reduceAdd, Int.reduceSub, Int.reduceMul, Int.reduceLE, Int.reduceLT, Int.reduceEq, Int.reduceToNat, reduceCtorEq, hg, run_exprValueI, hal]
      exact ⟨_, rfl⟩
    · have e1 := morgan (cs := cs) (row := row) (a := a) (b := b) 5 6 (by decide) hf ha hb (by omega)
      have e2 := morgan (cs := cs) (row := row) (a := a) (b := b) 6 5 (by decide) hf ha hb (by omega)
      simp (disch := first | omega | assumption) only [go_sem, Nat.sub_zero, List.drop_zero, eq_self, Option.getD_none, Option.getD_some, Option.isSome_none, Option.isSome_some, Option.isNone_none, Option.isNone_some, Bool.or_false, Bool.false_or, Bool.and_false, Bool.false_and, Int.le_refl, Nat.le_refl, List.length_map, List.getElem?_map, Int.natCast_add, Int.natCast_one, List.append_assoc, List.length_append, Nat.add_assoc, and_self, and_true, true_and, and_false, false_and, or_true, true_or, or_false, false_or, not_true_eq_false, not_false_eq_true, Int.cast_ofNat_Int, Int.natCast_nonneg, Int.toNat_natCast, ne_eq, not_true_eq_false, not_false_eq_true, Nat.reduceBEq, Nat.reduceAdd, Nat.reduceSub, Nat.reduceMul, Nat.reduceLeDiff, Nat.reduceEqDiff, Nat.reduceLT, Int.reduceNeg, Int.reduceAdd, Int.reduceSub, Int.reduceMul, Int.reduceLE, Int.reduceLT, Int.reduceEq, Int.reduceToNat, reduceCtorEq, hg, run_withNone, run_exprValueI, hal, e1, e2, eq_vals, Option.map_some, decide_true]
      exact ⟨_, rfl⟩
-- find10
theorem law_Turned (l : List UInt8) (hl : l.length ≤ maxLen) : ∃ d h1, runD tab noExt d 10 [.sl false 1 (cellsOfBytes l)] [] = some ([.bool true], h1) := by
  refine ⟨12, ?_⟩
  rw [runD_eq find10 _ _ _ (by simp)]
  obtain ⟨cs, row, a, b, hd, hc, hco, hf, ha, hb, la, lb⟩ := run_drawTests 3 false l
  have hrl : row.length = cs.length := by simp only [fitsRow, Bool.and_eq_true, decide_eq_true_eq, beq_iff_eq] at hf; omega
  by_cases h1 : (1048576 : Int) < l.length
  · simp only [go_sem, Nat.sub_zero, List.drop_zero, eq_self, Option.getD_none, Option.getD_some, Option.isSome_none, Option.isSome_some, Option.isNone_none, Option.isNone_some, Bool.or_false, Bool.false_or, Bool.and_false, Bool.false_and, Int.le_refl, Nat.le_refl, List.length_map, List.getElem?_map, Int.natCast_add, Int.natCast_one, List.append_assoc, List.length_append, Nat.add_assoc, and_self, and_true, true_and, and_false, false_and, or_true, true_or, or_false, false_or, not_true_eq_false, not_false_eq_true, Int.cast_ofNat_Int, Int.natCast_nonneg, Int.toNat_natCast, ne_eq, not_true_eq_false, not_false_eq_true, Nat.reduceBEq, Nat.reduceAdd, Nat.reduceSub, Nat.reduceMul, Nat.reduceLeDiff, Nat.reduceEqDiff, Nat.reduceLT, Int.reduceNeg, Int.reduceAdd, Int.reduceSub, Int.reduceMul, Int.reduceLE, Int.reduceLT, Int.reduceEq, Int.reduceToNat, reduceCtorEq, ofBytes_len, h1]
    exact ⟨_, rfl⟩
  · have hal := run_alive 6
    have sa := ha.short
    simp (disch := first | omega | assumption) only [go_sem, Nat.sub_zero, List.drop_zero, eq_self, Option.getD_none, Option.getD_some, Option.isSome_none, Option.isSome_some, Option.isNone_none, Option.isNone_some, Bool.or_false, Bool.false_or, Bool.and_false, Bool.false_and, Int.le_refl, Nat.le_refl, List.length_map, List.getElem?_map, Int.natCast_add, Int.natCast_one, List.append_assoc, List.length_append, Nat.add_assoc, and_self, and_true, true_and, and_false, false_and, or_true, true_or, or_false, false_or, not_true_eq_false, not_false_eq_true, Int.cast_ofNat_Int, Int.natCast_nonneg, Int.toNat_natCast, ne_eq, not_true_eq_false, not_false_eq_true, Nat.reduceBEq, Nat.reduceAdd, Nat.reduceSub, Nat.reduceMul, Nat.reduceLeDiff, Nat.reduceEqDiff, Nat.reduceLT, Int.reduceNeg, Int.reduceAdd, Int.reduceSub, Int.reduceMul, Int.reduceLE, Int.reduceLT, Int.reduceEq, Int.reduceToNat, reduceCtorEq, ofBytes_len, h1, hd, run_exprKindI, run_exprKindR, run_withParts, run_withNone, run_exprValueI, hal, IntWalk.i64_in]
    by_cases hg : (12 : Int) < (a.length : Int) + b.length + 1
    · simp (disch := first | omega | assumption) only [go_sem, Nat.sub_zero, List.drop_zero, eq_self, Option.getD_none, Option.getD_some, Option.isSome_none, Option.isSome_some, Option.isNone_none, Option.isNone_some, Bool.or_false, Bool.false_or, Bool.and_false, Bool.false_and, Int.le_refl, Nat.le_refl, List.length_map, List.getElem?_map, Int.natCast_add, Int.natCast_one, List.append_assoc, List.length_append, Nat.add_assoc, and_self, and_true, true_and, and_false, false_and, or_true, true_or, or_false, false_or, not_true_eq_false, not_false_eq_true, Int.cast_ofNat_Int, Int.natCast_nonneg, Int.toNat_natCast, ne_eq, not_true_eq_false, not_false_eq_true, Nat.reduceBEq, Nat.reduceAdd, Nat.reduceSub, Nat.reduceMul, Nat.reduceLeDiff, Nat.reduceEqDiff, Nat.reduceLT, Int.reduceNeg, Int.reduceAdd, Int.reduceSub, Int.reduceMul, Int.reduceLE, Int.reduceLT, Int.reduceEq, Int.reduceToNat, reduceCtorEq, hg, run_exprValueI, hal, IntWalk.i64_in]
      exact ⟨_, rfl⟩
    · have hg2 : ¬ (12 : Int) < (a.length : Int) + 2 := by omega
      have n1 := withN_len a
      have n2 := withN_len (withP a [] 7)
      have l5 := withT_len a b 5 (by decide)
      have l6 := withT_len a b 6 (by decide)
      have m5 := withT_len b a 5 (by decide)
      have m6 := withT_len b a 6 (by decide)
      have e1 := turned (cs := cs) (row := row) (a := a) (b := b) 5 (by decide) hf ha hb (by omega)
      have e2 := turned (cs := cs) (row := row) (a := a) (b := b) 6 (by decide) hf ha hb (by omega)
      have e3 := notnot (cs := cs) (row := row) (a := a) hf ha (by omega)
      simp (disch := first | omega | assumption) only [go_sem, Nat.sub_zero, List.drop_zero, eq_self, Option.getD_none, Option.getD_some, Option.isSome_none, Option.isSome_some, Option.isNone_none, Option.isNone_some, Bool.or_false, Bool.false_or, Bool.and_false, Bool.false_and, Int.le_refl, Nat.le_refl, List.length_map, List.getElem?_map, Int.natCast_add, Int.natCast_one, List.append_assoc, List.length_append, Nat.add_assoc, and_self, and_true, true_and, and_false, false_and, or_true, true_or, or_false, false_or, not_true_eq_false, not_false_eq_true, Int.cast_ofNat_Int, Int.natCast_nonneg, Int.toNat_natCast, ne_eq, not_true_eq_false, not_false_eq_true, Nat.reduceBEq, Nat.reduceAdd, Nat.reduceSub, Nat.reduceMul, Nat.reduceLeDiff, Nat.reduceEqDiff, Nat.reduceLT, Int.reduceNeg, Int.reduceAdd, Int.reduceSub, Int.reduceMul, Int.reduceLE, Int.reduceLT, Int.reduceEq, Int.reduceToNat, reduceCtorEq, hg, hg2, run_withParts, run_withNone, run_exprValueI, hal, IntWalk.i64_in, e1, e2, e3, eq_vals, Option.map_some, decide_true]
      exact ⟨_, rfl⟩
end Go.Proofs.Ytgepapgabnaonaa.PE
