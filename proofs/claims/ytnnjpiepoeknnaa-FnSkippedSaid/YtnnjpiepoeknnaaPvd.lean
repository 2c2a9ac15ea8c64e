/- The laws of what may hold and what must. -/
import Derived.Test.YtnnjpiepoeknnaaPvb
import Derived.Test.YtnnjpiepoeknnaaPvc
import Derived.Test.YtnnjpiepoeknnaaPr1
set_option linter.unusedSimpArgs false
set_option linter.unusedVariables false
set_option maxHeartbeats 4000000
namespace Go.Proofs.Ytnnjpiepoeknnaa.PE
open Go.RowKit

-- find15
theorem run_drawMay (d : Nat) (c : Bool) (l : List UInt8) : ∃ (k : Kn) (kd : Int) (v : Val), retP (runD tab noExt (d + 8)) 15 [.sl c 1 (cellsOfBytes l)] = some [.agg k.cells, .int .i64 kd, Val.enc v] ∧ AgPost k v := by
  rw [retP, runD_eq find15 _ _ _ (by simp)]
  simp -implicitDefEqProofs only [go_sem, Nat.sub_zero, List.drop_zero, eq_self, Option.getD_none, Option.getD_some, Option.isSome_none, Option.isSome_some, Option.isNone_none, Option.isNone_some, Bool.or_false, Bool.false_or, Bool.and_false, Bool.false_and, Int.le_refl, Nat.le_refl, List.length_map, List.getElem?_map, Int.natCast_add, Int.natCast_one, List.append_assoc, List.length_append, Nat.add_assoc, and_self, and_true, true_and, and_false, false_and, or_true, true_or, or_false, false_or, not_true_eq_false, not_false_eq_true, Int.cast_ofNat_Int, Int.natCast_nonneg, Int.toNat_natCast, ne_eq, not_true_eq_false, not_false_eq_true, Nat.reduceBEq, Nat.reduceAdd, Nat.reduceSub, Nat.reduceMul, Nat.reduceLeDiff, Nat.reduceEqDiff, Nat.reduceLT, Int.reduceNeg, Int.reduceAdd, Int.reduceSub, Int.reduceMul, Int.reduceLE, Int.reduceLT, Int.reduceEq, Int.reduceToNat, reduceCtorEq]
  generalize hx : callS (runD tab noExt _) _ 76 _ true = X
  obtain ⟨c', bs, rfl, hb⟩ := ex_open hx rfl
  clear hx
  simp -implicitDefEqProofs only [go_sem, Nat.sub_zero, List.drop_zero, eq_self, Option.getD_none, Option.getD_some, Option.isSome_none, Option.isSome_some, Option.isNone_none, Option.isNone_some, Bool.or_false, Bool.false_or, Bool.and_false, Bool.false_and, Int.le_refl, Nat.le_refl, List.length_map, List.getElem?_map, Int.natCast_add, Int.natCast_one, List.append_assoc, List.length_append, Nat.add_assoc, and_self, and_true, true_and, and_false, false_and, or_true, true_or, or_false, false_or, not_true_eq_false, not_false_eq_true, Int.cast_ofNat_Int, Int.natCast_nonneg, Int.toNat_natCast, ne_eq, not_true_eq_false, not_false_eq_true, Nat.reduceBEq, Nat.reduceAdd, Nat.reduceSub, Nat.reduceMul, Nat.reduceLeDiff, Nat.reduceEqDiff, Nat.reduceLT, Int.reduceNeg, Int.reduceAdd, Int.reduceSub, Int.reduceMul, Int.reduceLE, Int.reduceLT, Int.reduceEq, Int.reduceToNat, reduceCtorEq]
  generalize hx : callS (runD tab noExt _) _ 75 _ false = X
  obtain ⟨k, kd, v, p', rfl, g1, g2, g3⟩ := ex_against (hp := [_, _]) (t := []) hx (by omega) (by omega) hb rfl rfl
  clear hx
  simp -implicitDefEqProofs only [go_sem, Nat.sub_zero, List.drop_zero, eq_self, Option.getD_none, Option.getD_some, Option.isSome_none, Option.isSome_some, Option.isNone_none, Option.isNone_some, Bool.or_false, Bool.false_or, Bool.and_false, Bool.false_and, Int.le_refl, Nat.le_refl, List.length_map, List.getElem?_map, Int.natCast_add, Int.natCast_one, List.append_assoc, List.length_append, Nat.add_assoc, and_self, and_true, true_and, and_false, false_and, or_true, true_or, or_false, false_or, not_true_eq_false, not_false_eq_true, Int.cast_ofNat_Int, Int.natCast_nonneg, Int.toNat_natCast, ne_eq, not_true_eq_false, not_false_eq_true, Nat.reduceBEq, Nat.reduceAdd, Nat.reduceSub, Nat.reduceMul, Nat.reduceLeDiff, Nat.reduceEqDiff, Nat.reduceLT, Int.reduceNeg, Int.reduceAdd, Int.reduceSub, Int.reduceMul, Int.reduceLE, Int.reduceLT, Int.reduceEq, Int.reduceToNat, reduceCtorEq, Val.enc, Kn.cells]
  exact ⟨k, kd, v, rfl, g3⟩

-- find3
theorem law_MayHold (l : List UInt8) (hl : l.length ≤ maxLen) : ∃ d h1, runD tab noExt d 3 [.sl false 1 (cellsOfBytes l)] [] = some ([.bool true], h1) := by
  refine ⟨9, ?_⟩
  rw [runD_eq find3 _ _ _ (by simp)]
  obtain ⟨k, kd, v, hd, ⟨hk1, hk2⟩, hv⟩ := run_drawMay 0 false l
  have hv' : v.s.size < 1099511627776 := Nat.lt_of_le_of_lt hv (by decide)
  by_cases h1 : (1048576 : Int) < l.length
  · simp -implicitDefEqProofs only [go_sem, Nat.sub_zero, List.drop_zero, eq_self, Option.getD_none, Option.getD_some, Option.isSome_none, Option.isSome_some, Option.isNone_none, Option.isNone_some, Bool.or_false, Bool.false_or, Bool.and_false, Bool.false_and, Int.le_refl, Nat.le_refl, List.length_map, List.getElem?_map, Int.natCast_add, Int.natCast_one, List.append_assoc, List.length_append, Nat.add_assoc, and_self, and_true, true_and, and_false, false_and, or_true, true_or, or_false, false_or, not_true_eq_false, not_false_eq_true, Int.cast_ofNat_Int, Int.natCast_nonneg, Int.toNat_natCast, ne_eq, not_true_eq_false, not_false_eq_true, Nat.reduceBEq, Nat.reduceAdd, Nat.reduceSub, Nat.reduceMul, Nat.reduceLeDiff, Nat.reduceEqDiff, Nat.reduceLT, Int.reduceNeg, Int.reduceAdd, Int.reduceSub, Int.reduceMul, Int.reduceLE, Int.reduceLT, Int.reduceEq, Int.reduceToNat, reduceCtorEq, ofBytes_len, h1]
    exact ⟨_, rfl⟩
  · have hal := run_alive 3
    simp -implicitDefEqProofs (disch := first | omega | assumption) only [go_sem, Nat.sub_zero, List.drop_zero, eq_self, Option.getD_none, Option.getD_some, Option.isSome_none, Option.isSome_some, Option.isNone_none, Option.isNone_some, Bool.or_false, Bool.false_or, Bool.and_false, Bool.false_and, Int.le_refl, Nat.le_refl, List.length_map, List.getElem?_map, Int.natCast_add, Int.natCast_one, List.append_assoc, List.length_append, Nat.add_assoc, and_self, and_true, true_and, and_false, false_and, or_true, true_or, or_false, false_or, not_true_eq_false, not_false_eq_true, Int.cast_ofNat_Int, Int.natCast_nonneg, Int.toNat_natCast, ne_eq, not_true_eq_false, not_false_eq_true, Nat.reduceBEq, Nat.reduceAdd, Nat.reduceSub, Nat.reduceMul, Nat.reduceLeDiff, Nat.reduceEqDiff, Nat.reduceLT, Int.reduceNeg, Int.reduceAdd, Int.reduceSub, Int.reduceMul, Int.reduceLE, Int.reduceLT, Int.reduceEq, Int.reduceToNat, reduceCtorEq, ofBytes_len, h1, hd, Kn.cells, Val.enc, run_mayI, run_mayR, run_mustI, run_KnownOk, run_ValueOk, Kn.eta, Val.eta]
    simp -implicitDefEqProofs (disch := first | omega | assumption) only [go_sem, Nat.sub_zero, List.drop_zero, eq_self, Option.getD_none, Option.getD_some, Option.isSome_none, Option.isSome_some, Option.isNone_none, Option.isNone_some, Bool.or_false, Bool.false_or, Bool.and_false, Bool.false_and, Int.le_refl, Nat.le_refl, List.length_map, List.getElem?_map, Int.natCast_add, Int.natCast_one, List.append_assoc, List.length_append, Nat.add_assoc, and_self, and_true, true_and, and_false, false_and, or_true, true_or, or_false, false_or, not_true_eq_false, not_false_eq_true, Int.cast_ofNat_Int, Int.natCast_nonneg, Int.toNat_natCast, ne_eq, not_true_eq_false, not_false_eq_true, Nat.reduceBEq, Nat.reduceAdd, Nat.reduceSub, Nat.reduceMul, Nat.reduceLeDiff, Nat.reduceEqDiff, Nat.reduceLT, Int.reduceNeg, Int.reduceAdd, Int.reduceSub, Int.reduceMul, Int.reduceLE, Int.reduceLT, Int.reduceEq, Int.reduceToNat, reduceCtorEq, ← may_same, Kn.cells, run_mayI, run_mustI, run_KnownOk, run_ValueOk, Kn.eta, Val.eta]
    have e1 := either k v
    have e2 := @must_may k kd v
    have e3 : asksR k v = (if k.ok then (if 0 < k.many then (if v.ok then decide (v.kind = k.least.kind) else false) else false) else false) := by
      unfold asksR
      by_cases h : k.ok = true
      · by_cases hm : k.many = 0
        · simp [h, hm]
        · have := (Kn.ok_spec h hm).1
          have h0 : 0 < k.many := by omega
          simp [h, hm, h0]
      · simp [h]
    rw [e3] at e1
    clear e3
    repeat' ((first | rw [GuardI_ndec] | rw [CondC_ndec] | rw [GuardQ_ndec] | rw [GuardI_dec] | rw [CondC_dec] | rw [GuardQ_dec] | rw [GuardI_nby] | rw [CondC_nby] | rw [GuardQ_nby] | rw [GuardQ_by] | rw [GuardI_by] | rw [CondC_by]) <;> split <;> simp -implicitDefEqProofs (disch := first | omega | assumption) only [go_sem, Nat.sub_zero, List.drop_zero, eq_self, Option.getD_none, Option.getD_some, Option.isSome_none, Option.isSome_some, Option.isNone_none, Option.isNone_some, Bool.or_false, Bool.false_or, Bool.and_false, Bool.false_and, Int.le_refl, Nat.le_refl, List.length_map, List.getElem?_map, Int.natCast_add, Int.natCast_one, List.append_assoc, List.length_append, Nat.add_assoc, and_self, and_true, true_and, and_false, false_and, or_true, true_or, or_false, false_or, not_true_eq_false, not_false_eq_true, Int.cast_ofNat_Int, Int.natCast_nonneg, Int.toNat_natCast, ne_eq, not_true_eq_false, not_false_eq_true, Nat.reduceBEq, Nat.reduceAdd, Nat.reduceSub, Nat.reduceMul, Nat.reduceLeDiff, Nat.reduceEqDiff, Nat.reduceLT, Int.reduceNeg, Int.reduceAdd, Int.reduceSub, Int.reduceMul, Int.reduceLE, Int.reduceLT, Int.reduceEq, Int.reduceToNat, reduceCtorEq, Kn.cells, run_mayI, run_mustI, run_KnownOk, run_ValueOk, Kn.eta, Val.eta, *])
    all_goals first | exact ⟨_, rfl⟩ | (exfalso; simp_all; done) | (exfalso; revert e1; simp_all; done)

-- find22
theorem run_drawMust (d : Nat) (c : Bool) (l : List UInt8) : ∃ (k : Kn) (kd : Int) (v : Val), retP (runD tab noExt (d + 8)) 22 [.sl c 1 (cellsOfBytes l)] = some [.agg k.cells, .int .i64 kd, Val.enc v] ∧ AgPost k v := by
  rw [retP, runD_eq find22 _ _ _ (by simp)]
  simp -implicitDefEqProofs only [go_sem, Nat.sub_zero, List.drop_zero, eq_self, Option.getD_none, Option.getD_some, Option.isSome_none, Option.isSome_some, Option.isNone_none, Option.isNone_some, Bool.or_false, Bool.false_or, Bool.and_false, Bool.false_and, Int.le_refl, Nat.le_refl, List.length_map, List.getElem?_map, Int.natCast_add, Int.natCast_one, List.append_assoc, List.length_append, Nat.add_assoc, and_self, and_true, true_and, and_false, false_and, or_true, true_or, or_false, false_or, not_true_eq_false, not_false_eq_true, Int.cast_ofNat_Int, Int.natCast_nonneg, Int.toNat_natCast, ne_eq, not_true_eq_false, not_false_eq_true, Nat.reduceBEq, Nat.reduceAdd, Nat.reduceSub, Nat.reduceMul, Nat.reduceLeDiff, Nat.reduceEqDiff, Nat.reduceLT, Int.reduceNeg, Int.reduceAdd, Int.reduceSub, Int.reduceMul, Int.reduceLE, Int.reduceLT, Int.reduceEq, Int.reduceToNat, reduceCtorEq]
  generalize hx : callS (runD tab noExt _) _ 76 _ true = X
  obtain ⟨c', bs, rfl, hb⟩ := ex_open hx rfl
  clear hx
  simp -implicitDefEqProofs only [go_sem, Nat.sub_zero, List.drop_zero, eq_self, Option.getD_none, Option.getD_some, Option.isSome_none, Option.isSome_some, Option.isNone_none, Option.isNone_some, Bool.or_false, Bool.false_or, Bool.and_false, Bool.false_and, Int.le_refl, Nat.le_refl, List.length_map, List.getElem?_map, Int.natCast_add, Int.natCast_one, List.append_assoc, List.length_append, Nat.add_assoc, and_self, and_true, true_and, and_false, false_and, or_true, true_or, or_false, false_or, not_true_eq_false, not_false_eq_true, Int.cast_ofNat_Int, Int.natCast_nonneg, Int.toNat_natCast, ne_eq, not_true_eq_false, not_false_eq_true, Nat.reduceBEq, Nat.reduceAdd, Nat.reduceSub, Nat.reduceMul, Nat.reduceLeDiff, Nat.reduceEqDiff, Nat.reduceLT, Int.reduceNeg, Int.reduceAdd, Int.reduceSub, Int.reduceMul, Int.reduceLE, Int.reduceLT, Int.reduceEq, Int.reduceToNat, reduceCtorEq]
  generalize hx : callS (runD tab noExt _) _ 75 _ false = X
  obtain ⟨k, kd, v, p', rfl, g1, g2, g3⟩ := ex_against (hp := [_, _]) (t := []) hx (by omega) (by omega) hb rfl rfl
  clear hx
  simp -implicitDefEqProofs only [go_sem, Nat.sub_zero, List.drop_zero, eq_self, Option.getD_none, Option.getD_some, Option.isSome_none, Option.isSome_some, Option.isNone_none, Option.isNone_some, Bool.or_false, Bool.false_or, Bool.and_false, Bool.false_and, Int.le_refl, Nat.le_refl, List.length_map, List.getElem?_map, Int.natCast_add, Int.natCast_one, List.append_assoc, List.length_append, Nat.add_assoc, and_self, and_true, true_and, and_false, false_and, or_true, true_or, or_false, false_or, not_true_eq_false, not_false_eq_true, Int.cast_ofNat_Int, Int.natCast_nonneg, Int.toNat_natCast, ne_eq, not_true_eq_false, not_false_eq_true, Nat.reduceBEq, Nat.reduceAdd, Nat.reduceSub, Nat.reduceMul, Nat.reduceLeDiff, Nat.reduceEqDiff, Nat.reduceLT, Int.reduceNeg, Int.reduceAdd, Int.reduceSub, Int.reduceMul, Int.reduceLE, Int.reduceLT, Int.reduceEq, Int.reduceToNat, reduceCtorEq, Val.enc, Kn.cells]
  exact ⟨k, kd, v, rfl, g3⟩
theorem same_other {k : Kn} {v : Val} (h : mustI k 1 v = true) : mayI k 2 v = false := by
  unfold mustI at h
  split at h
  · simp at h
    simp [mayI, h]
  · cases h
theorem other_same {k : Kn} {v : Val} (h : mustI k 2 v = true) : mayI k 1 v = false := by
  unfold mustI at h
  split at h
  · rename_i ha
    simp at h
    simp [mayI]
    intro _ h1
    rcases h with h | h <;> omega
  · cases h
-- find4
theorem law_MustHold (l : List UInt8) (hl : l.length ≤ maxLen) : ∃ d h1, runD tab noExt d 4 [.sl false 1 (cellsOfBytes l)] [] = some ([.bool true], h1) := by
  refine ⟨9, ?_⟩
  rw [runD_eq find4 _ _ _ (by simp)]
  obtain ⟨k, kd, v, hd, ⟨hk1, hk2⟩, hv⟩ := run_drawMust 0 false l
  have hv' : v.s.size < 1099511627776 := Nat.lt_of_le_of_lt hv (by decide)
  by_cases h1 : (1048576 : Int) < l.length
  · simp -implicitDefEqProofs only [go_sem, Nat.sub_zero, List.drop_zero, eq_self, Option.getD_none, Option.getD_some, Option.isSome_none, Option.isSome_some, Option.isNone_none, Option.isNone_some, Bool.or_false, Bool.false_or, Bool.and_false, Bool.false_and, Int.le_refl, Nat.le_refl, List.length_map, List.getElem?_map, Int.natCast_add, Int.natCast_one, List.append_assoc, List.length_append, Nat.add_assoc, and_self, and_true, true_and, and_false, false_and, or_true, true_or, or_false, false_or, not_true_eq_false, not_false_eq_true, Int.cast_ofNat_Int, Int.natCast_nonneg, Int.toNat_natCast, ne_eq, not_true_eq_false, not_false_eq_true, Nat.reduceBEq, Nat.reduceAdd, Nat.reduceSub, Nat.reduceMul, Nat.reduceLeDiff, Nat.reduceEqDiff, Nat.reduceLT, Int.reduceNeg, Int.reduceAdd, Int.reduceSub, Int.reduceMul, Int.reduceLE, Int.reduceLT, Int.reduceEq, Int.reduceToNat, reduceCtorEq, ofBytes_len, h1]
    exact ⟨_, rfl⟩
  · have hal := run_alive 3
    simp -implicitDefEqProofs (disch := first | omega | assumption) only [go_sem, Nat.sub_zero, List.drop_zero, eq_self, Option.getD_none, Option.getD_some, Option.isSome_none, Option.isSome_some, Option.isNone_none, Option.isNone_some, Bool.or_false, Bool.false_or, Bool.and_false, Bool.false_and, Int.le_refl, Nat.le_refl, List.length_map, List.getElem?_map, Int.natCast_add, Int.natCast_one, List.append_assoc, List.length_append, Nat.add_assoc, and_self, and_true, true_and, and_false, false_and, or_true, true_or, or_false, false_or, not_true_eq_false, not_false_eq_true, Int.cast_ofNat_Int, Int.natCast_nonneg, Int.toNat_natCast, ne_eq, not_true_eq_false, not_false_eq_true, Nat.reduceBEq, Nat.reduceAdd, Nat.reduceSub, Nat.reduceMul, Nat.reduceLeDiff, Nat.reduceEqDiff, Nat.reduceLT, Int.reduceNeg, Int.reduceAdd, Int.reduceSub, Int.reduceMul, Int.reduceLE, Int.reduceLT, Int.reduceEq, Int.reduceToNat, reduceCtorEq, ofBytes_len, h1, hd, Kn.cells, Val.enc, run_mayI, run_mustI, run_mustR, run_KnownOk, run_ValueOk, Kn.eta, Val.eta]
    simp -implicitDefEqProofs (disch := first | omega | assumption) only [go_sem, Nat.sub_zero, List.drop_zero, eq_self, Option.getD_none, Option.getD_some, Option.isSome_none, Option.isSome_some, Option.isNone_none, Option.isNone_some, Bool.or_false, Bool.false_or, Bool.and_false, Bool.false_and, Int.le_refl, Nat.le_refl, List.length_map, List.getElem?_map, Int.natCast_add, Int.natCast_one, List.append_assoc, List.length_append, Nat.add_assoc, and_self, and_true, true_and, and_false, false_and, or_true, true_or, or_false, false_or, not_true_eq_false, not_false_eq_true, Int.cast_ofNat_Int, Int.natCast_nonneg, Int.toNat_natCast, ne_eq, not_true_eq_false, not_false_eq_true, Nat.reduceBEq, Nat.reduceAdd, Nat.reduceSub, Nat.reduceMul, Nat.reduceLeDiff, Nat.reduceEqDiff, Nat.reduceLT, Int.reduceNeg, Int.reduceAdd, Int.reduceSub, Int.reduceMul, Int.reduceLE, Int.reduceLT, Int.reduceEq, Int.reduceToNat, reduceCtorEq, ← must_same, Kn.cells, run_mayI, run_mustI, run_KnownOk, run_ValueOk, Kn.eta, Val.eta]
    have e1 := @same_other k v
    have e2 := @other_same k v
    repeat' ((first | rw [GuardI_ndec] | rw [CondC_ndec] | rw [GuardQ_ndec] | rw [GuardI_dec] | rw [CondC_dec] | rw [GuardQ_dec] | rw [GuardI_nby] | rw [CondC_nby] | rw [GuardQ_nby] | rw [GuardQ_by] | rw [GuardI_by] | rw [CondC_by]) <;> split <;> simp -implicitDefEqProofs (disch := first | omega | assumption) only [go_sem, Nat.sub_zero, List.drop_zero, eq_self, Option.getD_none, Option.getD_some, Option.isSome_none, Option.isSome_some, Option.isNone_none, Option.isNone_some, Bool.or_false, Bool.false_or, Bool.and_false, Bool.false_and, Int.le_refl, Nat.le_refl, List.length_map, List.getElem?_map, Int.natCast_add, Int.natCast_one, List.append_assoc, List.length_append, Nat.add_assoc, and_self, and_true, true_and, and_false, false_and, or_true, true_or, or_false, false_or, not_true_eq_false, not_false_eq_true, Int.cast_ofNat_Int, Int.natCast_nonneg, Int.toNat_natCast, ne_eq, not_true_eq_false, not_false_eq_true, Nat.reduceBEq, Nat.reduceAdd, Nat.reduceSub, Nat.reduceMul, Nat.reduceLeDiff, Nat.reduceEqDiff, Nat.reduceLT, Int.reduceNeg, Int.reduceAdd, Int.reduceSub, Int.reduceMul, Int.reduceLE, Int.reduceLT, Int.reduceEq, Int.reduceToNat, reduceCtorEq, Kn.cells, run_mayI, run_mustI, run_KnownOk, run_ValueOk, Kn.eta, Val.eta, *])
    all_goals first | exact ⟨_, rfl⟩ | (exfalso; simp_all; done)
end Go.Proofs.Ytnnjpiepoeknnaa.PE
