/- What may hold and what must, by what is known: the program and the reference, and that they agree. -/
import Derived.Test.YtnnjpiepoeknnaaPvo
import Derived.Test.YtnnjpiepoeknnaaPv6
set_option linter.unusedSimpArgs false
set_option linter.unusedVariables false
set_option maxHeartbeats 4000000
namespace Go.Proofs.Ytnnjpiepoeknnaa.PE
open Go.RowKit

def asks (k : Kn) (kd : Int) (v : Val) : Bool := if k.ok then (if 0 < k.many then (if 1 ≤ kd ∧ kd ≤ 4 then (if v.ok then decide (v.kind = k.least.kind) else false) else false) else false) else false
def mayI (k : Kn) (kd : Int) (v : Val) : Bool := if asks k kd v then (
  if kd = 1 then (if k.least.cmp v ≤ 0 then decide (0 ≤ k.most.cmp v) else false)
  else if kd = 2 then (if k.least.cmp v = 0 then !decide (k.most.cmp v = 0) else true)
  else if kd = 3 then decide (k.least.cmp v < 0) else decide (k.least.cmp v ≤ 0)) else false
def mustI (k : Kn) (kd : Int) (v : Val) : Bool := if asks k kd v then (
  if kd = 1 then (if k.least.cmp v = 0 then decide (k.most.cmp v = 0) else false)
  else if kd = 2 then (if 0 < k.least.cmp v then true else decide (k.most.cmp v < 0))
  else if kd = 3 then decide (k.most.cmp v < 0) else decide (k.most.cmp v ≤ 0)) else false
def asksR (k : Kn) (v : Val) : Bool := if k.ok then (if k.many = 0 then false else if v.ok then decide (v.kind = k.least.kind) else false) else false
def mayR (k : Kn) (kd : Int) (v : Val) : Bool := if asksR k v then (
  if kd = 1 then (if k.least.ord v ≤ 0 then decide (v.ord k.most ≤ 0) else false)
  else if kd = 2 then (if k.least = v then !decide (k.most = v) else true)
  else if kd = 3 then decide (k.least.ord v < 0) else if kd = 4 then decide (k.least.ord v ≤ 0) else false) else false
def mustR (k : Kn) (kd : Int) (v : Val) : Bool := if asksR k v then (
  if kd = 1 then (if k.least = v then decide (k.most = v) else false)
  else if kd = 2 then (if v.ord k.least < 0 then true else decide (k.most.ord v < 0))
  else if kd = 3 then decide (k.most.ord v < 0) else if kd = 4 then decide (k.most.ord v ≤ 0) else false) else false

theorem run_asks (d : Nat) (am au : Int) (alk aln : Int) (alq : ByteArray) (agk agn : Int) (agq : ByteArray) (kd : Int) (bk bn : Int) (bq : ByteArray) : retP (runD tab noExt (d + 5)) 77 [.agg [.int .i64 am, .int .i64 au, .int .i64 alk, .int .i64 aln, .str alq, .int .i64 agk, .int .i64 agn, .str agq], .int .i64 kd, .agg [.int .i64 bk, .int .i64 bn, .str bq]] = some [.bool (asks (⟨am, au, (⟨alk, aln, alq⟩ : Val), (⟨agk, agn, agq⟩ : Val)⟩ : Kn) kd (⟨bk, bn, bq⟩ : Val))] := by
  rw [retP, runD_eq find77 _ _ _ (by simp)]
  simp -implicitDefEqProofs (disch := omega) only [go_sem, Nat.sub_zero, List.drop_zero, eq_self, Option.getD_none, Option.getD_some, Option.isSome_none, Option.isSome_some, Option.isNone_none, Option.isNone_some, Bool.or_false, Bool.false_or, Bool.and_false, Bool.false_and, Int.le_refl, Nat.le_refl, List.length_map, List.getElem?_map, Int.natCast_add, Int.natCast_one, List.append_assoc, List.length_append, Nat.add_assoc, and_self, and_true, true_and, and_false, false_and, or_true, true_or, or_false, false_or, not_true_eq_false, not_false_eq_true, Int.cast_ofNat_Int, Int.natCast_nonneg, Int.toNat_natCast, ne_eq, not_true_eq_false, not_false_eq_true, Nat.reduceBEq, Nat.reduceAdd, Nat.reduceSub, Nat.reduceMul, Nat.reduceLeDiff, Nat.reduceEqDiff, Nat.reduceLT, Int.reduceNeg, Int.reduceAdd, Int.reduceSub, Int.reduceMul, Int.reduceLE, Int.reduceLT, Int.reduceEq, Int.reduceToNat, reduceCtorEq, run_KnownOk, run_between, run_ok]
  repeat' ((first | rw [GuardI_ndec] | rw [CondC_ndec] | rw [GuardQ_ndec] | rw [GuardI_dec] | rw [CondC_dec] | rw [GuardQ_dec] | rw [GuardI_nby] | rw [CondC_nby] | rw [GuardQ_nby] | rw [GuardQ_by] | rw [GuardI_by] | rw [CondC_by]) <;> split <;> simp -implicitDefEqProofs (disch := omega) only [go_sem, Nat.sub_zero, List.drop_zero, eq_self, Option.getD_none, Option.getD_some, Option.isSome_none, Option.isSome_some, Option.isNone_none, Option.isNone_some, Bool.or_false, Bool.false_or, Bool.and_false, Bool.false_and, Int.le_refl, Nat.le_refl, List.length_map, List.getElem?_map, Int.natCast_add, Int.natCast_one, List.append_assoc, List.length_append, Nat.add_assoc, and_self, and_true, true_and, and_false, false_and, or_true, true_or, or_false, false_or, not_true_eq_false, not_false_eq_true, Int.cast_ofNat_Int, Int.natCast_nonneg, Int.toNat_natCast, ne_eq, not_true_eq_false, not_false_eq_true, Nat.reduceBEq, Nat.reduceAdd, Nat.reduceSub, Nat.reduceMul, Nat.reduceLeDiff, Nat.reduceEqDiff, Nat.reduceLT, Int.reduceNeg, Int.reduceAdd, Int.reduceSub, Int.reduceMul, Int.reduceLE, Int.reduceLT, Int.reduceEq, Int.reduceToNat, reduceCtorEq, run_KnownOk, run_between, run_ok, *])
  all_goals (first | (simp only [asks, reduceIte, if_true, if_false, Bool.false_eq_true, *]; done) | (simp_all [asks]; done) | (simp_all [asks]; omega) | (simp_all [asks]; grind))
theorem run_mayI (d : Nat) (am au : Int) (alk aln : Int) (alq : ByteArray) (agk agn : Int) (agq : ByteArray) (kd : Int) (bk bn : Int) (bq : ByteArray) : retP (runD tab noExt (d + 6)) 16 [.agg [.int .i64 am, .int .i64 au, .int .i64 alk, .int .i64 aln, .str alq, .int .i64 agk, .int .i64 agn, .str agq], .int .i64 kd, .agg [.int .i64 bk, .int .i64 bn, .str bq]] = some [.bool (mayI (⟨am, au, (⟨alk, aln, alq⟩ : Val), (⟨agk, agn, agq⟩ : Val)⟩ : Kn) kd (⟨bk, bn, bq⟩ : Val))] := by
  rw [retP, runD_eq find16 _ _ _ (by simp)]
  simp -implicitDefEqProofs (disch := omega) only [go_sem, Nat.sub_zero, List.drop_zero, eq_self, Option.getD_none, Option.getD_some, Option.isSome_none, Option.isSome_some, Option.isNone_none, Option.isNone_some, Bool.or_false, Bool.false_or, Bool.and_false, Bool.false_and, Int.le_refl, Nat.le_refl, List.length_map, List.getElem?_map, Int.natCast_add, Int.natCast_one, List.append_assoc, List.length_append, Nat.add_assoc, and_self, and_true, true_and, and_false, false_and, or_true, true_or, or_false, false_or, not_true_eq_false, not_false_eq_true, Int.cast_ofNat_Int, Int.natCast_nonneg, Int.toNat_natCast, ne_eq, not_true_eq_false, not_false_eq_true, Nat.reduceBEq, Nat.reduceAdd, Nat.reduceSub, Nat.reduceMul, Nat.reduceLeDiff, Nat.reduceEqDiff, Nat.reduceLT, Int.reduceNeg, Int.reduceAdd, Int.reduceSub, Int.reduceMul, Int.reduceLE, Int.reduceLT, Int.reduceEq, Int.reduceToNat, reduceCtorEq, run_asks, run_order, evC_draw, evD16x0, E16x0]
  repeat' ((first | rw [GuardI_ndec] | rw [CondC_ndec] | rw [GuardQ_ndec] | rw [GuardI_dec] | rw [CondC_dec] | rw [GuardQ_dec] | rw [GuardI_nby] | rw [CondC_nby] | rw [GuardQ_nby] | rw [GuardQ_by] | rw [GuardI_by] | rw [CondC_by]) <;> split <;> simp -implicitDefEqProofs (disch := omega) only [go_sem, Nat.sub_zero, List.drop_zero, eq_self, Option.getD_none, Option.getD_some, Option.isSome_none, Option.isSome_some, Option.isNone_none, Option.isNone_some, Bool.or_false, Bool.false_or, Bool.and_false, Bool.false_and, Int.le_refl, Nat.le_refl, List.length_map, List.getElem?_map, Int.natCast_add, Int.natCast_one, List.append_assoc, List.length_append, Nat.add_assoc, and_self, and_true, true_and, and_false, false_and, or_true, true_or, or_false, false_or, not_true_eq_false, not_false_eq_true, Int.cast_ofNat_Int, Int.natCast_nonneg, Int.toNat_natCast, ne_eq, not_true_eq_false, not_false_eq_true, Nat.reduceBEq, Nat.reduceAdd, Nat.reduceSub, Nat.reduceMul, Nat.reduceLeDiff, Nat.reduceEqDiff, Nat.reduceLT, Int.reduceNeg, Int.reduceAdd, Int.reduceSub, Int.reduceMul, Int.reduceLE, Int.reduceLT, Int.reduceEq, Int.reduceToNat, reduceCtorEq, run_asks, run_order, evC_draw, evD16x0, E16x0, *])
  all_goals (first | (simp only [mayI, reduceIte, if_true, if_false, Bool.false_eq_true, *]; done) | (simp_all [mayI]; done) | (simp_all [mayI]; omega) | (simp_all [mayI]; grind))
theorem run_mustI (d : Nat) (am au : Int) (alk aln : Int) (alq : ByteArray) (agk agn : Int) (agq : ByteArray) (kd : Int) (bk bn : Int) (bq : ByteArray) : retP (runD tab noExt (d + 6)) 20 [.agg [.int .i64 am, .int .i64 au, .int .i64 alk, .int .i64 aln, .str alq, .int .i64 agk, .int .i64 agn, .str agq], .int .i64 kd, .agg [.int .i64 bk, .int .i64 bn, .str bq]] = some [.bool (mustI (⟨am, au, (⟨alk, aln, alq⟩ : Val), (⟨agk, agn, agq⟩ : Val)⟩ : Kn) kd (⟨bk, bn, bq⟩ : Val))] := by
  rw [retP, runD_eq find20 _ _ _ (by simp)]
  simp -implicitDefEqProofs (disch := omega) only [go_sem, Nat.sub_zero, List.drop_zero, eq_self, Option.getD_none, Option.getD_some, Option.isSome_none, Option.isSome_some, Option.isNone_none, Option.isNone_some, Bool.or_false, Bool.false_or, Bool.and_false, Bool.false_and, Int.le_refl, Nat.le_refl, List.length_map, List.getElem?_map, Int.natCast_add, Int.natCast_one, List.append_assoc, List.length_append, Nat.add_assoc, and_self, and_true, true_and, and_false, false_and, or_true, true_or, or_false, false_or, not_true_eq_false, not_false_eq_true, Int.cast_ofNat_Int, Int.natCast_nonneg, Int.toNat_natCast, ne_eq, not_true_eq_false, not_false_eq_true, Nat.reduceBEq, Nat.reduceAdd, Nat.reduceSub, Nat.reduceMul, Nat.reduceLeDiff, Nat.reduceEqDiff, Nat.reduceLT, Int.reduceNeg, Int.reduceAdd, Int.reduceSub, Int.reduceMul, Int.reduceLE, Int.reduceLT, Int.reduceEq, Int.reduceToNat, reduceCtorEq, run_asks, run_order, evC_draw, evD20x0, E20x0]
  repeat' ((first | rw [GuardI_ndec] | rw [CondC_ndec] | rw [GuardQ_ndec] | rw [GuardI_dec] | rw [CondC_dec] | rw [GuardQ_dec] | rw [GuardI_nby] | rw [CondC_nby] | rw [GuardQ_nby] | rw [GuardQ_by] | rw [GuardI_by] | rw [CondC_by]) <;> split <;> simp -implicitDefEqProofs (disch := omega) only [go_sem, Nat.sub_zero, List.drop_zero, eq_self, Option.getD_none, Option.getD_some, Option.isSome_none, Option.isSome_some, Option.isNone_none, Option.isNone_some, Bool.or_false, Bool.false_or, Bool.and_false, Bool.false_and, Int.le_refl, Nat.le_refl, List.length_map, List.getElem?_map, Int.natCast_add, Int.natCast_one, List.append_assoc, List.length_append, Nat.add_assoc, and_self, and_true, true_and, and_false, false_and, or_true, true_or, or_false, false_or, not_true_eq_false, not_false_eq_true, Int.cast_ofNat_Int, Int.natCast_nonneg, Int.toNat_natCast, ne_eq, not_true_eq_false, not_false_eq_true, Nat.reduceBEq, Nat.reduceAdd, Nat.reduceSub, Nat.reduceMul, Nat.reduceLeDiff, Nat.reduceEqDiff, Nat.reduceLT, Int.reduceNeg, Int.reduceAdd, Int.reduceSub, Int.reduceMul, Int.reduceLE, Int.reduceLT, Int.reduceEq, Int.reduceToNat, reduceCtorEq, run_asks, run_order, evC_draw, evD20x0, E20x0, *])
  all_goals (first | (simp only [mustI, reduceIte, if_true, if_false, Bool.false_eq_true, *]; done) | (simp_all [mustI]; done) | (simp_all [mustI]; omega) | (simp_all [mustI]; grind))
theorem run_mayR (d : Nat) (am au : Int) (alk aln : Int) (alq : ByteArray) (agk agn : Int) (agq : ByteArray) (kd : Int) (bk bn : Int) (bq : ByteArray) (h1 : alq.size < 1099511627776) (h2 : agq.size < 1099511627776) (h3 : bq.size < 1099511627776) : retP (runD tab noExt (d + 5)) 17 [.agg [.int .i64 am, .int .i64 au, .int .i64 alk, .int .i64 aln, .str alq, .int .i64 agk, .int .i64 agn, .str agq], .int .i64 kd, .agg [.int .i64 bk, .int .i64 bn, .str bq]] = some [.bool (mayR (⟨am, au, (⟨alk, aln, alq⟩ : Val), (⟨agk, agn, agq⟩ : Val)⟩ : Kn) kd (⟨bk, bn, bq⟩ : Val))] := by
  rw [retP, runD_eq find17 _ _ _ (by simp)]
  simp -implicitDefEqProofs (disch := omega) only [go_sem, Nat.sub_zero, List.drop_zero, eq_self, Option.getD_none, Option.getD_some, Option.isSome_none, Option.isSome_some, Option.isNone_none, Option.isNone_some, Bool.or_false, Bool.false_or, Bool.and_false, Bool.false_and, Int.le_refl, Nat.le_refl, List.length_map, List.getElem?_map, Int.natCast_add, Int.natCast_one, List.append_assoc, List.length_append, Nat.add_assoc, and_self, and_true, true_and, and_false, false_and, or_true, true_or, or_false, false_or, not_true_eq_false, not_false_eq_true, Int.cast_ofNat_Int, Int.natCast_nonneg, Int.toNat_natCast, ne_eq, not_true_eq_false, not_false_eq_true, Nat.reduceBEq, Nat.reduceAdd, Nat.reduceSub, Nat.reduceMul, Nat.reduceLeDiff, Nat.reduceEqDiff, Nat.reduceLT, Int.reduceNeg, Int.reduceAdd, Int.reduceSub, Int.reduceMul, Int.reduceLE, Int.reduceLT, Int.reduceEq, Int.reduceToNat, reduceCtorEq, run_specKnownOk, run_specValueOk, run_ValueOrder]
  repeat' ((first | rw [GuardI_ndec] | rw [CondC_ndec] | rw [GuardQ_ndec] | rw [GuardI_dec] | rw [CondC_dec] | rw [GuardQ_dec] | rw [GuardI_nby] | rw [CondC_nby] | rw [GuardQ_nby] | rw [GuardQ_by] | rw [GuardI_by] | rw [CondC_by]) <;> split <;> simp -implicitDefEqProofs (disch := omega) only [go_sem, Nat.sub_zero, List.drop_zero, eq_self, Option.getD_none, Option.getD_some, Option.isSome_none, Option.isSome_some, Option.isNone_none, Option.isNone_some, Bool.or_false, Bool.false_or, Bool.and_false, Bool.false_and, Int.le_refl, Nat.le_refl, List.length_map, List.getElem?_map, Int.natCast_add, Int.natCast_one, List.append_assoc, List.length_append, Nat.add_assoc, and_self, and_true, true_and, and_false, false_and, or_true, true_or, or_false, false_or, not_true_eq_false, not_false_eq_true, Int.cast_ofNat_Int, Int.natCast_nonneg, Int.toNat_natCast, ne_eq, not_true_eq_false, not_false_eq_true, Nat.reduceBEq, Nat.reduceAdd, Nat.reduceSub, Nat.reduceMul, Nat.reduceLeDiff, Nat.reduceEqDiff, Nat.reduceLT, Int.reduceNeg, Int.reduceAdd, Int.reduceSub, Int.reduceMul, Int.reduceLE, Int.reduceLT, Int.reduceEq, Int.reduceToNat, reduceCtorEq, run_specKnownOk, run_specValueOk, run_ValueOrder, *])
  all_goals (first | (simp only [mayR, asksR, Val.mk.injEq, reduceIte, if_true, if_false, Bool.false_eq_true, *]; done) | (simp_all [mayR, asksR, Val.mk.injEq]; done) | (simp_all [mayR, asksR, Val.mk.injEq]; omega) | (simp_all [mayR, asksR, Val.mk.injEq]; grind))
theorem run_mustR (d : Nat) (am au : Int) (alk aln : Int) (alq : ByteArray) (agk agn : Int) (agq : ByteArray) (kd : Int) (bk bn : Int) (bq : ByteArray) (h1 : alq.size < 1099511627776) (h2 : agq.size < 1099511627776) (h3 : bq.size < 1099511627776) : retP (runD tab noExt (d + 5)) 23 [.agg [.int .i64 am, .int .i64 au, .int .i64 alk, .int .i64 aln, .str alq, .int .i64 agk, .int .i64 agn, .str agq], .int .i64 kd, .agg [.int .i64 bk, .int .i64 bn, .str bq]] = some [.bool (mustR (⟨am, au, (⟨alk, aln, alq⟩ : Val), (⟨agk, agn, agq⟩ : Val)⟩ : Kn) kd (⟨bk, bn, bq⟩ : Val))] := by
  rw [retP, runD_eq find23 _ _ _ (by simp)]
  simp -implicitDefEqProofs (disch := omega) only [go_sem, Nat.sub_zero, List.drop_zero, eq_self, Option.getD_none, Option.getD_some, Option.isSome_none, Option.isSome_some, Option.isNone_none, Option.isNone_some, Bool.or_false, Bool.false_or, Bool.and_false, Bool.false_and, Int.le_refl, Nat.le_refl, List.length_map, List.getElem?_map, Int.natCast_add, Int.natCast_one, List.append_assoc, List.length_append, Nat.add_assoc, and_self, and_true, true_and, and_false, false_and, or_true, true_or, or_false, false_or, not_true_eq_false, not_false_eq_true, Int.cast_ofNat_Int, Int.natCast_nonneg, Int.toNat_natCast, ne_eq, not_true_eq_false, not_false_eq_true, Nat.reduceBEq, Nat.reduceAdd, Nat.reduceSub, Nat.reduceMul, Nat.reduceLeDiff, Nat.reduceEqDiff, Nat.reduceLT, Int.reduceNeg, Int.reduceAdd, Int.reduceSub, Int.reduceMul, Int.reduceLE, Int.reduceLT, Int.reduceEq, Int.reduceToNat, reduceCtorEq, run_specKnownOk, run_specValueOk, run_ValueOrder]
  repeat' ((first | rw [GuardI_ndec] | rw [CondC_ndec] | rw [GuardQ_ndec] | rw [GuardI_dec] | rw [CondC_dec] | rw [GuardQ_dec] | rw [GuardI_nby] | rw [CondC_nby] | rw [GuardQ_nby] | rw [GuardQ_by] | rw [GuardI_by] | rw [CondC_by]) <;> split <;> simp -implicitDefEqProofs (disch := omega) only [go_sem, Nat.sub_zero, List.drop_zero, eq_self, Option.getD_none, Option.getD_some, Option.isSome_none, Option.isSome_some, Option.isNone_none, Option.isNone_some, Bool.or_false, Bool.false_or, Bool.and_false, Bool.false_and, Int.le_refl, Nat.le_refl, List.length_map, List.getElem?_map, Int.natCast_add, Int.natCast_one, List.append_assoc, List.length_append, Nat.add_assoc, and_self, and_true, true_and, and_false, false_and, or_true, true_or, or_false, false_or, not_true_eq_false, not_false_eq_true, Int.cast_ofNat_Int, Int.natCast_nonneg, Int.toNat_natCast, ne_eq, not_true_eq_false, not_false_eq_true, Nat.reduceBEq, Nat.reduceAdd, Nat.reduceSub, Nat.reduceMul, Nat.reduceLeDiff, Nat.reduceEqDiff, Nat.reduceLT, Int.reduceNeg, Int.reduceAdd, Int.reduceSub, Int.reduceMul, Int.reduceLE, Int.reduceLT, Int.reduceEq, Int.reduceToNat, reduceCtorEq, run_specKnownOk, run_specValueOk, run_ValueOrder, *])
  all_goals (first | (simp only [mustR, asksR, Val.mk.injEq, reduceIte, if_true, if_false, Bool.false_eq_true, *]; done) | (simp_all [mustR, asksR, Val.mk.injEq]; done) | (simp_all [mustR, asksR, Val.mk.injEq]; omega) | (simp_all [mustR, asksR, Val.mk.injEq]; grind))

theorem Kn.ok_spec {k : Kn} (h : k.ok = true) (hm : k.many ≠ 0) : 1 ≤ k.many ∧ k.least.ok = true ∧ k.most.ok = true ∧ k.least.cmp k.most ≤ 0 := by
  unfold Kn.ok at h
  rw [if_neg hm] at h
  simp at h
  exact ⟨by omega, h.1.1.1.1.1.2, h.1.1.1.1.2, h.1.2⟩
theorem asks_R (k : Kn) (kd : Int) (v : Val) : asks k kd v = (asksR k v && decide (1 ≤ kd ∧ kd ≤ 4)) := by
  unfold asks asksR
  by_cases h : k.ok = true
  · by_cases hm : k.many = 0
    · simp [h, hm]
    · have := (Kn.ok_spec h hm).1
      have h0 : 0 < k.many := by omega
      simp [h, hm, h0]
      by_cases h1 : 1 ≤ kd <;> by_cases h2 : kd ≤ 4 <;> simp [h1, h2]
  · simp [h]
theorem asksR_spec {k : Kn} {v : Val} (h : asksR k v = true) : v.ok = true ∧ k.least.ok = true ∧ k.most.ok = true ∧ k.least.cmp k.most ≤ 0 ∧ k.ok = true ∧ 0 < k.many ∧ v.kind = k.least.kind := by
  unfold asksR at h
  split at h
  · split at h
    · cases h
    · split at h
      · rename_i h1 h2 h3
        obtain ⟨g1, g2, g3, g4⟩ := Kn.ok_spec h1 h2
        exact ⟨h3, g2, g3, g4, h1, by omega, by simpa using h⟩
      · cases h
  · cases h
theorem ord_ok {v w : Val} (h : v.ok = true) (h' : w.ok = true) : v.ord w = v.cmp w := by simp [Val.ord, h, h']
theorem may_same (k : Kn) (kd : Int) (v : Val) : mayI k kd v = mayR k kd v := by
  unfold mayI mayR
  rw [asks_R]
  by_cases h : asksR k v = true
  · obtain ⟨g1, g2, g3, g4, _⟩ := asksR_spec h
    rw [ord_ok g2 g1, ord_ok g1 g3]
    have e1 := Val.cmp_eq k.least v
    have e2 := Val.cmp_eq k.most v
    have e3 := Val.cmp_swap_lt k.most v
    have e4 := Val.cmp_swap_lt v k.most
    have e5 := Val.cmp_swap_eq k.most v
    simp only [h, Bool.true_and, decide_eq_true_eq, if_true]
    simp only [← e1, ← e2]
    by_cases k1 : kd = 1
    · subst k1
      simp
      by_cases c1 : k.least.cmp v ≤ 0
      · simp [c1]; omega
      · simp [c1]
    · by_cases k2 : kd = 2
      · subst k2; simp
      · by_cases k3 : kd = 3
        · subst k3; simp
        · by_cases k4 : kd = 4
          · subst k4; simp
          · have : ¬ (1 ≤ kd ∧ kd ≤ 4) := by omega
            simp [k1, k2, k3, k4, this]
  · simp [h]
theorem must_same (k : Kn) (kd : Int) (v : Val) : mustI k kd v = mustR k kd v := by
  unfold mustI mustR
  rw [asks_R]
  by_cases h : asksR k v = true
  · obtain ⟨g1, g2, g3, g4, _⟩ := asksR_spec h
    rw [ord_ok g1 g2, ord_ok g3 g1]
    have e1 := Val.cmp_eq k.least v
    have e2 := Val.cmp_eq k.most v
    have e3 := Val.cmp_swap_lt v k.least
    simp only [h, Bool.true_and, decide_eq_true_eq, if_true]
    simp only [← e1, ← e2]
    by_cases k1 : kd = 1
    · subst k1; simp
    · by_cases k2 : kd = 2
      · subst k2; simp [e3]
      · by_cases k3 : kd = 3
        · subst k3; simp
        · by_cases k4 : kd = 4
          · subst k4; simp
          · have : ¬ (1 ≤ kd ∧ kd ≤ 4) := by omega
            simp [k1, k2, k3, k4, this]
  · simp [h]
/-- What must hold may hold. -/
theorem must_may {k : Kn} {kd : Int} {v : Val} (h : mustI k kd v = true) : mayI k kd v = true := by
  unfold mustI at h
  split at h
  · rename_i ha
    have ha' := ha
    rw [asks_R, Bool.and_eq_true] at ha'
    obtain ⟨g1, g2, g3, g4, _⟩ := asksR_spec ha'.1
    unfold mayI
    rw [if_pos ha]
    by_cases k1 : kd = 1
    · subst k1
      simp at h ⊢
      omega
    · by_cases k2 : kd = 2
      · subst k2
        simp at h ⊢
        omega
      · by_cases k3 : kd = 3
        · subst k3
          simp at h ⊢
          exact Val.le_lt g4 h
        · simp [k1, k2, k3] at h ⊢
          exact Val.le_le g4 h
  · cases h
theorem either (k : Kn) (v : Val) : (mayI k 1 v || mayI k 2 v) = asksR k v := by
  unfold mayI
  rw [asks_R, asks_R]
  by_cases h : asksR k v = true
  · simp [h]
    by_cases c1 : k.least.cmp v = 0
    · simp [c1]
      by_cases c2 : k.most.cmp v = 0 <;> simp [c2]
    · simp [c1]
  · simp [h]
end Go.Proofs.Ytnnjpiepoeknnaa.PE
