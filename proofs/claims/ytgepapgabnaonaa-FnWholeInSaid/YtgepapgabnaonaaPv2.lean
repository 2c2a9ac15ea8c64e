/- What is known of values: what the functions come to. -/
import Derived.Test.YtgepapgabnaonaaPv1
set_option linter.unusedSimpArgs false
namespace Go.Proofs.Ytgepapgabnaonaa.PE
open Go.RowKit

/-- What is known of values. -/
structure Kn where
  many : Int
  sum : Int
  least : Val
  most : Val
  deriving DecidableEq

def Val.ord (v w : Val) : Int := if v.ok && w.ok then v.cmp w else 0
def Val.zero : Val := ⟨0, 0, ⟨#[]⟩⟩
def Kn.zero : Kn := ⟨0, 0, .zero, .zero⟩
def Kn.ok (k : Kn) : Bool :=
  if k.many = 0 then decide (k = .zero)
  else decide (1 ≤ k.many) && decide (k.many ≤ 100) && (decide (-9999 * k.many ≤ k.sum) && decide (k.sum ≤ 9999 * k.many)) && k.least.ok && k.most.ok &&
    decide (k.least.kind = k.most.kind) && !decide (k.least.kind = 0) && decide (k.least.cmp k.most ≤ 0) && (decide (k.least.kind = 1) || decide (k.sum = 0))

theorem run_ValueOrder (d : Nat) (ak an : Int) (aq : ByteArray) (bk bn : Int) (bq : ByteArray) (ha : aq.size < 1099511627776) (hb : bq.size < 1099511627776) : retP (runD tab noExt (d + 3)) 169 [.agg [.int .i64 ak, .int .i64 an, .str aq], .agg [.int .i64 bk, .int .i64 bn, .str bq]] = some [.int .i64 (Val.ord (⟨ak, an, aq⟩ : Val) (⟨bk, bn, bq⟩ : Val))] := by
  rw [retP, runD_eq find169 _ _ _ (by simp)]
  simp -implicitDefEqProofs (disch := omega) only [go_sem, Nat.sub_zero, List.drop_zero, eq_self, Option.getD_none, Option.getD_some, Option.isSome_none, Option.isSome_some, Option.isNone_none, Option.isNone_some, Bool.or_false, Bool.false_or, Bool.and_false, Bool.false_and, Int.le_refl, Nat.le_refl, List.length_map, List.getElem?_map, Int.natCast_add, Int.natCast_one, List.append_assoc, List.length_append, Nat.add_assoc, and_self, and_true, true_and, and_false, false_and, or_true, true_or, or_false, false_or, not_true_eq_false, not_false_eq_true, Int.cast_ofNat_Int, Int.natCast_nonneg, Int.toNat_natCast, ne_eq, not_true_eq_false, not_false_eq_true, Nat.reduceBEq, Nat.reduceAdd, Nat.reduceSub, Nat.reduceMul, Nat.reduceLeDiff, Nat.reduceEqDiff, Nat.reduceLT, Int.reduceNeg, Int.reduceAdd, Int.reduceSub, Int.reduceMul, Int.reduceLE, Int.reduceLT, Int.reduceEq, Int.reduceToNat, reduceCtorEq, run_specValueOk, run_l1Less, run_l1Cmp, IntWalk.i64_in]
  repeat' ((first | rw [GuardI_ndec] | rw [CondC_ndec] | rw [GuardQ_ndec] | rw [GuardI_dec] | rw [CondC_dec] | rw [GuardQ_dec] | rw [GuardI_nby] | rw [CondC_nby] | rw [GuardQ_nby] | rw [GuardQ_by] | rw [GuardI_by] | rw [CondC_by]) <;> split <;> simp -implicitDefEqProofs (disch := omega) only [go_sem, Nat.sub_zero, List.drop_zero, eq_self, Option.getD_none, Option.getD_some, Option.isSome_none, Option.isSome_some, Option.isNone_none, Option.isNone_some, Bool.or_false, Bool.false_or, Bool.and_false, Bool.false_and, Int.le_refl, Nat.le_refl, List.length_map, List.getElem?_map, Int.natCast_add, Int.natCast_one, List.append_assoc, List.length_append, Nat.add_assoc, and_self, and_true, true_and, and_false, false_and, or_true, true_or, or_false, false_or, not_true_eq_false, not_false_eq_true, Int.cast_ofNat_Int, Int.natCast_nonneg, Int.toNat_natCast, ne_eq, not_true_eq_false, not_false_eq_true, Nat.reduceBEq, Nat.reduceAdd, Nat.reduceSub, Nat.reduceMul, Nat.reduceLeDiff, Nat.reduceEqDiff, Nat.reduceLT, Int.reduceNeg, Int.reduceAdd, Int.reduceSub, Int.reduceMul, Int.reduceLE, Int.reduceLT, Int.reduceEq, Int.reduceToNat, reduceCtorEq, run_specValueOk, run_l1Less, run_l1Cmp, IntWalk.i64_in, *])
  all_goals (simp_all [Val.ord]; try (unfold Val.cmp cmpI; repeat' split <;> simp_all <;> omega))
end Go.Proofs.Ytgepapgabnaonaa.PE
