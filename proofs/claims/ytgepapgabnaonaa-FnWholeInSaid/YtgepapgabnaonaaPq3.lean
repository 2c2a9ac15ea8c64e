/- Rows whose value is in a list, or out of it. -/
import Derived.Test.YtgepapgabnaonaaPq2
set_option linter.unusedSimpArgs false
set_option linter.unusedVariables false
set_option maxHeartbeats 4000000
namespace Go.Proofs.Ytgepapgabnaonaa.PE
open Go.RowKit

def keep1 (P : Row → Bool) (b : List Row) (x : Row) : List Row := if P x then b ++ [x] else b
theorem keep_filter (P : Row → Bool) : ∀ (l : List Row) (b : List Row), l.foldl (keep1 P) b = b ++ l.filter P
  | [], b => by simp
  | x :: r, b => by
    rw [List.foldl_cons, keep_filter P r]
    unfold keep1
    cases h : P x <;> simp [h]
theorem keep1_len {P : Row → Bool} {b : List Row} {x : Row} {i : Nat} (h : b.length ≤ i) : (keep1 P b x).length ≤ i + 1 := by
  unfold keep1
  split
  · simp; omega
  · omega
theorem le_small {n m : Nat} {i : Nat} (h1 : n ≤ i) (h2 : (i : Int) < m) (h3 : m < 4294967296) : n + 1 < 4294967296 := by omega
def ctx (cb : Bool) (bs : List Row) (i j : Int) : Heap := [.box [.sl cb 1 (bs.map Row.cells)], .box [.int .i64 i], .box [.int .i64 j]]
theorem loop_kept (d : Nat) (c cb : Bool) (g : Nat) (rs bs : List Row) (u v : Int) (P : Row → Bool) (hf : rs.length < 4294967296) (hg : ∀ x ∈ rs, ∀ (st : Nat) (l : List (List V)), callS (runD tab noExt d) [.box [.sl cb 1 (bs.map Row.cells)], .box [.int .i64 u], .box [.int .i64 v], .rows st 1 l] g [Row.v x, .ptr 1 0 0 0, .ptr 0 0 0 0, .ptr 2 0 0 0] false = some (.bool (P x), [.box [.sl cb 1 (bs.map Row.cells)], .box [.int .i64 u], .box [.int .i64 v], .rows st 1 l])) (K : Nat) (hK : (rs).length ≤ K) (b0 : List Row) (hb0 : (fun i b => b.length ≤ i) 0 b0) : LoopS (runD tab noExt d) (drawI (runD tab noExt d)) [1, 5, 8, 9, 10] [5] L100x0 ([.box [.sl cb 1 (bs.map Row.cells)], .box [.int .i64 u], .box [.int .i64 v], .rows (b0).length 1 ((b0).map Row.cells)] : Heap).length K [(1, .clo g [.ptr 1 0 0 0, .ptr 0 0 0 0, .ptr 2 0 0 0]), (5, .ref 3 (b0).length 0 (b0).length false), (8, .sl c 1 (rs.map Row.cells)), (9, .int .i64 rs.length), (10, .int .i64 (0 : Nat))] [.box [.sl cb 1 (bs.map Row.cells)], .box [.int .i64 u], .box [.int .i64 v], .rows (b0).length 1 ((b0).map Row.cells)] = (some (.exit 0, [(5, .ref 3 (((rs).foldl (keep1 P) b0)).length 0 (((rs).foldl (keep1 P) b0)).length false)], [.box [.sl cb 1 (bs.map Row.cells)], .box [.int .i64 u], .box [.int .i64 v], .rows (((rs).foldl (keep1 P) b0)).length 1 ((((rs).foldl (keep1 P) b0)).map Row.cells)]) : Out) ∧ (fun i b => b.length ≤ i) (rs).length ((rs).foldl (keep1 P) b0) := by
  have key := LoopS_foldI (run := (runD tab noExt d)) (draw := drawI (runD tab noExt d)) (live := [1, 5, 8, 9, 10]) (out := [5]) (c := L100x0) (n0 := ([.box [.sl cb 1 (bs.map Row.cells)], .box [.int .i64 u], .box [.int .i64 v], .rows (b0).length 1 ((b0).map Row.cells)] : Heap).length) (rs) (keep1 P) (fun i b => b.length ≤ i) (fun (i : Nat) (b : List Row) => [(1, .clo g [.ptr 1 0 0 0, .ptr 0 0 0 0, .ptr 2 0 0 0]), (5, .ref 3 (b).length 0 (b).length false), (8, .sl c 1 (rs.map Row.cells)), (9, .int .i64 rs.length), (10, .int .i64 (i : Nat))]) (fun (i : Nat) (b : List Row) => [.box [.sl cb 1 (bs.map Row.cells)], .box [.int .i64 u], .box [.int .i64 v], .rows (b).length 1 ((b).map Row.cells)]) (fun b => (some (.exit 0, [(5, .ref 3 (b).length 0 (b).length false)], [.box [.sl cb 1 (bs.map Row.cells)], .box [.int .i64 u], .box [.int .i64 v], .rows (b).length 1 ((b).map Row.cells)]) : Out)) (fun b K hb => ?_) (fun (i : Nat) (x : Row) b K hi hx hb => ?_) K hK b0 hb0
  · simp only [Int.natCast_zero] at key
    exact key
  · rw [LoopS_eq]
    simp -implicitDefEqProofs only [go_sem, Nat.sub_zero, List.drop_zero, eq_self, Option.getD_none, Option.getD_some, Option.isSome_none, Option.isSome_some, Option.isNone_none, Option.isNone_some, Bool.or_false, Bool.false_or, Bool.and_false, Bool.false_and, Int.le_refl, Nat.le_refl, List.length_map, List.getElem?_map, Int.natCast_add, Int.natCast_one, List.append_assoc, List.length_append, Nat.add_assoc, and_self, and_true, true_and, and_false, false_and, or_true, true_or, or_false, false_or, not_true_eq_false, not_false_eq_true, Int.cast_ofNat_Int, Int.natCast_nonneg, Int.toNat_natCast, ne_eq, not_true_eq_false, not_false_eq_true, Nat.reduceBEq, Nat.reduceAdd, Nat.reduceSub, Nat.reduceMul, Nat.reduceLeDiff, Nat.reduceEqDiff, Nat.reduceLT, Int.reduceNeg, Int.reduceAdd, Int.reduceSub, Int.reduceMul, Int.reduceLE, Int.reduceLT, Int.reduceEq, Int.reduceToNat, reduceCtorEq, evL100x0, B100x0, Int.lt_irrefl, Row.cells, Row.v]
  · have h1 := le_small hb hi hf; have hgx := hg x (List.mem_of_getElem? hx); cases hP : P x <;> simp only [hP, Row.v] at hgx
    all_goals
      refine ⟨?_, ?_⟩
      · exact keep1_len hb
      · rw [LoopS_eq]
        simp -implicitDefEqProofs (disch := first | omega | assumption) only [go_sem, Nat.sub_zero, List.drop_zero, eq_self, Option.getD_none, Option.getD_some, Option.isSome_none, Option.isSome_some, Option.isNone_none, Option.isNone_some, Bool.or_false, Bool.false_or, Bool.and_false, Bool.false_and, Int.le_refl, Nat.le_refl, List.length_map, List.getElem?_map, Int.natCast_add, Int.natCast_one, List.append_assoc, List.length_append, Nat.add_assoc, and_self, and_true, true_and, and_false, false_and, or_true, true_or, or_false, false_or, not_true_eq_false, not_false_eq_true, Int.cast_ofNat_Int, Int.natCast_nonneg, Int.toNat_natCast, ne_eq, not_true_eq_false, not_false_eq_true, Nat.reduceBEq, Nat.reduceAdd, Nat.reduceSub, Nat.reduceMul, Nat.reduceLeDiff, Nat.reduceEqDiff, Nat.reduceLT, Int.reduceNeg, Int.reduceAdd, Int.reduceSub, Int.reduceMul, Int.reduceLE, Int.reduceLT, Int.reduceEq, Int.reduceToNat, reduceCtorEq, evL100x0, B100x0, hi, hx, IntWalk.i64_in, List.map_append, List.foldl_cons, Row.cells, Row.v, h1]
        (simp -implicitDefEqProofs (disch := first | omega | assumption) only [go_sem, Nat.sub_zero, List.drop_zero, eq_self, Option.getD_none, Option.getD_some, Option.isSome_none, Option.isSome_some, Option.isNone_none, Option.isNone_some, Bool.or_false, Bool.false_or, Bool.and_false, Bool.false_and, Int.le_refl, Nat.le_refl, List.length_map, List.getElem?_map, Int.natCast_add, Int.natCast_one, List.append_assoc, List.length_append, Nat.add_assoc, and_self, and_true, true_and, and_false, false_and, or_true, true_or, or_false, false_or, not_true_eq_false, not_false_eq_true, Int.cast_ofNat_Int, Int.natCast_nonneg, Int.toNat_natCast, ne_eq, not_true_eq_false, not_false_eq_true, Nat.reduceBEq, Nat.reduceAdd, Nat.reduceSub, Nat.reduceMul, Nat.reduceLeDiff, Nat.reduceEqDiff, Nat.reduceLT, Int.reduceNeg, Int.reduceAdd, Int.reduceSub, Int.reduceMul, Int.reduceLE, Int.reduceLT, Int.reduceEq, Int.reduceToNat, reduceCtorEq, hgx, keep1, hP, h1, IntWalk.i64_in, Row.cells, Row.v, List.map_append, if_true, if_false, Bool.false_eq_true])
-- find100
theorem run_kept (d : Nat) (c cb : Bool) (g : Nat) (rs bs : List Row) (u v : Int) (P : Row → Bool) (hf : Fine rs) (hg : ∀ x ∈ rs, ∀ (st : Nat) (l : List (List V)), callS (runD tab noExt (d + 3)) [.box [.sl cb 1 (bs.map Row.cells)], .box [.int .i64 u], .box [.int .i64 v], .rows st 1 l] g [Row.v x, .ptr 1 0 0 0, .ptr 0 0 0 0, .ptr 2 0 0 0] false = some (.bool (P x), [.box [.sl cb 1 (bs.map Row.cells)], .box [.int .i64 u], .box [.int .i64 v], .rows st 1 l])) :
    callS (runD tab noExt (d + 4)) [.box [.sl cb 1 (bs.map Row.cells)], .box [.int .i64 u], .box [.int .i64 v]] 100 [.sl c 1 (rs.map Row.cells), .clo g [.ptr 1 0 0 0, .ptr 0 0 0 0, .ptr 2 0 0 0]] false =
      some (.sl true 1 ((own true (rs.filter P)).map Row.cells), [.box [.sl cb 1 (bs.map Row.cells)], .box [.int .i64 u], .box [.int .i64 v]]) := by
  rw [callS_eq, runD_eq find100 _ _ _ (by simp)]
  have h0 := hf.1
  have hl := (loop_kept (d + 3) c cb g rs bs u v P hf.1 hg 1099511627775 (by omega) [] (Nat.le_refl _)).1
  simp only [keep_filter, List.nil_append, List.length_nil, List.map_nil, Int.natCast_zero, List.length_cons] at hl
  have hff : Fine (rs.filter P) := ⟨Nat.lt_of_le_of_lt (List.length_filter_le _ _) h0, fun r hr => hf.2 r (List.mem_filter.1 hr).1⟩
  have e : List.take (rs.filter P).length ((rs.filter P).map Row.cells) = (rs.filter P).map Row.cells := List.take_of_length_le (by simp)
  simp -implicitDefEqProofs (disch := omega) only [go_sem, Nat.sub_zero, List.drop_zero, eq_self, Option.getD_none, Option.getD_some, Option.isSome_none, Option.isSome_some, Option.isNone_none, Option.isNone_some, Bool.or_false, Bool.false_or, Bool.and_false, Bool.false_and, Int.le_refl, Nat.le_refl, List.length_map, List.getElem?_map, Int.natCast_add, Int.natCast_one, List.append_assoc, List.length_append, Nat.add_assoc, and_self, and_true, true_and, and_false, false_and, or_true, true_or, or_false, false_or, not_true_eq_false, not_false_eq_true, Int.cast_ofNat_Int, Int.natCast_nonneg, Int.toNat_natCast, ne_eq, not_true_eq_false, not_false_eq_true, Nat.reduceBEq, Nat.reduceAdd, Nat.reduceSub, Nat.reduceMul, Nat.reduceLeDiff, Nat.reduceEqDiff, Nat.reduceLT, Int.reduceNeg, Int.reduceAdd, Int.reduceSub, Int.reduceMul, Int.reduceLE, Int.reduceLT, Int.reduceEq, Int.reduceToNat, reduceCtorEq]
  simp -implicitDefEqProofs only [go_sem, Nat.sub_zero, List.drop_zero, eq_self, Option.getD_none, Option.getD_some, Option.isSome_none, Option.isSome_some, Option.isNone_none, Option.isNone_some, Bool.or_false, Bool.false_or, Bool.and_false, Bool.false_and, Int.le_refl, Nat.le_refl, List.length_map, List.getElem?_map, Int.natCast_add, Int.natCast_one, List.append_assoc, List.length_append, Nat.add_assoc, and_self, and_true, true_and, and_false, false_and, or_true, true_or, or_false, false_or, not_true_eq_false, not_false_eq_true, Int.cast_ofNat_Int, Int.natCast_nonneg, Int.toNat_natCast, ne_eq, not_true_eq_false, not_false_eq_true, Nat.reduceBEq, Nat.reduceAdd, Nat.reduceSub, Nat.reduceMul, Nat.reduceLeDiff, Nat.reduceEqDiff, Nat.reduceLT, Int.reduceNeg, Int.reduceAdd, Int.reduceSub, Int.reduceMul, Int.reduceLE, Int.reduceLT, Int.reduceEq, Int.reduceToNat, reduceCtorEq] at hl
  rw [hl]
  simp -implicitDefEqProofs (disch := first | omega | assumption) only [go_sem, Nat.sub_zero, List.drop_zero, eq_self, Option.getD_none, Option.getD_some, Option.isSome_none, Option.isSome_some, Option.isNone_none, Option.isNone_some, Bool.or_false, Bool.false_or, Bool.and_false, Bool.false_and, Int.le_refl, Nat.le_refl, List.length_map, List.getElem?_map, Int.natCast_add, Int.natCast_one, List.append_assoc, List.length_append, Nat.add_assoc, and_self, and_true, true_and, and_false, false_and, or_true, true_or, or_false, false_or, not_true_eq_false, not_false_eq_true, Int.cast_ofNat_Int, Int.natCast_nonneg, Int.toNat_natCast, ne_eq, not_true_eq_false, not_false_eq_true, Nat.reduceBEq, Nat.reduceAdd, Nat.reduceSub, Nat.reduceMul, Nat.reduceLeDiff, Nat.reduceEqDiff, Nat.reduceLT, Int.reduceNeg, Int.reduceAdd, Int.reduceSub, Int.reduceMul, Int.reduceLE, Int.reduceLT, Int.reduceEq, Int.reduceToNat, reduceCtorEq, e, run_rowsCopy, frz1]

def inP (bs : List Row) (i j t : Int) (x : Row) : Bool := decide (inT (valAt i x) (valsAt j bs) = t)
-- find101
theorem clo_notIn (d : Nat) (cb : Bool) (bs : List Row) (i j : Int) (x : Row) (st : Nat) (l : List (List V)) (hb : bs.length < 4294967296) (hj : HasCol j bs) (hi0 : 0 ≤ i) (hi : i < x.vs.length) :
    callS (runD tab noExt (d + 8)) [.box [.sl cb 1 (bs.map Row.cells)], .box [.int .i64 i], .box [.int .i64 j], .rows st 1 l] 101 [Row.v x, .ptr 1 0 0 0, .ptr 0 0 0 0, .ptr 2 0 0 0] false =
      some (.bool (inP bs i j 0 x), [.box [.sl cb 1 (bs.map Row.cells)], .box [.int .i64 i], .box [.int .i64 j], .rows st 1 l]) := by
  rw [callS_eq, runD_eq find101 _ _ _ (by simp)]
  have hat : x.vs[i.toNat]? = some (valAt i x) := at_getD _ (by omega)
  have hlen : (valsAt j bs).length < 1099511627776 := by simp [valsAt]; omega
  have hc := run_column (d + 6) cb bs j hb hj
  have hin := run_inT d false (valAt i x).kind (valAt i x).n (valAt i x).s (valsAt j bs) hlen
  simp -implicitDefEqProofs (disch := omega) only [go_sem, Nat.sub_zero, List.drop_zero, eq_self, Option.getD_none, Option.getD_some, Option.isSome_none, Option.isSome_some, Option.isNone_none, Option.isNone_some, Bool.or_false, Bool.false_or, Bool.and_false, Bool.false_and, Int.le_refl, Nat.le_refl, List.length_map, List.getElem?_map, Int.natCast_add, Int.natCast_one, List.append_assoc, List.length_append, Nat.add_assoc, and_self, and_true, true_and, and_false, false_and, or_true, true_or, or_false, false_or, not_true_eq_false, not_false_eq_true, Int.cast_ofNat_Int, Int.natCast_nonneg, Int.toNat_natCast, ne_eq, not_true_eq_false, not_false_eq_true, Nat.reduceBEq, Nat.reduceAdd, Nat.reduceSub, Nat.reduceMul, Nat.reduceLeDiff, Nat.reduceEqDiff, Nat.reduceLT, Int.reduceNeg, Int.reduceAdd, Int.reduceSub, Int.reduceMul, Int.reduceLE, Int.reduceLT, Int.reduceEq, Int.reduceToNat, reduceCtorEq, evC_draw, evD101x0, E101x0, Row.v, hat, hi0, Val.cells, hc, hin, Val.eta]
  rfl
-- find112
theorem clo_inRows (d : Nat) (cb : Bool) (bs : List Row) (i j : Int) (x : Row) (st : Nat) (l : List (List V)) (hb : bs.length < 4294967296) (hj : HasCol j bs) (hi0 : 0 ≤ i) (hi : i < x.vs.length) :
    callS (runD tab noExt (d + 8)) [.box [.sl cb 1 (bs.map Row.cells)], .box [.int .i64 i], .box [.int .i64 j], .rows st 1 l] 112 [Row.v x, .ptr 1 0 0 0, .ptr 0 0 0 0, .ptr 2 0 0 0] false =
      some (.bool (inP bs i j 1 x), [.box [.sl cb 1 (bs.map Row.cells)], .box [.int .i64 i], .box [.int .i64 j], .rows st 1 l]) := by
  rw [callS_eq, runD_eq find112 _ _ _ (by simp)]
  have hat : x.vs[i.toNat]? = some (valAt i x) := at_getD _ (by omega)
  have hlen : (valsAt j bs).length < 1099511627776 := by simp [valsAt]; omega
  have hc := run_column (d + 6) cb bs j hb hj
  have hin := run_inT d false (valAt i x).kind (valAt i x).n (valAt i x).s (valsAt j bs) hlen
  simp -implicitDefEqProofs (disch := omega) only [go_sem, Nat.sub_zero, List.drop_zero, eq_self, Option.getD_none, Option.getD_some, Option.isSome_none, Option.isSome_some, Option.isNone_none, Option.isNone_some, Bool.or_false, Bool.false_or, Bool.and_false, Bool.false_and, Int.le_refl, Nat.le_refl, List.length_map, List.getElem?_map, Int.natCast_add, Int.natCast_one, List.append_assoc, List.length_append, Nat.add_assoc, and_self, and_true, true_and, and_false, false_and, or_true, true_or, or_false, false_or, not_true_eq_false, not_false_eq_true, Int.cast_ofNat_Int, Int.natCast_nonneg, Int.toNat_natCast, ne_eq, not_true_eq_false, not_false_eq_true, Nat.reduceBEq, Nat.reduceAdd, Nat.reduceSub, Nat.reduceMul, Nat.reduceLeDiff, Nat.reduceEqDiff, Nat.reduceLT, Int.reduceNeg, Int.reduceAdd, Int.reduceSub, Int.reduceMul, Int.reduceLE, Int.reduceLT, Int.reduceEq, Int.reduceToNat, reduceCtorEq, evC_draw, evD112x0, E112x0, Row.v, hat, hi0, Val.cells, hc, hin, Val.eta]
  rfl
end Go.Proofs.Ytgepapgabnaonaa.PE
