/- The law that rows in and rows not in are of the list. -/
import Derived.Test.YtgepapgabnaonaaPq8
set_option linter.unusedSimpArgs false
set_option linter.unusedVariables false
set_option maxHeartbeats 4000000
namespace Go.Proofs.Ytgepapgabnaonaa.PE
open Go.RowKit

theorem short_ofG {rs : List Row} (h : ∀ r ∈ rs, GR r.vs) : Short rs := fun r hr => ⟨Nat.lt_of_le_of_lt (h r hr).1 (by decide), fun v hv => Nat.lt_of_le_of_lt ((h r hr).2 v hv) (by decide)⟩
theorem fine_ofG {rs : List Row} (h : ∀ r ∈ rs, GR r.vs) (hl : rs.length ≤ 1000) : Fine rs := ⟨by omega, fun r hr => Nat.lt_of_le_of_lt (h r hr).1 (by decide)⟩
theorem many_of (rs : List Row) (w : List Val) : manyR rs w = (rs.countP (fun x => decide (x.vs = w)) : Int) := by
  unfold manyR
  rw [many_count, Int.zero_add]
theorem count_own (c : Bool) (rs : List Row) (w : List Val) : (own c rs).countP (fun x => decide (x.vs = w)) = rs.countP (fun x => decide (x.vs = w)) := by
  unfold own
  rw [List.countP_map]
  rfl
theorem inP_vs {b : List Row} {i j t : Int} {x y : Row} (h : x.vs = y.vs) : inP b i j t x = inP b i j t y := by
  unfold inP valAt
  rw [h]
/-- No row that is in is among those that are not. -/
theorem in_out {ca cb : List Col} {a b : List Row} {i j : Int} {x : Row} (hx : x ∈ own true (notRows ca cb a b i j 1)) : manyR (own true (notRows ca cb a b i j 0)) x.vs = 0 := by
  rw [many_of, count_own]
  have h0 : (notRows ca cb a b i j 0).countP (fun y => decide (y.vs = x.vs)) = 0 := by
    rw [List.countP_eq_zero]
    intro y hy e
    have e := of_decide_eq_true e
    obtain ⟨z, hz, rfl⟩ := List.mem_map.1 hx
    unfold notRows at hy hz
    split at hy
    · rename_i hJ
      rw [if_pos hJ] at hz
      have h1 := (List.mem_filter.1 hy).2
      have h2 := (List.mem_filter.1 hz).2
      rw [inP_vs (y := z) e] at h1
      unfold inP at h1 h2
      simp only [decide_eq_true_eq] at h1 h2
      omega
    · cases hy
  rw [h0]
  rfl
theorem count_parts {α : Type} (p q1 q2 : α → Bool) (hd : ∀ x, q1 x = true → q2 x = true → False) : ∀ l : List α, (l.filter q1).countP p + (l.filter q2).countP p ≤ l.countP p
  | [] => Nat.le_refl _
  | x :: l => by
    have ih := count_parts p q1 q2 hd l
    rw [List.countP_cons]
    cases h1 : q1 x <;> cases h2 : q2 x
    · rw [List.filter_cons_of_neg (by simp [h1]), List.filter_cons_of_neg (by simp [h2])]; omega
    · rw [List.filter_cons_of_neg (by simp [h1]), List.filter_cons_of_pos h2, List.countP_cons]; omega
    · rw [List.filter_cons_of_pos h1, List.filter_cons_of_neg (by simp [h2]), List.countP_cons]; omega
    · exact (hd x h1 h2).elim
theorem parts_le {ca cb : List Col} {a b : List Row} {i j : Int} (w : List Val) : manyR (own true (notRows ca cb a b i j 1) ++ own true (notRows ca cb a b i j 0)) w ≤ manyR a w := by
  rw [many_of, many_of, List.countP_append, count_own, count_own]
  unfold notRows
  split
  · have := count_parts (fun x : Row => decide (x.vs = w)) (inP b i j 1) (inP b i j 0) (fun x h1 h2 => by
      unfold inP at h1 h2
      simp only [decide_eq_true_eq] at h1 h2
      omega) a
    omega
  · simp
theorem less_fold {m : List Row} : ∀ (l l2 : List Row), (∀ w, manyR (l2 ++ l) w ≤ manyR m w) → l.foldl (less1 m) ([], l2) = ([], l2 ++ l)
  | [], l2, _ => by simp
  | x :: l, l2, h => by
    have h1 : manyR l2 x.vs < manyR m x.vs := by
      have := h x.vs
      rw [many_of, List.countP_append, List.countP_cons, if_pos (by simp)] at this
      rw [many_of]
      omega
    rw [List.foldl_cons]
    unfold less1
    rw [if_pos h1]
    have := less_fold l (l2 ++ [x]) (by simpa using h)
    unfold less1 at this
    rw [this]
    simp
-- find60
theorem run_drawTwo (d : Nat) (c : Bool) (l : List UInt8) : ∃ (ca cb : List Col) (a b : List Row) (i j : Int), retP (runD tab noExt (d + 8)) 60 [.sl c 1 (cellsOfBytes l)] = some [.sl false 2 (ca.map Col.cells), .sl false 2 (cb.map Col.cells), .sl false 1 (a.map Row.cells), .sl false 1 (b.map Row.cells), .int .i64 i, .int .i64 j] ∧ PairPost 12 ca cb a b i j := by
  rw [retP, runD_eq find60 _ _ _ (by simp)]
  simp -implicitDefEqProofs only [go_sem, Nat.sub_zero, List.drop_zero, eq_self, Option.getD_none, Option.getD_some, Option.isSome_none, Option.isSome_some, Option.isNone_none, Option.isNone_some, Bool.or_false, Bool.false_or, Bool.and_false, Bool.false_and, Int.le_refl, Nat.le_refl, List.length_map, List.getElem?_map, Int.natCast_add, Int.natCast_one, List.append_assoc, List.length_append, Nat.add_assoc, and_self, and_true, true_and, and_false, false_and, or_true, true_or, or_false, false_or, not_true_eq_false, not_false_eq_true, Int.cast_ofNat_Int, Int.natCast_nonneg, Int.toNat_natCast, ne_eq, not_true_eq_false, not_false_eq_true, Nat.reduceBEq, Nat.reduceAdd, Nat.reduceSub, Nat.reduceMul, Nat.reduceLeDiff, Nat.reduceEqDiff, Nat.reduceLT, Int.reduceNeg, Int.reduceAdd, Int.reduceSub, Int.reduceMul, Int.reduceLE, Int.reduceLT, Int.reduceEq, Int.reduceToNat, reduceCtorEq]
  generalize hx : callS (runD tab noExt _) _ 63 _ true = X
  obtain ⟨c', bs, rfl, hb⟩ := ex_open hx rfl
  clear hx
  simp -implicitDefEqProofs only [go_sem, Nat.sub_zero, List.drop_zero, eq_self, Option.getD_none, Option.getD_some, Option.isSome_none, Option.isSome_some, Option.isNone_none, Option.isNone_some, Bool.or_false, Bool.false_or, Bool.and_false, Bool.false_and, Int.le_refl, Nat.le_refl, List.length_map, List.getElem?_map, Int.natCast_add, Int.natCast_one, List.append_assoc, List.length_append, Nat.add_assoc, and_self, and_true, true_and, and_false, false_and, or_true, true_or, or_false, false_or, not_true_eq_false, not_false_eq_true, Int.cast_ofNat_Int, Int.natCast_nonneg, Int.toNat_natCast, ne_eq, not_true_eq_false, not_false_eq_true, Nat.reduceBEq, Nat.reduceAdd, Nat.reduceSub, Nat.reduceMul, Nat.reduceLeDiff, Nat.reduceEqDiff, Nat.reduceLT, Int.reduceNeg, Int.reduceAdd, Int.reduceSub, Int.reduceMul, Int.reduceLE, Int.reduceLT, Int.reduceEq, Int.reduceToNat, reduceCtorEq]
  generalize hx : callS (runD tab noExt _) _ 98 _ false = X
  obtain ⟨ca, cb, a, b, i, j, p', rfl, g1, g2, g3, g4, g5, g6, g7⟩ := ex_pair (hp := []) (t := []) hx (by omega) (by omega) hb rfl rfl
  clear hx
  obtain ⟨a', h1, h2, h3⟩ := run_once (d + 4) false a (fine_ofG g6 (by omega)) (short_ofG g6)
  simp -implicitDefEqProofs only [go_sem, Nat.sub_zero, List.drop_zero, eq_self, Option.getD_none, Option.getD_some, Option.isSome_none, Option.isSome_some, Option.isNone_none, Option.isNone_some, Bool.or_false, Bool.false_or, Bool.and_false, Bool.false_and, Int.le_refl, Nat.le_refl, List.length_map, List.getElem?_map, Int.natCast_add, Int.natCast_one, List.append_assoc, List.length_append, Nat.add_assoc, and_self, and_true, true_and, and_false, false_and, or_true, true_or, or_false, false_or, not_true_eq_false, not_false_eq_true, Int.cast_ofNat_Int, Int.natCast_nonneg, Int.toNat_natCast, ne_eq, not_true_eq_false, not_false_eq_true, Nat.reduceBEq, Nat.reduceAdd, Nat.reduceSub, Nat.reduceMul, Nat.reduceLeDiff, Nat.reduceEqDiff, Nat.reduceLT, Int.reduceNeg, Int.reduceAdd, Int.reduceSub, Int.reduceMul, Int.reduceLE, Int.reduceLT, Int.reduceEq, Int.reduceToNat, reduceCtorEq, h1]
  refine ⟨ca, cb, a', b, i, j, rfl, g2, g3, by omega, g5, fun r hr => ?_, g7⟩
  obtain ⟨r', h4, h5⟩ := h3 r hr
  rw [h5]; exact g6 r' h4
theorem loop_wholeIn (d : Nat) (a inn outl : List Row) (hin : inn.length < 1099511627776) (fin : Fine inn) (hout : outl.length < 4294967296) (sout : Short outl) (K : Nat) (hK : (inn).length ≤ K) : LoopS (runD tab noExt (d + 2)) (drawI (runD tab noExt (d + 2))) [5, 9, 10, 11] [2, 5, 9, 10] L14x0 ([] : Heap).length K [(5, .sl false 1 (a.map Row.cells)), (9, .sl true 1 (inn.map Row.cells)), (10, .sl true 1 (outl.map Row.cells)), (11, .int .i64 0)] [] = if (inn).all (fun x => decide (manyR outl x.vs ≤ 0)) then (some (.exit 0, [(2, .undef), (5, .sl false 1 (a.map Row.cells)), (9, .sl true 1 (inn.map Row.cells)), (10, .sl true 1 (outl.map Row.cells))], []) : Out) else (some (.ret, [(2, .bool false), (5, .sl false 1 (a.map Row.cells)), (9, .sl true 1 (inn.map Row.cells)), (10, .sl true 1 (outl.map Row.cells))], []) : Out) := by
  have key := LoopS_all (run := (runD tab noExt (d + 2))) (draw := drawI (runD tab noExt (d + 2))) (live := [5, 9, 10, 11]) (out := [2, 5, 9, 10]) (c := L14x0) (n0 := ([] : Heap).length) (inn) (fun x => decide (manyR outl x.vs ≤ 0)) (fun (i : Nat) => [(5, .sl false 1 (a.map Row.cells)), (9, .sl true 1 (inn.map Row.cells)), (10, .sl true 1 (outl.map Row.cells)), (11, .int .i64 i)]) [] (some (.exit 0, [(2, .undef), (5, .sl false 1 (a.map Row.cells)), (9, .sl true 1 (inn.map Row.cells)), (10, .sl true 1 (outl.map Row.cells))], []) : Out) (some (.ret, [(2, .bool false), (5, .sl false 1 (a.map Row.cells)), (9, .sl true 1 (inn.map Row.cells)), (10, .sl true 1 (outl.map Row.cells))], []) : Out) (fun K => ?_) (fun (i : Nat) (x : Row) K hi hx => ?_) K hK
  · simp only [Int.natCast_zero] at key
    exact key
  · rw [LoopS_eq]
    simp -implicitDefEqProofs only [go_sem, Nat.sub_zero, List.drop_zero, eq_self, Option.getD_none, Option.getD_some, Option.isSome_none, Option.isSome_some, Option.isNone_none, Option.isNone_some, Bool.or_false, Bool.false_or, Bool.and_false, Bool.false_and, Int.le_refl, Nat.le_refl, List.length_map, List.getElem?_map, Int.natCast_add, Int.natCast_one, List.append_assoc, List.length_append, Nat.add_assoc, and_self, and_true, true_and, and_false, false_and, or_true, true_or, or_false, false_or, not_true_eq_false, not_false_eq_true, Int.cast_ofNat_Int, Int.natCast_nonneg, Int.toNat_natCast, ne_eq, not_true_eq_false, not_false_eq_true, Nat.reduceBEq, Nat.reduceAdd, Nat.reduceSub, Nat.reduceMul, Nat.reduceLeDiff, Nat.reduceEqDiff, Nat.reduceLT, Int.reduceNeg, Int.reduceAdd, Int.reduceSub, Int.reduceMul, Int.reduceLE, Int.reduceLT, Int.reduceEq, Int.reduceToNat, reduceCtorEq, evL14x0, B14x0, Int.lt_irrefl, Row.cells, Row.v]
  · have hm := run_many d true x.clip outl x.vs hout (Fine_at fin hx) sout
    rw [LoopS_eq]
    simp -implicitDefEqProofs (disch := omega) only [go_sem, Nat.sub_zero, List.drop_zero, eq_self, Option.getD_none, Option.getD_some, Option.isSome_none, Option.isSome_some, Option.isNone_none, Option.isNone_some, Bool.or_false, Bool.false_or, Bool.and_false, Bool.false_and, Int.le_refl, Nat.le_refl, List.length_map, List.getElem?_map, Int.natCast_add, Int.natCast_one, List.append_assoc, List.length_append, Nat.add_assoc, and_self, and_true, true_and, and_false, false_and, or_true, true_or, or_false, false_or, not_true_eq_false, not_false_eq_true, Int.cast_ofNat_Int, Int.natCast_nonneg, Int.toNat_natCast, ne_eq, not_true_eq_false, not_false_eq_true, Nat.reduceBEq, Nat.reduceAdd, Nat.reduceSub, Nat.reduceMul, Nat.reduceLeDiff, Nat.reduceEqDiff, Nat.reduceLT, Int.reduceNeg, Int.reduceAdd, Int.reduceSub, Int.reduceMul, Int.reduceLE, Int.reduceLT, Int.reduceEq, Int.reduceToNat, reduceCtorEq, evL14x0, B14x0, hi, hx, IntWalk.i64_in, Row.cells, Row.v, *]
    repeat' ((first | rw [GuardI_ndec] | rw [CondC_ndec] | rw [GuardQ_ndec] | rw [GuardI_dec] | rw [CondC_dec] | rw [GuardQ_dec] | rw [GuardI_nby] | rw [CondC_nby] | rw [GuardQ_nby] | rw [GuardQ_by] | rw [GuardI_by] | rw [CondC_by]) <;> split <;> simp -implicitDefEqProofs (disch := omega) only [go_sem, Nat.sub_zero, List.drop_zero, eq_self, Option.getD_none, Option.getD_some, Option.isSome_none, Option.isSome_some, Option.isNone_none, Option.isNone_some, Bool.or_false, Bool.false_or, Bool.and_false, Bool.false_and, Int.le_refl, Nat.le_refl, List.length_map, List.getElem?_map, Int.natCast_add, Int.natCast_one, List.append_assoc, List.length_append, Nat.add_assoc, and_self, and_true, true_and, and_false, false_and, or_true, true_or, or_false, false_or, not_true_eq_false, not_false_eq_true, Int.cast_ofNat_Int, Int.natCast_nonneg, Int.toNat_natCast, ne_eq, not_true_eq_false, not_false_eq_true, Nat.reduceBEq, Nat.reduceAdd, Nat.reduceSub, Nat.reduceMul, Nat.reduceLeDiff, Nat.reduceEqDiff, Nat.reduceLT, Int.reduceNeg, Int.reduceAdd, Int.reduceSub, Int.reduceMul, Int.reduceLE, Int.reduceLT, Int.reduceEq, Int.reduceToNat, reduceCtorEq, hi, hx, IntWalk.i64_in, Row.cells, Row.v, *, *])
    all_goals first | rfl | (simp_all []; done) | (simp_all []; omega)
theorem notRows_sub {ca cb : List Col} {a b : List Row} {i j t : Int} : ∀ r ∈ notRows ca cb a b i j t, r ∈ a := by
  intro r hr
  unfold notRows at hr
  split at hr
  · exact (List.mem_filter.1 hr).1
  · cases hr
theorem notRows_len {ca cb : List Col} {a b : List Row} {i j t : Int} : (notRows ca cb a b i j t).length ≤ a.length := by
  unfold notRows
  split
  · exact List.length_filter_le _ _
  · exact Nat.zero_le _
-- find14
theorem law_WholeIn (l : List UInt8) (hl : l.length ≤ maxLen) : ∃ d h1, runD tab noExt d 14 [.sl false 1 (cellsOfBytes l)] [] = some ([.bool true], h1) := by
  refine ⟨17, ?_⟩
  rw [runD_eq find14 _ _ _ (by simp)]
  obtain ⟨ca, cb, a, b, i, j, hd, hca, hcb, hla, hlb, ga, gb⟩ := run_drawTwo 8 false l
  by_cases h1 : (1048576 : Int) < l.length
  · simp -implicitDefEqProofs only [go_sem, Nat.sub_zero, List.drop_zero, eq_self, Option.getD_none, Option.getD_some, Option.isSome_none, Option.isSome_some, Option.isNone_none, Option.isNone_some, Bool.or_false, Bool.false_or, Bool.and_false, Bool.false_and, Int.le_refl, Nat.le_refl, List.length_map, List.getElem?_map, Int.natCast_add, Int.natCast_one, List.append_assoc, List.length_append, Nat.add_assoc, and_self, and_true, true_and, and_false, false_and, or_true, true_or, or_false, false_or, not_true_eq_false, not_false_eq_true, Int.cast_ofNat_Int, Int.natCast_nonneg, Int.toNat_natCast, ne_eq, not_true_eq_false, not_false_eq_true, Nat.reduceBEq, Nat.reduceAdd, Nat.reduceSub, Nat.reduceMul, Nat.reduceLeDiff, Nat.reduceEqDiff, Nat.reduceLT, Int.reduceNeg, Int.reduceAdd, Int.reduceSub, Int.reduceMul, Int.reduceLE, Int.reduceLT, Int.reduceEq, Int.reduceToNat, reduceCtorEq, ofBytes_len, h1]
    exact ⟨_, rfl⟩
  · have hal := run_alive 11
    have sa := short_ofG ga
    have sb := short_ofG gb
    have fa := fine_ofG ga (by omega)
    have fb := fine_ofG gb (by omega)
    have e1 := run_notInI 1 false false false false ca cb a b i j (by omega) (by omega) fa fb sa sb
    have e2 := run_inRowsR 8 false false false false ca cb a b i j (by omega) (by omega) fa fb sa sb
    have e3 := run_inRowsI 1 false false false false ca cb a b i j (by omega) (by omega) fa fb sa sb
    have hown : ∀ (t : Int), (∀ r ∈ own true (notRows ca cb a b i j t), ∃ r' ∈ a, r.vs = r'.vs) ∧ (own true (notRows ca cb a b i j t)).length ≤ a.length := fun t => by
      refine ⟨fun r hr => ?_, by unfold own; rw [List.length_map]; exact notRows_len⟩
      obtain ⟨r', h2, rfl⟩ := List.mem_map.1 hr
      exact ⟨r', notRows_sub r' h2, rfl⟩
    have hsh : ∀ (t : Int), Short (own true (notRows ca cb a b i j t)) := fun t r hr => by
      obtain ⟨r', h2, h3⟩ := (hown t).1 r hr
      rw [h3]; exact sa r' h2
    have hfi : ∀ (t : Int), Fine (own true (notRows ca cb a b i j t)) := fun t => ⟨by have := (hown t).2; omega, fun r hr => by
      obtain ⟨r', h2, h3⟩ := (hown t).1 r hr
      rw [h3]; exact fa.2 r' h2⟩
    have n1 := (hown 1).2
    have n0 := (hown 0).2
    have hsr := run_sameRows 14 true false (own true (notRows ca cb a b i j 1)) (own false (notRows ca cb a b i j 1)) (by omega) (fun r hr => (hsh 1 r hr).1)
    rw [own_vss, own_vss, decide_eq_true rfl] at hsr
    have hlp := loop_wholeIn 14 a (own true (notRows ca cb a b i j 1)) (own true (notRows ca cb a b i j 0)) (by omega) (hfi 1) (by omega) (hsh 0) 1099511627775 (by omega)
    rw [if_pos (by
      rw [List.all_eq_true]
      intro x hx
      rw [in_out hx]
      rfl)] at hlp
    have hjo := run_joined 15 true true (own true (notRows ca cb a b i j 1)) (own true (notRows ca cb a b i j 0)) (by omega)
    have hle := run_less 12 false false (own true (notRows ca cb a b i j 1) ++ own true (notRows ca cb a b i j 0)) a ⟨by rw [List.length_append]; omega, fun r hr => by
      rcases List.mem_append.1 hr with hr | hr
      · exact (hfi 1).2 r hr
      · exact (hfi 0).2 r hr⟩ (fun r hr => by
      rcases List.mem_append.1 hr with hr | hr
      · exact hsh 1 r hr
      · exact hsh 0 r hr) (by omega) sa
    rw [less_fold _ [] (fun w => by simpa using parts_le w)] at hle
    simp only [show own true ([] : List Row) = [] from rfl, List.map_nil] at hle
    generalize own true (notRows ca cb a b i j 1) = inn at *
    generalize own true (notRows ca cb a b i j 0) = outl at *
    simp -implicitDefEqProofs only [go_sem, Nat.sub_zero, List.drop_zero, eq_self, Option.getD_none, Option.getD_some, Option.isSome_none, Option.isSome_some, Option.isNone_none, Option.isNone_some, Bool.or_false, Bool.false_or, Bool.and_false, Bool.false_and, Int.le_refl, Nat.le_refl, List.length_map, List.getElem?_map, Int.natCast_add, Int.natCast_one, List.append_assoc, List.length_append, Nat.add_assoc, and_self, and_true, true_and, and_false, false_and, or_true, true_or, or_false, false_or, not_true_eq_false, not_false_eq_true, Int.cast_ofNat_Int, Int.natCast_nonneg, Int.toNat_natCast, ne_eq, not_true_eq_false, not_false_eq_true, Nat.reduceBEq, Nat.reduceAdd, Nat.reduceSub, Nat.reduceMul, Nat.reduceLeDiff, Nat.reduceEqDiff, Nat.reduceLT, Int.reduceNeg, Int.reduceAdd, Int.reduceSub, Int.reduceMul, Int.reduceLE, Int.reduceLT, Int.reduceEq, Int.reduceToNat, reduceCtorEq, List.length_nil, Int.natCast_zero] at hlp
    simp -implicitDefEqProofs (disch := first | omega | assumption) only [go_sem, Nat.sub_zero, List.drop_zero, eq_self, Option.getD_none, Option.getD_some, Option.isSome_none, Option.isSome_some, Option.isNone_none, Option.isNone_some, Bool.or_false, Bool.false_or, Bool.and_false, Bool.false_and, Int.le_refl, Nat.le_refl, List.length_map, List.getElem?_map, Int.natCast_add, Int.natCast_one, List.append_assoc, List.length_append, Nat.add_assoc, and_self, and_true, true_and, and_false, false_and, or_true, true_or, or_false, false_or, not_true_eq_false, not_false_eq_true, Int.cast_ofNat_Int, Int.natCast_nonneg, Int.toNat_natCast, ne_eq, not_true_eq_false, not_false_eq_true, Nat.reduceBEq, Nat.reduceAdd, Nat.reduceSub, Nat.reduceMul, Nat.reduceLeDiff, Nat.reduceEqDiff, Nat.reduceLT, Int.reduceNeg, Int.reduceAdd, Int.reduceSub, Int.reduceMul, Int.reduceLE, Int.reduceLT, Int.reduceEq, Int.reduceToNat, reduceCtorEq, ofBytes_len, h1, hd, e1, e2, e3, hsr, hal, hlp, hjo, hle]
    exact ⟨_, rfl⟩
end Go.Proofs.Ytgepapgabnaonaa.PE
