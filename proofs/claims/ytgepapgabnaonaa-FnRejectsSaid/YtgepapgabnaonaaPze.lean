/- The law of what rejects. -/
import Derived.Test.YtgepapgabnaonaaPzb
import Derived.Test.YtgepapgabnaonaaPy4
import Derived.Test.YtgepapgabnaonaaPr1
set_option linter.unusedSimpArgs false
set_option linter.unusedVariables false
set_option maxHeartbeats 4000000
namespace Go.Proofs.Ytgepapgabnaonaa.PE
open Go.RowKit

-- find92
theorem run_exprHolds (d : Nat) (c c' : Bool) (row : List Val) (ps : List Prt) (v : Val) (l : List Val) (hp : ps.length ≤ 1000) (h : runStp (evS row) [] ps = some (v :: l)) : retP (runD tab noExt (d + 8)) 92 [.sl c 3 (row.map Val.cells), .sl c' 5 (ps.map Prt.cells)] = some [.bool (decide (v = valT 1))] := by
  rw [retP, runD_eq find92 _ _ _ (by simp)]
  have hv := run_exprV d c c' row ps v l hp h
  have hc : ∀ v : Val, v.cells.all scalar = true := fun _ => rfl
  simp -implicitDefEqProofs (disch := omega) only [go_sem, Nat.sub_zero, List.drop_zero, eq_self, Option.getD_none, Option.getD_some, Option.isSome_none, Option.isSome_some, Option.isNone_none, Option.isNone_some, Bool.or_false, Bool.false_or, Bool.and_false, Bool.false_and, Int.le_refl, Nat.le_refl, List.length_map, List.getElem?_map, Int.natCast_add, Int.natCast_one, List.append_assoc, List.length_append, Nat.add_assoc, and_self, and_true, true_and, and_false, false_and, or_true, true_or, or_false, false_or, not_true_eq_false, not_false_eq_true, Int.cast_ofNat_Int, Int.natCast_nonneg, Int.toNat_natCast, ne_eq, not_true_eq_false, not_false_eq_true, Nat.reduceBEq, Nat.reduceAdd, Nat.reduceSub, Nat.reduceMul, Nat.reduceLeDiff, Nat.reduceEqDiff, Nat.reduceLT, Int.reduceNeg, Int.reduceAdd, Int.reduceSub, Int.reduceMul, Int.reduceLE, Int.reduceLT, Int.reduceEq, Int.reduceToNat, reduceCtorEq, hv, run_ValueOf, eq_vals, hc, Option.map_some]
-- find41
theorem run_holdsI (d : Nat) (c c' c2 : Bool) (cs : List Col) (row : List Val) (ps : List Prt) (hc : cs.length < 1099511627776) (hs : row.length < 1099511627776) :
    retP (runD tab noExt (d + 10)) 41 [.sl c 2 (cs.map Col.cells), .sl c2 3 (row.map Val.cells), .sl c' 5 (ps.map Prt.cells)] = some [.bool (holds cs row ps)] := by
  rw [retP, runD_eq find41 _ _ _ (by simp)]
  unfold holds
  by_cases h1 : exprKind cs ps = 3
  · by_cases h2 : fitsRow cs row = true
    · obtain ⟨g1, g2, k, g3, g4⟩ := exprKind_spec (cs := cs) (ps := ps) (by omega)
      obtain ⟨st, g5, g6⟩ := run_evS (row := row) (fits_eq h2) (st := []) rfl g3
      match st, g5, g6 with
      | v :: l, g5, g6 =>
        have hv := run_exprHolds (d + 1) c2 c' row ps v l (by omega) g5
        simp -implicitDefEqProofs (disch := first | omega | assumption) only [go_sem, Nat.sub_zero, List.drop_zero, eq_self, Option.getD_none, Option.getD_some, Option.isSome_none, Option.isSome_some, Option.isNone_none, Option.isNone_some, Bool.or_false, Bool.false_or, Bool.and_false, Bool.false_and, Int.le_refl, Nat.le_refl, List.length_map, List.getElem?_map, Int.natCast_add, Int.natCast_one, List.append_assoc, List.length_append, Nat.add_assoc, and_self, and_true, true_and, and_false, false_and, or_true, true_or, or_false, false_or, not_true_eq_false, not_false_eq_true, Int.cast_ofNat_Int, Int.natCast_nonneg, Int.toNat_natCast, ne_eq, not_true_eq_false, not_false_eq_true, Nat.reduceBEq, Nat.reduceAdd, Nat.reduceSub, Nat.reduceMul, Nat.reduceLeDiff, Nat.reduceEqDiff, Nat.reduceLT, Int.reduceNeg, Int.reduceAdd, Int.reduceSub, Int.reduceMul, Int.reduceLE, Int.reduceLT, Int.reduceEq, Int.reduceToNat, reduceCtorEq, run_exprKindI, run_fitsI, (eq_true h1 : (exprKind cs ps = 3) = True), h2, hv, if_true]
        simp [evExpr, g5]
    · simp -implicitDefEqProofs (disch := first | omega | assumption) only [go_sem, Nat.sub_zero, List.drop_zero, eq_self, Option.getD_none, Option.getD_some, Option.isSome_none, Option.isSome_some, Option.isNone_none, Option.isNone_some, Bool.or_false, Bool.false_or, Bool.and_false, Bool.false_and, Int.le_refl, Nat.le_refl, List.length_map, List.getElem?_map, Int.natCast_add, Int.natCast_one, List.append_assoc, List.length_append, Nat.add_assoc, and_self, and_true, true_and, and_false, false_and, or_true, true_or, or_false, false_or, not_true_eq_false, not_false_eq_true, Int.cast_ofNat_Int, Int.natCast_nonneg, Int.toNat_natCast, ne_eq, not_true_eq_false, not_false_eq_true, Nat.reduceBEq, Nat.reduceAdd, Nat.reduceSub, Nat.reduceMul, Nat.reduceLeDiff, Nat.reduceEqDiff, Nat.reduceLT, Int.reduceNeg, Int.reduceAdd, Int.reduceSub, Int.reduceMul, Int.reduceLE, Int.reduceLT, Int.reduceEq, Int.reduceToNat, reduceCtorEq, run_exprKindI, run_fitsI, (eq_true h1 : (exprKind cs ps = 3) = True), h2, if_true, if_false, Bool.false_eq_true]
  · simp -implicitDefEqProofs (disch := first | omega | assumption) only [go_sem, Nat.sub_zero, List.drop_zero, eq_self, Option.getD_none, Option.getD_some, Option.isSome_none, Option.isSome_some, Option.isNone_none, Option.isNone_some, Bool.or_false, Bool.false_or, Bool.and_false, Bool.false_and, Int.le_refl, Nat.le_refl, List.length_map, List.getElem?_map, Int.natCast_add, Int.natCast_one, List.append_assoc, List.length_append, Nat.add_assoc, and_self, and_true, true_and, and_false, false_and, or_true, true_or, or_false, false_or, not_true_eq_false, not_false_eq_true, Int.cast_ofNat_Int, Int.natCast_nonneg, Int.toNat_natCast, ne_eq, not_true_eq_false, not_false_eq_true, Nat.reduceBEq, Nat.reduceAdd, Nat.reduceSub, Nat.reduceMul, Nat.reduceLeDiff, Nat.reduceEqDiff, Nat.reduceLT, Int.reduceNeg, Int.reduceAdd, Int.reduceSub, Int.reduceMul, Int.reduceLE, Int.reduceLT, Int.reduceEq, Int.reduceToNat, reduceCtorEq, run_exprKindI, (eq_false h1 : (exprKind cs ps = 3) = False), if_false]

/-! ### drawn -/
def emp (i : Nat) (cs : List Col) : List (List V) := (cs.take i).map (fun c => [V.int .i64 c.kind, .bool true]) ++ (cs.drop i).map Col.cells
theorem emp_len (i : Nat) (cs : List Col) : (emp i cs).length = cs.length := by simp [emp]; omega
theorem emp_at {i : Nat} {cs : List Col} {x : Col} (h : cs[i]? = some x) : (emp i cs)[i]? = some [.int .i64 x.kind, .bool x.empty] := by
  have hi := (List.getElem?_eq_some_iff.1 h).1
  unfold emp
  rw [List.getElem?_append_right (by simp; omega)]
  simp only [List.length_map, List.length_take, Nat.min_eq_left (Nat.le_of_lt hi), Nat.sub_self, List.getElem?_map, List.getElem?_drop, Nat.add_zero, h, Option.map_some, Col.cells]
theorem emp_set {i : Nat} {cs : List Col} {x : Col} (h : cs[i]? = some x) : (emp i cs).set i [.int .i64 x.kind, .bool true] = emp (i + 1) cs := by
  obtain ⟨hi, hx⟩ := List.getElem?_eq_some_iff.1 h
  unfold emp
  rw [List.set_append_right _ _ (by simp; omega)]
  simp only [List.length_map, List.length_take, Nat.min_eq_left (Nat.le_of_lt hi), Nat.sub_self]
  rw [List.drop_eq_getElem_cons hi, hx, List.map_cons, List.set_cons_zero, List.take_add_one, h]
  simp
theorem emp_zero (cs : List Col) : emp 0 cs = cs.map Col.cells := by simp [emp]
theorem emp_all (cs : List Col) : emp cs.length cs = (cs.map (fun c => (⟨c.kind, true⟩ : Col))).map Col.cells := by simp [emp, Col.cells]
theorem loop_empty (d : Nat) (cs : List Col) (hc : cs.length < 4294967296) (K : Nat) (hK : (cs).length ≤ K) (b0 : Unit) (hb0 : (fun (i : Nat) (b : Unit) => True) 0 b0) : LoopS (runD tab noExt d) (drawI (runD tab noExt d)) [3, 4] [3] L86x0 ([.rows 0 2 [], .rows cs.length 2 (emp (0) cs)] : Heap).length K [(3, .ref 1 cs.length 0 cs.length false), (4, .int .i64 (0 : Nat))] [.rows 0 2 [], .rows cs.length 2 (emp (0) cs)] = (some (.exit 0, [(3, .ref 1 cs.length 0 cs.length false)], [.rows 0 2 [], .rows cs.length 2 (emp ((cs).length) cs)]) : Out) ∧ (fun (i : Nat) (b : Unit) => True) (cs).length ((cs).foldl (fun b _ => b) b0) := by
  have key := LoopS_foldI (run := (runD tab noExt d)) (draw := drawI (runD tab noExt d)) (live := [3, 4]) (out := [3]) (c := L86x0) (n0 := ([.rows 0 2 [], .rows cs.length 2 (emp (0) cs)] : Heap).length) (cs) (fun b _ => b) (fun (i : Nat) (b : Unit) => True) (fun (i : Nat) (b : Unit) => [(3, .ref 1 cs.length 0 cs.length false), (4, .int .i64 (i : Nat))]) (fun (i : Nat) (b : Unit) => [.rows 0 2 [], .rows cs.length 2 (emp (i) cs)]) (fun b => (some (.exit 0, [(3, .ref 1 cs.length 0 cs.length false)], [.rows 0 2 [], .rows cs.length 2 (emp ((cs).length) cs)]) : Out)) (fun b K hb => ?_) (fun (i : Nat) (x : Col) b K hi hx hb => ?_) K hK b0 hb0
  · simp only [Int.natCast_zero] at key
    exact key
  · rw [LoopS_eq]
    simp -implicitDefEqProofs only [go_sem, Nat.sub_zero, List.drop_zero, eq_self, Option.getD_none, Option.getD_some, Option.isSome_none, Option.isSome_some, Option.isNone_none, Option.isNone_some, Bool.or_false, Bool.false_or, Bool.and_false, Bool.false_and, Int.le_refl, Nat.le_refl, List.length_map, List.getElem?_map, Int.natCast_add, Int.natCast_one, List.append_assoc, List.length_append, Nat.add_assoc, and_self, and_true, true_and, and_false, false_and, or_true, true_or, or_false, false_or, not_true_eq_false, not_false_eq_true, Int.cast_ofNat_Int, Int.natCast_nonneg, Int.toNat_natCast, ne_eq, not_true_eq_false, not_false_eq_true, Nat.reduceBEq, Nat.reduceAdd, Nat.reduceSub, Nat.reduceMul, Nat.reduceLeDiff, Nat.reduceEqDiff, Nat.reduceLT, Int.reduceNeg, Int.reduceAdd, Int.reduceSub, Int.reduceMul, Int.reduceLE, Int.reduceLT, Int.reduceEq, Int.reduceToNat, reduceCtorEq, evL86x0, B86x0, Int.lt_irrefl]
  · have hat := emp_at hx; have hset := emp_set hx; have hi2 : i < cs.length := (by omega)
    all_goals
      refine ⟨?_, ?_⟩
      · trivial
      · rw [LoopS_eq]
        simp -implicitDefEqProofs (disch := first | omega | assumption) only [go_sem, Nat.sub_zero, List.drop_zero, eq_self, Option.getD_none, Option.getD_some, Option.isSome_none, Option.isSome_some, Option.isNone_none, Option.isNone_some, Bool.or_false, Bool.false_or, Bool.and_false, Bool.false_and, Int.le_refl, Nat.le_refl, List.length_map, List.getElem?_map, Int.natCast_add, Int.natCast_one, List.append_assoc, List.length_append, Nat.add_assoc, and_self, and_true, true_and, and_false, false_and, or_true, true_or, or_false, false_or, not_true_eq_false, not_false_eq_true, Int.cast_ofNat_Int, Int.natCast_nonneg, Int.toNat_natCast, ne_eq, not_true_eq_false, not_false_eq_true, Nat.reduceBEq, Nat.reduceAdd, Nat.reduceSub, Nat.reduceMul, Nat.reduceLeDiff, Nat.reduceEqDiff, Nat.reduceLT, Int.reduceNeg, Int.reduceAdd, Int.reduceSub, Int.reduceMul, Int.reduceLE, Int.reduceLT, Int.reduceEq, Int.reduceToNat, reduceCtorEq, evL86x0, B86x0, hi, hx, IntWalk.i64_in, List.map_append, List.foldl_cons, hat, hset, emp_len, hi2]
        skip
-- find86
theorem run_empty (d : Nat) (c : Bool) (cs : List Col) (hc : cs.length < 4294967296) : retP (runD tab noExt (d + 1)) 86 [.sl c 2 (cs.map Col.cells)] = some [.sl false 2 ((cs.map (fun c => (⟨c.kind, true⟩ : Col))).map Col.cells)] := by
  rw [retP, runD_eq find86 _ _ _ (by simp)]
  have hl := (loop_empty d cs hc 1099511627775 (by omega) () trivial).1
  simp only [emp_zero, emp_all, Int.natCast_zero, List.length_cons, List.length_nil, Nat.zero_add] at hl
  simp -implicitDefEqProofs (disch := omega) only [go_sem, Nat.sub_zero, List.drop_zero, eq_self, Option.getD_none, Option.getD_some, Option.isSome_none, Option.isSome_some, Option.isNone_none, Option.isNone_some, Bool.or_false, Bool.false_or, Bool.and_false, Bool.false_and, Int.le_refl, Nat.le_refl, List.length_map, List.getElem?_map, Int.natCast_add, Int.natCast_one, List.append_assoc, List.length_append, Nat.add_assoc, and_self, and_true, true_and, and_false, false_and, or_true, true_or, or_false, false_or, not_true_eq_false, not_false_eq_true, Int.cast_ofNat_Int, Int.natCast_nonneg, Int.toNat_natCast, ne_eq, not_true_eq_false, not_false_eq_true, Nat.reduceBEq, Nat.reduceAdd, Nat.reduceSub, Nat.reduceMul, Nat.reduceLeDiff, Nat.reduceEqDiff, Nat.reduceLT, Int.reduceNeg, Int.reduceAdd, Int.reduceSub, Int.reduceMul, Int.reduceLE, Int.reduceLT, Int.reduceEq, Int.reduceToNat, reduceCtorEq, hc]
  rw [hl]
  have e : List.take cs.length ((cs.map (fun c => (⟨c.kind, true⟩ : Col))).map Col.cells) = (cs.map (fun c => (⟨c.kind, true⟩ : Col))).map Col.cells := List.take_of_length_le (by simp)
  simp -implicitDefEqProofs (disch := omega) only [go_sem, Nat.sub_zero, List.drop_zero, eq_self, Option.getD_none, Option.getD_some, Option.isSome_none, Option.isSome_some, Option.isNone_none, Option.isNone_some, Bool.or_false, Bool.false_or, Bool.and_false, Bool.false_and, Int.le_refl, Nat.le_refl, List.length_map, List.getElem?_map, Int.natCast_add, Int.natCast_one, List.append_assoc, List.length_append, Nat.add_assoc, and_self, and_true, true_and, and_false, false_and, or_true, true_or, or_false, false_or, not_true_eq_false, not_false_eq_true, Int.cast_ofNat_Int, Int.natCast_nonneg, Int.toNat_natCast, ne_eq, not_true_eq_false, not_false_eq_true, Nat.reduceBEq, Nat.reduceAdd, Nat.reduceSub, Nat.reduceMul, Nat.reduceLeDiff, Nat.reduceEqDiff, Nat.reduceLT, Int.reduceNeg, Int.reduceAdd, Int.reduceSub, Int.reduceMul, Int.reduceLE, Int.reduceLT, Int.reduceEq, Int.reduceToNat, reduceCtorEq, e]
-- find38
theorem run_drawRejects (d : Nat) (c : Bool) (l : List UInt8) : ∃ (cs : List Col) (e : List Prt) (fr : Int), retP (runD tab noExt (d + 8)) 38 [.sl c 1 (cellsOfBytes l)] = some [.sl false 2 (cs.map Col.cells), .sl false 5 (e.map Prt.cells), .int .i64 fr] ∧ cs.length ≤ 3 ∧ Puts cs 3 e ∧ e.length ≤ 300 := by
  rw [retP, runD_eq find38 _ _ _ (by simp)]
  simp -implicitDefEqProofs only [go_sem, Nat.sub_zero, List.drop_zero, eq_self, Option.getD_none, Option.getD_some, Option.isSome_none, Option.isSome_some, Option.isNone_none, Option.isNone_some, Bool.or_false, Bool.false_or, Bool.and_false, Bool.false_and, Int.le_refl, Nat.le_refl, List.length_map, List.getElem?_map, Int.natCast_add, Int.natCast_one, List.append_assoc, List.length_append, Nat.add_assoc, and_self, and_true, true_and, and_false, false_and, or_true, true_or, or_false, false_or, not_true_eq_false, not_false_eq_true, Int.cast_ofNat_Int, Int.natCast_nonneg, Int.toNat_natCast, ne_eq, not_true_eq_false, not_false_eq_true, Nat.reduceBEq, Nat.reduceAdd, Nat.reduceSub, Nat.reduceMul, Nat.reduceLeDiff, Nat.reduceEqDiff, Nat.reduceLT, Int.reduceNeg, Int.reduceAdd, Int.reduceSub, Int.reduceMul, Int.reduceLE, Int.reduceLT, Int.reduceEq, Int.reduceToNat, reduceCtorEq]
  generalize hx : callS (runD tab noExt _) _ 63 _ true = X
  obtain ⟨c', bs, rfl, hb⟩ := ex_open hx rfl
  clear hx
  simp -implicitDefEqProofs only [go_sem, Nat.sub_zero, List.drop_zero, eq_self, Option.getD_none, Option.getD_some, Option.isSome_none, Option.isSome_some, Option.isNone_none, Option.isNone_some, Bool.or_false, Bool.false_or, Bool.and_false, Bool.false_and, Int.le_refl, Nat.le_refl, List.length_map, List.getElem?_map, Int.natCast_add, Int.natCast_one, List.append_assoc, List.length_append, Nat.add_assoc, and_self, and_true, true_and, and_false, false_and, or_true, true_or, or_false, false_or, not_true_eq_false, not_false_eq_true, Int.cast_ofNat_Int, Int.natCast_nonneg, Int.toNat_natCast, ne_eq, not_true_eq_false, not_false_eq_true, Nat.reduceBEq, Nat.reduceAdd, Nat.reduceSub, Nat.reduceMul, Nat.reduceLeDiff, Nat.reduceEqDiff, Nat.reduceLT, Int.reduceNeg, Int.reduceAdd, Int.reduceSub, Int.reduceMul, Int.reduceLE, Int.reduceLT, Int.reduceEq, Int.reduceToNat, reduceCtorEq]
  generalize hx : callS (runD tab noExt _) _ 87 _ false = X
  obtain ⟨cs0, p1, rfl, g1, g2, g3, g4, g5⟩ := ex_columnsV (hp := []) (t := []) hx (by omega) (by omega) hb rfl rfl
  clear hx
  have he := run_empty (d + 6) false cs0 (by omega)
  obtain ⟨cs, hcs⟩ : ∃ cs, cs = cs0.map (fun c => (⟨c.kind, true⟩ : Col)) := ⟨_, rfl⟩
  have hl : cs.length ≤ 3 := by rw [hcs]; simpa using g4
  rw [← hcs] at he
  clear hcs
  simp -implicitDefEqProofs (disch := omega) only [go_sem, Nat.sub_zero, List.drop_zero, eq_self, Option.getD_none, Option.getD_some, Option.isSome_none, Option.isSome_some, Option.isNone_none, Option.isNone_some, Bool.or_false, Bool.false_or, Bool.and_false, Bool.false_and, Int.le_refl, Nat.le_refl, List.length_map, List.getElem?_map, Int.natCast_add, Int.natCast_one, List.append_assoc, List.length_append, Nat.add_assoc, and_self, and_true, true_and, and_false, false_and, or_true, true_or, or_false, false_or, not_true_eq_false, not_false_eq_true, Int.cast_ofNat_Int, Int.natCast_nonneg, Int.toNat_natCast, ne_eq, not_true_eq_false, not_false_eq_true, Nat.reduceBEq, Nat.reduceAdd, Nat.reduceSub, Nat.reduceMul, Nat.reduceLeDiff, Nat.reduceEqDiff, Nat.reduceLT, Int.reduceNeg, Int.reduceAdd, Int.reduceSub, Int.reduceMul, Int.reduceLE, Int.reduceLT, Int.reduceEq, Int.reduceToNat, reduceCtorEq, he]
  generalize hx : callS (runD tab noExt _) _ 88 _ false = X
  obtain ⟨a, p3, e3, i1, i2, i3, i4⟩ := ex_expr (cs := cs) (by omega) 3 (hp := []) (t := []) hx (by omega) (by omega) hb rfl rfl (by decide) (by omega) (by omega) (by omega) (by omega) (by omega)
  subst e3
  clear hx
  simp -implicitDefEqProofs (disch := omega) only [go_sem, Nat.sub_zero, List.drop_zero, eq_self, Option.getD_none, Option.getD_some, Option.isSome_none, Option.isSome_some, Option.isNone_none, Option.isNone_some, Bool.or_false, Bool.false_or, Bool.and_false, Bool.false_and, Int.le_refl, Nat.le_refl, List.length_map, List.getElem?_map, Int.natCast_add, Int.natCast_one, List.append_assoc, List.length_append, Nat.add_assoc, and_self, and_true, true_and, and_false, false_and, or_true, true_or, or_false, false_or, not_true_eq_false, not_false_eq_true, Int.cast_ofNat_Int, Int.natCast_nonneg, Int.toNat_natCast, ne_eq, not_true_eq_false, not_false_eq_true, Nat.reduceBEq, Nat.reduceAdd, Nat.reduceSub, Nat.reduceMul, Nat.reduceLeDiff, Nat.reduceEqDiff, Nat.reduceLT, Int.reduceNeg, Int.reduceAdd, Int.reduceSub, Int.reduceMul, Int.reduceLE, Int.reduceLT, Int.reduceEq, Int.reduceToNat, reduceCtorEq, keptE, IntWalk.i64_in]
  generalize hx : callS (runD tab noExt _) _ 65 _ false = X
  obtain ⟨m, rfl, hm1, hm2⟩ := ex_pick (hp := []) (t := []) hx (by omega) (by omega) hb rfl rfl
  clear hx
  simp -implicitDefEqProofs (disch := omega) only [go_sem, Nat.sub_zero, List.drop_zero, eq_self, Option.getD_none, Option.getD_some, Option.isSome_none, Option.isSome_some, Option.isNone_none, Option.isNone_some, Bool.or_false, Bool.false_or, Bool.and_false, Bool.false_and, Int.le_refl, Nat.le_refl, List.length_map, List.getElem?_map, Int.natCast_add, Int.natCast_one, List.append_assoc, List.length_append, Nat.add_assoc, and_self, and_true, true_and, and_false, false_and, or_true, true_or, or_false, false_or, not_true_eq_false, not_false_eq_true, Int.cast_ofNat_Int, Int.natCast_nonneg, Int.toNat_natCast, ne_eq, not_true_eq_false, not_false_eq_true, Nat.reduceBEq, Nat.reduceAdd, Nat.reduceSub, Nat.reduceMul, Nat.reduceLeDiff, Nat.reduceEqDiff, Nat.reduceLT, Int.reduceNeg, Int.reduceAdd, Int.reduceSub, Int.reduceMul, Int.reduceLE, Int.reduceLT, Int.reduceEq, Int.reduceToNat, reduceCtorEq, IntWalk.i64_in]
  exact ⟨cs, a, m, rfl, hl, i3, by omega⟩

/-! ### the law -/
def rejV (k fr : Int) (i : Int) (x : Col) : Val := if i < fr then (if k < 2 then ⟨x.kind, if x.kind = 2 then 0 else k, ⟨#[]⟩⟩ else Val.zero) else Val.zero
def rej1 (k fr : Int) (b : List Val) (x : Col) : List Val := b ++ [rejV k fr b.length x]
theorem rej_len {k fr : Int} : ∀ (cs : List Col) (b : List Val), (cs.foldl (rej1 k fr) b).length = b.length + cs.length
  | [], b => by simp
  | x :: r, b => by rw [List.foldl_cons, rej_len r]; simp [rej1]; omega
theorem rej_none {k fr : Int} : ∀ (cs : List Col) (b : List Val), (∀ i : Nat, fr ≤ (i : Int) → i < b.length → (b.getD i Val.zero).kind = 0) → ∀ i : Nat, fr ≤ (i : Int) → i < (cs.foldl (rej1 k fr) b).length → ((cs.foldl (rej1 k fr) b).getD i Val.zero).kind = 0
  | [], b, h => h
  | x :: r, b, h => by
    rw [List.foldl_cons]
    refine rej_none r _ (fun i h1 h2 => ?_)
    unfold rej1 at h2 ⊢
    simp only [List.length_append, List.length_singleton] at h2
    rw [List.getD_eq_getElem?_getD]
    by_cases hi : i < b.length
    · rw [List.getElem?_append_left hi, ← List.getD_eq_getElem?_getD]
      exact h i h1 hi
    · obtain rfl : i = b.length := by omega
      rw [List.getElem?_append_right (Nat.le_refl _), Nat.sub_self]
      unfold rejV
      rw [if_neg (by omega)]
      rfl
theorem loop_rejRow (d : Nat) (cs : List Col) (ps : List Prt) (fr k : Int) (r : Bool) (hc : cs.length ≤ 1000) (K : Nat) (hK : (cs).length ≤ K) (b0 : List Val) (hb0 : (fun i b => b.length = i) 0 b0) : LoopS (runD tab noExt d) (drawI (runD tab noExt d)) [3, 4, 5, 6, 7, 8, 9] [3, 4, 5, 6, 7, 8] L6x1 ([.rows (b0).length 3 ((b0).map Val.cells)] : Heap).length K [(3, .sl false 2 (cs.map Col.cells)), (4, .sl false 5 (ps.map Prt.cells)), (5, .int .i64 fr), (6, .bool r), (7, .int .i64 k), (8, .ref 0 (b0).length 0 (b0).length false), (9, .int .i64 (0 : Nat))] [.rows (b0).length 3 ((b0).map Val.cells)] = (some (.exit 2, [(3, .sl false 2 (cs.map Col.cells)), (4, .sl false 5 (ps.map Prt.cells)), (5, .int .i64 fr), (6, .bool r), (7, .int .i64 k), (8, .ref 0 (((cs).foldl (rej1 k fr) b0)).length 0 (((cs).foldl (rej1 k fr) b0)).length false)], [.rows (((cs).foldl (rej1 k fr) b0)).length 3 ((((cs).foldl (rej1 k fr) b0)).map Val.cells)]) : Out) ∧ (fun i b => b.length = i) (cs).length ((cs).foldl (rej1 k fr) b0) := by
  have key := LoopS_foldI (run := (runD tab noExt d)) (draw := drawI (runD tab noExt d)) (live := [3, 4, 5, 6, 7, 8, 9]) (out := [3, 4, 5, 6, 7, 8]) (c := L6x1) (n0 := ([.rows (b0).length 3 ((b0).map Val.cells)] : Heap).length) (cs) (rej1 k fr) (fun i b => b.length = i) (fun (i : Nat) (b : List Val) => [(3, .sl false 2 (cs.map Col.cells)), (4, .sl false 5 (ps.map Prt.cells)), (5, .int .i64 fr), (6, .bool r), (7, .int .i64 k), (8, .ref 0 (b).length 0 (b).length false), (9, .int .i64 (i : Nat))]) (fun (i : Nat) (b : List Val) => [.rows (b).length 3 ((b).map Val.cells)]) (fun b => (some (.exit 2, [(3, .sl false 2 (cs.map Col.cells)), (4, .sl false 5 (ps.map Prt.cells)), (5, .int .i64 fr), (6, .bool r), (7, .int .i64 k), (8, .ref 0 (b).length 0 (b).length false)], [.rows (b).length 3 ((b).map Val.cells)]) : Out)) (fun b K hb => ?_) (fun (i : Nat) (x : Col) b K hi hx hb => ?_) K hK b0 hb0
  · simp only [Int.natCast_zero] at key
    exact key
  · rw [LoopS_eq]
    simp -implicitDefEqProofs only [go_sem, Nat.sub_zero, List.drop_zero, eq_self, Option.getD_none, Option.getD_some, Option.isSome_none, Option.isSome_some, Option.isNone_none, Option.isNone_some, Bool.or_false, Bool.false_or, Bool.and_false, Bool.false_and, Int.le_refl, Nat.le_refl, List.length_map, List.getElem?_map, Int.natCast_add, Int.natCast_one, List.append_assoc, List.length_append, Nat.add_assoc, and_self, and_true, true_and, and_false, false_and, or_true, true_or, or_false, false_or, not_true_eq_false, not_false_eq_true, Int.cast_ofNat_Int, Int.natCast_nonneg, Int.toNat_natCast, ne_eq, not_true_eq_false, not_false_eq_true, Nat.reduceBEq, Nat.reduceAdd, Nat.reduceSub, Nat.reduceMul, Nat.reduceLeDiff, Nat.reduceEqDiff, Nat.reduceLT, Int.reduceNeg, Int.reduceAdd, Int.reduceSub, Int.reduceMul, Int.reduceLE, Int.reduceLT, Int.reduceEq, Int.reduceToNat, reduceCtorEq, evL6x1, B6x1, Int.lt_irrefl]
  · have h1 : b.length + 1 < 4294967296 := (by omega); by_cases e1 : (i : Int) < fr <;> by_cases e2 : k < 2 <;> by_cases e3 : x.kind = 2
    all_goals
      refine ⟨?_, ?_⟩
      · simp [rej1, hb]
      · rw [LoopS_eq]
        simp -implicitDefEqProofs (disch := first | omega | assumption) only [go_sem, Nat.sub_zero, List.drop_zero, eq_self, Option.getD_none, Option.getD_some, Option.isSome_none, Option.isSome_some, Option.isNone_none, Option.isNone_some, Bool.or_false, Bool.false_or, Bool.and_false, Bool.false_and, Int.le_refl, Nat.le_refl, List.length_map, List.getElem?_map, Int.natCast_add, Int.natCast_one, List.append_assoc, List.length_append, Nat.add_assoc, and_self, and_true, true_and, and_false, false_and, or_true, true_or, or_false, false_or, not_true_eq_false, not_false_eq_true, Int.cast_ofNat_Int, Int.natCast_nonneg, Int.toNat_natCast, ne_eq, not_true_eq_false, not_false_eq_true, Nat.reduceBEq, Nat.reduceAdd, Nat.reduceSub, Nat.reduceMul, Nat.reduceLeDiff, Nat.reduceEqDiff, Nat.reduceLT, Int.reduceNeg, Int.reduceAdd, Int.reduceSub, Int.reduceMul, Int.reduceLE, Int.reduceLT, Int.reduceEq, Int.reduceToNat, reduceCtorEq, evL6x1, B6x1, hi, hx, IntWalk.i64_in, List.map_append, List.foldl_cons, Col.cells, e1, e2, e3, h1]
        (simp -implicitDefEqProofs (disch := first | omega | assumption) only [go_sem, Nat.sub_zero, List.drop_zero, eq_self, Option.getD_none, Option.getD_some, Option.isSome_none, Option.isSome_some, Option.isNone_none, Option.isNone_some, Bool.or_false, Bool.false_or, Bool.and_false, Bool.false_and, Int.le_refl, Nat.le_refl, List.length_map, List.getElem?_map, Int.natCast_add, Int.natCast_one, List.append_assoc, List.length_append, Nat.add_assoc, and_self, and_true, true_and, and_false, false_and, or_true, true_or, or_false, false_or, not_true_eq_false, not_false_eq_true, Int.cast_ofNat_Int, Int.natCast_nonneg, Int.toNat_natCast, ne_eq, not_true_eq_false, not_false_eq_true, Nat.reduceBEq, Nat.reduceAdd, Nat.reduceSub, Nat.reduceMul, Nat.reduceLeDiff, Nat.reduceEqDiff, Nat.reduceLT, Int.reduceNeg, Int.reduceAdd, Int.reduceSub, Int.reduceMul, Int.reduceLE, Int.reduceLT, Int.reduceEq, Int.reduceToNat, reduceCtorEq, rej1, rejV, hb, e1, e2, e3, IntWalk.i64_in, Val.cells, Val.zero, List.map_append, List.map_cons, List.map_nil, if_true, if_false])
theorem range_atR {n i x : Nat} (h : (List.range n)[i]? = some x) : x = i ∧ i < n := by
  have h1 := (List.getElem?_eq_some_iff.1 h).1
  rw [List.length_range] at h1
  rw [List.getElem?_range h1] at h
  exact ⟨(Option.some.inj h).symm, h1⟩
theorem loop_rejK (d : Nat) (cs : List Col) (ps : List Prt) (fr : Int) (r : Bool) (hc : cs.length ≤ 1000) (hr : rejects cs ps fr = r) :
    LoopS (runD tab noExt (d + 11)) (drawI (runD tab noExt (d + 11))) [3, 4, 5, 6, 7] [2] L6x0 0 1099511627775 [(3, .sl false 2 (cs.map Col.cells)), (4, .sl false 5 (ps.map Prt.cells)), (5, .int .i64 fr), (6, .bool r), (7, .int .i64 0)] [] =
      (some (.exit 0, [(2, .undef)], []) : Out) := by
  have key := LoopS_all (run := runD tab noExt (d + 11)) (draw := drawI (runD tab noExt (d + 11))) (live := [3, 4, 5, 6, 7]) (out := [2]) (c := L6x0) (n0 := 0) (List.range 3) (fun _ => true) (fun (i : Nat) => [(3, .sl false 2 (cs.map Col.cells)), (4, .sl false 5 (ps.map Prt.cells)), (5, .int .i64 fr), (6, .bool r), (7, .int .i64 (i : Int))]) []
    (some (.exit 0, [(2, .undef)], [])) none (fun K => ?_) (fun (i : Nat) (x : Nat) K hi hx => ?_) 1099511627775 (by simp)
  · simp only [Int.natCast_zero] at key
    rw [key, if_pos (by simp)]
  · rw [LoopS_eq]
    simp -implicitDefEqProofs only [go_sem, Nat.sub_zero, List.drop_zero, eq_self, Option.getD_none, Option.getD_some, Option.isSome_none, Option.isSome_some, Option.isNone_none, Option.isNone_some, Bool.or_false, Bool.false_or, Bool.and_false, Bool.false_and, Int.le_refl, Nat.le_refl, List.length_map, List.getElem?_map, Int.natCast_add, Int.natCast_one, List.append_assoc, List.length_append, Nat.add_assoc, and_self, and_true, true_and, and_false, false_and, or_true, true_or, or_false, false_or, not_true_eq_false, not_false_eq_true, Int.cast_ofNat_Int, Int.natCast_nonneg, Int.toNat_natCast, ne_eq, not_true_eq_false, not_false_eq_true, Nat.reduceBEq, Nat.reduceAdd, Nat.reduceSub, Nat.reduceMul, Nat.reduceLeDiff, Nat.reduceEqDiff, Nat.reduceLT, Int.reduceNeg, Int.reduceAdd, Int.reduceSub, Int.reduceMul, Int.reduceLE, Int.reduceLT, Int.reduceEq, Int.reduceToNat, reduceCtorEq, evL6x0, B6x0, List.length_range, Int.lt_irrefl]
  · obtain ⟨rfl, hx1⟩ := range_atR hx
    have hi' : (x : Int) < 3 := by omega
    have hl := (loop_rejRow (d + 11) cs ps fr x r hc 1099511627775 (by omega) [] rfl).1
    simp only [List.length_nil, List.map_nil, Int.natCast_zero, List.length_cons, Nat.zero_add] at hl
    have hlen := rej_len (k := (x : Int)) (fr := fr) cs []
    have hnone := rej_none (k := (x : Int)) (fr := fr) cs [] (fun i _ h => by simp at h)
    generalize cs.foldl (rej1 x fr) [] = row at *
    simp only [List.length_nil, Nat.zero_add] at hlen
    have ht : List.take row.length (row.map Val.cells) = row.map Val.cells := List.take_of_length_le (by simp)
    have hh := run_holdsI (d + 1) false false false cs row ps (by omega) (by omega)
    rw [LoopS_eq]
    cases r
    · simp -implicitDefEqProofs (disch := omega) only [go_sem, Nat.sub_zero, List.drop_zero, eq_self, Option.getD_none, Option.getD_some, Option.isSome_none, Option.isSome_some, Option.isNone_none, Option.isNone_some, Bool.or_false, Bool.false_or, Bool.and_false, Bool.false_and, Int.le_refl, Nat.le_refl, List.length_map, List.getElem?_map, Int.natCast_add, Int.natCast_one, List.append_assoc, List.length_append, Nat.add_assoc, and_self, and_true, true_and, and_false, false_and, or_true, true_or, or_false, false_or, not_true_eq_false, not_false_eq_true, Int.cast_ofNat_Int, Int.natCast_nonneg, Int.toNat_natCast, ne_eq, not_true_eq_false, not_false_eq_true, Nat.reduceBEq, Nat.reduceAdd, Nat.reduceSub, Nat.reduceMul, Nat.reduceLeDiff, Nat.reduceEqDiff, Nat.reduceLT, Int.reduceNeg, Int.reduceAdd, Int.reduceSub, Int.reduceMul, Int.reduceLE, Int.reduceLT, Int.reduceEq, Int.reduceToNat, reduceCtorEq, evL6x0, B6x0, hi', hl, ht, IntWalk.i64_in]
    · rw [rejects_sound hr hnone] at hh
      simp -implicitDefEqProofs (disch := omega) only [go_sem, Nat.sub_zero, List.drop_zero, eq_self, Option.getD_none, Option.getD_some, Option.isSome_none, Option.isSome_some, Option.isNone_none, Option.isNone_some, Bool.or_false, Bool.false_or, Bool.and_false, Bool.false_and, Int.le_refl, Nat.le_refl, List.length_map, List.getElem?_map, Int.natCast_add, Int.natCast_one, List.append_assoc, List.length_append, Nat.add_assoc, and_self, and_true, true_and, and_false, false_and, or_true, true_or, or_false, false_or, not_true_eq_false, not_false_eq_true, Int.cast_ofNat_Int, Int.natCast_nonneg, Int.toNat_natCast, ne_eq, not_true_eq_false, not_false_eq_true, Nat.reduceBEq, Nat.reduceAdd, Nat.reduceSub, Nat.reduceMul, Nat.reduceLeDiff, Nat.reduceEqDiff, Nat.reduceLT, Int.reduceNeg, Int.reduceAdd, Int.reduceSub, Int.reduceMul, Int.reduceLE, Int.reduceLT, Int.reduceEq, Int.reduceToNat, reduceCtorEq, evL6x0, B6x0, hi', hl, ht, hh, IntWalk.i64_in]
-- find6
theorem law_Rejects (l : List UInt8) (hl : l.length ≤ maxLen) : ∃ d h1, runD tab noExt d 6 [.sl false 1 (cellsOfBytes l)] [] = some ([.bool true], h1) := by
  refine ⟨12, ?_⟩
  rw [runD_eq find6 _ _ _ (by simp)]
  obtain ⟨cs, e, fr, hd, hc, hp, hpl⟩ := run_drawRejects 3 false l
  by_cases h1 : (1048576 : Int) < l.length
  · simp -implicitDefEqProofs only [go_sem, Nat.sub_zero, List.drop_zero, eq_self, Option.getD_none, Option.getD_some, Option.isSome_none, Option.isSome_some, Option.isNone_none, Option.isNone_some, Bool.or_false, Bool.false_or, Bool.and_false, Bool.false_and, Int.le_refl, Nat.le_refl, List.length_map, List.getElem?_map, Int.natCast_add, Int.natCast_one, List.append_assoc, List.length_append, Nat.add_assoc, and_self, and_true, true_and, and_false, false_and, or_true, true_or, or_false, false_or, not_true_eq_false, not_false_eq_true, Int.cast_ofNat_Int, Int.natCast_nonneg, Int.toNat_natCast, ne_eq, not_true_eq_false, not_false_eq_true, Nat.reduceBEq, Nat.reduceAdd, Nat.reduceSub, Nat.reduceMul, Nat.reduceLeDiff, Nat.reduceEqDiff, Nat.reduceLT, Int.reduceNeg, Int.reduceAdd, Int.reduceSub, Int.reduceMul, Int.reduceLE, Int.reduceLT, Int.reduceEq, Int.reduceToNat, reduceCtorEq, ofBytes_len, h1]
    exact ⟨_, rfl⟩
  · have hal := run_alive 6
    have e1 := run_rejI 4 false false cs e fr (by omega)
    have e2 := run_rejR 5 false false cs e fr (by omega) hp.short
    have hk := loop_rejK 0 cs e fr _ (by omega) rfl
    simp -implicitDefEqProofs (disch := omega) only [go_sem, Nat.sub_zero, List.drop_zero, eq_self, Option.getD_none, Option.getD_some, Option.isSome_none, Option.isSome_some, Option.isNone_none, Option.isNone_some, Bool.or_false, Bool.false_or, Bool.and_false, Bool.false_and, Int.le_refl, Nat.le_refl, List.length_map, List.getElem?_map, Int.natCast_add, Int.natCast_one, List.append_assoc, List.length_append, Nat.add_assoc, and_self, and_true, true_and, and_false, false_and, or_true, true_or, or_false, false_or, not_true_eq_false, not_false_eq_true, Int.cast_ofNat_Int, Int.natCast_nonneg, Int.toNat_natCast, ne_eq, not_true_eq_false, not_false_eq_true, Nat.reduceBEq, Nat.reduceAdd, Nat.reduceSub, Nat.reduceMul, Nat.reduceLeDiff, Nat.reduceEqDiff, Nat.reduceLT, Int.reduceNeg, Int.reduceAdd, Int.reduceSub, Int.reduceMul, Int.reduceLE, Int.reduceLT, Int.reduceEq, Int.reduceToNat, reduceCtorEq, ofBytes_len, h1, hd, e1, e2, hk, hal]
    exact ⟨_, rfl⟩
end Go.Proofs.Ytgepapgabnaonaa.PE
